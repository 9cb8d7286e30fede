/-
  What is proved here: part 3 of the road to the claim (TMay1, TMay2, RefMay3, RefMay4, TMay3, TMay4, MayFine, MayEq, Nm1, Nm2, Nm3, MayEq2, Tree1, Tree2, Sc1, Sc2, Sc3, ScP, Sc4, Rng, FineM, Sc5, Ar1, Ar2, Ar3, Srt1, Shelf, SortR, SrtP, Tc1, Tc2, Tc3, Bsl, Tc4, Tc5, Tc6, FlP, JmpP, Jm1, Jm2, Jm3, Rj1, Swap0, Swap2p, ToP, Al1, Al2, Al3, Prs3).
  No conditions.
-/
import Derived.Test.YtpjadlleefgcpabGreatRnO2
import Derived.Shelf.Small.Bits
import Derived.Shelf.Strconv.Itoa0
import Derived.Shelf.Sort.Plain
import Derived.Shelf.Slices.Turned
import Derived.Ground.Names2Prog
import Derived.Shelf.Slices.Clone
import Derived.Shelf.Slices.CompactS
import Derived.Shelf.Slices.Cells
import Derived.Shelf.Slices.In.SortNone
import Derived.Ground.SlgnProg
import Derived.Shelf.SlicesE.Clone
import Derived.Test.YtpjadlleefgcpabGreatProg
import Derived.Sort.Walk0

set_option linter.unusedSimpArgs false
set_option linter.unusedVariables false
namespace Go.Abs
set_option maxRecDepth 8000
open Go.Proofs
theorem HF {r:aF} : u2 r=true↔lU r=r.length:=by
 induction r with
 |nil=>simp[u2,lU]
 |cons c r ih=>
  simp only[u2,lU]
  cases h1:rW c<;>cases h2:pX c<;>simp[ih]
theorem BO (t:aF) (hl:t.length<4611686018427387904) (s:St):az Tryz.prog nY [.str t] s (.bool (isName t)) s:=by
 refine az.pure ?_ rfl rfl s
 have hr:=fun s=>Zo (pos:=0) hl s
 simp only[List.drop_zero,Nat.zero_add]at hr
 unfold S0
 cases t with
 |nil=>
  have z:decide (((0:Nat):Int)<1)=true:=rfl
  have z':decide ((0:Int)<1)=true:=rfl
  have e:isName [] = false:=rfl
  rw[e]
  refine az.go nA rfl fun B Q hB hQ=>?_
  have⟨hC,hE,hM,hY⟩:=bE
  repeat' (first
 |simp only[go_sem,hC,hE,hM,hY,z,z']
 |(with_reducible refine aB hQ ?_;exact bj))
 | cons c r=>
  have l1:decide (((r.length+1:Nat):Int)<1)=false:=by simp;omega
  generalize h:isName (c::r)=p
  simp only[isName]at h
  cases hL:rW c
  ·simp only [hL,Bool.not_false,Bool.or_true, ↓reduceIte]at h
   subst h
   by_cases c8:decide (((r.length+1:Nat):Int) > 8)=true
   ·refine az.go nA rfl fun B Q hB hQ=> ?_
    have⟨hC,hE,hM,hY⟩:=bE
    repeat' (first
 |simp only[go_sem,hC,hE,hM,hY,l1,c8]
 | (with_reducible refine aB hQ ?_;exact bj))
   ·have c8:decide (((r.length+1:Nat):Int) > 8)=false:=by simpa using c8
    refine az.go nA rfl fun B Q hB hQ=>?_
    have⟨hC,hE,hM,hY⟩:=bE
    repeat' (first
 |simp only[go_sem,hC,hE,hM,hY,l1,c8,hL]
 |(with_reducible refine CU (iL _ _) ?_)
 | (with_reducible refine aB hQ ?_;exact bj))
  ·simp only [hL,Bool.not_true,Bool.or_false]at h
   by_cases c8:decide (((r.length+1:Nat):Int) > 8)=true
   ·simp only [c8, ↓reduceIte]at h
    subst h
    refine az.go nA rfl fun B Q hB hQ=>?_
    have⟨hC,hE,hM,hY⟩:=bE
    repeat' (first
 |simp only[go_sem,hC,hE,hM,hY,l1,c8]
 | (with_reducible refine aB hQ ?_;exact bj))
   ·have c8:decide (((r.length+1:Nat):Int) > 8)=false:=by simpa using c8
    simp only[c8,Bool.false_eq_true,↓reduceIte]at h
    have dK:lU (c::r)=lU r+1:=by simp[lU,hL]
    cases hn:u2 r
    ·simp only [hn,Bool.false_eq_true, ↓reduceIte]at h
     have:lU r≠r.length:=fun e=>by rw[HF.2 e]at hn;cases hn
     have e:(((lU (c::r):Nat):Int)==((r.length+1:Nat):Int))=false:=by rw[dK];simp;omega
     subst h
     refine az.go nA rfl fun B Q hB hQ=>?_
     have⟨hC,hE,hM,hY⟩:=bE
     repeat' (first
 |simp only[go_sem,hC,hE,hM,hY,l1,c8,hL,e]
 |(with_reducible refine CU (iL _ _) ?_)
 |(with_reducible refine CU (hr _) ?_)
 | (with_reducible refine aB hQ ?_;exact bj))
    ·simp only [hn, ↓reduceIte]at h
     have:=HF.1 hn
     have e:(((lU (c::r):Nat):Int)==((r.length+1:Nat):Int))=true:=by rw[dK];simp;omega
     subst h
     refine az.go nA rfl fun B Q hB hQ=>?_
     have⟨hC,hE,hM,hY⟩:=bE
     repeat' (first
 |simp only[go_sem,hC,hE,hM,hY,l1,c8,hL,e]
 |(with_reducible refine CU (iL _ _) ?_)
 |(with_reducible refine CU (hr _) ?_)
 |(with_reducible refine CU (vS _ _) ?_)
 |(with_reducible refine aB hQ ?_;exact bj))
theorem No (op:Int) (s:St):az Tryz.prog xC [.int .i64 op] s (.int .i64 (lK op)) s:=by
 refine az.pure ?_ rfl rfl s
 unfold S0
 generalize h:lK op=p
 unfold lK at h
 refine az.go Iy rfl fun B Q hB hQ=>?_
 have⟨hC,hE,hM,hY⟩:=bE
 repeat' (first
 |simp only[go_sem,hC,hE,hM,hY]
 |(with_reducible first|refine aX fun hc=>?_|refine aY fun hc=>?_|refine aZ (fun hc=>?_) fun hc=>?_)<;>(try simp only[hc,bs,↓reduceIte]at h)<;>try simp only[hc]
 |(with_reducible refine aB hQ ?_;exact eA))
theorem zN {l:List aF} (hl:l.length<4611686018427387904) (hs : ∀ t∈l,t.length<4611686018427387904) (s:St):az Tryz.prog nq [.slice .shared 1 (l.map encStr)] s (.bool (ey l)) s:=by
 refine az.pure ?_ (by simp[D.bI,D.ok,eF,Tag.ok]) rfl s
 unfold S0
 generalize h:ey l=p
 refine az.go Gv rfl fun B Q hB hQ=>?_
 have⟨hC,hE,hM,hY⟩:=bE
 repeat' (first
 |simp only[go_sem,hC,hE,hM,hY]
 |(with_reducible first|refine aX fun hc=>?_|refine aY fun hc=>?_|refine aZ (fun hc=>?_) fun hc=>?_)<;>(try simp only[hc,bs,↓reduceIte]at h)<;>try simp only[hc]
 |(with_reducible refine aB hQ ?_;exact eA))
 refine dS 0 0 (bg.ind (ι:=List aF×Nat) (fun i=>l.drop i.2=i.1∧ey i.1=p) (fun i=>i.1.length)
  (fun i=> [(5, .slice .shared 1 (l.map encStr)),(6, .int .i64 (l.length:Int)),(7, .int .i64 (i.2:Int))]) (fun i=>⟨[],[]⟩) ?_ (l,0) ⟨rfl,h⟩)
 rintro⟨rest,k⟩ ⟨h1,h⟩ IH
 dsimp only at h1 h
 cases rest with
 |nil=>
  have hC:=drop_nil h1
  simp only[ey]at h
  repeat' (first
 |simp only[go_sem,hC,hE,hM,hY]
 |(with_reducible first|refine aX fun hc=>?_|refine aY fun hc=>?_|refine aZ (fun hc=>?_) fun hc=>?_)<;>(try simp only[hc,bs,↓reduceIte]at h)<;>try simp only[hc]
 |(with_reducible refine aB hQ ?_;exact eA))
 |cons t rest=>
  obtain⟨hE,g2,hC,g4⟩:=drop_cons h1
  have hM:k<4611686018427387904:=by omega
  have hn:=BO t (hs t (List.mem_of_getElem? hE))
  simp only[ey]at h
  repeat' (first
 |simp only[go_sem,hC,hE,hM,hY]
 |(with_reducible refine CU (hn _) ?_)
 |(with_reducible first|refine aX fun hc=>?_|refine aY fun hc=>?_|refine aZ (fun hc=>?_) fun hc=>?_)<;>(try simp only[hc,bs,↓reduceIte]at h)<;>try simp only[hc]
 |(with_reducible refine aB hQ ?_;exact eA))
  refine dS 0 0 (IH (rest,k+1) ⟨g2,h⟩ (Nat.lt_succ_self _))
mutual
def Ex.dp (left:Int):Ex→Bool
 |⟨op,n,name,kids⟩=>
  if decide (left<1) ||(kids.length:Int) != lK op then false
  else if op==1 then decide (n≥0) && name == []
  else if op==2 then n==0 && isName name
  else if n != 0 || !(name == [])then false
  else Ex.BP (left - 1) kids
def Ex.BP (left:Int):List Ex→Bool
 | []=>true
 |x::l=>if !(Ex.dp left x)then false else Ex.BP left l
end
theorem aa2 : ∀ (m:Nat) (x:Ex),x.size≤m→x.size<4611686018427387904→x.texts→∀ left:Int,0≤left→left≤100→∀ s:St,az Tryz.prog qj [.agg (bJ x), .int .i64 left] s (.bool (x.dp left)) s:=by
 intro m
 induction m with
 |zero=>rintro⟨op,v,name,kids⟩ h;simp only[Ex.size]at h;omega
 | succ m ih=>
  rintro⟨op,v,name,kids⟩ h hx ht left h0 WS s
  refine az.pure ?_ (by simp[D.bI,D.ok,gW]) rfl s
  have hlen:kids.length<4611686018427387904:=by simp only[Ex.size]at hx;have:=Ex.eo kids;omega
  have hn:=BO name ht.1
  generalize hp:Ex.dp left ⟨op,v,name,kids⟩=p
  simp only[Ex.dp]at hp
  unfold S0
  by_cases vU:left<1
  ·have d1:decide (left<1)=true:=by simpa using vU
   simp only[d1,Bool.true_or,↓reduceIte]at hp
   subst hp
   refine az.go Av rfl fun B Q hB hQ=>?_
   have⟨hC,hE,hM,hY⟩:=bE
   repeat' (first
 |simp only[go_sem,hC,hE,hM,hY,d1]
 |(with_reducible refine CU (No _ _) ?_)
 |(with_reducible refine CU (hn _) ?_)
 | (with_reducible refine aB hQ ?_;exact bj))
  ·have d1:decide (left<1)=false:=by simpa using vU
   have w1:IntKind.wrap .i64 (left - 1)=left - 1:=er (by omega) (by omega)
   have hk : ∀ y∈kids,∀ s,az Tryz.prog qj [.agg (bJ y), .int .i64 (left - 1)] s (.bool (y.dp (left - 1))) s:=fun y hy s=>
    ih y (by simp only[Ex.size]at h;have:=Ex.dg hy;omega) (by simp only[Ex.size]at hx;have:=Ex.dg hy;omega) (Ex.HC ht hy) (left - 1) (by omega) (by omega) s
   simp only[d1,Bool.false_or]at hp
   have h:=hp
   clear hp
   refine az.go Av rfl fun B Q hB hQ=>?_
   have⟨hC,hE,hM,hY⟩:=bE
   repeat' (first
 |simp only[go_sem,hC,hE,hM,hY,d1]
 |(with_reducible refine CU (No _ _) ?_)
 |(with_reducible refine CU (hn _) ?_)
 |(with_reducible first|refine aX fun hc=>?_|refine aY fun hc=>?_|refine aZ (fun hc=>?_) fun hc=>?_)<;>(try simp only[hc,bs,↓reduceIte]at h)<;>try simp only[hc]
 | (with_reducible refine aB hQ ?_;(try cases h);simp only [aR,aS,bo,bp,go_sem,hC,hE,hM,hY,d1];repeat' (first | exact Ok.out | with_reducible refine eP ?_ ?_ | (simp;done))))
   all_goals
    refine dS 1 0 (bg.ind (ι:=List Ex×Nat) (fun i=>kids.drop i.2=i.1∧Ex.BP (left - 1) i.1=p) (fun i=>i.1.length)
     (fun i=> [(1, .int .i64 left),(49, .slice .shared 4 (kids.map bJ)),(50, .int .i64 (kids.length:Int)),(51, .int .i64 (i.2:Int))]) (fun i=>⟨[bJ ⟨op,v,name,kids⟩],[]⟩) ?_ (kids,0) ⟨rfl,h⟩)
    rintro⟨rest,k⟩ ⟨h1,h⟩ IH
    dsimp only at h1 h
    cases rest with
    |nil=>
     have hC:=drop_nil h1
     simp only[Ex.BP]at h
     repeat' (first
 |simp only[go_sem,hC,hE,hM,hY]
 |(with_reducible first|refine aX fun hc=>?_|refine aY fun hc=>?_|refine aZ (fun hc=>?_) fun hc=>?_)<;>(try simp only[hc,bs,↓reduceIte]at h)<;>try simp only[hc]
 |(with_reducible refine aB hQ ?_;exact eA)
 | (cases h;done))
    |cons y rest=>
     obtain⟨hE,g2,hC,g4⟩:=drop_cons h1
     have hy:=hk y (List.mem_of_getElem? hE)
     have hM:k<4611686018427387904:=by omega
     simp only[Ex.BP]at h
     repeat' (first
 |simp only[go_sem,hC,hE,hM,hY,w1]
 |(with_reducible refine CU (hy _) ?_)
 |(with_reducible first|refine aX fun hc=>?_|refine aY fun hc=>?_|refine aZ (fun hc=>?_) fun hc=>?_)<;>(try simp only[hc,bs,↓reduceIte]at h)<;>try simp only[hc]
 |(with_reducible refine aB hQ ?_;(try cases h);simp only[aR,aS,bo,bp,go_sem,hC,hE,hM,hY,w1];try exact bS))
     refine dS 1 0 (IH (rest,k+1) ⟨g2,h⟩ (Nat.lt_succ_self _))
set_option maxRecDepth 8000
open Go.Proofs
theorem zO {x:Ex} (hx:x.size<4611686018427387904) (ht:x.texts) (s:St):az Tryz.prog np [.agg (bJ x)] s (.bool (x.dp 20)) s:=by
 refine az.pure ?_ (by simp[D.bI,D.ok,gW]) rfl s
 have hd:=fun s=>aa2 _ x (Nat.le_refl _) hx ht 20 (by omega) (by omega) s
 unfold S0
 refine az.go DX rfl fun B Q hB hQ=>?_
 have⟨hC,hE,hM,hY⟩:=bE
 repeat' (first
 |simp only[go_sem,hC,hE,hM,hY]
 |(with_reducible refine CU (hd _) ?_)
 |(with_reducible refine aB hQ ?_;exact bj))
theorem aa3 (x:Ex) (s:St):az Tryz.prog xE [.agg (bJ x)] s (.bool x.none) s:=by
 refine az.pure ?_ (by simp[D.bI,D.ok,gW]) rfl s
 unfold S0
 generalize h:Ex.none x=p
 unfold Ex.none at h
 refine az.go IC rfl fun B Q hB hQ=>?_
 have⟨hC,hE,hM,hY⟩:=bE
 repeat' (first
 |simp only[go_sem,hC,hE,hM,hY]
 |(with_reducible first|refine aX fun hc=>?_|refine aY fun hc=>?_|refine aZ (fun hc=>?_) fun hc=>?_)<;>(try simp only[hc,bs,↓reduceIte]at h)<;>try simp only[hc]
 |(with_reducible refine aB hQ ?_;exact eA))
def tK (t:aF) (is:Bool):Bool:=(is && isName t) ||(!is && t == [])
theorem D1 (t:aF) (is:Bool) (hl:t.length<4611686018427387904) (s:St):az Tryz.prog po [.str t, .bool is] s (.bool (tK t is)) s:=by
 refine az.pure ?_ rfl rfl s
 have hn:=BO t hl
 unfold S0
 generalize h:tK t is=p
 unfold tK at h
 refine az.go GD rfl fun B Q hB hQ=>?_
 have⟨hC,hE,hM,hY⟩:=bE
 repeat' (first
 |simp only[go_sem,hC,hE,hM,hY]
 |(with_reducible refine CU (hn _) ?_)
 |(with_reducible first|refine aX fun hc=>?_|refine aY fun hc=>?_|refine aZ (fun hc=>?_) fun hc=>?_)<;>(try simp only[hc,bs,↓reduceIte]at h)<;>try simp only[hc]
 |(with_reducible refine aB hQ ?_;exact eA))
def vV (x:Ex) (is:Bool):Bool:=(is && x.dp 20) ||(!is && x.none)
theorem Np {x:Ex} (is:Bool) (hx:x.size<4611686018427387904) (ht:x.texts) (s:St):az Tryz.prog rN [.agg (bJ x), .bool is] s (.bool (vV x is)) s:=by
 refine az.pure ?_ (by simp[D.bI,D.ok,gW]) rfl s
 have hm:=zO hx ht
 unfold S0
 generalize h:vV x is=p
 unfold vV at h
 refine az.go GF rfl fun B Q hB hQ=>?_
 have⟨hC,hE,hM,hY⟩:=bE
 repeat' (first
 |simp only[go_sem,hC,hE,hM,hY]
 |(with_reducible refine CU (hm _) ?_)
 |(with_reducible refine CU (aa3 _ _) ?_)
 |(with_reducible first|refine aX fun hc=>?_|refine aY fun hc=>?_|refine aZ (fun hc=>?_) fun hc=>?_)<;>(try simp only[hc,bs,↓reduceIte]at h)<;>try simp only[hc]
 |(with_reducible refine aB hQ ?_;exact eA))
def pO:List Ar→Bool
 | []=>true
 |a::l=>if !(tK a.name a.ref) || !(vV a.x !a.ref)then false else pO l
theorem WT {l:List Ar} (hl:l.length<4611686018427387904) (hs : ∀ a∈l,a.x.size<4611686018427387904∧a.x.texts∧a.name.length<4611686018427387904) (s:St) :
 az Tryz.prog ui [.slice .shared 6 (l.map eG)] s (.bool (pO l)) s:=by
 refine az.pure ?_ (by simp[D.bI,D.ok,IT,Tag.ok]) rfl s
 unfold S0
 generalize h:pO l=p
 refine az.go Fa rfl fun B Q hB hQ=>?_
 have⟨hC,hE,hM,hY⟩:=bE
 repeat' (first
 |simp only[go_sem,hC,hE,hM,hY]
 |(with_reducible first|refine aX fun hc=>?_|refine aY fun hc=>?_|refine aZ (fun hc=>?_) fun hc=>?_)<;>(try simp only[hc,bs,↓reduceIte]at h)<;>try simp only[hc]
 |(with_reducible refine aB hQ ?_;exact eA))
 refine dS 0 0 (bg.ind (ι:=List Ar×Nat) (fun i=>l.drop i.2=i.1∧pO i.1=p) (fun i=>i.1.length)
  (fun i=> [(5, .slice .shared 6 (l.map eG)),(6, .int .i64 (l.length:Int)),(7, .int .i64 (i.2:Int))]) (fun i=>⟨[],[]⟩) ?_ (l,0) ⟨rfl,h⟩)
 rintro⟨rest,k⟩ ⟨h1,h⟩ IH
 dsimp only at h1 h
 cases rest with
 |nil=>
  have hC:=drop_nil h1
  simp only[pO]at h
  repeat' (first
 |simp only[go_sem,hC,hE,hM,hY]
 |(with_reducible first|refine aX fun hc=>?_|refine aY fun hc=>?_|refine aZ (fun hc=>?_) fun hc=>?_)<;>(try simp only[hc,bs,↓reduceIte]at h)<;>try simp only[hc]
 |(with_reducible refine aB hQ ?_;exact eA))
 |cons a rest=>
  obtain⟨hE,g2,hC,g4⟩:=drop_cons h1
  have hM:k<4611686018427387904:=by omega
  obtain⟨a1,a2,a3⟩:=hs a (List.mem_of_getElem? hE)
  have hn:=fun b s=>D1 a.name b a3 s
  have hw:=fun b s=>Np b a1 a2 s
  simp only[pO]at h
  repeat' (first
 |simp only[go_sem,hC,hE,hM,hY]
 |(with_reducible refine CU (hn _ _) ?_)
 |(with_reducible refine CU (hw _ _) ?_)
 |(with_reducible first|refine aX fun hc=>?_|refine aY fun hc=>?_|refine aZ (fun hc=>?_) fun hc=>?_)<;>(try simp only[hc,bs,↓reduceIte]at h)<;>try simp only[hc]
 |(with_reducible refine aB hQ ?_;exact eA))
  refine dS 0 0 (IH (rest,k+1) ⟨g2,h⟩ (Nat.lt_succ_self _))
def Sm.flags (s:Sm):Option (Bool×Bool×Bool×Bool×Bool×Bool):=
 if s.kind==1 then some (true,false,true,s.has,false,false)
 else if s.kind==2 ||s.kind==10 then some (true,false,false,s.has,false,false)
 else if s.kind==3 then some (false,false,true,s.has,false,false)
 else if s.kind==4 then some (!(s.name == []),true,false,s.has,false,false)
 else if s.kind==5 then some (false,false,true,s.has,true,true)
 else if s.kind==6 then some (false,false,true,s.has,true,false)
 else if s.kind==9 then some (false,false,s.has,false,false,false)
 else if s.kind==7 ||s.kind==8 then some (false,false,false,s.has,false,false)
 else none
def Sm.Jh (s:Sm) (nm pr x:Bool):Bool:=if !(tK s.name nm) || !(tK s.proc pr) || !(vV s.x x)then false else pO s.args
def Sm.Ji (s:Sm) (f:Bool×Bool×Bool×Bool×Bool×Bool):Bool:=
 if f.2.2.2.1 ||(!f.2.2.2.2.1 && decide ((s.bm.length:Int) > 0)) ||(!f.2.2.2.2.2 && decide ((s.bd.length:Int) > 0)) ||(!(s.kind==4) && decide ((s.args.length:Int) > 0))then false
 else s.Jh f.1 f.2.1 f.2.2.1
def Sm.fields (s:Sm):Bool:=match s.flags with
 |none=>false
 |some f=>s.Ji f
section
variable {v:Sm} {B:fa} {Q:Exit→Tm→St→Prop} {p:Bool}
theorem WU {nm pr x:Bool} (hf:v.nB) (hB:B.s = ⟨[],[]⟩) (hQ:iC 0 0 [(2,none)] (.bool p) ⟨[],[]⟩=Q) (h:v.Jh nm pr x=p) :
 Sem Tryz.prog B 93 ad4 Q [(1, .ptr 0 0),(3, .bool nm),(4, .bool pr),(5, .bool x)] ⟨[bb v],[]⟩:=by
 have h1:=fun b s=>D1 v.name b hf.name s
 have h2:=fun b s=>D1 v.proc b hf.proc s
 have h3:=fun b s=>Np b hf.x hf.xt s
 have h4:=fun s=>WT hf.aew hf.arg s
 unfold Sm.Jh at h
 have⟨hC,hE,hM,hY⟩:=bE
 refine gG ?_
 repeat' (first
 |simp only[go_sem,hC,hE,hM,hY]
 |(with_reducible refine CU (h1 _ _) ?_)
 |(with_reducible refine CU (h2 _ _) ?_)
 |(with_reducible refine CU (h3 _ _) ?_)
 |(with_reducible refine CU (h4 _) ?_)
 |(with_reducible first|refine aX fun hc=>?_|refine aY fun hc=>?_|refine aZ (fun hc=>?_) fun hc=>?_)<;>(try simp only[hc,bs,↓reduceIte]at h)<;>try simp only[hc]
 |(with_reducible refine aB hQ ?_;exact eA))
theorem WV {nm pr x has th ot ar:Bool} (hf:v.nB) (hB:B.s = ⟨[],[]⟩) (hQ:iC 0 0 [(2,none)] (.bool p) ⟨[],[]⟩=Q) (e:(v.kind==4)=ar) (h:v.Ji (nm,pr,x,has,th,ot)=p) :
 Sem Tryz.prog B 93 ad5 Q [(1, .ptr 0 0),(3, .bool nm),(4, .bool pr),(5, .bool x),(6, .bool has),(7, .bool th),(8, .bool ot),(9, .bool ar)] ⟨[bb v],[]⟩:=by
 simp only[Sm.Ji,e]at h
 have⟨hC,hE,hM,hY⟩:=bE
 refine Sem.iS ?_
 repeat' (first
 |simp only[go_sem,hC,hE,hM,hY]
 |(with_reducible first|refine aX fun hc=>?_|refine aY fun hc=>?_|refine aZ (fun hc=>?_) fun hc=>?_)<;>(try simp only[hc,bs,↓reduceIte]at h)<;>try simp only[hc]
 |(with_reducible refine aB hQ ?_;(try cases h);simp only[aR,aS,bo,bp,go_sem,hC,hE,hM,hY];repeat' (first|exact Ok.out|with_reducible refine eP ?_ ?_|(simp;done))))
 all_goals
  refine Sem.re _ _ 1 0 (by rw[hB];exact mN rfl) (by rw[hB];exact mN rfl) ?_ ?_ (WU hf hB hQ h)
  ·(simp only[go_sem,hC,hE,hM,hY];repeat' (first|exact Ok.out|with_reducible refine eP ?_ ?_))
  ·(simp only[go_sem,hC,hE,hM,hY];repeat' (first|exact Ok.out|with_reducible refine eP ?_ ?_))
theorem WW {ar:Bool} (hf:v.nB) (hB:B.s = ⟨[],[]⟩) (hQ:iC 0 0 [(2,none)] (.bool p) ⟨[],[]⟩=Q) (e:(v.kind==4)=ar) (h:v.fields=p) :
 Sem Tryz.prog B 93 WA Q [(1, .ptr 0 0),(3, .bool false),(4, .bool false),(5, .bool false),(6, .bool v.has),(7, .bool false),(8, .bool false),(9, .bool ar)] ⟨[bb v],[]⟩:=by
 simp only[Sm.fields,Sm.flags]at h
 have⟨hC,hE,hM,hY⟩:=bE
 refine Sem.iS ?_
 repeat' (first
 |simp only[go_sem,hC,hE,hM,hY]
 |(with_reducible first|refine aX fun hc=>?_|refine aY fun hc=>?_|refine aZ (fun hc=>?_) fun hc=>?_)<;>(try simp only[hc,bs,↓reduceIte]at h)<;>try simp only[hc]
 |(with_reducible refine aB hQ ?_;(try cases h);simp only[aR,aS,bo,bp,go_sem,hC,hE,hM,hY];repeat' (first|exact Ok.out|with_reducible refine eP ?_ ?_|(simp;done))))
 all_goals
  refine Sem.re _ _ 1 0 (by rw[hB];exact mN rfl) (by rw[hB];exact mN rfl) ?_ ?_ (WV hf hB hQ e h)
  ·(simp only[go_sem,hC,hE,hM,hY];repeat' (first|exact Ok.out|with_reducible refine eP ?_ ?_))
  ·(simp only[go_sem,hC,hE,hM,hY];repeat' (first|exact Ok.out|with_reducible refine eP ?_ ?_))
end
theorem WX {v:Sm} (hf:v.nB) (s:St):az Tryz.prog uf [.agg (bb v)] s (.bool v.fields) s:=by
 refine az.pure ?_ (by simp[D.bI,D.ok,nj]) rfl s
 unfold S0
 refine az.goS E9 rfl fun B Q hB hQ=>?_
 have⟨hC,hE,hM,hY⟩:=bE
 refine Sem.seq (b:=ad7) (gG ?_)
 repeat' (first
 |simp only[go_sem,hC,hE,hM,hY]
 |(with_reducible refine aB hQ ?_;exact bj))
 refine Sem.seq (b:=ad6) (gG ?_)
 repeat' (first
 |simp only[go_sem,hC,hE,hM,hY]
 |(with_reducible refine aB hQ ?_;exact bj))
 refine Sem.seq (b:=WA) (gG ?_)
 repeat' (first
 |simp only[go_sem,hC,hE,hM,hY]
 |(with_reducible refine aB hQ ?_;exact bj))
 refine Sem.re _ _ 1 0 (by rw[hB];exact mN rfl) (by rw[hB];exact mN rfl) ?_ ?_ (WW hf hB hQ rfl rfl)
 ·(simp only[go_sem,hC,hE,hM,hY];repeat' (first|exact Ok.out|with_reducible refine eP ?_ ?_))
 ·(simp only[go_sem,hC,hE,hM,hY];repeat' (first|exact Ok.out|with_reducible refine eP ?_ ?_))
end Go.Abs
namespace Go.Abs
set_option maxRecDepth 8000
open Go.Proofs
def kg (i:It):List D:= [.int .i64 i.s.id, .int .i64 i.s.kind, .slice .shared 1 (i.s.labels.map encStr), .str i.s.name, .str i.s.proc,
 .int .i64 i.s.x.op, .int .i64 i.s.x.n, .str i.s.x.name, .slice .shared 4 (i.s.x.kids.map bJ), .bool i.s.has, .slice .shared 6 (i.s.args.map eG), .slice .shared 13 (i.s.bm.map bb), .slice .shared 13 (i.s.bd.map bb), .int .i64 i.deep, .int .i64 i.dG, .bool i.bd]
theorem aeE (i:It):D.bI 0 0 (kg i)=true:=by simp[kg,D.bI,D.ok,Tag.ok,eF,YO,IT,oQ]
theorem ah1 (n m:Nat) (l:List It):D.kP n m (l.map kg)=l.map kg:=lV aeE n m l
theorem ah2 (n m:Nat) (i:It):D.gA n m (kg i)=kg i:=il n m _ (aeE i)
theorem ah3 (x:It):(kg x).length=16:=nd rfl
theorem aeF (x:It):List.take 13 (kg x)=bb x.s:=by simp only[kg,dT];rfl
theorem WY (x:It):(kg x)[0]? = some (.int .i64 x.s.id):=nd rfl
theorem TF (x:It):(kg x)[13]? = some (.int .i64 x.deep):=nd rfl
attribute [go_sem] ah1 ah2 ah3 aeF WY TF
abbrev ay2 (N:Nat):Prop:=∀ (l:List Sm) (deep dG:Int) (bd:Bool) (out:List It),Sm.bt l<N→0≤deep→deep≤13→out.length≤201→∀ {s:St} {t:Nat},s.aw[t]? = some (some out.length)→
 az Tryz.prog MF [.slice .shared 13 (l.map bb), .int .i64 deep, .int .i64 dG, .bool bd, .slice (.tok t) 16 (out.map kg)] s (.slice (.tok t) 16 ((fS deep dG bd out l).map kg)) ⟨s.ah,s.aw.set t (some (fS deep dG bd out l).length)⟩
end Go.Abs
namespace Go.Abs
set_option maxRecDepth 8000
open Go.Proofs
structure Pg.nB (p:Pg):Prop where
 sz:p.size<4611686018427387000
 ux : ∀ t∈p.globals,t.length<4611686018427387904
 pM : ∀ f∈p.procs,f.name.length<4611686018427387904∧(∀ t∈f.vars,t.length<4611686018427387904)∧(∀ t∈f.fin,t.length<4611686018427387904)∧∀ a∈f.params,a.name.length<4611686018427387904
 items : ∀ i∈p.all,i.s.nB
def gate (nest:Int) (len n:Nat) (r:Bool×Nat):Bool×Nat:=if decide (nest > 12) && decide ((len:Int) > 0)then(false,n)else r
mutual
def Sm.qc (nest:Int) (n:Nat):Sm→Bool×Nat
 |⟨id,kind,labels,name,proc,x,has,args,bm,bd⟩=>
  if decide (((n+1:Nat):Int) > 200) ||id != ((n+1:Nat):Int) || !(ey labels) || !(Sm.fields ⟨id,kind,labels,name,proc,x,has,args,bm,bd⟩)then(false,n+1)
  else if !(gate (nest+1) bm.length (n+1) (Sm.fj (nest+1) (n+1) bm)).1 then(false,(gate (nest+1) bm.length (n+1) (Sm.fj (nest+1) (n+1) bm)).2)
  else gate (nest+1) bd.length (gate (nest+1) bm.length (n+1) (Sm.fj (nest+1) (n+1) bm)).2 (Sm.fj (nest+1) (gate (nest+1) bm.length (n+1) (Sm.fj (nest+1) (n+1) bm)).2 bd)
def Sm.fj (nest:Int) (n:Nat):List Sm→Bool×Nat
 | []=>(true,n)
 |s::l=>if !(Sm.qc nest n s).1 then(false,(Sm.qc nest n s).2)else Sm.fj nest (Sm.qc nest n s).2 l
end
def Sm.gD (nest:Int) (n:Nat) (l:List Sm):Bool×Nat:=gate nest l.length n (Sm.fj nest n l)
theorem GU (nest:Int) (n:Nat) (s:Sm):Sm.qc nest n s =
 if decide (((n+1:Nat):Int) > 200) ||s.id != ((n+1:Nat):Int) || !(ey s.labels) || !(s.fields)then(false,n+1)
 else if !(Sm.gD (nest+1) (n+1) s.bm).1 then(false,(Sm.gD (nest+1) (n+1) s.bm).2)
 else Sm.gD (nest+1) (Sm.gD (nest+1) (n+1) s.bm).2 s.bd:=by
 cases s;simp only[Sm.qc,Sm.gD];rfl
mutual
def Sm.zP:Sm→Prop
 |⟨id,kind,labels,name,proc,x,has,args,bm,bd⟩=>Sm.nB ⟨id,kind,labels,name,proc,x,has,args,bm,bd⟩∧Sm.nC bm∧Sm.nC bd
def Sm.nC:List Sm→Prop
 | []=>True
 |s::l=>s.zP∧Sm.nC l
end
theorem K0 (s:Sm):s.zP↔s.nB∧Sm.nC s.bm∧Sm.nC s.bd:=by cases s;simp only[Sm.zP]
theorem Fo {s:Sm} : ∀ {l:List Sm},Sm.nC l→s∈l→s.zP
 |y::l,h,m=>by
  simp only[Sm.nC]at h
  rcases List.mem_cons.1 m with rfl|m
  ·exact h.1
  ·exact Fo h.2 m
mutual
theorem aa4 (nest:Int) (n:Nat) : ∀ s:Sm,n≤201→(Sm.qc nest n s).2≤202∧((Sm.qc nest n s).1=true→(Sm.qc nest n s).2≤200)
 | ⟨id,kind,labels,name,proc,x,has,args,bm,bd⟩,hn=>by
  simp only[Sm.qc]
  split
  ·exact⟨by dsimp only;omega,fun h=>by cases h⟩
  rename_i hc
  simp only[Bool.or_eq_true,decide_eq_true_eq,not_or]at hc
  have AB:n+1≤200:=by omega
  have g1 : ∀ (nest:Int) (l:List Sm) (m:Nat),m≤200→(Sm.fj nest m l).2≤202∧((Sm.fj nest m l).1=true→(Sm.fj nest m l).2≤200)→
   (gate nest l.length m (Sm.fj nest m l)).2≤202∧((gate nest l.length m (Sm.fj nest m l)).1=true→(gate nest l.length m (Sm.fj nest m l)).2≤200):=by
   intro nest l m hm h
   unfold gate
   split
   ·exact⟨by dsimp only;omega,fun h=>by cases h⟩
   ·exact h
  have h1:=g1 (nest+1) bm (n+1) AB (CC (nest+1) (n+1) bm AB)
  split
  ·exact⟨h1.1,fun h=>by cases h⟩
  rename_i JF
  have h2:=h1.2 (by simpa using JF)
  exact g1 (nest+1) bd _ h2 (CC (nest+1) _ bd h2)
theorem CC (nest:Int) (n:Nat) : ∀ l:List Sm,n≤200→(Sm.fj nest n l).2≤202∧((Sm.fj nest n l).1=true→(Sm.fj nest n l).2≤200)
 | [],hn=>by simp only[Sm.fj];exact⟨by omega,fun _=>hn⟩
 |s::l,hn=>by
  simp only[Sm.fj]
  have h1:=aa4 nest n s (by omega)
  split
  ·exact⟨h1.1,fun h=>by cases h⟩
  rename_i hc
  exact CC nest _ l (h1.2 (by simpa using hc))
end
theorem GV {nest:Int} {n:Nat} {l:List Sm} (hn:n≤200):(Sm.gD nest n l).2≤202∧((Sm.gD nest n l).1=true→(Sm.gD nest n l).2≤200):=by
 unfold Sm.gD gate
 split
 ·exact⟨by dsimp only;omega,fun h=>by cases h⟩
 ·exact CC nest n l hn
theorem aa5 : ∀ (m:Nat) (l:List Sm),Sm.bt l≤m→Sm.bt l<4611686018427387000→Sm.nC l→∀ (nest:Int) (n:Nat),0≤nest→nest≤13→n≤200→
 az Tryz.prog kI [.ptr 0 0, .slice .shared 13 (l.map bb), .int .i64 nest] ⟨[[.int .i64 n]],[]⟩ (.bool (Sm.gD nest n l).1) ⟨[[.int .i64 (Sm.gD nest n l).2]],[]⟩:=by
 intro m
 induction m with
 | zero=>
  intro l h hs hf nest n h0 h13 hn
  cases l with
  |nil=>
   have d1:decide ((0:Int) > 0)=false:=rfl
   have e:Sm.gD nest n [] = (true,n):=by simp[Sm.gD,gate,Sm.fj]
   have z:decide ((0:Int)<0)=false:=rfl
   rw[e]
   refine az.go rT rfl fun B Q hB hQ=>?_
   have⟨hC,hE,hM,hY⟩:=bE
   repeat' (first
 |simp only[go_sem,hC,hE,hM,hY,d1,z]
 |(with_reducible refine bg.kB ?_)
 |(with_reducible first|refine aX fun hc=>?_|refine aY fun hc=>?_|refine aZ (fun hc=>?_) fun hc=>?_)<;>(try simp only[hc,bs,↓reduceIte]at h)<;>try simp only[hc]
 |(with_reducible refine aB hQ ?_;exact bj))
  |cons s l=>simp only[Sm.bt]at h;omega
 |succ m ih=>
  intro l h hs hf nest n h0 h13 hn
  generalize hR:Sm.gD nest n l=R
  have hlen:=Sm.eo l
  unfold Sm.gD gate at hR
  have h:=hR
  refine az.go rT rfl fun B Q hB hQ=>?_
  have⟨hC,hE,hM,hY⟩:=bE
  repeat' (first
 |simp only[go_sem,hC,hE,hM,hY]
 |(with_reducible first|refine aX fun hc=>?_|refine aY fun hc=>?_|refine aZ (fun hc=>?_) fun hc=>?_)<;>(try simp only[hc,bs,↓reduceIte]at h)<;>try simp only[hc]
 | (with_reducible refine aB hQ ?_;(try cases h);simp only [aR,aS,bo,bp,go_sem,hC,hE,hM,hY];repeat' (first | exact Ok.out | with_reducible refine eP ?_ ?_ | (simp;done))))
  all_goals
   have ah4:l≠ []→nest≤12:=by
    intro fl
    have:l.length≠0:=by simpa using fl
    simp_all<;>omega
   refine dS 1 0 (bg.ind (ι:=List Sm×Nat×Nat) (fun i=>l.drop i.2.1=i.1∧Sm.fj nest i.2.2 i.1=R∧i.2.2≤200) (fun i=>i.1.length)
    (fun i=> [(0, .ptr 0 0),(2, .int .i64 nest),(16, .slice .shared 13 (l.map bb)),(17, .int .i64 (l.length:Int)),(18, .int .i64 (i.2.1:Int))]) (fun i=>⟨[[.int .i64 (i.2.2:Int)]],[]⟩) ?_ (l,0,n) ⟨rfl,h,hn⟩)
   rintro⟨rest,k,j⟩ ⟨h1,h,hj⟩ IH
   dsimp only at h1 h hj
   cases rest with
   |nil=>
    have hC:=drop_nil h1
    simp only[Sm.fj]at h
    repeat' (first
 |simp only[go_sem,hC,hE,hM,hY]
 |(with_reducible first|refine aX fun hc=>?_|refine aY fun hc=>?_|refine aZ (fun hc=>?_) fun hc=>?_)<;>(try simp only[hc,bs,↓reduceIte]at h)<;>try simp only[hc]
 | (with_reducible refine aB hQ ?_;exact eA))
   | cons s rest=>
    obtain⟨hE,g2,hC,g4⟩:=drop_cons h1
    have hM:k<4611686018427387904:=by omega
    have iR:=List.mem_of_getElem? hE
    have ej:=Sm.dg iR
    have aAp:=ah4 (by rintro rfl;simp at iR)
    obtain⟨JK,hft,hfe⟩:=(K0 s).1 (Fo hf iR)
    have acG:Sm.bt s.bm<s.size∧Sm.bt s.bd<s.size:=by cases s;simp only[Sm.size];omega
    have w1:IntKind.wrap .i64 ((j:Int)+1)=((j+1:Nat):Int):=by rw[er]<;>omega
    have w2:IntKind.wrap .i64 (nest+1)=nest+1:=er (by omega) (by omega)
    have c1:=fun s=>zN JK.aev JK.Tw s
    have c2:=fun s=>WX JK s
    simp only[Sm.fj,GU]at h
    by_cases TG:j+1≤200
    ·have r1:=GV (nest:=nest+1) (l:=s.bm) TG
     have c3:=fun s' ho=>(ih s.bm (by omega) (by omega) hft (nest+1) (j+1) (by omega) (by omega) TG).kR (s:=s') (o:=0) (by simp[D.bI,D.ok,oQ,Tag.ok]) rfl rfl rfl ho
     by_cases wW:(Sm.gD (nest+1) (j+1) s.bm).1=true
     ·have c4:=fun s' ho=>(ih s.bd (by omega) (by omega) hfe (nest+1) _ (by omega) (by omega) (r1.2 wW)).kR (s:=s') (o:=0) (by simp [D.bI,D.ok,oQ,Tag.ok]) rfl rfl rfl ho
      have r2:=GV (nest:=nest+1) (l:=s.bd) (r1.2 wW)
      simp only[wW]at c3
      simp only[wW,Bool.not_true,Bool.false_eq_true,↓reduceIte]at h
      repeat' (first
 |simp only[go_sem,hC,hE,hM,hY,w1,w2,wW]
 |(with_reducible refine CU (c1 _) ?_)
 |(with_reducible refine CU (c2 _) ?_)
 |(with_reducible refine CU (c3 _ rfl) ?_)
 |(with_reducible refine CU (c4 _ rfl) ?_)
 |(with_reducible first|refine aX fun hc=>?_|refine aY fun hc=>?_|refine aZ (fun hc=>?_) fun hc=>?_)<;>(try simp only[hc,bs,↓reduceIte]at h)<;>try simp only[hc]
 |(with_reducible refine aB hQ ?_;(try cases h);simp only[aR,aS,bo,bp,go_sem,hC,hE,hM,hY,w1,w2,wW];try exact bS))
      refine dS 1 0 (IH (rest,k+1,(Sm.gD (nest+1) (Sm.gD (nest+1) (j+1) s.bm).2 s.bd).2) ⟨g2,h,r2.2 (by assumption)⟩ (Nat.lt_succ_self _))
     ·have wW:(Sm.gD (nest+1) (j+1) s.bm).1=false:=by simpa using wW
      simp only[wW]at c3
      simp only[wW,Bool.not_false,↓reduceIte]at h
      repeat' (first
 |simp only[go_sem,hC,hE,hM,hY,w1,w2,wW]
 |(with_reducible refine CU (c1 _) ?_)
 |(with_reducible refine CU (c2 _) ?_)
 |(with_reducible refine CU (c3 _ rfl) ?_)
 |(with_reducible first|refine aX fun hc=>?_|refine aY fun hc=>?_|refine aZ (fun hc=>?_) fun hc=>?_)<;>(try simp only[hc,bs,↓reduceIte]at h)<;>try simp only[hc]
 | (with_reducible refine aB hQ ?_;(try cases h);simp only [aR,aS,bo,bp,go_sem,hC,hE,hM,hY,w1,w2,wW];try exact bS))
    ·have d1:decide (((j+1:Nat):Int) > 200)=true:=by simp;omega
     simp only[d1,Bool.true_or,Bool.not_false,↓reduceIte]at h
     repeat' (first
 |simp only[go_sem,hC,hE,hM,hY,w1,w2,d1]
 |(with_reducible refine CU (c1 _) ?_)
 |(with_reducible refine CU (c2 _) ?_)
 |(with_reducible first|refine aX fun hc=>?_|refine aY fun hc=>?_|refine aZ (fun hc=>?_) fun hc=>?_)<;>(try simp only[hc,bs,↓reduceIte]at h)<;>try simp only[hc]
 |(with_reducible refine aB hQ ?_;(try cases h);simp only[aR,aS,bo,bp,go_sem,hC,hE,hM,hY,w1,w2,d1];try exact bS))
def Pc.fj (n:Nat):List Pc→Bool
 | []=>true
 |f::l=>
  if decide ((f.params.length:Int) > 8) ||decide ((f.vars.length:Int) > 16) || !(isName f.name) || !(ey f.vars) || !(ey f.fin)then false
  else if !(Pm.fq f.params)then false
  else if !(Sm.gD 1 n f.body).1 then false
  else Pc.fj (Sm.gD 1 n f.body).2 l
def Pg.GX (p:Pg):Bool:=
 if decide ((p.globals.length:Int) > 16) ||decide ((p.procs.length:Int) > 16) || !(ey p.globals)then false
 else Pc.fj 0 p.procs
structure Pg.QW (p:Pg):Prop where
 sz:p.size<4611686018427387000
 ux : ∀ t∈p.globals,t.length<4611686018427387904
 pM : ∀ f∈p.procs,f.name.length<4611686018427387904∧(∀ t∈f.vars,t.length<4611686018427387904)∧(∀ t∈f.fin,t.length<4611686018427387904)∧∀ a∈f.params,a.name.length<4611686018427387904
 body : ∀ f∈p.procs,Sm.nC f.body
theorem K1 {p:Pg} (hf:p.QW) (s:St):az Tryz.prog rH [.agg (cO p)] s (.bool p.GX) s:=by
 refine az.pure ?_ (by simp only[D.bI,D.ok,j8];rfl) rfl s
 obtain⟨ej,rZ,aeG,Co⟩:=hf
 have r5:Pc.bt p.procs<4611686018427387000:=by simp only[Pg.size]at ej;omega
 have ah5:p.globals.length<4611686018427387904:=by simp only[Pg.size]at ej;omega
 have az7:p.procs.length<4611686018427387904:=by have:=Pc.eo p.procs;omega
 have hg:=fun s=>zN ah5 rZ s
 unfold S0
 generalize h:p.GX=R
 unfold Pg.GX at h
 refine az.go KH rfl fun B Q hB hQ=>?_
 have⟨hC,hE,hM,hY⟩:=bE
 repeat' (first
 |simp only[go_sem,hC,hE,hM,hY]
 |(with_reducible refine CU (hg _) ?_)
 |(with_reducible first|refine aX fun hc=>?_|refine aY fun hc=>?_|refine aZ (fun hc=>?_) fun hc=>?_)<;>(try simp only[hc,bs,↓reduceIte]at h)<;>try simp only[hc]
 |(with_reducible refine aB hQ ?_;exact eA))
 refine dS 2 0 (bg.ind (ι:=List Pc×Nat×Nat) (fun i=>p.procs.drop i.2.1=i.1∧Pc.fj i.2.2 i.1=R∧i.2.2≤200) (fun i=>i.1.length)
  (fun i=> [(1, .ptr 0 0),(3, .ptr 1 0),(27, .slice .shared 5 (p.procs.map cJ)),(28, .int .i64 (p.procs.length:Int)),(29, .int .i64 (i.2.1:Int))]) (fun i=>⟨[cO p,[.int .i64 (i.2.2:Int)]],[]⟩) ?_ (p.procs,0,0) ⟨rfl,h,Nat.zero_le _⟩)
 rintro⟨rest,k,n⟩ ⟨h1,h,hn⟩ IH
 dsimp only at h1 h hn
 cases rest with
 |nil=>
  have hC:=drop_nil h1
  simp only[Pc.fj]at h
  repeat' (first
 |simp only[go_sem,hC,hE,hM,hY]
 |(with_reducible first|refine aX fun hc=>?_|refine aY fun hc=>?_|refine aZ (fun hc=>?_) fun hc=>?_)<;>(try simp only[hc,bs,↓reduceIte]at h)<;>try simp only[hc]
 |(with_reducible refine aB hQ ?_;exact eA))
 |cons f rest=>
  obtain⟨hE,g2,hC,g4⟩:=drop_cons h1
  have cp:k<4611686018427387904:=by omega
  have iR:=List.mem_of_getElem? hE
  have AE:=Pc.dg iR
  simp only[Pc.size]at AE
  obtain⟨AG,hfv,hff,hfp⟩:=aeG f iR
  have hnm:=BO f.name AG
  have hv:=fun s=>zN (by omega) hfv s
  have he:=fun s=>zN (by omega) hff s
  have hb:=fun s' o ho=>(aa5 _ f.body (Nat.le_refl _) (by omega) (Co f iR) 1 n (by omega) (by omega) hn).kR (s:=s') (o:=o) (by simp[D.bI,D.ok,oQ,Tag.ok]) rfl rfl rfl ho
  have hle:=GV (nest:=1) (l:=f.body) hn
  simp only[Pc.fj]at h
  repeat' (first
 |simp only[go_sem,hC,hE,hM,hY]
 |(with_reducible refine CU (hnm _) ?_)
 |(with_reducible refine CU (hv _) ?_)
 |(with_reducible refine CU (he _) ?_)
 |(with_reducible first|refine aX fun hc=>?_|refine aY fun hc=>?_|refine aZ (fun hc=>?_) fun hc=>?_)<;>(try simp only[hc,bs,↓reduceIte]at h)<;>try simp only[hc]
 |(with_reducible refine aB hQ ?_;exact eA)
 | (cases h;done))
  refine dS 3 0 (bg.ind (ι:=List Pm×Nat) (fun i=>f.params.drop i.2=i.1∧(if !(Pm.fq i.1)then false else if !(Sm.gD 1 n f.body).1 then false else Pc.fj (Sm.gD 1 n f.body).2 rest)=R) (fun i=>i.1.length)
   (fun i=> [(1, .ptr 0 0),(3, .ptr 1 0),(5, .ptr 2 0),(27, .slice .shared 5 (p.procs.map cJ)),(28, .int .i64 (p.procs.length:Int)),(29, .int .i64 (k:Int)),(62, .slice .shared 2 (f.params.map gR)),(63, .int .i64 (f.params.length:Int)),(64, .int .i64 (i.2:Int))]) (fun i=>⟨[cO p,[.int .i64 (n:Int)],cJ f],[]⟩) ?_ (f.params,0) ⟨rfl,h⟩)
  rintro⟨QX,j⟩ ⟨j1,h⟩ TH
  dsimp only at j1 h
  cases QX with
  |nil=>
   have hC:=drop_nil j1
   simp only[Pm.fq,Bool.not_true,Bool.false_eq_true,↓reduceIte]at h
   repeat' (first
 |simp only[go_sem,hC,hE,hM,hY]
 |(with_reducible refine CU (hb _ _ rfl) ?_)
 |(with_reducible first|refine aX fun hc=>?_|refine aY fun hc=>?_|refine aZ (fun hc=>?_) fun hc=>?_)<;>(try simp only[hc,bs,↓reduceIte]at h)<;>try simp only[hc]
 |(with_reducible refine aB hQ ?_;exact eA)
 | (cases h;done))
   refine eV 2 0 ?_ ?_ (IH (rest,k+1,(Sm.gD 1 n f.body).2) ⟨g2,h,hle.2 (by assumption)⟩ (Nat.lt_succ_self _))
   ·(simp only[go_sem,hC,hE,hM,hY,aL cp];try exact cu)
   ·(simp only[go_sem,hC,hE,hM,hY,aL cp];try exact cu)
  |cons a QX=>
   obtain⟨hE,b2,hC,b4⟩:=drop_cons j1
   have TG:j<4611686018427387904:=by omega
   have ha:=BO a.name (hfp a (List.mem_of_getElem? hE))
   simp only[Pm.fq]at h
   repeat' (first
 |simp only[go_sem,hC,hE,hM,hY]
 |(with_reducible refine CU (ha _) ?_)
 |(with_reducible first|refine aX fun hc=>?_|refine aY fun hc=>?_|refine aZ (fun hc=>?_) fun hc=>?_)<;>(try simp only[hc,bs,↓reduceIte]at h)<;>try simp only[hc]
 |(with_reducible refine aB hQ ?_;exact eA)
 | (cases h;done))
   refine eV 3 0 ?_ ?_ (TH (QX,j+1) ⟨b2,h⟩ (Nat.lt_succ_self _))
   ·(simp only[go_sem,hC,hE,hM,hY,aL TG];try exact cu)
   ·(simp only[go_sem,hC,hE,hM,hY,aL TG];try exact cu)
theorem zQ {s:aF} (h:isName s=true):s.length≤8:=by
 cases s with
 |nil=>simp
 | cons c r=>
  simp only[isName]at h
  split at h
  ·cases h
  ·rename_i hc
   simp only[Bool.or_eq_true,decide_eq_true_eq,not_or]at hc
   simp only[List.length_cons];omega
theorem pC {t:aF} : ∀ {l:List aF},ey l=true→t∈l→isName t=true
 | s::l,h,m=>by
  simp only[ey]at h
  cases hs:isName s
  ·simp[hs]at h
  ·simp [hs]at h
   rcases List.mem_cons.1 m with rfl|m
   ·exact hs
   ·exact pC h m
theorem K3 {a:Ar} : ∀ {l:List Ar},Ar.fq l=true→a∈l→a.may=true
 | s::l,h,m=>by
  simp only[Ar.fq]at h
  cases hs:s.may
  ·simp[hs]at h
  ·simp [hs]at h
   rcases List.mem_cons.1 m with rfl|m
   ·exact hs
   ·exact K3 h m
theorem HG {a:Pm} : ∀ {l:List Pm},Pm.fq l=true→a∈l→isName a.name=true
 | s::l,h,m=>by
  simp only[Pm.fq]at h
  cases hs:isName s.name
  ·simp[hs]at h
  ·simp [hs]at h
   rcases List.mem_cons.1 m with rfl|m
   ·exact hs
   ·exact HG h m
mutual
theorem Fq : ∀ x:Ex,x.form=true→x.texts
 | ⟨op,n,name,kids⟩,h=>by
  simp only[Ex.form]at h
  split at h
  ·cases h
  ·rename_i hc
   refine⟨?_,Dw kids h⟩
   simp only[Bool.or_eq_true,Bool.and_eq_true,Bool.not_eq_true',not_or,not_and,Bool.not_eq_false]at hc
   cases hn:(name == [])
   ·have:=zQ (hc.2 hn);omega
   ·simp at hn;subst hn;simp
theorem Dw : ∀ l:List Ex,Ex.pL l=true→Ex.yL l
 | [],_=>trivial
 | x::l,h=>by
  simp only[Ex.pL]at h
  cases hx:x.form
  ·simp[hx]at h
  ·simp [hx]at h
   exact⟨Fq x hx,Dw l h⟩
end
theorem HH {x:Ex} (h:x.may=true):x.texts:=by
 unfold Ex.may at h
 simp only[Bool.and_eq_true]at h
 exact Fq x h.2
theorem Fs {x:Ex} (h:x.none=true):x.texts:=by
 obtain⟨op,n,name,kids⟩:=x
 simp[Ex.none]at h
 obtain⟨⟨_,h1⟩,h2⟩:=h
 subst h1 h2
 exact⟨by simp,trivial⟩
mutual
theorem TI {deep dG:Int} {bd:Bool} {out:List It} {i:It} : ∀ s:Sm,i∈kC deep dG bd out s→i∈out∨i.s.size≤s.size
 | ⟨id,kind,labels,name,proc,x,has,args,bm,e⟩,h=>by
  simp only[kC]at h
  have key:i∈out++ [(⟨⟨id,kind,labels,name,proc,x,has,args,bm,e⟩,deep,dG,bd⟩:It)]→i∈out∨i.s.size≤(⟨id,kind,labels,name,proc,x,has,args,bm,e⟩:Sm).size:=by
   intro h
   rcases List.mem_append.1 h with h|h
   ·exact .inl h
   ·simp at h;subst h;exact .inr (Nat.le_refl _)
  split at h
  ·rcases wX e h with h | h
   ·rcases wX bm h with h | h
    ·exact key h
    ·right;simp only[Sm.size];omega
   ·right;simp only[Sm.size];omega
  ·exact key h
theorem wX {deep dG:Int} {bd:Bool} {out:List It} {i:It} : ∀ l:List Sm,i∈fS deep dG bd out l→i∈out∨i.s.size<Sm.bt l
 | [],h=>by simp only[fS]at h;exact .inl h
 | s::l,h=>by
  simp only[fS]at h
  split at h
  ·rcases wX l h with h | h
   ·rcases TI s h with h | h
    ·exact .inl h
    ·right;simp only[Sm.bt];omega
   ·right;simp only[Sm.bt];omega
  ·exact .inl h
end
theorem K4 {i:It} : ∀ (l:List Pc) (out:List It),i∈allM out l→i∈out∨i.s.size<Pc.bt l
 | [],out,h=>by simp only[allM]at h;exact .inl h
 | f::l,out,h=>by
  have key:i∈out++f.flat→i∈out∨i.s.size<Pc.bt (f::l):=by
   intro h
   rcases List.mem_append.1 h with h|h
   ·exact .inl h
   ·rcases wX _ h with h | h
    ·simp at h
    ·right;simp only[Pc.bt,Pc.size];omega
  simp only[allM]at h
  split at h
  ·exact key h
  ·rcases K4 l _ h with h | h
   ·exact key h
   ·right;simp only[Pc.bt];omega
theorem Ft {i:It} : ∀ (l:List It) (n:Nat),It.fq n l=true→i∈l→i.s.one=true
 | s::l,n,h,m=>by
  simp only[It.fq]at h
  split at h
  ·cases h
  ·rename_i hc
   simp only[Bool.or_eq_true,Bool.not_eq_true',not_or,Bool.not_eq_false]at hc
   rcases List.mem_cons.1 m with rfl|m
   ·exact hc.2
   ·exact Ft l (n+1) h m
theorem K5 {s:Sm} (h:s.one=true) (hs:s.size<4611686018427387000):s.nB:=by
 unfold Sm.one at h
 split at h
 ·cases h
 split at h
 ·cases h
 split at h
 ·cases h
 split at h
 ·cases h
 rename_i c1 c2 c3 c4
 simp only[Bool.or_eq_true,Bool.and_eq_true,Bool.not_eq_true',not_or,not_and,Bool.not_eq_false,decide_eq_true_eq]at c1 c2 c3 c4
 obtain⟨⟨⟨⟨⟨_,_⟩,asK⟩,cx⟩,cn⟩,_⟩:=c1
 obtain⟨c21,c22⟩:=c2
 obtain⟨⟨c31,c32⟩,c33⟩:=c3
 have nm : ∀ {t:aF},isName t=true→t.length<4611686018427387904:=fun h=>by have:=zQ h;omega
 have ej:1+s.labels.length+s.x.size+Ar.bt s.args≤s.size:=by cases s;simp only[Sm.size];omega
 have As:=Ar.eo s.args
 refine⟨fun t ht=>nm (pC asK ht),by omega, ?_, ?_,by omega, ?_,by omega,fun a ha=>?_⟩
 ·cases hn:s.hasName
  ·cases he:(s.name == [])
   ·exact nm (c22 ⟨hn,he⟩).2
   ·simp at he;rw[he];simp
  ·exact nm (c21 hn)
 ·cases nM:s.tG
  ·rw [nM]at c31
   have:s.proc = []:=by simpa using c31
   rw[this];simp
  ·exact nm (c32 nM)
 ·cases hx:s.BK
  ·exact Fs (cn hx)
  ·exact HH (cx hx)
 ·have hm:=K3 c4 ha
  have Zv:=Ar.dg ha
  unfold Ar.may at hm
  split at hm
  ·simp only [Bool.and_eq_true]at hm
   exact⟨by omega,Fs hm.2,nm hm.1⟩
  ·simp only [Bool.and_eq_true,beq_iff_eq]at hm
   exact⟨by omega,HH hm.2,by rw[hm.1];simp⟩
theorem HI {f:Pc} : ∀ {l:List Pc},Pc.pM l=true→f∈l→isName f.name=true∧ey f.vars=true∧ey f.fin=true∧Pm.fq f.params=true
 |s::l,h,m=>by
  simp only[Pc.pM]at h
  split at h
  ·cases h
  split at h
  ·cases h
  rename_i c1 c2
  simp only[Bool.or_eq_true,Bool.not_eq_true',not_or,Bool.not_eq_false]at c1 c2
  rcases List.mem_cons.1 m with rfl|m
  ·exact⟨c1.1.1.1.1,c1.1.2,c1.2,c2⟩
  ·exact HI h m
theorem WZ {p:Pg} (h:p.may=true) (hs:p.size<4611686018427387000):p.nB:=by
 unfold Pg.may at h
 split at h
 ·cases h
 split at h
 ·cases h
 split at h
 ·cases h
 rename_i c1 c2 c3
 simp only[Bool.or_eq_true,Bool.not_eq_true',not_or,Bool.not_eq_false]at c1 c2
 have nm : ∀ {t:aF},isName t=true→t.length<4611686018427387904:=fun h=>by have:=zQ h;omega
 refine⟨hs,fun t ht=>nm (pC c1.2 ht),fun f hf=>?_,fun i hi=>?_⟩
 ·obtain⟨a,b,c,d⟩:=HI c2 hf
  exact⟨nm a,fun t ht=>nm (pC b ht),fun t ht=>nm (pC c ht),fun t ht=>nm (HG d ht)⟩
 ·refine K5 (Ft _ _ h hi) ?_
  rcases K4 _ _ hi with h1|h1
  ·simp at h1
  ·simp only[Pg.size]at hs;omega
theorem TJ {t:aF} (h:isName t=true):t≠ []:=by rintro rfl;cases h
theorem W0 (op n:Int) (name:aF) (kids:List Ex):Ex.form ⟨op,n,name,kids⟩=true↔
 lK op=(kids.length:Int)∧(op=1∨n=0)∧0≤n∧(op=2↔name≠ [])∧(name = []∨isName name=true)∧Ex.pL kids=true:=by
 simp only[Ex.form]
 split
 ·rename_i h
  simp only[Bool.or_eq_true,Bool.and_eq_true,bne_iff_ne,ne_eq,decide_eq_true_eq,Bool.not_eq_true']at h
  refine⟨fun h=>(Bool.false_ne_true h).elim,fun⟨h1,h2,h3,h4,h5,_⟩=>?_⟩
  exfalso
  rcases h with (((h|h)|h)|h)|h
  ·exact h h1
  ·rcases h2 with h2 | h2
   ·exact h.1 h2
   ·exact h.2 h2
  ·omega
  ·by_cases h2:op=2<;>cases name<;>simp_all
  ·rcases h5 with h5 | h5
   ·subst h5;simp at h
   ·rw[h5]at h;simp at h
 ·rename_i h
  simp only[Bool.or_eq_true,Bool.and_eq_true,bne_iff_ne,ne_eq,decide_eq_true_eq,Bool.not_eq_true',not_or,not_and,Decidable.not_not,Bool.not_eq_false]at h
  obtain⟨⟨⟨⟨h1,h2⟩,h3⟩,h4⟩,h5⟩:=h
  refine⟨fun h=>⟨h1, ?_,by omega, ?_, ?_,h⟩,fun h=>h.2.2.2.2.2⟩
  ·by_cases h:op=1
   ·exact .inl h
   ·exact .inr (h2 h)
  ·by_cases h2:op=2<;>cases name<;>simp_all
  ·cases name with
   |nil=>exact .inl rfl
   |cons c r=>exact .inr (h5 rfl)
theorem K6 (op n:Int) (name:aF) (kids:List Ex) (k:Int):Ex.dp k ⟨op,n,name,kids⟩=true↔
 1≤k∧(kids.length:Int)=lK op∧(if op=1 then 0≤n∧name = []else if op=2 then n=0∧isName name=true else n=0∧name = []∧Ex.BP (k - 1) kids=true):=by
 simp only[Ex.dp]
 split
 ·rename_i h
  simp only[Bool.or_eq_true,decide_eq_true_eq,bne_iff_ne,ne_eq]at h
  refine⟨fun h=>(Bool.false_ne_true h).elim,fun⟨h1,h2,_⟩=>?_⟩
  rcases h with h|h
  ·omega
  ·exact(h h2).elim
 rename_i h
 simp only[Bool.or_eq_true,decide_eq_true_eq,bne_iff_ne,ne_eq,not_or,Decidable.not_not]at h
 have h1:1≤k:=by omega
 simp only[h1,h.2,true_and]
 by_cases o1:op=1
 ·subst o1
  cases name<;>simp
 ·have o1' : ¬ (op==1)=true:=by simpa using o1
  rw[if_neg o1',if_neg o1]
  by_cases o2:op=2
  ·subst o2;simp
  ·have o2' : ¬ (op==2)=true:=by simpa using o2
   rw[if_neg o2',if_neg o2]
   by_cases hn:n=0
   ·subst hn
    cases name<;>simp
   ·simp[hn]
mutual
theorem Zw : ∀ (x:Ex) (k:Int),0≤k→(x.dp k=true↔(x.depth:Int)≤k∧x.form=true)
 | ⟨op,n,name,kids⟩,k,hk=>by
  rw[K6,W0]
  have hd:Ex.depth ⟨op,n,name,kids⟩=Ex.gS kids+1:=by simp only[Ex.depth]
  rw[hd]
  by_cases h1:1≤k
  ·have ih:=TK kids (k - 1) (by omega)
   by_cases o1:op=1
   ·subst o1
    have ha:lK 1=0:=rfl
    rw[ha,if_pos rfl]
    constructor
    ·rintro⟨_,h2,h3,h4⟩
     have:kids = []:=List.eq_nil_of_length_eq_zero (by omega)
     subst this;subst h4
     simp[Ex.gS,Ex.pL,h3];omega
    ·rintro⟨h2,h3,_,h4,h5,_⟩
     refine⟨h1,h3.symm,h4, ?_⟩
     cases name
     ·rfl
     ·simp at h5
   ·rw [if_neg o1]
    by_cases o2:op=2
    ·subst o2
     have ha:lK 2=0:=rfl
     rw[ha,if_pos rfl]
     constructor
     ·rintro⟨_,h2,h3,h4⟩
      have:kids = []:=List.eq_nil_of_length_eq_zero (by omega)
      subst this;subst h3
      have:=TJ h4
      simp[Ex.gS,Ex.pL,h4,this];omega
     ·rintro⟨h2,h3,h4,_,h5,h6,_⟩
      refine⟨h1,h3.symm,h4.resolve_left o1, ?_⟩
      exact h6.resolve_left (h5.1 rfl)
    ·rw [if_neg o2,ih]
     constructor
     ·rintro⟨_,h2,h3,h4,h5,h6⟩
      subst h3;subst h4
      exact⟨by omega,h2.symm, .inr rfl,Int.le_refl _,by simp[o2], .inl rfl,h6⟩
     ·rintro⟨h2,h3,h4,_,h5,h6,h7⟩
      refine⟨h1,h3.symm,h4.resolve_left o1, ?_,by omega,h7⟩
      exact Decidable.byContradiction fun h=>o2 (h5.2 h)
  ·constructor
   ·rintro⟨h,_⟩;exact(h1 h).elim
   ·rintro⟨h,_⟩;omega
theorem TK : ∀ (l:List Ex) (k:Int),0≤k→(Ex.BP k l=true↔(Ex.gS l:Int)≤k∧Ex.pL l=true)
 | [],k,hk=>by simp[Ex.BP,Ex.gS,Ex.pL,hk]
 | x::l,k,hk=>by
  have h1:=Zw x k hk
  have h2:=TK l k hk
  have hd:Ex.gS (x::l)=max x.depth (Ex.gS l):=by simp only[Ex.gS]
  rw[hd]
  simp only[Ex.BP,Ex.pL]
  cases hx:Ex.dp k x
  ·simp only [Bool.not_false, ↓reduceIte,Bool.false_eq_true,false_iff,not_and]
   intro h3
   have : ¬ ((x.depth:Int)≤k∧x.form=true):=by rw[← h1,hx];simp
   have hf:x.form=false:=by
    cases hf:x.form
    ·rfl
    ·exact(this ⟨by omega,hf⟩).elim
   simp[hf]
  ·have:=h1.1 hx
   simp only[Bool.not_true,Bool.false_eq_true,↓reduceIte,this.2,h2]
   have h3:=this.1
   refine and_congr_left fun _=>?_
   omega
end
theorem Fu (x:Ex):x.dp 20=x.may:=by
 rw[Bool.eq_iff_iff,Zw x 20 (by omega)]
 unfold Ex.may
 simp only[Bool.and_eq_true,decide_eq_true_eq]
 refine and_congr_left fun _=>?_
 omega
theorem HJ (x:Ex) (b:Bool):vV x b=if b then x.may else x.none:=by
 unfold vV
 rw[Fu]
 cases b<;>simp
theorem HK (t:aF) (b:Bool):tK t b=if b then isName t else t == []:=by
 unfold tK
 cases b<;>simp
theorem Dx : ∀ l:List Ar,pO l=Ar.fq l
 | []=>rfl
 |a::l=>by
  simp only[pO,Ar.fq,Ar.may,HJ,HK,Dx l]
  grind
theorem acV {α:Type} (l:List α):((l.length:Int)==0) = !(decide ((l.length:Int) > 0)):=by
 cases l with
 |nil=>rfl
 |cons a l=>
  have h1:(((a::l).length:Int)==0)=false:=by simp only[List.length_cons,beq_eq_false_iff_ne];omega
  have h2:decide (((a::l).length:Int) > 0)=true:=by simp only[List.length_cons,decide_eq_true_eq];omega
  rw[h1,h2];rfl
theorem Fv (s:Sm):s.one=(ey s.labels && s.fields):=by
 have hk:s.kind=1∨s.kind=2∨s.kind=3∨s.kind=4∨s.kind=5∨s.kind=6∨s.kind=7∨s.kind=8∨s.kind=9∨s.kind=10∨s.kind<1∨s.kind > 10:=by omega
 unfold Sm.one Sm.fields Sm.flags Sm.BK Sm.hasName Sm.tG
 have p1:isName [] = false:=rfl
 rcases hk with h|h|h|h|h|h|h|h|h|h|h|h
 all_goals
  simp only[h,acV,Dx,HJ,HK,Sm.Ji,Sm.Jh]
  grind
mutual
def Ex.mI (out:List aF):Ex→List aF
 |⟨op,_,name,kids⟩=>Ex.lP (if op==2 && !(fw out name)then out++ [name]else out) kids
def Ex.lP (out:List aF):List Ex→List aF
 | []=>out
 |x::l=>Ex.lP (Ex.mI out x) l
end
def Ex.names (x:Ex):List aF:=if x.may then x.mI []else []
mutual
theorem sE (out:List aF) : ∀ x:Ex,(Ex.mI out x).length≤out.length+x.size
 |⟨op,n,name,kids⟩=>by
  simp only[Ex.mI,Ex.size]
  have h:=HL (if op==2 && !(fw out name)then out++ [name]else out) kids
  refine Nat.le_trans h ?_
  split<;>simp<;>omega
theorem HL (out:List aF) : ∀ l:List Ex,(Ex.lP out l).length≤out.length+Ex.bt l
 | []=>by simp[Ex.lP,Ex.bt]
 |x::l=>by
  simp only[Ex.lP,Ex.bt]
  have h1:=sE out x
  have h2:=HL (Ex.mI out x) l
  omega
end
def CD (out:List aF) (x:aF):List aF:=if fw out x then out else out++ [x]
def ah6 (x:aF):List aF→Bool
 | []=>false
 |s::l=>if s==x then true else ah6 x l
abbrev TL (N:Nat):Prop:=∀ (x:Ex),x.size≤N→∀ out:List aF,out.length+x.size≤1000000000→∀ {s:St} {t:Nat},s.aw[t]? = some (some out.length)→
 az Tryz.prog iW [.agg (bJ x), .slice (.tok t) 1 (out.map encStr)] s (.slice (.tok t) 1 ((x.mI out).map encStr)) ⟨s.ah,s.aw.set t (some (x.mI out).length)⟩
theorem aeJ {N:Nat} (ih:TL N) {op m:Int} {name:aF} {kids:List Ex} (h:Ex.size ⟨op,m,name,kids⟩≤N+1) {out:List aF} (ho:out.length+Ex.size ⟨op,m,name,kids⟩≤1000000000) :
 az Tryz.prog iW [.agg (bJ ⟨op,m,name,kids⟩), .slice (.tok 0) 1 (out.map encStr)] ⟨[],[some out.length]⟩ (.slice (.tok 0) 1 ((Ex.mI out ⟨op,m,name,kids⟩).map encStr)) ⟨[],[some (Ex.mI out ⟨op,m,name,kids⟩).length]⟩:=by
 obtain⟨R,hG⟩ : ∃ R,Ex.mI out ⟨op,m,name,kids⟩=R:=⟨_,rfl⟩
 rw[hG]
 simp only[Ex.mI]at hG
 simp only[Ex.size]at h ho
 have hlen:kids.length<1000000000:=by have:=Ex.eo kids;omega
 have hk : ∀ y∈kids,∀ out:List aF,out.length+y.size≤1000000000→∀ {s:St} {t:Nat},s.aw[t]? = some (some out.length)→
  az Tryz.prog iW [.agg (bJ y), .slice (.tok t) 1 (out.map encStr)] s (.slice (.tok t) 1 ((y.mI out).map encStr)) ⟨s.ah,s.aw.set t (some (y.mI out).length)⟩:=fun y hy out ho=>
  ih y (by have:=Ex.dg hy;omega) out ho
 refine az.go rU rfl fun B Q hB hQ=>?_
 have⟨hC,hE,hM,hY⟩:=bE
 have hM:(out.length+1)*17≤bA:=by unfold bA;omega
 rcases Bool.eq_false_or_eq_true (op==2)with b1|b1
 ·rcases Bool.eq_false_or_eq_true (fw out name)with b2 | b2
  ·simp only [b1,b2,Bool.not_true,Bool.and_false,Bool.false_eq_true,if_false]at hG
   repeat' (first
 |simp only[go_sem,hC,hE,hM,hY,b1,b2]
 |(with_reducible refine CU (jN (l:=out) (by omega) name _ _) ?_)
 | (with_reducible refine aB hQ ?_;exact bj))
   refine dS 1 1 (bg.ind (ι:=List Ex×Nat×List aF×Nat) (fun i=>kids.drop i.2.1=i.1∧Ex.lP i.2.2.1 i.1=R∧i.2.2.1.length+Ex.bt i.1≤1000000000∧i.2.2.2=i.2.2.1.length) (fun i=>i.1.length)
    (fun i=> [(1, .slice (.tok 0) 1 (i.2.2.1.map encStr)),(2, .ptr 0 0),(23, .slice .shared 4 (kids.map bJ)),(24, .int .i64 (kids.length:Int)),(25, .int .i64 (i.2.1:Int))]) (fun i=>⟨[bJ ⟨op,m,name,kids⟩],[some i.2.2.2]⟩) ?_ (kids,0,out,out.length) ⟨rfl,hG,by simp;omega,by simp⟩)
   rintro⟨rest,k,cR,n'⟩ ⟨h1,h2,h3,h4⟩ IH
   dsimp only at h1 h2 h3 h4
   subst h4
   cases rest with
   |nil=>
    have hC:=drop_nil h1
    simp only[Ex.lP]at h2
    subst h2
    repeat' (first
 |simp only[go_sem,hC,hE,hM,hY]
 | (with_reducible refine aB hQ ?_;exact bj))
   |cons y rest=>
    obtain⟨hE,g2,hC,g4⟩:=drop_cons h1
    have cp:k<4611686018427387904:=by omega
    simp only[Ex.lP]at h2
    simp only[Ex.bt]at h3
    have hy:=fun {s:St} {t:Nat} (ht:s.aw[t]? = some (some cR.length))=>hk y (List.mem_of_getElem? hE) cR (by omega) ht
    have hl:=sE cR y
    repeat' (first
 |simp only[go_sem,hC,hE,hM,hY]
 |(with_reducible refine CU (hy (by with_unfolding_all rfl)) ?_)
 | (with_reducible refine aB hQ ?_;exact bj))
    refine eV 1 1 ?_ ?_ (IH (rest,k+1,_,_) ⟨g2,h2,by dsimp only;omega,rfl⟩ (Nat.lt_succ_self _))
    ·(simp only[go_sem,hC,hE,hM,hY,aL cp];try exact cu)
    ·(simp only[go_sem,hC,hE,hM,hY,aL cp];try exact cu)
  ·simp only [b1,b2,Bool.not_false,Bool.and_true,if_true]at hG
   repeat' (first
 |simp only[go_sem,hC,hE,hM,hY,b1,b2]
 |(with_reducible refine CU (jN (l:=out) (by omega) name _ _) ?_)
 | (with_reducible refine aB hQ ?_;exact bj))
   refine eV 1 1 ?_ ?_ (bg.ind (ι:=List Ex×Nat×List aF×Nat) (fun i=>kids.drop i.2.1=i.1∧Ex.lP i.2.2.1 i.1=R∧i.2.2.1.length+Ex.bt i.1≤1000000000∧i.2.2.2=i.2.2.1.length) (fun i=>i.1.length)
    (fun i=> [(1, .slice (.tok 0) 1 (i.2.2.1.map encStr)),(2, .ptr 0 0),(23, .slice .shared 4 (kids.map bJ)),(24, .int .i64 (kids.length:Int)),(25, .int .i64 (i.2.1:Int))]) (fun i=>⟨[bJ ⟨op,m,name,kids⟩],[some i.2.2.2]⟩) ?_ (kids,0,(out++ [name]),(out.length+1)) ⟨rfl,hG,by simp;omega,by simp⟩)
   ·(simp only[go_sem,hC,hE,hM,hY,List.map_append,List.map_cons,List.map_nil,List.length_append,List.length_cons,List.length_nil,encStr];try exact cu)
   ·(simp only[go_sem,hC,hE,hM,hY,List.map_append,List.map_cons,List.map_nil,List.length_append,List.length_cons,List.length_nil,encStr];try exact cu)
   rintro⟨rest,k,cR,n'⟩ ⟨h1,h2,h3,h4⟩ IH
   dsimp only at h1 h2 h3 h4
   subst h4
   cases rest with
   |nil=>
    have hC:=drop_nil h1
    simp only[Ex.lP]at h2
    subst h2
    repeat' (first
 |simp only[go_sem,hC,hE,hM,hY]
 | (with_reducible refine aB hQ ?_;exact bj))
   |cons y rest=>
    obtain⟨hE,g2,hC,g4⟩:=drop_cons h1
    have cp:k<4611686018427387904:=by omega
    simp only[Ex.lP]at h2
    simp only[Ex.bt]at h3
    have hy:=fun {s:St} {t:Nat} (ht:s.aw[t]? = some (some cR.length))=>hk y (List.mem_of_getElem? hE) cR (by omega) ht
    have hl:=sE cR y
    repeat' (first
 |simp only[go_sem,hC,hE,hM,hY]
 |(with_reducible refine CU (hy (by with_unfolding_all rfl)) ?_)
 | (with_reducible refine aB hQ ?_;exact bj))
    refine eV 1 1 ?_ ?_ (IH (rest,k+1,_,_) ⟨g2,h2,by dsimp only;omega,rfl⟩ (Nat.lt_succ_self _))
    ·(simp only[go_sem,hC,hE,hM,hY,aL cp];try exact cu)
    ·(simp only[go_sem,hC,hE,hM,hY,aL cp];try exact cu)
 ·simp only [b1,Bool.false_and,Bool.false_eq_true,if_false]at hG
  repeat' (first
 |simp only[go_sem,hC,hE,hM,hY,b1]
 | (with_reducible refine aB hQ ?_;exact bj))
  refine dS 1 1 (bg.ind (ι:=List Ex×Nat×List aF×Nat) (fun i=>kids.drop i.2.1=i.1∧Ex.lP i.2.2.1 i.1=R∧i.2.2.1.length+Ex.bt i.1≤1000000000∧i.2.2.2=i.2.2.1.length) (fun i=>i.1.length)
   (fun i=> [(1, .slice (.tok 0) 1 (i.2.2.1.map encStr)),(2, .ptr 0 0),(23, .slice .shared 4 (kids.map bJ)),(24, .int .i64 (kids.length:Int)),(25, .int .i64 (i.2.1:Int))]) (fun i=>⟨[bJ ⟨op,m,name,kids⟩],[some i.2.2.2]⟩) ?_ (kids,0,out,out.length) ⟨rfl,hG,by simp;omega,by simp⟩)
  rintro⟨rest,k,cR,n'⟩ ⟨h1,h2,h3,h4⟩ IH
  dsimp only at h1 h2 h3 h4
  subst h4
  cases rest with
  |nil=>
   have hC:=drop_nil h1
   simp only[Ex.lP]at h2
   subst h2
   repeat' (first
 |simp only[go_sem,hC,hE,hM,hY]
 | (with_reducible refine aB hQ ?_;exact bj))
  |cons y rest=>
   obtain⟨hE,g2,hC,g4⟩:=drop_cons h1
   have cp:k<4611686018427387904:=by omega
   simp only[Ex.lP]at h2
   simp only[Ex.bt]at h3
   have hy:=fun {s:St} {t:Nat} (ht:s.aw[t]? = some (some cR.length))=>hk y (List.mem_of_getElem? hE) cR (by omega) ht
   have hl:=sE cR y
   repeat' (first
 |simp only[go_sem,hC,hE,hM,hY]
 |(with_reducible refine CU (hy (by with_unfolding_all rfl)) ?_)
 | (with_reducible refine aB hQ ?_;exact bj))
   refine eV 1 1 ?_ ?_ (IH (rest,k+1,_,_) ⟨g2,h2,by dsimp only;omega,rfl⟩ (Nat.lt_succ_self _))
   ·(simp only[go_sem,hC,hE,hM,hY,aL cp];try exact cu)
   ·(simp only[go_sem,hC,hE,hM,hY,aL cp];try exact cu)
theorem W1 : ∀ N,TL N:=by
 intro N
 induction N with
 |zero=>rintro⟨op,m,name,kids⟩ h;simp only[Ex.size]at h;omega
 |succ N ih=>
  rintro⟨op,m,name,kids⟩ h out ho s t ht
  exact(aeJ ih h ho).akB (pre:= [_]) (post:= []) (by simp only[D.bI,D.ok,gW];rfl) rfl (eF out) (eF _) ht
abbrev atl (N:Nat):Prop:=∀ (x:Ex),x.size≤N→∀ out:List aF,out.length+x.size≤1000000000→∀ {s:St} {t:Nat},s.aw[t]? = some (some out.length)→
 az Tryz.prog MG [.agg (bJ x), .slice (.tok t) 1 (out.map encStr)] s (.slice (.tok t) 1 ((x.mI out).map encStr)) ⟨s.ah,s.aw.set t (some (x.mI out).length)⟩
theorem TN {op m:Int} {name:aF} {kids:List Ex} (h:Ex.form ⟨op,m,name,kids⟩=true) (h2:(op==2)=true):kids = []:=by
 have e:op=2:=by simpa using h2
 subst e
 simp only[Ex.form]at h
 split at h
 ·cases h
 ·rename_i hh
  simp only[Bool.or_eq_true,not_or,bne_iff_ne,ne_eq,Decidable.not_not]at hh
  have:=hh.1.1.1.1
  have e:lK 2=0:=rfl
  rw[e]at this
  exact List.length_eq_zero_iff.1 (by omega)
theorem W2 {op m:Int} {name:aF} {kids:List Ex} (hf:(op==2)=true→kids = []) (ho:Ex.size ⟨op,m,name,kids⟩≤1000000000) (s:St) :
 az Tryz.prog iW [.agg (bJ ⟨op,m,name,kids⟩), .slice .full 0 []] s (.slice .shared 1 ((Ex.mI [] ⟨op,m,name,kids⟩).map encStr)) s:=by
 refine az.pure ?_ (by simp only[D.bI,D.ok,gW];rfl) (by simp only[D.ok,Tag.ok,eF];rfl) s
 obtain⟨R,hG⟩ : ∃ R,Ex.mI [] ⟨op,m,name,kids⟩=R:=⟨_,rfl⟩
 rw[hG]
 simp only[Ex.mI]at hG
 simp only[Ex.size]at ho
 have hlen:kids.length<1000000000:=by have:=Ex.eo kids;omega
 have hk : ∀ y∈kids,∀ out:List aF,out.length+y.size≤1000000000→∀ {s:St} {t:Nat},s.aw[t]? = some (some out.length)→
  az Tryz.prog iW [.agg (bJ y), .slice (.tok t) 1 (out.map encStr)] s (.slice (.tok t) 1 ((y.mI out).map encStr)) ⟨s.ah,s.aw.set t (some (y.mI out).length)⟩:=fun y hy out ho=>
  W1 y.size y (Nat.le_refl _) out ho
 unfold S0
 rcases Bool.eq_false_or_eq_true (op==2)with b1|b1
 ·have hk0:=hf b1
  subst hk0
  have e:fw [] name=false:=rfl
  simp only[b1,e,Bool.not_false,Bool.and_true,if_true,Ex.lP,List.nil_append]at hG
  subst hG
  refine az.go rU rfl fun B Q hB hQ=>?_
  have⟨hC,hE,hM,hY⟩:=bE
  have hM:17≤bA:=by unfold bA;omega
  repeat' (first
 |simp only[go_sem,hC,hE,hM,hY,b1,List.map_nil,List.map_cons,List.length_nil,encStr,Int.natCast_zero,Int.lt_irrefl,decide_false]
 |(with_reducible refine CU (KZ name _ _ _) ?_)
 |(with_reducible refine bg.kB ?_)
 |(with_reducible refine aB hQ ?_;exact bj))
 ·simp only [b1,Bool.false_and,Bool.false_eq_true,if_false]at hG
  refine az.go rU rfl fun B Q hB hQ=>?_
  have⟨hC,hE,hM,hY⟩:=bE
  repeat' (first
 |simp only[go_sem,hC,hE,hM,hY,b1]
 | (with_reducible refine aB hQ ?_;exact bj))
  refine bg.p8 1 1 rfl ?_
  simp only[go_sem,hC,hE,hM,hY]
  refine dS 1 1 (bg.ind (ι:=List Ex×Nat×List aF×Nat) (fun i=>kids.drop i.2.1=i.1∧Ex.lP i.2.2.1 i.1=R∧i.2.2.1.length+Ex.bt i.1≤1000000000∧i.2.2.2=i.2.2.1.length) (fun i=>i.1.length)
   (fun i=> [(1, .slice (.tok 0) 1 (i.2.2.1.map encStr)),(2, .ptr 0 0),(23, .slice .shared 4 (kids.map bJ)),(24, .int .i64 (kids.length:Int)),(25, .int .i64 (i.2.1:Int))]) (fun i=>⟨[bJ ⟨op,m,name,kids⟩],[some i.2.2.2]⟩) ?_ (kids,0,[],0) ⟨rfl,hG,by simp;omega,by simp⟩)
  rintro⟨rest,k,cR,n'⟩ ⟨h1,h2,h3,h4⟩ IH
  dsimp only at h1 h2 h3 h4
  subst h4
  cases rest with
  |nil=>
   have hC:=drop_nil h1
   simp only[Ex.lP]at h2
   subst h2
   repeat' (first
 |simp only[go_sem,hC,hE,hM,hY]
 | (with_reducible refine aB hQ ?_;exact bj))
  |cons y rest=>
   obtain⟨hE,g2,hC,g4⟩:=drop_cons h1
   have cp:k<4611686018427387904:=by omega
   simp only[Ex.lP]at h2
   simp only[Ex.bt]at h3
   have hy:=fun {s:St} {t:Nat} (ht:s.aw[t]? = some (some cR.length))=>hk y (List.mem_of_getElem? hE) cR (by omega) ht
   have hl:=sE cR y
   repeat' (first
 |simp only[go_sem,hC,hE,hM,hY]
 |(with_reducible refine CU (hy (by with_unfolding_all rfl)) ?_)
 | (with_reducible refine aB hQ ?_;exact bj))
   refine eV 1 1 ?_ ?_ (IH (rest,k+1,_,_) ⟨g2,h2,by dsimp only;omega,rfl⟩ (Nat.lt_succ_self _))
   ·(simp only[go_sem,hC,hE,hM,hY,aL cp];try exact cu)
   ·(simp only[go_sem,hC,hE,hM,hY,aL cp];try exact cu)
theorem nD {x:Ex} (hx:x.size≤1000000000) (ht:x.texts) (s:St):az Tryz.prog rO [.agg (bJ x)] s (.slice .shared 1 (x.names.map encStr)) s:=by
 refine az.pure ?_ (by simp only[D.bI,D.ok,gW];rfl) (by simp only[D.ok,Tag.ok,eF];rfl) s
 have hm:=fun s=>zO (x:=x) (by omega) ht s
 simp only[Fu]at hm
 unfold Ex.names
 unfold S0
 cases hb:x.may
 ·simp only [hb]at hm
  simp only[Bool.false_eq_true,if_false,List.map_nil]
  refine az.go yB rfl fun B Q hB hQ=>?_
  have⟨hC,hE,hM,hY⟩:=bE
  repeat' (first
 |simp only[go_sem,hC,hE,hM,hY]
 |(with_reducible refine CU (hm _) ?_)
 |(with_reducible refine aB hQ ?_;exact bj))
 ·simp only [hb]at hm
  simp only[if_true]
  have hg : ∀ s,az Tryz.prog iW [.agg (bJ x), .slice .full 0 []] s (.slice .shared 1 ((x.mI []).map encStr)) s:=by
   intro s
   obtain⟨op,m,name,kids⟩:=x
   exact W2 (fun h2=>TN (by simp only[Ex.may,Bool.and_eq_true]at hb;exact hb.2) h2) hx s
  refine az.go yB rfl fun B Q hB hQ=>?_
  have⟨hC,hE,hM,hY⟩:=bE
  repeat' (first
 |simp only[go_sem,hC,hE,hM,hY]
 |(with_reducible refine CU (hm _) ?_)
 |(with_reducible refine CU (hg _) ?_)
 |(with_reducible refine aB hQ ?_;exact bj))
def Ar.said (out:List aF):List Ar→List aF
 | []=>out
 |a::l=>Ar.said ((if a.ref then out++ [a.name]else out)++a.x.names) l
def Sm.s7 (v:Sm):List aF:=if v.kind != 10 && v.name != []then [v.name]else []
def Sm.said (v:Sm):List aF:=Ar.said (v.s7++v.x.names) v.args
theorem lq (x:Ex):x.names.length≤x.size:=by
 unfold Ex.names
 split
 ·simpa using sE [] x
 ·exact Nat.zero_le _
def Ar.yL:List Ar→Prop
 | []=>True
 |a::l=>a.x.texts∧Ar.yL l
def Sm.nE (v:Sm):Prop:=v.x.texts∧(∀ a∈v.args,a.x.texts)∧v.x.size+Ar.bt v.args<1000000
theorem kU {l nx:List aF} {n:Nat} (hn:n=l.length) (h:l.length+nx.length≤1000000000) {g:Tag} (o:List (List D)) :
 gw 1 16 (.slice (.tok 0) 1 (l.map encStr)) (.slice g 1 (nx.map encStr)) ⟨o,[some n]⟩=some (.slice (.tok 0) 1 ((l++nx).map encStr),⟨o,[some (l++nx).length]⟩):=by
 subst hn
 have:=pf (size:=1) (bytes:=16) (t:=0) (rows:=l.map encStr) (new:=nx.map encStr) (g:=g) (s:=⟨o,[some l.length]⟩) (by simp only[List.length_map];unfold bA;omega) (by simp)
 rw[this]
 simp
theorem BQ {v:Sm} (hv:v.nE) (s:St):az Tryz.prog rM [.agg (bb v)] s (.slice .shared 1 (v.said.map encStr)) s:=by
 refine az.pure ?_ (by simp only[D.bI,D.ok,nj];rfl) (by simp only[D.ok,Tag.ok,eF];rfl) s
 obtain⟨BR,tL,ej⟩:=hv
 obtain⟨R,hG⟩ : ∃ R,v.said=R:=⟨_,rfl⟩
 rw[hG]
 simp only[Sm.said]at hG
 have hlen:v.args.length<1000000000:=by have:=Ar.eo v.args;omega
 have hx:=fun s=>nD (x:=v.x) (by omega) BR s
 have Nq:=lq v.x
 unfold S0
 refine az.go Gz rfl fun B Q hB hQ=>?_
 have⟨hC,hE,hM,hY⟩:=bE
 have hM:17≤bA:=by unfold bA;omega
 by_cases hb:(v.kind != 10 && v.name != [])=true
 ·simp only [Sm.s7,hb,if_true]at hG
  rw[Bool.and_eq_true]at hb
  obtain⟨b1,b2⟩:=hb
  have eU:=kU (l:= [v.name]) (nx:=v.x.names) (n:=1) rfl (by simp;omega) (g:= .shared)
  simp only[List.map_append,List.map_cons,List.map_nil,encStr]at eU
  have b3:(v.name == [])=false:=by simpa using b2
  repeat' (first
 |simp only[go_sem,hC,hE,hM,hY,b1,b2,b3,eU]
 |(with_reducible refine CU (hx _) ?_)
 | (with_reducible refine aB hQ ?_;exact bj))
  refine eV 1 1 ?_ ?_ (bg.ind (ι:=List Ar×Nat×List aF×Nat) (fun i=>v.args.drop i.2.1=i.1∧Ar.said i.2.2.1 i.1=R∧i.2.2.1.length+Ar.bt i.1≤2000000∧i.2.2.2=i.2.2.1.length) (fun i=>i.1.length)
   (fun i=> [(3, .slice (.tok 0) 1 (i.2.2.1.map encStr)),(1, .ptr 0 0),(25, .slice .shared 6 (v.args.map eG)),(26, .int .i64 (v.args.length:Int)),(27, .int .i64 (i.2.1:Int))]) (fun i=>⟨[bb v],[some i.2.2.2]⟩) ?_ (v.args,0,([v.name]++v.x.names),(v.x.names.length+1)) ⟨rfl,hG,by simp at Nq ⊢;omega,by simp⟩)
  ·(simp only[go_sem,hC,hE,hM,hY,List.map_append,List.map_cons,List.map_nil,encStr];try exact cu)
  ·(simp only[go_sem,hC,hE,hM,hY,List.map_append,List.map_cons,List.map_nil,encStr];try exact cu)
  rintro⟨rest,k,out,n'⟩ ⟨h1,h2,h3,h4⟩ IH
  dsimp only at h1 h2 h3 h4
  subst h4
  cases rest with
  |nil=>
   have hC:=drop_nil h1
   simp only[Ar.said]at h2
   subst h2
   repeat' (first
 |simp only[go_sem,hC,hE,hM,hY]
 | (with_reducible refine aB hQ ?_;exact bj))
  | cons a rest=>
   obtain⟨hE,g2,hC,g4⟩:=drop_cons h1
   have cp:k<4611686018427387904:=by omega
   simp only[Ar.said]at h2
   simp only[Ar.bt]at h3
   have wY:=fun s=>nD (x:=a.x) (by have:=Ar.dg (List.mem_of_getElem? hE);omega) (tL a (List.mem_of_getElem? hE)) s
   have hl:=lq a.x
   have hM:(out.length+1)*17≤bA:=by unfold bA;omega
   rcases Bool.eq_false_or_eq_true a.ref with b1|b1
   ·simp only [b1,if_true]at h2
    have eU:=kU (l:=out++ [a.name]) (nx:=a.x.names) (n:=out.length+1) (by simp) (by simp;omega) (g:= .shared)
    simp only[List.map_append,List.map_cons,List.map_nil,encStr]at eU
    repeat' (first
 |simp only[go_sem,hC,hE,hM,hY,b1,eU]
 |(with_reducible refine CU (wY _) ?_)
 | (with_reducible refine aB hQ ?_;exact bj))
    refine eV 1 1 ?_ ?_ (IH (rest,k+1,out++ [a.name]++a.x.names,_) ⟨g2,h2,by simp;omega,by simp<;>omega⟩ (Nat.lt_succ_self _))
    ·(simp only[go_sem,hC,hE,hM,hY,aL cp,List.map_append,List.map_cons,List.map_nil,encStr];try exact cu)
    ·(simp only[go_sem,hC,hE,hM,hY,aL cp,List.map_append,List.map_cons,List.map_nil,encStr];try exact cu)
   ·simp only [b1,Bool.false_eq_true,if_false]at h2
    have eU:=kU (l:=out) (nx:=a.x.names) rfl (by omega) (g:= .shared)
    repeat' (first
 |simp only[go_sem,hC,hE,hM,hY,b1,eU]
 |(with_reducible refine CU (wY _) ?_)
 | (with_reducible refine aB hQ ?_;exact bj))
    refine eV 1 1 ?_ ?_ (IH (rest,k+1,out++a.x.names,_) ⟨g2,h2,by simp;omega,by simp<;>omega⟩ (Nat.lt_succ_self _))
    ·(simp only[go_sem,hC,hE,hM,hY,aL cp];try exact cu)
    ·(simp only[go_sem,hC,hE,hM,hY,aL cp];try exact cu)
 ·simp only [Sm.s7,hb,Bool.false_eq_true,if_false,List.nil_append]at hG
  have sg:(v.kind != 10 && v.name != [])=false:=by simpa using hb
  obtain⟨nx,hnx⟩ : ∃ nx,nx=v.x.names:=⟨_,rfl⟩
  rw[← hnx]at hG Nq
  simp only[← hnx]at hx
  by_cases JU:nx = []
  ·subst JU
   simp only[List.map_nil]at hx
   have eU : ∀ o:List (List D),gw 1 16 (.slice .full 0 []) (.slice .shared 1 []) ⟨o,[]⟩=some (.slice .full 0 [],⟨o,[]⟩):=fun o=>by simp[gw,bA]
   have HB:(v.kind != 10)=false∨(v.kind != 10)=true∧(v.name != [])=false:=by
    cases h1:(v.kind != 10)
    ·exact .inl rfl
    ·rw[h1]at sg;exact .inr ⟨rfl,by simpa using sg⟩
   rcases HB with b1|⟨b1,b2⟩
   ·rcases Bool.eq_false_or_eq_true (v.name != [])with b2 | b2
    all_goals
     have b3:(v.name == []) = !(v.name != []):=by simp only[bne,Bool.not_not]
     rw[b2]at b3
     repeat' (first
 |simp only[go_sem,hC,hE,hM,hY,b1,b2,b3,Bool.not_true,Bool.not_false,eU]
 |(with_reducible refine CU (hx _) ?_)
 | (with_reducible refine aB hQ ?_;simp only [aR,aS,bo,bp,go_sem,hC,hE,hM,hY];repeat' (first | exact Ok.out | with_reducible refine eP ?_ ?_ | (simp;done))))
    all_goals
     refine bg.p8 3 1 rfl ?_
     simp only[go_sem,hC,hE,hM,hY]
     refine dS 1 1 (bg.ind (ι:=List Ar×Nat×List aF×Nat) (fun i=>v.args.drop i.2.1=i.1∧Ar.said i.2.2.1 i.1=R∧i.2.2.1.length+Ar.bt i.1≤2000000∧i.2.2.2=i.2.2.1.length) (fun i=>i.1.length)
      (fun i=> [(3, .slice (.tok 0) 1 (i.2.2.1.map encStr)),(1, .ptr 0 0),(25, .slice .shared 6 (v.args.map eG)),(26, .int .i64 (v.args.length:Int)),(27, .int .i64 (i.2.1:Int))]) (fun i=>⟨[bb v],[some i.2.2.2]⟩) ?_ (v.args,0,[],0) ⟨rfl,hG,by simp at Nq ⊢;omega,by simp⟩)
     rintro⟨rest,k,out,n'⟩ ⟨h1,h2,h3,h4⟩ IH
     dsimp only at h1 h2 h3 h4
     subst h4
     cases rest with
     |nil=>
      have hC:=drop_nil h1
      simp only[Ar.said]at h2
      subst h2
      repeat' (first
 |simp only[go_sem,hC,hE,hM,hY]
 |(with_reducible refine aB hQ ?_;exact bj))
     | cons a rest=>
      obtain⟨hE,g2,hC,g4⟩:=drop_cons h1
      have cp:k<4611686018427387904:=by omega
      simp only[Ar.said]at h2
      simp only[Ar.bt]at h3
      have wY:=fun s=>nD (x:=a.x) (by have:=Ar.dg (List.mem_of_getElem? hE);omega) (tL a (List.mem_of_getElem? hE)) s
      have hl:=lq a.x
      have hM:(out.length+1)*17≤bA:=by unfold bA;omega
      rcases Bool.eq_false_or_eq_true a.ref with b1|b1
      ·simp only [b1,if_true]at h2
       have eU:=kU (l:=out++ [a.name]) (nx:=a.x.names) (n:=out.length+1) (by simp) (by simp;omega) (g:= .shared)
       simp only[List.map_append,List.map_cons,List.map_nil,encStr]at eU
       repeat' (first
 |simp only[go_sem,hC,hE,hM,hY,b1,eU]
 |(with_reducible refine CU (wY _) ?_)
 |(with_reducible refine aB hQ ?_;exact bj))
       refine eV 1 1 ?_ ?_ (IH (rest,k+1,out++ [a.name]++a.x.names,_) ⟨g2,h2,by simp;omega,by simp<;>omega⟩ (Nat.lt_succ_self _))
       ·(simp only[go_sem,hC,hE,hM,hY,aL cp,List.map_append,List.map_cons,List.map_nil,encStr];try exact cu)
       ·(simp only[go_sem,hC,hE,hM,hY,aL cp,List.map_append,List.map_cons,List.map_nil,encStr];try exact cu)
      ·simp only [b1,Bool.false_eq_true,if_false]at h2
       have eU:=kU (l:=out) (nx:=a.x.names) rfl (by omega) (g:= .shared)
       repeat' (first
 |simp only[go_sem,hC,hE,hM,hY,b1,eU]
 |(with_reducible refine CU (wY _) ?_)
 | (with_reducible refine aB hQ ?_;exact bj))
       refine eV 1 1 ?_ ?_ (IH (rest,k+1,out++a.x.names,_) ⟨g2,h2,by simp;omega,by simp<;>omega⟩ (Nat.lt_succ_self _))
       ·(simp only[go_sem,hC,hE,hM,hY,aL cp];try exact cu)
       ·(simp only[go_sem,hC,hE,hM,hY,aL cp];try exact cu)
   ·have b3:(v.name == [])=true:=by simpa using b2
    repeat' (first
 |simp only[go_sem,hC,hE,hM,hY,b1,b2,b3,eU]
 |(with_reducible refine CU (hx _) ?_)
 | (with_reducible refine aB hQ ?_;exact bj))
    refine bg.p8 3 1 rfl ?_
    simp only[go_sem,hC,hE,hM,hY]
    refine dS 1 1 (bg.ind (ι:=List Ar×Nat×List aF×Nat) (fun i=>v.args.drop i.2.1=i.1∧Ar.said i.2.2.1 i.1=R∧i.2.2.1.length+Ar.bt i.1≤2000000∧i.2.2.2=i.2.2.1.length) (fun i=>i.1.length)
     (fun i=> [(3, .slice (.tok 0) 1 (i.2.2.1.map encStr)),(1, .ptr 0 0),(25, .slice .shared 6 (v.args.map eG)),(26, .int .i64 (v.args.length:Int)),(27, .int .i64 (i.2.1:Int))]) (fun i=>⟨[bb v],[some i.2.2.2]⟩) ?_ (v.args,0,[],0) ⟨rfl,hG,by simp at Nq ⊢;omega,by simp⟩)
    rintro⟨rest,k,out,n'⟩ ⟨h1,h2,h3,h4⟩ IH
    dsimp only at h1 h2 h3 h4
    subst h4
    cases rest with
    |nil=>
     have hC:=drop_nil h1
     simp only[Ar.said]at h2
     subst h2
     repeat' (first
 |simp only[go_sem,hC,hE,hM,hY]
 | (with_reducible refine aB hQ ?_;exact bj))
    | cons a rest=>
     obtain⟨hE,g2,hC,g4⟩:=drop_cons h1
     have cp:k<4611686018427387904:=by omega
     simp only[Ar.said]at h2
     simp only[Ar.bt]at h3
     have wY:=fun s=>nD (x:=a.x) (by have:=Ar.dg (List.mem_of_getElem? hE);omega) (tL a (List.mem_of_getElem? hE)) s
     have hl:=lq a.x
     have hM:(out.length+1)*17≤bA:=by unfold bA;omega
     rcases Bool.eq_false_or_eq_true a.ref with b1|b1
     ·simp only [b1,if_true]at h2
      have eU:=kU (l:=out++ [a.name]) (nx:=a.x.names) (n:=out.length+1) (by simp) (by simp;omega) (g:= .shared)
      simp only[List.map_append,List.map_cons,List.map_nil,encStr]at eU
      repeat' (first
 |simp only[go_sem,hC,hE,hM,hY,b1,eU]
 |(with_reducible refine CU (wY _) ?_)
 |(with_reducible refine aB hQ ?_;exact bj))
      refine eV 1 1 ?_ ?_ (IH (rest,k+1,out++ [a.name]++a.x.names,_) ⟨g2,h2,by simp;omega,by simp<;>omega⟩ (Nat.lt_succ_self _))
      ·(simp only[go_sem,hC,hE,hM,hY,aL cp,List.map_append,List.map_cons,List.map_nil,encStr];try exact cu)
      ·(simp only[go_sem,hC,hE,hM,hY,aL cp,List.map_append,List.map_cons,List.map_nil,encStr];try exact cu)
     ·simp only [b1,Bool.false_eq_true,if_false]at h2
      have eU:=kU (l:=out) (nx:=a.x.names) rfl (by omega) (g:= .shared)
      repeat' (first
 |simp only[go_sem,hC,hE,hM,hY,b1,eU]
 |(with_reducible refine CU (wY _) ?_)
 | (with_reducible refine aB hQ ?_;exact bj))
      refine eV 1 1 ?_ ?_ (IH (rest,k+1,out++a.x.names,_) ⟨g2,h2,by simp;omega,by simp<;>omega⟩ (Nat.lt_succ_self _))
      ·(simp only[go_sem,hC,hE,hM,hY,aL cp];try exact cu)
      ·(simp only[go_sem,hC,hE,hM,hY,aL cp];try exact cu)
  ·have eU : ∀ o:List (List D),gw 1 16 (.slice .full 0 []) (.slice .shared 1 (nx.map encStr)) ⟨o,[]⟩=some (.slice (.tok 0) 1 (nx.map encStr),⟨o,[some nx.length]⟩):=fun o=>by
    have:nx.length*17≤bA:=by unfold bA;omega
    cases nx with
    |nil=>exact absurd rfl JU
    |cons a r=>simp only[List.length_cons]at this;simp[gw,this]
   have HB:(v.kind != 10)=false∨(v.kind != 10)=true∧(v.name != [])=false:=by
    cases h1:(v.kind != 10)
    ·exact .inl rfl
    ·rw[h1]at sg;exact .inr ⟨rfl,by simpa using sg⟩
   rcases HB with b1|⟨b1,b2⟩
   ·rcases Bool.eq_false_or_eq_true (v.name != [])with b2 | b2
    all_goals
     have b3:(v.name == []) = !(v.name != []):=by simp only[bne,Bool.not_not]
     rw[b2]at b3
     repeat' (first
 |simp only[go_sem,hC,hE,hM,hY,b1,b2,b3,Bool.not_true,Bool.not_false,eU]
 |(with_reducible refine CU (hx _) ?_)
 | (with_reducible refine aB hQ ?_;simp only [aR,aS,bo,bp,go_sem,hC,hE,hM,hY];repeat' (first | exact Ok.out | with_reducible refine eP ?_ ?_ | (simp;done))))
    all_goals
     refine dS 1 1 (bg.ind (ι:=List Ar×Nat×List aF×Nat) (fun i=>v.args.drop i.2.1=i.1∧Ar.said i.2.2.1 i.1=R∧i.2.2.1.length+Ar.bt i.1≤2000000∧i.2.2.2=i.2.2.1.length) (fun i=>i.1.length)
      (fun i=> [(3, .slice (.tok 0) 1 (i.2.2.1.map encStr)),(1, .ptr 0 0),(25, .slice .shared 6 (v.args.map eG)),(26, .int .i64 (v.args.length:Int)),(27, .int .i64 (i.2.1:Int))]) (fun i=>⟨[bb v],[some i.2.2.2]⟩) ?_ (v.args,0,nx,_) ⟨rfl,hG,by simp at Nq ⊢;omega,by simp⟩)
     rintro⟨rest,k,out,n'⟩ ⟨h1,h2,h3,h4⟩ IH
     dsimp only at h1 h2 h3 h4
     subst h4
     cases rest with
     |nil=>
      have hC:=drop_nil h1
      simp only[Ar.said]at h2
      subst h2
      repeat' (first
 |simp only[go_sem,hC,hE,hM,hY]
 |(with_reducible refine aB hQ ?_;exact bj))
     | cons a rest=>
      obtain⟨hE,g2,hC,g4⟩:=drop_cons h1
      have cp:k<4611686018427387904:=by omega
      simp only[Ar.said]at h2
      simp only[Ar.bt]at h3
      have wY:=fun s=>nD (x:=a.x) (by have:=Ar.dg (List.mem_of_getElem? hE);omega) (tL a (List.mem_of_getElem? hE)) s
      have hl:=lq a.x
      have hM:(out.length+1)*17≤bA:=by unfold bA;omega
      rcases Bool.eq_false_or_eq_true a.ref with b1|b1
      ·simp only [b1,if_true]at h2
       have eU:=kU (l:=out++ [a.name]) (nx:=a.x.names) (n:=out.length+1) (by simp) (by simp;omega) (g:= .shared)
       simp only[List.map_append,List.map_cons,List.map_nil,encStr]at eU
       repeat' (first
 |simp only[go_sem,hC,hE,hM,hY,b1,eU]
 |(with_reducible refine CU (wY _) ?_)
 |(with_reducible refine aB hQ ?_;exact bj))
       refine eV 1 1 ?_ ?_ (IH (rest,k+1,out++ [a.name]++a.x.names,_) ⟨g2,h2,by simp;omega,by simp<;>omega⟩ (Nat.lt_succ_self _))
       ·(simp only[go_sem,hC,hE,hM,hY,aL cp,List.map_append,List.map_cons,List.map_nil,encStr];try exact cu)
       ·(simp only[go_sem,hC,hE,hM,hY,aL cp,List.map_append,List.map_cons,List.map_nil,encStr];try exact cu)
      ·simp only [b1,Bool.false_eq_true,if_false]at h2
       have eU:=kU (l:=out) (nx:=a.x.names) rfl (by omega) (g:= .shared)
       repeat' (first
 |simp only[go_sem,hC,hE,hM,hY,b1,eU]
 |(with_reducible refine CU (wY _) ?_)
 | (with_reducible refine aB hQ ?_;exact bj))
       refine eV 1 1 ?_ ?_ (IH (rest,k+1,out++a.x.names,_) ⟨g2,h2,by simp;omega,by simp<;>omega⟩ (Nat.lt_succ_self _))
       ·(simp only[go_sem,hC,hE,hM,hY,aL cp];try exact cu)
       ·(simp only[go_sem,hC,hE,hM,hY,aL cp];try exact cu)
   ·have b3:(v.name == [])=true:=by simpa using b2
    repeat' (first
 |simp only[go_sem,hC,hE,hM,hY,b1,b2,b3,eU]
 |(with_reducible refine CU (hx _) ?_)
 | (with_reducible refine aB hQ ?_;exact bj))
    refine dS 1 1 (bg.ind (ι:=List Ar×Nat×List aF×Nat) (fun i=>v.args.drop i.2.1=i.1∧Ar.said i.2.2.1 i.1=R∧i.2.2.1.length+Ar.bt i.1≤2000000∧i.2.2.2=i.2.2.1.length) (fun i=>i.1.length)
     (fun i=> [(3, .slice (.tok 0) 1 (i.2.2.1.map encStr)),(1, .ptr 0 0),(25, .slice .shared 6 (v.args.map eG)),(26, .int .i64 (v.args.length:Int)),(27, .int .i64 (i.2.1:Int))]) (fun i=>⟨[bb v],[some i.2.2.2]⟩) ?_ (v.args,0,nx,_) ⟨rfl,hG,by simp at Nq ⊢;omega,by simp⟩)
    rintro⟨rest,k,out,n'⟩ ⟨h1,h2,h3,h4⟩ IH
    dsimp only at h1 h2 h3 h4
    subst h4
    cases rest with
    |nil=>
     have hC:=drop_nil h1
     simp only[Ar.said]at h2
     subst h2
     repeat' (first
 |simp only[go_sem,hC,hE,hM,hY]
 | (with_reducible refine aB hQ ?_;exact bj))
    | cons a rest=>
     obtain⟨hE,g2,hC,g4⟩:=drop_cons h1
     have cp:k<4611686018427387904:=by omega
     simp only[Ar.said]at h2
     simp only[Ar.bt]at h3
     have wY:=fun s=>nD (x:=a.x) (by have:=Ar.dg (List.mem_of_getElem? hE);omega) (tL a (List.mem_of_getElem? hE)) s
     have hl:=lq a.x
     have hM:(out.length+1)*17≤bA:=by unfold bA;omega
     rcases Bool.eq_false_or_eq_true a.ref with b1|b1
     ·simp only [b1,if_true]at h2
      have eU:=kU (l:=out++ [a.name]) (nx:=a.x.names) (n:=out.length+1) (by simp) (by simp;omega) (g:= .shared)
      simp only[List.map_append,List.map_cons,List.map_nil,encStr]at eU
      repeat' (first
 |simp only[go_sem,hC,hE,hM,hY,b1,eU]
 |(with_reducible refine CU (wY _) ?_)
 |(with_reducible refine aB hQ ?_;exact bj))
      refine eV 1 1 ?_ ?_ (IH (rest,k+1,out++ [a.name]++a.x.names,_) ⟨g2,h2,by simp;omega,by simp<;>omega⟩ (Nat.lt_succ_self _))
      ·(simp only[go_sem,hC,hE,hM,hY,aL cp,List.map_append,List.map_cons,List.map_nil,encStr];try exact cu)
      ·(simp only[go_sem,hC,hE,hM,hY,aL cp,List.map_append,List.map_cons,List.map_nil,encStr];try exact cu)
     ·simp only [b1,Bool.false_eq_true,if_false]at h2
      have eU:=kU (l:=out) (nx:=a.x.names) rfl (by omega) (g:= .shared)
      repeat' (first
 |simp only[go_sem,hC,hE,hM,hY,b1,eU]
 |(with_reducible refine CU (wY _) ?_)
 |(with_reducible refine aB hQ ?_;exact bj))
      refine eV 1 1 ?_ ?_ (IH (rest,k+1,out++a.x.names,_) ⟨g2,h2,by simp;omega,by simp<;>omega⟩ (Nat.lt_succ_self _))
      ·(simp only[go_sem,hC,hE,hM,hY,aL cp];try exact cu)
      ·(simp only[go_sem,hC,hE,hM,hY,aL cp];try exact cu)
theorem ld : ∀ (a b:List It) (n:Nat),It.fq n (a++b)=(It.fq n a && It.fq (n+a.length) b)
 | [],b,n=>by simp[It.fq]
 |i::a,b,n=>by
  simp only[List.cons_append,It.fq,ld a b (n+1),List.length_cons]
  have:n+1+a.length=n+(a.length+1):=by omega
  rw[this]
  split<;>simp
theorem Fw (n:Nat) (i:It):It.fq n [i] = true↔i.s.id=((n+1:Nat):Int)∧i.deep≤12∧i.s.one=true:=by
 simp only[It.fq]
 split
 ·rename_i h
  simp only[Bool.or_eq_true,bne_iff_ne,ne_eq,decide_eq_true_eq,Bool.not_eq_true']at h
  refine⟨fun h=>(Bool.false_ne_true h).elim,fun⟨h1,h2,h3⟩=>?_⟩
  rcases h with (h|h)|h
  ·exact(h h1).elim
  ·omega
  ·rw[h]at h3;cases h3
 ·rename_i h
  simp only[Bool.or_eq_true,bne_iff_ne,ne_eq,decide_eq_true_eq,Bool.not_eq_true',not_or,Decidable.not_not,Bool.not_eq_false]at h
  exact⟨fun _=>⟨h.1.1,by omega,h.2⟩,fun _=>rfl⟩
mutual
theorem BS (deep dG:Int) (bd:Bool) : ∀ (s:Sm) (out:List It),∃ new,kC deep dG bd out s=out++(⟨s,deep,dG,bd⟩::new)
 | ⟨id,kind,labels,name,proc,x,has,args,bm,e⟩,out=>by
  simp only[kC]
  split
  ·obtain⟨n1,h1⟩:=q7 (deep+1) id false bm (out++ [⟨⟨id,kind,labels,name,proc,x,has,args,bm,e⟩,deep,dG,bd⟩])
   obtain⟨n2,h2⟩:=q7 (deep+1) id true e (fS (deep+1) id false (out++ [⟨⟨id,kind,labels,name,proc,x,has,args,bm,e⟩,deep,dG,bd⟩]) bm)
   rw[h2,h1]
   exact⟨n1++n2,by simp⟩
  ·exact⟨[],rfl⟩
theorem q7 (deep dG:Int) (bd:Bool) : ∀ (l:List Sm) (out:List It),∃ new,fS deep dG bd out l=out++new
 | [],out=>⟨[],by simp[fS]⟩
 | s::l,out=>by
  simp only[fS]
  split
  ·obtain⟨n1,h1⟩:=BS deep dG bd s out
   obtain⟨n2,h2⟩:=q7 deep dG bd l (kC deep dG bd out s)
   rw[h2,h1]
   exact⟨⟨s,deep,dG,bd⟩::n1++n2,by simp⟩
  ·exact⟨[],by simp⟩
end
theorem HM {nest:Int} {n:Nat} {s:Sm} (h:(Sm.qc nest n s).1=true) :
 n+1≤200∧s.id=((n+1:Nat):Int)∧s.one=true∧(Sm.gD (nest+1) (n+1) s.bm).1=true∧(Sm.gD (nest+1) (Sm.gD (nest+1) (n+1) s.bm).2 s.bd).1=true∧
 (Sm.qc nest n s).2=(Sm.gD (nest+1) (Sm.gD (nest+1) (n+1) s.bm).2 s.bd).2:=by
 rw[GU]at h ⊢
 split at h
 ·cases h
 rename_i h1
 simp only[Bool.or_eq_true,bne_iff_ne,ne_eq,decide_eq_true_eq,Bool.not_eq_true',not_or,Decidable.not_not,Bool.not_eq_false]at h1
 split at h
 ·cases h
 rename_i h2
 have uF:(Sm.gD (nest+1) (n+1) s.bm).1=true:=by simpa using h2
 refine⟨by omega,h1.1.1.2, ?_,uF,h, ?_⟩
 ·rw[Fv,h1.1.2,h1.2];rfl
 ·rw[if_neg (by simp only[Bool.or_eq_true,bne_iff_ne,ne_eq,decide_eq_true_eq,Bool.not_eq_true',not_or,Decidable.not_not,Bool.not_eq_false];exact h1),if_neg h2]
theorem tM {nest:Int} {n:Nat} {l:List Sm} (h:(Sm.gD nest n l).1=true):(l = []∨nest≤12)∧Sm.gD nest n l=Sm.fj nest n l:=by
 unfold Sm.gD gate at *
 split at h
 ·cases h
 ·rename_i hc
  rw[if_neg hc]
  refine⟨?_,rfl⟩
  simp only[Bool.and_eq_true,decide_eq_true_eq,not_and]at hc
  cases l with
  |nil=>exact .inl rfl
  |cons s l=>right;simp only[List.length_cons]at hc;omega
mutual
theorem TO : ∀ (s:Sm) (nest dG:Int) (bd:Bool) (n:Nat) (out:List It),nest≤12→out.length≤n→n≤200→(Sm.qc nest n s).1=true→
 ∃ new,kC nest dG bd out s=out++new∧It.fq n new=true∧n+new.length=(Sm.qc nest n s).2∧(Sm.qc nest n s).2≤200
 | ⟨id,kind,labels,name,proc,x,has,args,bm,e⟩,nest,dG,bd,n,out,TP,ho,hn,h=>by
  obtain⟨h1,h2,h3,h4,h5,h6⟩:=HM h
  dsimp only at h2 h4 h5 h6
  rw[h6]
  obtain⟨g1,e1⟩:=tM h4
  rw[e1]at h4 h5 ⊢
  obtain⟨g2,e2⟩:=tM h5
  rw[e2]at h5 ⊢
  have pY:It.fq n [(⟨⟨id,kind,labels,name,proc,x,has,args,bm,e⟩,nest,dG,bd⟩:It)] = true:=(Fw _ _).2 ⟨h2,TP,h3⟩
  obtain⟨n1,k1,k2,k3,k4⟩:=wZ bm (nest+1) id false (n+1) (out++ [⟨⟨id,kind,labels,name,proc,x,has,args,bm,e⟩,nest,dG,bd⟩]) g1 (by simp;omega) h1 h4
  obtain⟨n2,j1,j2,j3,j4⟩:=wZ e (nest+1) id true _ (out++ [⟨⟨id,kind,labels,name,proc,x,has,args,bm,e⟩,nest,dG,bd⟩]++n1) g2 (by simp;omega) k4 h5
  simp only[kC]
  rw[if_pos (by simpa using TP),k1,j1]
  refine⟨⟨⟨id,kind,labels,name,proc,x,has,args,bm,e⟩,nest,dG,bd⟩::(n1++n2),by simp, ?_, ?_,j4⟩
  ·have:(⟨⟨id,kind,labels,name,proc,x,has,args,bm,e⟩,nest,dG,bd⟩:It)::(n1++n2) = [⟨⟨id,kind,labels,name,proc,x,has,args,bm,e⟩,nest,dG,bd⟩]++n1++n2:=by simp
   rw[this,ld,ld,pY,Bool.true_and]
   have e3:n+([(⟨⟨id,kind,labels,name,proc,x,has,args,bm,e⟩,nest,dG,bd⟩:It)]++n1).length=(Sm.fj (nest+1) (n+1) bm).2:=by simp;omega
   rw[e3,j2]
   have e4:n + [(⟨⟨id,kind,labels,name,proc,x,has,args,bm,e⟩,nest,dG,bd⟩:It)].length=n+1:=rfl
   rw[e4,k2];rfl
  ·simp only[List.length_cons,List.length_append];omega
theorem wZ : ∀ (l:List Sm) (nest dG:Int) (bd:Bool) (n:Nat) (out:List It),(l = []∨nest≤12)→out.length≤n→n≤200→(Sm.fj nest n l).1=true→
 ∃ new,fS nest dG bd out l=out++new∧It.fq n new=true∧n+new.length=(Sm.fj nest n l).2∧(Sm.fj nest n l).2≤200
 | [],nest,dG,bd,n,out,TP,ho,hn,h=>⟨[],by simp[fS],rfl,by simp[Sm.fj],by simpa[Sm.fj]using hn⟩
 |s::l,nest,dG,bd,n,out,TP,ho,hn,h=>by
  have aeL:nest≤12:=TP.resolve_left (by simp)
  simp only[Sm.fj]at h ⊢
  split at h
  ·cases h
  rename_i hc
  rw[if_neg hc]
  obtain⟨n1,k1,k2,k3,k4⟩:=TO s nest dG bd n out aeL ho hn (by simpa using hc)
  obtain⟨n2,j1,j2,j3,j4⟩:=wZ l nest dG bd _ (out++n1) (.inr aeL) (by simp;omega) k4 h
  simp only[fS]
  rw[if_pos (by simp only[decide_eq_true_eq];omega),k1,j1]
  refine⟨n1++n2,by simp, ?_,by simp;omega,j4⟩
  rw[ld,k2,k3,j2];rfl
end
mutual
theorem TQ : ∀ (s:Sm) (nest dG:Int) (bd:Bool) (n:Nat) (out new:List It),kC nest dG bd out s=out++new→It.fq n new=true→out.length≤n→n+new.length≤200→
 Sm.qc nest n s=(true,n+new.length)∧nest≤12
 | ⟨id,kind,labels,name,proc,x,has,args,bm,e⟩,nest,dG,bd,n,out,new,jo,hm,ho,hn=>by
  obtain⟨n0,h0⟩:=BS nest dG bd ⟨id,kind,labels,name,proc,x,has,args,bm,e⟩ out
  have e0:new = ⟨⟨id,kind,labels,name,proc,x,has,args,bm,e⟩,nest,dG,bd⟩::n0:=List.append_cancel_left (jo.symm.trans h0)
  subst e0
  have ah7:(⟨⟨id,kind,labels,name,proc,x,has,args,bm,e⟩,nest,dG,bd⟩:It)::n0 = [⟨⟨id,kind,labels,name,proc,x,has,args,bm,e⟩,nest,dG,bd⟩]++n0:=rfl
  rw[ah7,ld,Bool.and_eq_true]at hm
  obtain⟨nF,jO⟩:=hm
  obtain⟨c1,c2,c3⟩:=(Fw _ _).1 nF
  dsimp only at c1 c2 c3
  simp only[List.length_cons]at hn ⊢
  have W3:fS (nest+1) id true (fS (nest+1) id false (out++ [⟨⟨id,kind,labels,name,proc,x,has,args,bm,e⟩,nest,dG,bd⟩]) bm) e=out++([⟨⟨id,kind,labels,name,proc,x,has,args,bm,e⟩,nest,dG,bd⟩]++n0):=by
   simp only[kC]at jo
   rw[if_pos (by simpa using c2)]at jo
   exact jo
  obtain⟨n1,g1⟩:=q7 (nest+1) id false bm (out++ [⟨⟨id,kind,labels,name,proc,x,has,args,bm,e⟩,nest,dG,bd⟩])
  obtain⟨n2,g2⟩:=q7 (nest+1) id true e (fS (nest+1) id false (out++ [⟨⟨id,kind,labels,name,proc,x,has,args,bm,e⟩,nest,dG,bd⟩]) bm)
  have en:n0=n1++n2:=by
   rw[g2,g1]at W3
   simp only[List.append_assoc,List.append_cancel_left_eq]at W3
   exact W3.symm
  subst en
  have W4:It.fq (n+1) (n1++n2)=true:=jO
  rw[ld,Bool.and_eq_true]at W4
  simp only[List.length_append]at hn ⊢
  obtain⟨r1,r2⟩:=w7 bm (nest+1) id false (n+1) _ n1 g1 W4.1 (by simp;omega) (by omega)
  obtain⟨q1,q2⟩:=w7 e (nest+1) id true (n+1+n1.length) _ n2 g2 W4.2 (by rw[g1];simp;omega) (by omega)
  refine⟨?_,c2⟩
  have gg : ∀ {l:List Sm} {m:Nat} {r:Bool×Nat},Sm.fj (nest+1) m l=r→(l = []∨nest+1≤12)→Sm.gD (nest+1) m l=r:=by
   intro l m r h1 h2
   unfold Sm.gD gate
   rw[if_neg]
   ·exact h1
   ·simp only [Bool.and_eq_true,decide_eq_true_eq,not_and]
    rcases h2 with h2|h2
    ·subst h2;simp
    ·omega
  have t1:=gg r1 r2
  have t2:=gg q1 q2
  rw[GU]
  dsimp only
  rw[t1]
  dsimp only
  rw[t2]
  rw[Fv,Bool.and_eq_true]at c3
  rw[if_neg]
  ·simp;omega
  ·simp only [Bool.or_eq_true,bne_iff_ne,ne_eq,decide_eq_true_eq,Bool.not_eq_true',not_or,Decidable.not_not,Bool.not_eq_false]
   exact⟨⟨⟨by omega,c1⟩,c3.1⟩,c3.2⟩
theorem w7 : ∀ (l:List Sm) (nest dG:Int) (bd:Bool) (n:Nat) (out new:List It),fS nest dG bd out l=out++new→It.fq n new=true→out.length≤n→n+new.length≤200→
 Sm.fj nest n l=(true,n+new.length)∧(l = []∨nest≤12)
 | [],nest,dG,bd,n,out,new,jo,hm,ho,hn=>by
  simp only[fS]at jo
  have:new = []:=by simpa using jo
  subst this
  exact⟨by simp[Sm.fj], .inl rfl⟩
 | s::l,nest,dG,bd,n,out,new,jo,hm,ho,hn=>by
  simp only[fS]at jo
  rw[if_pos (by simp only[decide_eq_true_eq];omega)]at jo
  obtain⟨n1,g1⟩:=BS nest dG bd s out
  obtain⟨n2,g2⟩:=q7 nest dG bd l (kC nest dG bd out s)
  have en:new=(⟨s,nest,dG,bd⟩::n1)++n2:=by
   rw[g2,g1,List.append_assoc,List.append_cancel_left_eq]at jo
   exact jo.symm
  subst en
  rw[ld,Bool.and_eq_true]at hm
  rw[List.length_append]at hn ⊢
  obtain⟨r1,r2⟩:=TQ s nest dG bd n out _ g1 hm.1 ho (by omega)
  obtain⟨q1,q2⟩:=w7 l nest dG bd (n+(⟨s,nest,dG,bd⟩::n1:List It).length) _ n2 g2 hm.2 (by rw[g1,List.length_append];omega) (by omega)
  refine⟨?_, .inr r2⟩
  simp only[Sm.fj,r1,Bool.not_true,Bool.false_eq_true,↓reduceIte,q1]
  congr 1;omega
end
theorem BT : ∀ (l:List Pc) (out:List It),out.length≤200→(Pc.fj out.length l=true↔Pc.pM l=true∧∃ new,allM out l=out++new∧(out++new).length≤200∧It.fq out.length new=true)
 | [],out,ho=>by simp[Pc.fj,Pc.pM,allM,It.fq];exact ho
 | f::l,out,ho=>by
  have qd : ∀ (l:List Pc) (out:List It),∃ new,allM out l=out++new:=by
   intro l
   induction l with
   |nil=>intro out;exact⟨[],by simp[allM]⟩
   | cons f l ih=>
    intro out
    simp only[allM]
    split
    ·exact⟨_,rfl⟩
    ·obtain⟨n1,h1⟩:=ih (out++f.flat)
     exact⟨f.flat++n1,by rw[h1,List.append_assoc]⟩
  simp only[Pc.fj,Pc.pM]
  have ah8:(decide ((f.params.length:Int) > 8) ||decide ((f.vars.length:Int) > 16) || !(isName f.name) || !(ey f.vars) || !(ey f.fin))=(!(isName f.name) ||decide ((f.params.length:Int) > 8) ||decide ((f.vars.length:Int) > 16) || !(ey f.vars) || !(ey f.fin)):=by
   cases isName f.name<;>simp
  rw[ah8]
  split
  ·simp
  split
  ·simp
  have hg:Sm.gD 1 out.length f.body=Sm.fj 1 out.length f.body:=by unfold Sm.gD gate;rw[if_neg (by simp)]
  rw[hg]
  constructor
  ·intro h
   split at h
   ·cases h
   rename_i hc
   obtain⟨n1,k1,k2,k3,k4⟩:=wZ f.body 1 0 false out.length [] (.inr (by omega)) (by simp) ho (by simpa using hc)
   have jo:f.flat=n1:=by unfold Pc.flat;rw[k1];rfl
   rw[← k3, ← List.length_append]at h
   obtain⟨hh,n2,j1,j2,j3⟩:=(BT l (out++n1) (by rw[List.length_append];omega)).1 h
   refine⟨hh,n1++n2, ?_,by simpa using j2, ?_⟩
   ·simp only [allM,jo]
    rw[if_neg (by simp only[List.length_append,decide_eq_true_eq];omega),j1,List.append_assoc]
   ·rw[ld,k2, ← List.length_append,j3];rfl
  ·rintro⟨hh,new,j1,j2,j3⟩
   simp only[allM]at j1
   split at j1
   ·rename_i hc
    have:new=f.flat:=(List.append_cancel_left j1).symm
    subst this
    simp only[decide_eq_true_eq]at hc
    omega
   rename_i hc
   simp only[decide_eq_true_eq]at hc
   obtain⟨n2,g2⟩:=qd l (out++f.flat)
   have en:new=f.flat++n2:=by
    rw[g2,List.append_assoc]at j1
    exact(List.append_cancel_left j1).symm
   subst en
   rw[ld,Bool.and_eq_true]at j3
   rw[List.length_append,List.length_append]at j2
   obtain⟨r1,_⟩:=w7 f.body 1 0 false out.length [] f.flat (by unfold Pc.flat;rfl) j3.1 (by simp) (by omega)
   rw[r1]
   simp only[Bool.not_true,Bool.false_eq_true,↓reduceIte]
   rw[← List.length_append]
   exact(BT l (out++f.flat) (by rw[List.length_append];omega)).2 ⟨hh,n2,g2,by simp;omega,by rw[List.length_append];exact j3.2⟩
theorem CF (p:Pg):p.GX=p.may:=by
 have h:=BT p.procs [] (by simp)
 unfold Pg.GX Pg.may
 split
 ·rfl
 ·have e:Pc.fj 0 p.procs=(if !(Pc.pM p.procs)then false else if decide ((p.all.length:Int) > 200)then false else It.fq 0 p.all):=by
   rw[Bool.eq_iff_iff]
   have h':Pc.fj 0 p.procs=true↔_:=h
   rw[h']
   have ha:p.all=allM [] p.procs:=rfl
   constructor
   ·rintro⟨h1,new,h2,h3,h4⟩
    rw[ha,h2,h1]
    simp only[List.nil_append]at h3 ⊢
    simp only[Bool.not_true,Bool.false_eq_true,↓reduceIte]
    rw[if_neg (by simp only[decide_eq_true_eq];omega)]
    exact h4
   ·intro h1
    cases hh:Pc.pM p.procs
    ·rw[hh]at h1;simp at h1
    ·rw [hh]at h1
     simp only[Bool.not_true,Bool.false_eq_true,↓reduceIte]at h1
     split at h1
     ·cases h1
     ·rename_i hc
      simp only[decide_eq_true_eq]at hc
      exact⟨rfl,p.all,by rw[ha];rfl,by simp;omega,h1⟩
  exact e
theorem Fx {size bytes z:Nat} {g:Tag} {rows:List (List D)} {s:St} (h:rows.length*(bytes+1)≤bA) (hr:rows≠ []) :
 gw size bytes (.slice .full z []) (.slice g size rows) s=some (.slice (.tok s.aw.length) size rows,⟨s.ah,s.aw++ [some rows.length]⟩):=by
 cases rows with
 |nil=>exact absurd rfl hr
 |cons r l=>simp only[gw];simp at h ⊢;exact h
theorem w8 {l:List aF} (hl:l.length<1073741824) (g:Tag) (s:St):az Tryz.prog fi [.slice g 1 (l.map encStr)] s (.slice .shared 1 (l.map encStr)) s:=by
 refine bL.mA (.cons (Wk.shared _ _ _) .nil) (az.pure ?_ (by simp[D.bI,D.ok,Tag.ok,eF]) (by simp[D.ok,Tag.ok,eF]) s)
 unfold S0
 refine az.go lT rfl fun B Q hB hQ=>?_
 have⟨hC,hE,hM,hY⟩:=bE
 cases l with
 |nil=>
  repeat' (first
 |simp only[go_sem,hC,hE,hM,hY]
 |(with_reducible refine aB hQ ?_;exact bj))
  refine DT (fun _=>?_) ?_
  ·repeat' (first
 |simp only[go_sem,hC,hE,hM,hY,gw,true_or,Nat.zero_le]
 |(with_reducible refine aB hQ ?_;exact bj))
  ·repeat' (first
 |simp only[go_sem,hC,hE,hM,hY,gw,true_or,Nat.zero_le]
 |(with_reducible refine aB hQ ?_;exact bj))
 |cons x l=>
  have e:((x::l).map encStr).length*(16+1)≤bA:=by simp only[List.length_map,bA];omega
  have e2:=fun s=>Fx (size:=1) (z:=1) (g:= .shared) (s:=s) e (by simp)
  simp only[List.map_cons,encStr]at e2
  repeat' (first
 |simp only[go_sem,hC,hE,hM,hY,e2]
 |(with_reducible refine aB hQ ?_;exact bj))
theorem W5 {l:List Pm} (hl:l.length<1073741824) (g:Tag) (s:St):az Tryz.prog lI [.slice g 2 (l.map gR)] s (.slice .shared 2 (l.map gR)) s:=by
 refine bL.mA (.cons (Wk.shared _ _ _) .nil) (az.pure ?_ (by simp[D.bI,D.ok,Tag.ok,Qn]) (by simp[D.ok,Tag.ok,Qn]) s)
 unfold S0
 refine az.go uu rfl fun B Q hB hQ=>?_
 have⟨hC,hE,hM,hY⟩:=bE
 cases l with
 |nil=>
  repeat' (first
 |simp only[go_sem,hC,hE,hM,hY]
 |(with_reducible refine aB hQ ?_;exact bj))
  refine DT (fun _=>?_) ?_
  ·repeat' (first
 |simp only[go_sem,hC,hE,hM,hY,gw,true_or,Nat.zero_le]
 |(with_reducible refine aB hQ ?_;exact bj))
  ·repeat' (first
 |simp only[go_sem,hC,hE,hM,hY,gw,true_or,Nat.zero_le]
 |(with_reducible refine aB hQ ?_;exact bj))
 |cons x l=>
  have e:((x::l).map gR).length*(24+1)≤bA:=by simp only[List.length_map,bA];omega
  have e2:=fun s=>Fx (size:=2) (z:=2) (g:= .shared) (s:=s) e (by simp)
  simp only[List.map_cons,encStr]at e2
  repeat' (first
 |simp only[go_sem,hC,hE,hM,hY,e2]
 |(with_reducible refine aB hQ ?_;exact bj))
theorem aeM : ∀ n,n<1073741824→∀ x:Ex,x.size≤n→az Tryz.prog mE [.agg (bJ x)] S0 (.agg (bJ x)) S0:=by
 intro n
 induction n with
 |zero=>rintro _ ⟨op,m,name,kids⟩ h;simp only[Ex.size]at h;omega
 |succ n ihn=>
 rintro hn ⟨op,m,name,kids⟩ hx
 have hk : ∀ y∈kids,∀ s,az Tryz.prog mE [.agg (bJ y)] s (.agg (bJ y)) s:=fun y hy s=>
  (ihn (by omega) y (by simp only[Ex.size]at hx;have:=Ex.dg hy;omega)).pure (by simp[D.bI,D.ok,gW]) (by simp[D.ok,gW]) s
 have hlen:kids.length<1073741824:=by simp only[Ex.size]at hx;have:=Ex.eo kids;omega
 unfold S0
 refine az.go Ix rfl fun B Q hB hQ=>?_
 have⟨hC,hE,hM,hY⟩:=bE
 repeat' (first
 |simp only[go_sem,hC,hE,hM,hY]
 |(with_reducible refine aB hQ ?_;exact bj))
 refine bg.qM 0 3 4 rfl rfl ?_
 simp only[go_sem,hC,hE,hM,hY]
 refine dS 2 1 (bg.ind (ι:=List Ex×Nat×List Ex) (fun i=>kids.drop i.2.1=i.1∧i.2.1=i.2.2.length∧i.2.2++i.1=kids) (fun i=>i.1.length)
  (fun i=> [(1, .ptr 0 0),(2, .ptr 1 0),(9, .slice .shared 4 (kids.map bJ)),(10, .int .i64 (kids.length:Int)),(11, .int .i64 (i.2.1:Int))])
  (fun i=>⟨[[.int .i64 op, .int .i64 m, .str name, .slice (.tok 0) 4 (i.2.2.map bJ)],bJ qi],[some i.2.1]⟩) ?_ (kids,0,[]) ⟨rfl,rfl,rfl⟩)
 rintro⟨rest,k,acc⟩ ⟨h1,h2,h3⟩ IH
 dsimp only at h1 h2 h3
 subst h2
 cases rest with
 |nil=>
  have hC:=drop_nil h1
  rw[List.append_nil]at h3
  subst h3
  repeat' (first
 |simp only[go_sem,hC,hE,hM,hY]
 |(with_reducible refine aB hQ ?_;exact bj))
 |cons y rest=>
  obtain⟨hE,g2,hC,g4⟩:=drop_cons h1
  have hM:acc.length<4611686018427387904:=by omega
  have fP:(acc.length+1)*57≤bA:=by simp only[bA];omega
  have hy:=hk y (List.mem_of_getElem? hE)
  repeat' (first
 |simp only[go_sem,hC,hE,hM,hY,fP]
 |(with_reducible refine CU (hy _) ?_)
 |(with_reducible refine aB hQ ?_;exact bj))
  refine dS 2 1 (IH (rest,acc.length+1,acc++ [y]) ⟨g2,by simp,by simp only[List.append_assoc,List.cons_append,List.nil_append];exact h3⟩ (Nat.lt_succ_self _))
theorem TR {x:Ex} (h:x.size<1073741824) (s:St):az Tryz.prog mE [.agg (bJ x)] s (.agg (bJ x)) s:=
 (aeM x.size h x (Nat.le_refl _)).pure (by simp[D.bI,D.ok,gW]) (by simp[D.ok,gW]) s
abbrev Zx (b:Bool) (N:Nat):Prop:=∀ l:List Sm,Sm.bt l<N→∀ n:Nat,n+Sm.bt l<1073741824→∀ s:St,
 az Tryz.prog kT [.slice .shared 13 (l.map bb), .int .i64 (n:Int), .bool b] s (.tuple [.slice .shared 13 ((Sm.iu b n l).1.map bb), .int .i64 ((Sm.iu b n l).2:Int)]) s
theorem W6 {N:Nat} (ih:Zx true N) (l:List Sm) (hl:Sm.bt l<N+1) (n:Nat) (hn:n+Sm.bt l<1073741824) :
 az Tryz.prog kT [.slice .shared 13 (l.map bb), .int .i64 (n:Int), .bool true] S0 (.tuple [.slice .shared 13 ((Sm.iu true n l).1.map bb), .int .i64 ((Sm.iu true n l).2:Int)]) S0:=by
 unfold S0
 refine az.go E8 rfl fun B Q hB hQ=>?_
 have⟨hC,hE,hM,hY⟩:=bE
 repeat' (first
 |simp only[go_sem,hC,hE,hM,hY]
 |(with_reducible refine aB hQ ?_;exact bj))
 have hlen:l.length<1073741824:=by have:=Sm.eo l;omega
 refine bg.p8 8 13 rfl ?_
 simp only[go_sem,hC,hE,hM,hY]
 refine dS 0 1 (bg.ind (ι:=List Sm×Nat×List Sm×Nat) (fun i=>l.drop i.2.1=i.1∧i.2.1=i.2.2.1.length∧Sm.iu true n l=(i.2.2.1++(Sm.iu true i.2.2.2 i.1).1,(Sm.iu true i.2.2.2 i.1).2)∧i.2.2.2+Sm.bt i.1≤n+Sm.bt l) (fun i=>i.1.length)
  (fun i=> [(1, .int .i64 (i.2.2.2:Int)),(2, .bool true),(8, .slice (.tok 0) 13 (i.2.2.1.map bb)),(14, .slice .shared 13 (l.map bb)),(15, .int .i64 (l.length:Int)),(16, .int .i64 (i.2.1:Int))])
  (fun i=>⟨[],[some i.2.1]⟩) ?_ (l,0,[],n) ⟨rfl,rfl,rfl,Nat.le_refl _⟩)
 rintro⟨rest,k,acc,m⟩ ⟨h1,h2,h3,h4⟩ IH
 dsimp only at h1 h2 h3 h4
 subst h2
 cases rest with
 |nil=>
  have hC:=drop_nil h1
  simp only[Sm.iu,List.append_nil]at h3
  rw[h3]at hQ
  repeat' (first
 |simp only[go_sem,hC,hE,hM,hY]
 |(with_reducible refine aB hQ ?_;exact bj))
 |cons y rest=>
  obtain⟨hE,g2,hC,g4⟩:=drop_cons h1
  simp only[Sm.bt]at h4 hl
  have hm:m<4611686018427387904:=by omega
  have hk:acc.length<4611686018427387904:=by omega
  have ej:y.size≤N:=by have:=Sm.dg (List.mem_of_getElem? hE);omega
  obtain⟨id,kind,labels,name,proc,x,has,args,bm,bd⟩:=y
  simp only[Sm.size]at ej h4
  have fP:(acc.length+1)*209≤bA:=by simp only[bA];omega
  have hx:=fun s=>TR (x:=x) (by omega) s
  simp only[jD]at hx
  have nM:=fun g s=>w8 (l:=labels) (by omega) g s
  have As:=Ar.eo args
  repeat' (first
 |simp only[go_sem,hC,hE,hM,hY,aL hm]
 |(with_reducible refine CU (nM _ _) ?_)
 |(with_reducible refine CU (hx _) ?_)
 | (with_reducible refine aB hQ ?_;exact bj))
  refine bg.qM 1 10 6 rfl rfl ?_
  simp only[go_sem,hC,hE,hM,hY]
  refine dS 2 2 (bg.ind (ι:=List Ar×Nat×List Ar) (fun i=>args.drop i.2.1=i.1∧i.2.1=i.2.2.length∧i.2.2++i.1=args) (fun i=>i.1.length)
   (fun i=> [(1, .int .i64 ((m+1:Nat):Int)),(2, .bool true),(8, .slice (.tok 0) 13 (acc.map bb)),(10, .ptr 0 0),(11, .ptr 1 0),(14, .slice .shared 13 (l.map bb)),(15, .int .i64 (l.length:Int)),(16, .int .i64 (acc.length:Int)),
    (36, .slice .shared 6 (args.map eG)),(37, .int .i64 (args.length:Int)),(38, .int .i64 (i.2.1:Int))])
   (fun i=>⟨[bb ⟨id,kind,labels,name,proc,x,has,args,bm,bd⟩,[.int .i64 ((m+1:Nat):Int), .int .i64 kind, .slice .shared 1 (labels.map encStr), .str name, .str proc, .int .i64 x.op, .int .i64 x.n, .str x.name, .slice .shared 4 (x.kids.map bJ), .bool has, .slice (.tok 1) 6 (i.2.2.map eG), .slice .shared 13 (bm.map bb), .slice .shared 13 (bd.map bb)]],[some acc.length,some i.2.1]⟩) ?_ (args,0,[]) ⟨rfl,rfl,rfl⟩)
  rintro⟨QZ,ka,GY⟩ ⟨j1,j2,j3⟩ IHa
  dsimp only at j1 j2 j3
  subst j2
  cases QZ with
  |nil=>
   have hC:=drop_nil j1
   rw[List.append_nil]at j3
   subst j3
   have b1:=Sm.vg true (m+1) bm
   have b2:=Sm.vg true (Sm.iu true (m+1) bm).2 bd
   have c1:=ih bm (by omega) (m+1) (by omega)
   have c2:=ih bd (by omega) (Sm.iu true (m+1) bm).2 (by omega)
   repeat' (first
 |simp only[go_sem,hC,hE,hM,hY,fP]
 |(with_reducible refine CU (c1 _) ?_)
 |(with_reducible refine CU (c2 _) ?_)
 | (with_reducible refine aB hQ ?_;exact bj))
   refine eV 0 1 ?_ ?_ (IH (rest,acc.length+1,acc++ [(Sm.num true m ⟨id,kind,labels,name,proc,x,has,GY,bm,bd⟩).1],(Sm.num true m ⟨id,kind,labels,name,proc,x,has,GY,bm,bd⟩).2) ⟨g2,by simp,by rw[h3];simp[Sm.iu],by simp only[Sm.num];omega⟩ (Nat.lt_succ_self _))
   ·(simp only[go_sem,hC,hE,hM,hY,aL hk,Sm.num];try exact cu)
   ·(simp only[go_sem,hC,hE,hM,hY,aL hk,Sm.num];try exact cu)
  |cons a QZ=>
   obtain⟨hE,g2,hC,g4⟩:=drop_cons j1
   have ha:a.x.size<1073741824:=by have:=Ar.dg (List.mem_of_getElem? hE);omega
   have Hp:GY.length<4611686018427387904:=by omega
   have aeN:(GY.length+1)*81≤bA:=by simp only[bA];omega
   have hxa:=fun s=>TR ha s
   simp only[jD]at hxa
   obtain⟨asM,ah9,ax⟩:=a
   repeat' (first
 |simp only[go_sem,hC,hE,hM,hY,aeN]
 |(with_reducible refine CU (hxa _) ?_)
 | (with_reducible refine aB hQ ?_;exact bj))
   refine eV 2 2 ?_ ?_ (IHa (QZ,GY.length+1,GY++ [⟨asM,ah9,ax⟩]) ⟨g2,by simp,by simp only[List.append_assoc,List.cons_append,List.nil_append];exact j3⟩ (Nat.lt_succ_self _))
   ·(simp only[go_sem,hC,hE,hM,hY,aL Hp];try exact cu)
   ·(simp only[go_sem,hC,hE,hM,hY,aL Hp];try exact cu)
theorem aa6 : ∀ N,Zx true N:=by
 intro N
 induction N with
 |zero=>intro l hl;exact absurd hl (Nat.not_lt_zero _)
 |succ N ih=>
  intro l hl n hn s
  exact(W6 ih l hl n hn).pure (by simp[D.bI,D.ok,Tag.ok,oQ]) (by simp[D.bI,D.ok,Tag.ok,oQ]) s
theorem aia {l:List Sm} {n:Nat} (h:n+Sm.bt l<1073741824) (s:St) :
 az Tryz.prog kT [.slice .shared 13 (l.map bb), .int .i64 (n:Int), .bool true] s (.tuple [.slice .shared 13 ((Sm.iu true n l).1.map bb), .int .i64 ((Sm.iu true n l).2:Int)]) s:=
 aa6 _ l (Nat.lt_succ_self _) n h s
theorem W7 {p:Pg} (hp:p.size<1073741824):az Tryz.prog qA [.agg (cO p)] S0 (.agg (cO p.number)) S0:=by
 obtain⟨globals,procs⟩:=p
 simp only[Pg.size]at hp
 have hlen:procs.length<1073741824:=by have:=Pc.eo procs;omega
 have hcg:=fun g s=>w8 (l:=globals) (by omega) g s
 unfold S0
 refine az.go E6 rfl fun B Q hB hQ=>?_
 have⟨hC,hE,hM,hY⟩:=bE
 repeat' (first
 |simp only[go_sem,hC,hE,hM,hY]
 |(with_reducible refine CU (hcg _ _) ?_)
 |(with_reducible first|refine aX fun hc=>?_|refine aY fun hc=>?_|refine aZ (fun hc=>?_) fun hc=>?_)<;>(try simp only[hc,bs,↓reduceIte]at h)<;>try simp only[hc]
 |(with_reducible refine aB hQ ?_;exact bj))
 refine bg.qM 2 1 5 rfl rfl ?_
 simp only[go_sem,hC,hE,hM,hY]
 refine dS 3 1 (bg.ind (ι:=List Pc×Nat×List Pc×Nat) (fun i=>procs.drop i.2.1=i.1∧i.2.1=i.2.2.1.length∧Pc.iu 0 procs=i.2.2.1++Pc.iu i.2.2.2 i.1∧i.2.2.2+Pc.bt i.1≤Pc.bt procs) (fun i=>i.1.length)
  (fun i=> [(2, .ptr 1 0),(3, .int .i64 (i.2.2.2:Int)),(4, .ptr 2 0),(13, .slice .shared 5 (procs.map cJ)),(14, .int .i64 (procs.length:Int)),(15, .int .i64 (i.2.1:Int))])
  (fun i=>⟨[cO ⟨globals,procs⟩,cO YG,[.slice .shared 1 (globals.map encStr), .slice (.tok 0) 5 (i.2.2.1.map cJ)]],[some i.2.1]⟩) ?_ (procs,0,[],0) ⟨rfl,rfl,rfl,by dsimp only;omega⟩)
 rintro⟨rest,k,acc,m⟩ ⟨h1,h2,h3,h4⟩ IH
 dsimp only at h1 h2 h3 h4
 subst h2
 cases rest with
 |nil=>
  have hC:=drop_nil h1
  simp only[Pc.iu,List.append_nil]at h3
  subst h3
  repeat' (first
 |simp only[go_sem,hC,hE,hM,hY,Pg.number]
 |(with_reducible first|refine aX fun hc=>?_|refine aY fun hc=>?_|refine aZ (fun hc=>?_) fun hc=>?_)<;>(try simp only[hc,bs,↓reduceIte]at h)<;>try simp only[hc]
 |(with_reducible refine aB hQ ?_;simp only[aR,aS,bo,bp,go_sem,hC,hE,hM,hY,Pg.number];try exact bS))
 |cons y rest=>
  obtain⟨hE,g2,hC,g4⟩:=drop_cons h1
  simp only[Pc.bt]at h4
  have ej:=Pc.dg (List.mem_of_getElem? hE)
  obtain⟨name,params,vars,body,fin⟩:=y
  simp only[Pc.size]at ej h4
  have hk:acc.length<4611686018427387904:=by omega
  have fP:(acc.length+1)*113≤bA:=by simp only[bA];omega
  have c1:=fun g s=>W5 (l:=params) (by omega) g s
  have c2:=fun g s=>w8 (l:=vars) (by omega) g s
  have c3:=fun g s=>w8 (l:=fin) (by omega) g s
  have c4:=fun s=>aia (l:=body) (n:=m) (by omega) s
  have b1:=Sm.vg true m body
  repeat' (first
 |simp only[go_sem,hC,hE,hM,hY,fP]
 |(with_reducible refine CU (c1 _ _) ?_)
 |(with_reducible refine CU (c2 _ _) ?_)
 |(with_reducible refine CU (c3 _ _) ?_)
 |(with_reducible refine CU (c4 _) ?_)
 |(with_reducible refine aB hQ ?_;exact bj))
  refine eV 3 1 ?_ ?_ (IH (rest,acc.length+1,acc++ [⟨name,params,vars,(Sm.iu true m body).1,fin⟩],(Sm.iu true m body).2) ⟨g2,by simp,by rw[h3];simp[Pc.iu],by dsimp only;omega⟩ (Nat.lt_succ_self _))
  ·(simp only[go_sem,hC,hE,hM,hY,aL hk];try exact cu)
  ·(simp only[go_sem,hC,hE,hM,hY,aL hk];try exact cu)
theorem W8 {p q:Pg} (h:p.Gn=some q) (s:St):az Tryz.prog qA [.agg (cO p)] s (.agg (cO q)) s:=by
 unfold Pg.Gn at h
 split at h
 ·cases h;exact(W7 ‹_›).pure (by simp[D.bI,D.ok,j8]) (by simp[D.ok,j8]) s
 ·cases h
def asN (x:aF):List aF→Bool
 | []=>false
 |s::l=>if x==s then true else asN x l
def qs (pre:List aF):List aF→Bool
 | []=>false
 |s::l=>if fw pre s then true else qs (pre++ [s]) l
def fG (l:List aF):Bool:=qs [] l
theorem TS {l:List aF} {k:Nat} {a:aF} (h:l[k]? = some a):l.take (k+1)=l.take k++ [a]:=by rw[List.take_add_one,h];rfl
theorem D3 {l:List aF} (hl:l.length<4611686018427387904) (g:Tag) (s:St):az Tryz.prog ou [.slice g 1 (l.map encStr)] s (.bool (fG l)) s:=by
 refine az.Zt (d':= .slice .shared 1 (l.map encStr)) ?_ (Wk.shared _ _ _)
 refine az.pure ?_ (by simp[D.bI,D.ok,Tag.ok,eF]) rfl s
 generalize h:fG l=p
 simp only[fG]at h
 unfold S0
 refine az.go Fe rfl fun B Q hB hQ=>?_
 have⟨hC,hE,hM,hY⟩:=bE
 repeat' (first
 |simp only[go_sem,hC,hE,hM,hY]
 |(with_reducible first|refine aX fun hc=>?_|refine aY fun hc=>?_|refine aZ (fun hc=>?_) fun hc=>?_)<;>(try simp only[hc,bs,↓reduceIte]at h)<;>try simp only[hc]
 |(with_reducible refine aB hQ ?_;exact eA))
 refine dS 0 0 (bg.ind (ι:=List aF×Nat) (fun i=>l.drop i.2=i.1∧qs (l.take i.2) i.1=p) (fun i=>i.1.length)
  (fun i=> [(0, .slice .shared 1 (l.map encStr)),(5, .slice .shared 1 (l.map encStr)),(6, .int .i64 (l.length:Int)),(7, .int .i64 (i.2:Int))]) (fun i=>⟨[],[]⟩) ?_ (l,0) ⟨rfl,h⟩)
 rintro⟨rest,k⟩ ⟨h1,h⟩ IH
 dsimp only at h1 h
 cases rest with
 |nil=>
  have hC:=drop_nil h1
  simp only[qs]at h
  repeat' (first
 |simp only[go_sem,hC,hE,hM,hY]
 |(with_reducible first|refine aX fun hc=>?_|refine aY fun hc=>?_|refine aZ (fun hc=>?_) fun hc=>?_)<;>(try simp only[hc,bs,↓reduceIte]at h)<;>try simp only[hc]
 |(with_reducible refine aB hQ ?_;exact eA))
 |cons a rest=>
  obtain⟨hE,g2,hC,g4⟩:=drop_cons h1
  have cp:k<4611686018427387904:=by omega
  simp only[qs]at h
  have hc:=jN (l:=l.take k) (by rw[List.length_take];omega) a
  have e1:List.drop 0 (List.take k (l.map encStr))=(l.take k).map encStr:=by simp[List.map_take]
  have c1:((0:Int)≤(k:Int))=True:=by simp
  have c2:((k:Int)≤(l.length:Int))=True:=by simp only[eq_iff_iff,iff_true];omega
  have e2:List.take k (l.map encStr)=(l.take k).map encStr:=by simp[List.map_take]
  repeat' (first
 |simp only[go_sem,hC,hE,hM,hY,e1,e2,c1,c2,or_true,true_and,and_self,ite_self,Int.toNat_natCast,List.drop_zero]
 |(with_reducible refine CU (hc _ _) ?_)
 |(with_reducible first|refine aX fun hc=>?_|refine aY fun hc=>?_|refine aZ (fun hc=>?_) fun hc=>?_)<;>(try simp only[hc,bs,↓reduceIte]at h)<;>try simp only[hc]
 |(with_reducible refine aB hQ ?_;(try cases h);simp only[aR,aS,bo,bp,go_sem,hC,hE,hM,hY,e1,e2,c1,c2,or_true,true_and,and_self,ite_self,Int.toNat_natCast,List.drop_zero];try exact bS))
  refine eV 0 0 ?_ ?_ (IH (rest,k+1) ⟨g2,by dsimp only;rw[TS (by assumption)];exact h⟩ (Nat.lt_succ_self _))
  ·(simp only[go_sem,hC,hE,hM,hY,aL cp];try exact cu)
  ·(simp only[go_sem,hC,hE,hM,hY,aL cp];try exact cu)
def w9 (vars globals:List aF) (name:aF):List Pm→Int
 | []=>if fw vars name then 4 else if fw globals name then 1 else 0
 |a::l=>if a.name==name then(if a.ref then 3 else 2)else w9 vars globals name l
def Pc.lC (p:Pg) (f:Pc) (name:aF):Int:=w9 f.vars p.globals name f.params
theorem K7 {p:Pg} {f:Pc} (hp:f.params.length<1000000000) (hv:f.vars.length<1000000000) (hg:p.globals.length<1000000000) (name:aF) (s:St):az Tryz.prog vG [.agg (cO p), .agg (cJ f), .str name] s (.int .i64 (f.lC p name)) s:=by
 refine az.pure ?_ (by simp[D.bI,D.ok,j8,xw]) rfl s
 have si:=jN (l:=f.vars) (by omega) name
 have uF:=jN (l:=p.globals) (by omega) name
 generalize h:f.lC p name=q
 simp only[Pc.lC]at h
 unfold S0
 refine az.go GC rfl fun B Q hB hQ=>?_
 have⟨hC,hE,hM,hY⟩:=bE
 repeat' (first
 |simp only[go_sem,hC,hE,hM,hY]
 |(with_reducible refine aB hQ ?_;exact bj))
 refine dS 2 0 (bg.ind (ι:=List Pm×Nat) (fun i=>f.params.drop i.2=i.1∧w9 f.vars p.globals name i.1=q) (fun i=>i.1.length)
  (fun i=> [(2, .str name),(3, .ptr 0 0),(4, .ptr 1 0),(10, .slice .shared 2 (f.params.map gR)),(11, .int .i64 (f.params.length:Int)),(12, .int .i64 (i.2:Int))]) (fun i=>⟨[cO p,cJ f],[]⟩) ?_ (f.params,0) ⟨rfl,h⟩)
 rintro⟨rest,k⟩ ⟨h1,h⟩ IH
 dsimp only at h1 h
 cases rest with
 | nil=>
  have hC:=drop_nil h1
  simp only[w9]at h
  rcases Bool.eq_false_or_eq_true (fw f.vars name)with b1|b1
  ·simp only [b1,if_true]at h
   subst h
   repeat' (first
 |simp only[go_sem,hC,hE,hM,hY,b1]
 |(with_reducible refine CU (si _ _) ?_)
 |(with_reducible refine CU (uF _ _) ?_)
 | (with_reducible refine aB hQ ?_;exact bj))
  ·simp only [b1,Bool.false_eq_true,if_false]at h
   rcases Bool.eq_false_or_eq_true (fw p.globals name)with b2|b2
   ·simp only [b2,if_true]at h
    subst h
    repeat' (first
 |simp only[go_sem,hC,hE,hM,hY,b1,b2]
 |(with_reducible refine CU (si _ _) ?_)
 |(with_reducible refine CU (uF _ _) ?_)
 | (with_reducible refine aB hQ ?_;exact bj))
   ·simp only [b2,Bool.false_eq_true,if_false]at h
    subst h
    repeat' (first
 |simp only[go_sem,hC,hE,hM,hY,b1,b2]
 |(with_reducible refine CU (si _ _) ?_)
 |(with_reducible refine CU (uF _ _) ?_)
 |(with_reducible refine aB hQ ?_;exact bj))
 | cons a rest=>
  obtain⟨hE,g2,hC,g4⟩:=drop_cons h1
  have cp:k<4611686018427387904:=by omega
  simp only[w9]at h
  rcases Bool.eq_false_or_eq_true (a.name==name)with b1|b1
  ·simp only [b1,if_true]at h
   rcases Bool.eq_false_or_eq_true a.ref with b2|b2
   ·simp only [b2,if_true]at h
    subst h
    repeat' (first
 |simp only[go_sem,hC,hE,hM,hY,b1,b2]
 | (with_reducible refine aB hQ ?_;exact bj))
   ·simp only [b2,Bool.false_eq_true,if_false]at h
    subst h
    repeat' (first
 |simp only[go_sem,hC,hE,hM,hY,b1,b2]
 | (with_reducible refine aB hQ ?_;exact bj))
  ·simp only [b1,Bool.false_eq_true,if_false]at h
   repeat' (first
 |simp only[go_sem,hC,hE,hM,hY,b1]
 | (with_reducible refine aB hQ ?_;exact bj))
   refine eV 2 0 ?_ ?_ (IH (rest,k+1) ⟨g2,h⟩ (Nat.lt_succ_self _))
   ·(simp only[go_sem,hC,hE,hM,hY,aL cp];try exact cu)
   ·(simp only[go_sem,hC,hE,hM,hY,aL cp];try exact cu)
def iY (name:aF):List Pc→Option Pc
 | []=>none
 |f::l=>if f.name==name then some f else iY name l
def Pg.find (p:Pg) (name:aF):Option Pc:=iY name p.procs
def pc0:Pc:=⟨[],[],[],[],[]⟩
def atm (r:Option Pc):D:= .tuple [.agg (cJ (r.getD pc0)), .bool r.isSome]
def Pc.tN (f:Pc):List aF:=f.params.map (·.name)
def Pc.own (f:Pc):List aF:=f.tN++f.vars
theorem Zy {f:Pc} (hp:f.params.length<1000000) (hv:f.vars.length<1000000) (s:St):az Tryz.prog sY [.agg (cJ f)] s (.slice .shared 1 (f.own.map encStr)) s:=by
 refine az.pure ?_ (by simp[D.bI,D.ok,xw]) (by simp only[D.ok,Tag.ok,eF];rfl) s
 generalize hR:f.own=R
 simp only[Pc.own]at hR
 unfold S0
 refine az.go Iv rfl fun B Q hB hQ=>?_
 have⟨hC,hE,hM,hY⟩:=bE
 repeat' (first
 |simp only[go_sem,hC,hE,hM,hY]
 |(with_reducible refine aB hQ ?_;exact bj))
 refine bg.p8 3 1 rfl ?_
 simp only[go_sem,hC,hE,hM,hY]
 refine dS 1 1 (bg.ind (ι:=List Pm×Nat×List aF×Nat) (fun i=>f.params.drop i.2.1=i.1∧i.2.2.1++i.1.map (·.name)=f.tN∧i.2.2.2=i.2.2.1.length) (fun i=>i.1.length)
  (fun i=> [(1, .ptr 0 0),(3, .slice (.tok 0) 1 (i.2.2.1.map encStr)),(7, .slice .shared 2 (f.params.map gR)),(8, .int .i64 (f.params.length:Int)),(9, .int .i64 (i.2.1:Int))]) (fun i=>⟨[cJ f],[some i.2.2.2]⟩) ?_ (f.params,0,[],0) ⟨rfl,rfl,rfl⟩)
 rintro⟨rest,k,out,n⟩ ⟨h1,h2,h3⟩ IH
 dsimp only at h1 h2 h3
 subst h3
 have hlo:out.length+rest.length<1000000:=by
  have:=congrArg List.length h2
  simp only[List.length_append,List.length_map,Pc.tN]at this
  omega
 cases rest with
 |nil=>
  have hC:=drop_nil h1
  simp only[List.map_nil,List.append_nil]at h2
  subst hR
  rw[← h2]at hQ
  have eU:=kU (l:=out) (nx:=f.vars) rfl (by omega) (g:= .shared)
  repeat' (first
 |simp only[go_sem,hC,hE,hM,hY,eU]
 |(with_reducible refine aB hQ ?_;exact bj))
 |cons a rest=>
  obtain⟨hE,g2,hC,g4⟩:=drop_cons h1
  have cp:k<4611686018427387904:=by omega
  have hM:(out.length+1)*17≤bA:=by unfold bA;omega
  repeat' (first
 |simp only[go_sem,hC,hE,hM,hY]
 |(with_reducible refine aB hQ ?_;exact bj))
  refine eV 1 1 ?_ ?_ (IH (rest,k+1,out++ [a.name],out.length+1) ⟨g2,by rw[← h2];simp,by simp⟩ (Nat.lt_succ_self _))
  ·(simp only[go_sem,hC,hE,hM,hY,aL cp,List.map_append,List.map_cons,List.map_nil,encStr];try exact cu)
  ·(simp only[go_sem,hC,hE,hM,hY,aL cp,List.map_append,List.map_cons,List.map_nil,encStr];try exact cu)
def mg:aF:= [109,97,105,110]
def Sm.known (p:Pg) (f:Pc) (procs:List aF) (v:Sm):Bool:=
 !(v.said.any fun n=>f.lC p n==0) && (v.kind != 4 ||(v.proc != mg && fw procs v.proc))
structure Pc.Small (p:Pg) (f:Pc):Prop where
 par:f.params.length<1000000
 vars:f.vars.length<1000000
 ux:p.globals.length<1000000
def CG (p:Pg) (f:Pc):List aF→Bool
 | []=>true
 |n::l=>if f.lC p n==0 then false else CG p f l
theorem HN (p:Pg) (f:Pc) : ∀ l,CG p f l = !(l.any fun n=>f.lC p n==0)
 | []=>rfl
 |n::l=>by
  simp only[CG,List.any_cons,HN p f l]
  cases (f.lC p n==0)<;>simp
theorem K8 (v:Sm) (h:v.nE):v.said.length<3000000:=by
 have : ∀ (l:List Ar) (out:List aF),(Ar.said out l).length≤out.length+2*Ar.bt l:=by
  intro l
  induction l with
  |nil=>intro out;simp[Ar.said]
  |cons a l ih=>
   intro out
   simp only[Ar.said,Ar.bt]
   refine Nat.le_trans (ih _) ?_
   have:=lq a.x
   have:1≤a.x.size:=by obtain⟨_,_,_,_⟩:=a.x;simp[Ex.size]
   simp only[List.length_append]
   split<;>simp<;>omega
 have h1:=this v.args (v.s7++v.x.names)
 have h2:=lq v.x
 have h3:=h.2.2
 have h4:v.s7.length≤1:=by unfold Sm.s7;split<;>simp
 simp only[List.length_append]at h1
 unfold Sm.said
 omega
theorem aa7 {p:Pg} {f:Pc} {procs:List aF} {v:Sm} (hs:f.Small p) (yQ:procs.length<1000000) (hv:v.nE) (s:St):az Tryz.prog qC [.agg (cO p), .agg (cJ f), .slice .shared 1 (procs.map encStr), .agg (bb v)] s (.bool (v.known p f procs)) s:=by
 refine az.pure ?_ (by simp[D.bI,D.ok,j8,xw,nj,Tag.ok,eF]) rfl s
 have hn:=fun s=>BQ hv s
 have hk:=fun n s=>K7 (p:=p) (f:=f) (by have:=hs.par;omega) (by have:=hs.vars;omega) (by have:=hs.ux;omega) n s
 have aeO:=jN (l:=procs) (by omega) v.proc
 have hl:=K8 v hv
 generalize h:v.known p f procs=q
 simp only[Sm.known, ← HN]at h
 unfold S0
 refine az.go Ff rfl fun B Q hB hQ=>?_
 have⟨hC,hE,hM,hY⟩:=bE
 repeat' (first
 |simp only[go_sem,hC,hE,hM,hY]
 |(with_reducible refine CU (hn _) ?_)
 |(with_reducible refine aB hQ ?_;exact bj))
 refine dS 3 0 (bg.ind (ι:=List aF×Nat) (fun i=>v.said.drop i.2=i.1∧(CG p f i.1 && (v.kind != 4 ||(v.proc != mg && fw procs v.proc)))=q) (fun i=>i.1.length)
  (fun i=> [(2, .slice .shared 1 (procs.map encStr)),(4, .ptr 0 0),(5, .ptr 1 0),(7, .ptr 2 0),(12, .slice .shared 1 (v.said.map encStr)),(13, .int .i64 (v.said.length:Int)),(14, .int .i64 (i.2:Int))]) (fun i=>⟨[cO p,cJ f,bb v],[]⟩) ?_ (v.said,0) ⟨rfl,h⟩)
 rintro⟨rest,k⟩ ⟨h1,h⟩ IH
 dsimp only at h1 h
 cases rest with
 | nil=>
  have hC:=drop_nil h1
  simp only[CG,Bool.true_and]at h
  rcases Bool.eq_false_or_eq_true (v.kind != 4)with b1|b1
  ·simp only [b1,Bool.true_or]at h
   subst h
   repeat' (first
 |simp only[go_sem,hC,hE,hM,hY,b1]
 | (with_reducible refine aB hQ ?_;exact bj))
  ·simp only [b1,Bool.false_or]at h
   rcases Bool.eq_false_or_eq_true (v.proc != mg)with b2|b2
   ·simp only [b2,Bool.true_and]at h
    unfold mg at b2
    have b3:(v.proc == [109,97,105,110]) = !(v.proc != [109,97,105,110]):=by simp only[bne,Bool.not_not]
    rw[b2]at b3
    simp only[Bool.not_true,Bool.not_false]at b3
    subst h
    repeat' (first
 |simp only[go_sem,hC,hE,hM,hY,b1,b2,b3]
 |(with_reducible refine CU (aeO _ _) ?_)
 | (with_reducible refine aB hQ ?_;exact bj))
   ·simp only [b2,Bool.false_and]at h
    unfold mg at b2
    have b3:(v.proc == [109,97,105,110]) = !(v.proc != [109,97,105,110]):=by simp only[bne,Bool.not_not]
    rw[b2]at b3
    simp only[Bool.not_true,Bool.not_false]at b3
    subst h
    repeat' (first
 |simp only[go_sem,hC,hE,hM,hY,b1,b2,b3]
 |(with_reducible refine CU (aeO _ _) ?_)
 |(with_reducible refine aB hQ ?_;exact bj))
 | cons a rest=>
  obtain⟨hE,g2,hC,g4⟩:=drop_cons h1
  have cp:k<4611686018427387904:=by omega
  simp only[CG]at h
  rcases Bool.eq_false_or_eq_true (f.lC p a==0)with b1|b1
  ·simp only [b1,if_true,Bool.false_and]at h
   subst h
   repeat' (first
 |simp only[go_sem,hC,hE,hM,hY,b1]
 |(with_reducible refine CU (hk _ _) ?_)
 | (with_reducible refine aB hQ ?_;exact bj))
  ·simp only [b1,Bool.false_eq_true,if_false]at h
   repeat' (first
 |simp only[go_sem,hC,hE,hM,hY,b1]
 |(with_reducible refine CU (hk _ _) ?_)
 | (with_reducible refine aB hQ ?_;exact bj))
   refine eV 3 0 ?_ ?_ (IH (rest,k+1) ⟨g2,h⟩ (Nat.lt_succ_self _))
   ·(simp only[go_sem,hC,hE,hM,hY,aL cp];try exact cu)
   ·(simp only[go_sem,hC,hE,hM,hY,aL cp];try exact cu)
theorem Nr : ∀ (l pre:List aF),qs pre l=true↔(∃ x∈l,x∈pre)∨¬ l.Nodup
 | [],pre=>by simp[qs]
 | s::l,pre=>by
  simp only[qs]
  by_cases h:fw pre s=true
  ·simp only [h,if_true,true_iff]
   exact .inl ⟨s,List.mem_cons_self,(jl _ _).1 h⟩
  ·have h':s∉pre:=fun m=>h ((jl _ _).2 m)
   simp only[h,if_false,Bool.false_eq_true]
   rw[Nr l (pre++ [s])]
   simp only[List.mem_append,List.mem_singleton,List.mem_cons,List.nodup_cons,exists_eq_or_imp]
   constructor
   ·rintro(⟨x,m,h1 | h1⟩ | h1)
    ·exact .inl (.inr ⟨x,m,h1⟩)
    ·have h1:x=s:=by simpa using h1
     subst h1;exact .inr fun h=>h.1 m
    ·exact .inr fun h=>h1 h.2
   ·rintro((h1 | ⟨x,m,h1⟩) | h1)
    ·exact absurd h1 h'
    ·exact .inl ⟨x,m, .inl h1⟩
    ·by_cases m:s∈l
     ·exact .inl ⟨s,m, .inr (.inl rfl)⟩
     ·exact .inr fun h=>h1 ⟨m,h⟩
theorem HO (l:List aF):fG l=true↔¬ l.Nodup:=by
 unfold fG;rw[Nr];simp
theorem TT (a b:List aF):fG (a++b)=(fG a ||(fG b ||b.any (fw a))):=by
 have h:fG (a++b)=true↔(fG a ||(fG b ||b.any (fw a)))=true:=by
  rw[HO,List.nodup_append]
  simp only[Bool.or_eq_true,HO,List.any_eq_true,jl]
  constructor
  ·intro h
   by_cases ha:a.Nodup
   ·by_cases hb:b.Nodup
    ·refine .inr (.inr (Classical.byContradiction fun hn=>h ⟨ha,hb,fun x hx y hy e=>hn ⟨y,hy,e ▸ hx⟩⟩))
    ·exact .inr (.inl hb)
   ·exact .inl ha
  ·rintro(h | h | ⟨x,h1,h2⟩) ⟨h3,h4,h5⟩
   ·exact h h3
   ·exact h h4
   ·exact h5 x h2 x h1 rfl
 cases h1:fG (a++b)<;>cases h2:(fG a ||(fG b ||b.any (fw a)))<;>simp_all
theorem K9 (name:aF) : ∀ (l:List Pc) (k:Nat),(iY name l=none∧jk name (k:Int) (l.map (·.name)) = -1)∨∃ f j,iY name l=some f∧l[j]? = some f∧jk name (k:Int) (l.map (·.name))=((k+j:Nat):Int)
 | [],k=> .inl ⟨rfl,rfl⟩
 | f::l,k=>by
  by_cases h:f.name=name
  ·subst h
   refine .inr ⟨f,0,by simp[iY],rfl,by simp[jk]⟩
  ·have h1:(f.name==name)=false:=by simp [h]
   have h2:(name==f.name)=false:=by simp[Ne.symm h]
   simp only[iY,h1,Bool.false_eq_true,if_false,List.map_cons,jk,h2]
   rcases K9 name l (k+1)with ⟨g1,g2⟩|⟨g,j,g1,g2,g3⟩
   ·exact .inl ⟨g1,by rw[← g2];rfl⟩
   ·refine .inr ⟨g,j+1,g1,by simpa using g2, ?_⟩
    rw[show((k:Int)+1)=((k+1:Nat):Int)from rfl,g3]
    congr 1;omega
theorem sG {name:aF} {f:Pc} : ∀ {l:List Pc},iY name l=some f→f∈l∧f.name=name
 |g::l,h=>by
  simp only[iY]at h
  split at h
  ·rename_i e;cases h;exact⟨List.mem_cons_self,by simpa using e⟩
  ·have:=sG h;exact⟨List.mem_cons_of_mem _ this.1,this.2⟩
mutual
theorem TU (deep dG:Int) (bd:Bool) (out:List It) : ∀ s:Sm,∃ e,kC deep dG bd out s=out++e
 | ⟨id,kind,labels,name,proc,x,has,args,bm,e⟩=>by
  simp only[kC]
  split
  ·obtain⟨e1,h1⟩:=tO (deep+1) id false (out++ [⟨⟨id,kind,labels,name,proc,x,has,args,bm,e⟩,deep,dG,bd⟩]) bm
   obtain⟨e2,h2⟩:=tO (deep+1) id true (fS (deep+1) id false (out++ [⟨⟨id,kind,labels,name,proc,x,has,args,bm,e⟩,deep,dG,bd⟩]) bm) e
   rw[h2,h1]
   exact⟨_,by rw[List.append_assoc,List.append_assoc]⟩
  ·exact⟨_,rfl⟩
theorem tO (deep dG:Int) (bd:Bool) (out:List It) : ∀ l:List Sm,∃ e,fS deep dG bd out l=out++e
 | []=>⟨[],by simp[fS]⟩
 | s::l=>by
  simp only[fS]
  split
  ·obtain⟨e1,h1⟩:=TU deep dG bd out s
   obtain⟨e2,h2⟩:=tO deep dG bd (kC deep dG bd out s) l
   rw[h2,h1]
   exact⟨_,by rw[List.append_assoc]⟩
  ·exact⟨[],by simp⟩
end
mutual
theorem TV (deep dG:Int) (bd:Bool) (out:List It) : ∀ s:Sm,(kC deep dG bd out s).length≤200→(∀ i∈kC deep dG bd out s,i.deep≤12)→(kC deep dG bd out s).map It.s=out.map It.s++s.pre
 | ⟨id,kind,labels,name,proc,x,has,args,bm,e⟩,h1,h2=>by
  simp only[kC,Sm.pre]at h1 h2 ⊢
  by_cases hd:deep≤12
  ·simp only [hd,decide_true,if_true]at h1 h2 ⊢
   obtain⟨e2,g2⟩:=tO (deep+1) id true (fS (deep+1) id false (out++ [⟨⟨id,kind,labels,name,proc,x,has,args,bm,e⟩,deep,dG,bd⟩]) bm) e
   have k1:(fS (deep+1) id false (out++ [⟨⟨id,kind,labels,name,proc,x,has,args,bm,e⟩,deep,dG,bd⟩]) bm).length≤200:=by
    rw[g2,List.length_append]at h1;omega
   have k2 : ∀ i∈fS (deep+1) id false (out++ [⟨⟨id,kind,labels,name,proc,x,has,args,bm,e⟩,deep,dG,bd⟩]) bm,i.deep≤12:=fun i m=>h2 i (by rw[g2];exact List.mem_append_left _ m)
   rw[xa (deep+1) id true _ e h1 h2,xa (deep+1) id false _ bm k1 k2]
   simp
  ·simp only [hd,decide_false,Bool.false_eq_true,if_false]at h1 h2
   exact absurd (h2 _ (List.mem_append_right _ (List.mem_singleton.2 rfl))) (by simpa using hd)
theorem xa (deep dG:Int) (bd:Bool) (out:List It) : ∀ l:List Sm,(fS deep dG bd out l).length≤200→(∀ i∈fS deep dG bd out l,i.deep≤12)→(fS deep dG bd out l).map It.s=out.map It.s++Sm.dr l
 | [],h1,h2=>by simp[fS,Sm.dr]
 | s::l,h1,h2=>by
  simp only[fS,Sm.dr]at h1 h2 ⊢
  by_cases hc:(out.length:Int)≤200
  ·simp only [hc,decide_true,if_true]at h1 h2 ⊢
   obtain⟨e2,g2⟩:=tO deep dG bd (kC deep dG bd out s) l
   have k1:(kC deep dG bd out s).length≤200:=by rw[g2,List.length_append]at h1;omega
   have k2 : ∀ i∈kC deep dG bd out s,i.deep≤12:=fun i m=>h2 i (by rw[g2];exact List.mem_append_left _ m)
   rw[xa deep dG bd _ l h1 h2,TV deep dG bd out s k1 k2]
   simp
  ·simp only [hc,decide_false,Bool.false_eq_true,if_false]at h1
   omega
end
theorem La : ∀ (l:List Pc) (out:List It),(allM out l).length≤200→(∀ i∈allM out l,i.deep≤12)→(∀ f∈l,f.flat.map It.s=Sm.dr f.body)∧(allM out l).map It.s=out.map It.s++(l.map fun f=>Sm.dr f.body).flatten
 | [],out,h1,h2=>⟨fun f m=>(by cases m),by simp[allM]⟩
 | f::l,out,h1,h2=>by
  simp only[allM]at h1 h2 ⊢
  by_cases hc:(((out++f.flat).length:Nat):Int) > 200
  ·simp only[hc,decide_true,if_true]at h1;omega
  ·simp only [hc,decide_false,Bool.false_eq_true,if_false]at h1 h2 ⊢
   obtain⟨k1,k2⟩:=La l (out++f.flat) h1 h2
   have qd : ∀ (l:List Pc) (out:List It),∃ e,allM out l=out++e:=by
    intro l
    induction l with
    |nil=>intro out;exact⟨[],by simp[allM]⟩
    |cons g l ih=>
     intro out
     simp only[allM]
     split
     ·exact⟨_,rfl⟩
     ·obtain⟨e,h⟩:=ih (out++g.flat);exact⟨g.flat++e,by rw[h];simp⟩
   obtain⟨e,he⟩:=qd l (out++f.flat)
   have k3:f.flat.map It.s=Sm.dr f.body:=by
    have:=xa 1 0 false [] f.body (by
     have:f.flat.length≤200:=by simp only[List.length_append]at hc;omega
     exact this) (fun i m=>h2 i (by rw[he];exact List.mem_append_left _ (List.mem_append_right _ m)))
    simpa[Pc.flat]using this
   refine⟨fun g m=>?_, ?_⟩
   ·rcases List.mem_cons.1 m with rfl | m
    ·exact k3
    ·exact k1 g m
   ·rw[k2];simp[k3]
theorem BU : ∀ (l:List It) (n:Nat),It.fq n l=true→(∀ i∈l,i.deep≤12)∧∀ (j:Nat) (i:It),l[j]? = some i→i.s.id=((n+j+1:Nat):Int)
 | [],n,h=>⟨fun i m=>(by cases m),fun j i h=>by simp at h⟩
 | a::l,n,h=>by
  simp only[It.fq]at h
  split at h
  ·cases h
  ·rename_i c
   simp only[Bool.or_eq_true,not_or,bne_iff_ne,ne_eq,Decidable.not_not,decide_eq_true_eq,Int.not_lt,gt_iff_lt]at c
   obtain⟨k1,k2⟩:=BU l (n+1) h
   refine⟨fun i m=>?_,fun j i hj=>?_⟩
   ·rcases List.mem_cons.1 m with rfl | m
    ·exact c.1.2
    ·exact k1 i m
   ·cases j with
    |zero=>simp at hj;subst hj;rw[c.1.1]
    |succ j=>simp at hj;rw[k2 j i hj];congr 1;omega
theorem GZ {p:Pg} (h:p.may=true):p.all.length≤200∧It.fq 0 p.all=true:=by
 unfold Pg.may at h
 split at h
 ·cases h
 ·split at h
  ·cases h
  ·split at h
   ·cases h
   ·rename_i c
    exact⟨by simp only[decide_eq_true_eq,Int.not_lt,gt_iff_lt]at c;omega,h⟩
theorem Lb {p:Pg} (h:p.may=true):(∀ f∈p.procs,f.flat.map It.s=Sm.dr f.body)∧p.all.map It.s=p.pre:=by
 obtain⟨h1,h2⟩:=GZ h
 have:=La p.procs [] h1 (BU _ 0 h2).1
 simpa[Pg.pre,Pg.all]using this
theorem Lc {p:Pg} (h:p.may=true) {i:Nat} {v:Sm} (hv:p.pre[i]? = some v):v.id=((i+1:Nat):Int):=by
 rw[← (Lb h).2,List.getElem?_map,Option.map_eq_some_iff]at hv
 obtain⟨it,h1,rfl⟩:=hv
 have:=(BU _ 0 (GZ h).2).2 i it h1
 rw[this];congr 1;omega
structure Pg.jc (p:Pg):Prop where
 Q1:p.QW
 sz:p.size≤900000
mutual
theorem aeP : ∀ s:Sm,s.zP→s.size<1000000→∀ v∈s.pre,v.nE∧v.nB
 |⟨id,kind,labels,name,proc,x,has,args,bm,bd⟩,h,hs,v,m=>by
  simp only[Sm.zP]at h
  simp only[Sm.size]at hs
  simp only[Sm.pre,List.mem_cons,List.mem_append]at m
  rcases m with rfl|m|m
  ·exact⟨⟨h.1.xt,fun a ha=>(h.1.arg a ha).2.1,by dsimp only;omega⟩,h.1⟩
  ·exact CH bm h.2.1 (by omega) v m
  ·exact CH bd h.2.2 (by omega) v m
theorem CH : ∀ l:List Sm,Sm.nC l→Sm.bt l<1000000→∀ v∈Sm.dr l,v.nE∧v.nB
 | [],h,hs,v,m=>by simp[Sm.dr]at m
 |s::l,h,hs,v,m=>by
  simp only[Sm.nC]at h
  simp only[Sm.bt]at hs
  simp only[Sm.dr,List.mem_append]at m
  rcases m with m|m
  ·exact aeP s h.1 (by omega) v m
  ·exact CH l h.2 (by omega) v m
end
theorem Pg.jc.said {p:Pg} (h:p.jc) {f:Pc} (hf:f∈p.procs) : ∀ v∈Sm.dr f.body,v.nE:=fun v m=>by
 have h1:=Pc.dg hf
 have h2:=h.sz
 simp only[Pg.size]at h2
 simp only[Pc.size]at h1
 exact(CH f.body (h.Q1.body f hf) (by omega) v m).1
theorem Pg.jc.small {p:Pg} (h:p.jc) {f:Pc} (hf:f∈p.procs):f.Small p:=by
 have h1:=Pc.dg hf
 have h2:=h.sz
 simp only[Pg.size]at h2
 simp only[Pc.size]at h1
 exact⟨by omega,by omega,by omega⟩
theorem Pg.jc.procs {p:Pg} (h:p.jc):p.procs.length≤900000∧Pc.bt p.procs≤900000∧p.globals.length≤900000:=by
 have h2:=h.sz
 have h3:=Pc.eo p.procs
 simp only[Pg.size]at h2
 omega
def Pg.pn (p:Pg):List aF:=p.procs.map (·.name)
def BV (p:Pg) (f:Pc) (procs:List aF):List Sm→Option Sm
 | []=>none
 |v::l=>if v.known p f procs then BV p f procs l else some v
def vW (p:Pg) (procs:List aF):List Pc→Int×Int
 | []=>(0,0)
 |f::l=>if fG (p.globals++f.own)then(5,0)else match BV p f procs (Sm.dr f.body)with|some v=>(5,v.id)|none=>vW p procs l
def Pg.tP (p:Pg):Bool:=match p.find mg with|none=>true|some m=>decide ((m.params.length:Int) > 0)
def Pg.scope (p:Pg):Int×Int:=
 if p.may then if fG p.globals ||(fG p.pn ||p.tP)then(5,0)else vW p p.pn p.procs else(1,0)
theorem W9 (p:Pg) (hl:p.globals.length<1000000) (n:aF):az Tryz.prog oT ([.str n]++ [.ptr 0 0]) ⟨[cO p],[]⟩ (.bool (fw p.globals n)) ⟨[cO p],[]⟩:=by
 show az Tryz.prog oT [.str n, .ptr 0 0] _ _ _
 have pU:=jN (l:=p.globals) (by omega) n
 refine az.go Da rfl fun B Q hB hQ=>?_
 have⟨hC,hE,hM,hY⟩:=bE
 repeat' (first
 |simp only[go_sem,hC,hE,hM,hY]
 |(with_reducible refine CU (pU _ _) ?_)
 |(with_reducible refine aB hQ ?_;exact bj))
theorem Zz (n m:Nat) (p:Pg):D.gA n m (fA p)=fA p:=il n m _ (uw p)
attribute [go_sem] Zz
theorem aa8 {p:Pg} {f:Pc} {procs:List aF} {v:Sm} (hs:f.Small p) (yQ:procs.length<1000000) (hv:v.nE) (g:Tag) (s:St):az Tryz.prog qC [.agg (cO p), .agg (cJ f), .slice g 1 (procs.map encStr), .agg (bb v)] s (.bool (v.known p f procs)) s:=
 bL.mA (.cons (Wk.refl _) (.cons (Wk.refl _) (.cons (Wk.shared g 1 _) (jz.refl _)))) (aa7 hs yQ hv s)
theorem vX {p:Pg} (h:p.jc) (s:St):az Tryz.prog lW [.agg (cO p)] s (.agg [.int .i64 p.scope.1, .int .i64 p.scope.2]) s:=by
 refine az.pure ?_ (by simp[D.bI,D.ok,j8]) rfl s
 have hm:=fun s=>K1 h.Q1 s
 simp only[CF]at hm
 obtain⟨sf,r5,rZ⟩:=h.procs
 have dv:=fun s=>Cz (p:=p) (by omega) s
 have pW:=fun s=>D3 (l:=p.globals) (by omega) .shared s
 have hpn:p.pn.length=p.procs.length:=by simp[Pg.pn]
 have EA:=fun g s=>D3 (l:=p.pn) (by omega) g s
 have Ld:=fun g s=>(CA (l:=p.pn) (by omega) mg s).Zt (Wk.shared g 1 (p.pn.map encStr))
 have D4:=fun g s=>(show az Tryz.prog gb [.slice g 1 (p.pn.map encStr), .str [109,97,105,110]] s (.int .i64 (jk mg 0 p.pn)) s from Ld g s)
 generalize hR:p.scope=R
 simp only[Pg.scope]at hR
 unfold S0
 rcases Bool.eq_false_or_eq_true p.may with hb|hb
 case inr=>
  simp only[hb]at hm
  simp only[hb,Bool.false_eq_true,if_false]at hR
  subst hR
  refine az.go wQ rfl fun B Q hB hQ=>?_
  have⟨hC,hE,hM,hY⟩:=bE
  repeat' (first
 |simp only[go_sem,hC,hE,hM,hY]
 |(with_reducible refine CU (hm _) ?_)
 |(with_reducible refine aB hQ ?_;exact bj))
 simp only[hb]at hm
 simp only[hb,if_true]at hR
 refine az.go wQ rfl fun B Q hB hQ=>?_
 have⟨hC,hE,hM,hY⟩:=bE
 repeat' (first
 |simp only[go_sem,hC,hE,hM,hY]
 |(with_reducible refine CU (hm _) ?_)
 |(with_reducible refine aB hQ ?_;exact bj))
 refine bg.p8 3 1 rfl ?_
 simp only[go_sem,hC,hE,hM,hY]
 refine dS 2 1 (bg.ind (ι:=List Pc×Nat×List aF×Nat) (fun i=>p.procs.drop i.2.1=i.1∧i.2.2.1++i.1.map (·.name)=p.pn∧i.2.2.2=i.2.2.1.length) (fun i=>i.1.length)
  (fun i=> [(1, .ptr 0 0),(2, .ptr 1 0),(3, .slice (.tok 0) 1 (i.2.2.1.map encStr)),(18, .slice .shared 5 (p.procs.map cJ)),(19, .int .i64 (p.procs.length:Int)),(20, .int .i64 (i.2.1:Int))]) (fun i=>⟨[cO p,[.int .i64 0, .int .i64 0]],[some i.2.2.2]⟩) ?_ (p.procs,0,[],0) ⟨rfl,rfl,rfl⟩)
 rintro⟨rest,k,out,n⟩ ⟨h1,h2,h3⟩ IH
 dsimp only at h1 h2 h3
 subst h3
 have hlo:out.length+rest.length≤900000:=by
  have:=congrArg List.length h2
  simp only[List.length_append,List.length_map]at this
  omega
 cases rest with
 |cons a rest=>
  obtain⟨hE,g2,hC,g4⟩:=drop_cons h1
  have cp:k<4611686018427387904:=by omega
  have hM:(out.length+1)*17≤bA:=by unfold bA;omega
  repeat' (first
 |simp only[go_sem,hC,hE,hM,hY]
 |(with_reducible refine aB hQ ?_;exact bj))
  refine eV 2 1 ?_ ?_ (IH (rest,k+1,out++ [a.name],out.length+1) ⟨g2,by rw[← h2];simp,by simp⟩ (Nat.lt_succ_self _))
  ·(simp only[go_sem,hC,hE,hM,hY,aL cp,List.map_append,List.map_cons,List.map_nil,encStr];try exact cu)
  ·(simp only[go_sem,hC,hE,hM,hY,aL cp,List.map_append,List.map_cons,List.map_nil,encStr];try exact cu)
 | nil=>
  have hC:=drop_nil h1
  simp only[List.map_nil,List.append_nil]at h2
  subst h2
  rcases Bool.eq_false_or_eq_true (fG p.globals)with b1|b1
  ·simp only [b1,Bool.true_or,if_true]at hR
   subst hR
   repeat' (first
 |simp only[go_sem,hC,hE,hM,hY,b1]
 |(with_reducible refine CU (D4 _ _) ?_)
 |(with_reducible refine CU (pW _) ?_)
 |(with_reducible refine CU (EA _ _) ?_)
 | (with_reducible refine aB hQ ?_;exact bj))
  rcases Bool.eq_false_or_eq_true (fG p.pn)with b2|b2
  ·simp only [b1,b2,Bool.true_or,Bool.or_true,if_true]at hR
   subst hR
   repeat' (first
 |simp only[go_sem,hC,hE,hM,hY,b1,b2]
 |(with_reducible refine CU (D4 _ _) ?_)
 |(with_reducible refine CU (pW _) ?_)
 |(with_reducible refine CU (EA _ _) ?_)
 | (with_reducible refine aB hQ ?_;exact bj))
  rcases K9 mg p.procs 0 with ⟨e1,e2⟩|⟨m,j,e1,e2,e3⟩
  ·have b3:p.tP=true:=by unfold Pg.tP Pg.find;rw [e1]
   have hi:jk mg 0 p.pn = -1:=e2
   simp only[b1,b2,b3,Bool.or_true,if_true]at hR
   subst hR
   simp only[hi]at D4
   have d1:decide ((-1:Int)<0)=true:=by decide
   repeat' (first
 |simp only[go_sem,hC,hE,hM,hY,b1,b2,d1]
 |(with_reducible refine CU (D4 _ _) ?_)
 |(with_reducible refine CU (pW _) ?_)
 |(with_reducible refine CU (EA _ _) ?_)
 | (with_reducible refine aB hQ ?_;exact bj))
  have hi:jk mg 0 p.pn=((j:Nat):Int):=by rw[show p.pn=p.procs.map (·.name)from rfl];simpa using e3
  simp only[hi]at D4
  have d1:decide (((j:Nat):Int)<0)=false:=by simp
  have hj:j<p.procs.length:=(List.getElem?_eq_some_iff.1 e2).1
  have b3:p.tP=decide ((m.params.length:Int) > 0):=by unfold Pg.tP Pg.find;rw[e1]
  rw[b3]at hR
  rcases Bool.eq_false_or_eq_true (decide ((m.params.length:Int) > 0))with b4|b4
  ·simp only [b1,b2,b4,Bool.or_true,if_true]at hR
   subst hR
   repeat' (first
 |simp only[go_sem,hC,hE,hM,hY,b1,b2,d1,e2,b4]
 |(with_reducible refine CU (D4 _ _) ?_)
 |(with_reducible refine CU (pW _) ?_)
 |(with_reducible refine CU (EA _ _) ?_)
 |(with_reducible refine aB hQ ?_;exact bj))
  simp only[b1,b2,b4,Bool.or_false,Bool.false_eq_true,if_false]at hR
  repeat' (first
 |simp only[go_sem,hC,hE,hM,hY,b1,b2,d1,e2,b4]
 |(with_reducible refine CU (D4 _ _) ?_)
 |(with_reducible refine CU (pW _) ?_)
 |(with_reducible refine CU (EA _ _) ?_)
 |(with_reducible refine CU (dv _) ?_)
 | (with_reducible refine aB hQ ?_;exact bj))
  refine dS 2 1 (bg.ind (ι:=List Pc×Nat) (fun i=>p.procs.drop i.2=i.1∧vW p p.pn i.1=R) (fun i=>i.1.length)
   (fun i=> [(1, .ptr 0 0),(2, .ptr 1 0),(3, .slice (.tok 0) 1 (p.pn.map encStr)),(7, .dO (fA p) 0),(57, .slice .shared 5 (p.procs.map cJ)),(58, .int .i64 (p.procs.length:Int)),(59, .int .i64 (i.2:Int))]) (fun i=>⟨[cO p,[.int .i64 0, .int .i64 0]],[some p.pn.length]⟩) ?_ (p.procs,0) ⟨rfl,hR⟩)
  clear IH h1 hC hR
  rintro⟨rest,k⟩ ⟨h1,hR⟩ IH
  dsimp only at h1 hR
  cases rest with
  |nil=>
   have hC:=drop_nil h1
   simp only[vW]at hR
   subst hR
   repeat' (first
 |simp only[go_sem,hC,hE,hM,hY]
 | (with_reducible refine aB hQ ?_;exact bj))
  | cons f rest=>
   obtain⟨hE,g2,hC,g4⟩:=drop_cons h1
   have cp:k<4611686018427387904:=by omega
   have AE:=List.mem_of_getElem? hE
   have vY:=h.small AE
   have TW:=fun s=>Zy (f:=f) vY.par vY.vars s
   have jX:f.own.length<4611686018427387904:=by have h1:=vY.par;have h2:=vY.vars;unfold Pc.own Pc.tN;simp;omega
   have hto:=fun s=>D3 (l:=f.own) jX .shared s
   have Dy:=fun {s:St} {o:Nat} (ho:s.ah[o]? = some (cO p))=>yP (l:=f.own) jX (f:=oT) (row:=cO p) (b:=fw p.globals) (j8 p) (by with_unfolding_all rfl) (fun x _=>W9 p vY.ux x) ho
   have Xa:=fun {s:St} {o:Nat} (ho:s.ah[o]? = some (cO p))=>(show az Tryz.prog gd [.slice .shared 1 (f.own.map encStr), .gn 118 [.ptr o 0]] s (.bool (f.own.any (fw p.globals))) s from Dy ho)
   simp only[vW,TT,b1,Bool.false_or]at hR
   rcases Bool.eq_false_or_eq_true (fG f.own)with c1|c1
   ·simp only [c1,Bool.true_or,if_true]at hR
    subst hR
    repeat' (first
 |simp only[go_sem,hC,hE,hM,hY,c1]
 |(with_reducible refine CU (TW _) ?_)
 |(with_reducible refine CU (hto _) ?_)
 |(with_reducible refine CU (Xa (by with_unfolding_all rfl)) ?_)
 | (with_reducible refine aB hQ ?_;exact bj))
   rcases Bool.eq_false_or_eq_true (f.own.any (fw p.globals))with c2|c2
   ·simp only [c1,c2,Bool.false_or,if_true]at hR
    subst hR
    repeat' (first
 |simp only[go_sem,hC,hE,hM,hY,c1,c2]
 |(with_reducible refine CU (TW _) ?_)
 |(with_reducible refine CU (hto _) ?_)
 |(with_reducible refine CU (Xa (by with_unfolding_all rfl)) ?_)
 | (with_reducible refine aB hQ ?_;exact bj))
   simp only[c1,c2,Bool.or_self,Bool.false_eq_true,if_false]at hR
   obtain⟨it,pY,BW⟩:=WR hE (by omega)
   rw[← pY]at hR
   have aeR:it.length≤900000:=by
    have e:=congrArg List.length pY
    have e2:=(nO p).2 k f hE
    obtain⟨a,b,e',_,_,e3,e4⟩:=e2
    have e5:=pB p
    have e6:=congrArg List.length e3
    rw[e4]at e5
    simp only[List.length_map,List.length_append]at e e5 e6
    omega
   repeat' (first
 |simp only[go_sem,hC,hE,hM,hY,c1,c2]
 |(with_reducible refine CU (TW _) ?_)
 |(with_reducible refine CU (hto _) ?_)
 |(with_reducible refine CU (Xa (by with_unfolding_all rfl)) ?_)
 |(with_reducible refine CU (BW _) ?_)
 | (with_reducible refine aB hQ ?_;exact bj))
   obtain⟨q,hq⟩ : ∃ q,BV p f p.pn (it.map Im.s)=q:=⟨_,rfl⟩
   rw[hq]at hR
   refine dS 3 1 (bg.ind (ι:=List Im×Nat) (fun i=>it.drop i.2=i.1∧BV p f p.pn (i.1.map Im.s)=q) (fun i=>i.1.length)
    (fun i=> [(1, .ptr 0 0),(2, .ptr 1 0),(3, .slice (.tok 0) 1 (p.pn.map encStr)),(7, .dO (fA p) 0),(9, .ptr 2 0),(57, .slice .shared 5 (p.procs.map cJ)),(58, .int .i64 (p.procs.length:Int)),(59, .int .i64 (k:Int)),(76, .slice .shared 17 (it.map dN)),(77, .int .i64 (it.length:Int)),(78, .int .i64 (i.2:Int))]) (fun i=>⟨[cO p,[.int .i64 0, .int .i64 0],cJ f],[some p.pn.length]⟩) ?_ (it,0) ⟨rfl,hq⟩)
   rintro⟨qy,n⟩ ⟨j1,j2⟩ ZA
   dsimp only at j1 j2
   have Am:=hC
   cases qy with
   |nil=>
    have asO:=drop_nil j1
    simp only[List.map_nil,BV]at j2
    subst j2
    simp only at hR
    repeat' (first
 |simp only[go_sem,hC,hE,hM,hY,asO]
 | (with_reducible refine aB hQ ?_;exact bj))
    refine eV 2 1 ?_ ?_ (IH (rest,k+1) ⟨g2,hR⟩ (Nat.lt_succ_self _))
    ·(simp only[go_sem,hC,hE,hM,hY,aL cp];try exact cu)
    ·(simp only[go_sem,hC,hE,hM,hY,aL cp];try exact cu)
   | cons i qy=>
    obtain⟨pD,Ns,yR,jg4⟩:=drop_cons j1
    have tI:n<4611686018427387904:=by omega
    have Fz:i.s∈Sm.dr f.body:=by rw[← pY];exact List.mem_map_of_mem (List.mem_of_getElem? pD)
    have hkn:=aa8 (v:=i.s) vY (procs:=p.pn) (by omega) (h.said AE _ Fz)
    simp only[List.map_cons,BV]at j2
    rcases Bool.eq_false_or_eq_true (i.s.known p f p.pn)with c3|c3
    ·simp only [c3,if_true]at j2
     repeat' (first
 |simp only[go_sem,hC,hE,hM,hY,yR,pD,c3]
 |(with_reducible refine CU (hkn _ _) ?_)
 | (with_reducible refine aB hQ ?_;exact bj))
     refine eV 3 1 ?_ ?_ (ZA (qy,n+1) ⟨Ns,j2⟩ (Nat.lt_succ_self _))
     ·(simp only[go_sem,hC,hE,hM,hY,aL tI];try exact cu)
     ·(simp only[go_sem,hC,hE,hM,hY,aL tI];try exact cu)
    ·simp only [c3,Bool.false_eq_true,if_false]at j2
     subst j2
     simp only at hR
     subst hR
     repeat' (first
 |simp only[go_sem,hC,hE,hM,hY,yR,pD,c3]
 |(with_reducible refine CU (hkn _ _) ?_)
 |(with_reducible refine aB hQ ?_;exact bj))
end Go.Abs
namespace Go.Abs
mutual
def Ex.Nt:Ex→Prop
 |⟨_,n,_,kids⟩=>n≤9223372036854775807∧Ex.D5 kids
def Ex.D5:List Ex→Prop
 | []=>True
 |x::l=>x.Nt∧Ex.D5 l
end
mutual
def Sm.Nt:Sm→Prop
 |⟨_,_,_,_,_,x,_,args,bm,bd⟩=>x.Nt∧(∀ a∈args,a.x.Nt)∧Sm.D5 bm∧Sm.D5 bd
def Sm.D5:List Sm→Prop
 | []=>True
 |s::l=>s.Nt∧Sm.D5 l
end
def Pg.Nt (p:Pg):Prop:=∀ f∈p.procs,Sm.D5 f.body
theorem HP {f:Pc} : ∀ {l:List Pc} {n:Nat},Pc.fj n l=true→f∈l→(isName f.name=true∧ey f.vars=true∧ey f.fin=true∧Pm.fq f.params=true)∧∃ n,(Sm.gD 1 n f.body).1=true
 |g::l,n,h,m=>by
  simp only[Pc.fj]at h
  split at h
  ·cases h
  rename_i c1
  split at h
  ·cases h
  rename_i c2
  split at h
  ·cases h
  rename_i c3
  simp only[Bool.or_eq_true,Bool.not_eq_true',not_or,Bool.not_eq_false]at c1 c2 c3
  rcases List.mem_cons.1 m with rfl|m
  ·exact⟨⟨c1.1.1.2,c1.1.2,c1.2,c2⟩,n,c3⟩
  ·exact HP h m
mutual
theorem Q2 : ∀ (s:Sm) (nest:Int) (n:Nat),(Sm.qc nest n s).1=true→s.size<4611686018427387000→s.zP
 |⟨id,kind,labels,name,proc,x,has,args,bm,bd⟩,nest,n,hm,hs=>by
  obtain⟨_,_,h1,h2,h3,_⟩:=HM hm
  rw[K0]
  rw[(tM h2).2]at h2
  rw[(tM h3).2]at h3
  refine⟨K5 h1 hs,u4 bm _ _ h2 ?_,u4 bd _ _ h3 ?_⟩<;>simp only[Sm.size]at hs<;>omega
theorem u4 : ∀ (l:List Sm) (nest:Int) (n:Nat),(Sm.fj nest n l).1=true→Sm.bt l<4611686018427387000→Sm.nC l
 | [],_,_,_,_=>by simp only[Sm.nC]
 |s::l,nest,n,hm,hs=>by
  simp only[Sm.fj]at hm
  simp only[Sm.bt]at hs
  split at hm
  ·cases hm
  rename_i hc
  simp only[Bool.not_eq_true',Bool.not_eq_false]at hc
  exact⟨Q2 s nest n hc (by omega),u4 l nest _ hm (by omega)⟩
end
theorem BX {p:Pg} (h:p.may=true) (hs:p.size<4611686018427387000):p.QW:=by
 have hf:=WZ h hs
 rw[← CF]at h
 unfold Pg.GX at h
 split at h
 ·cases h
 refine⟨hf.sz,hf.ux,hf.pM,fun f m=>?_⟩
 obtain⟨_,n,e⟩:=HP h m
 rw[(tM e).2]at e
 have:=Pc.dg m
 simp only[Pg.size]at hs
 exact u4 f.body 1 n e (by unfold Pc.size at this;omega)
set_option maxRecDepth 8000
open Go.Proofs
theorem Xb (x:It):(kg x)[1]? = some (.int .i64 x.s.kind):=nd rfl
theorem Xc (x:It):(kg x)[3]? = some (.str x.s.name):=nd rfl
theorem Xd (x:It):(kg x)[4]? = some (.str x.s.proc):=nd rfl
theorem aa9 (x:It):List.take 16 (kg x)=kg x:=nd rfl
attribute [go_sem] Xb Xc Xd aa9
end Go.Abs
namespace Go.Abs
set_option maxRecDepth 8000
open Go.Proofs
def FA:List Pm→List Ar→Bool
 | [],_=>true
 |_,[]=>true
 |a::l,b::m=>if a.ref==b.ref then FA l m else false
def CI (l:List Pm) (m:List Ar):Bool:=if(l.length:Int)==(m.length:Int)then FA l m else false
def Sm.qE (p:Pg) (v:Sm):Bool:=v.kind==4 && match p.find v.proc with|none=>false|some q=>CI q.params v.args
theorem aeS {l:List Pm} {m:List Ar} (hl:l.length<1000000000) (hm:m.length<1000000000) (s:St):az Tryz.prog vH [.slice .shared 2 (l.map gR), .slice .shared 6 (m.map eG)] s (.bool (CI l m)) s:=by
 refine az.pure ?_ (by simp[D.bI,D.ok,Tag.ok,Qn,IT]) rfl s
 generalize h:CI l m=q
 simp only[CI]at h
 unfold S0
 have b0:((l.length:Int) != (m.length:Int)) = !((l.length:Int)==(m.length:Int)):=rfl
 rcases Bool.eq_false_or_eq_true ((l.length:Int)==(m.length:Int))with b1|b1
 case inr=>
  rw[b1]at b0
  simp only[b1,Bool.false_eq_true,if_false]at h
  subst h
  refine az.go yy rfl fun B Q hB hQ=>?_
  have⟨hC,hE,hM,hY⟩:=bE
  repeat' (first
 |simp only[go_sem,hC,hE,hM,hY,b0,Bool.not_false]
 |(with_reducible refine aB hQ ?_;exact bj))
 rw[b1]at b0
 simp only[b1,if_true]at h
 have ZB:l.length=m.length:=by have:=eq_of_beq b1;omega
 refine az.go yy rfl fun B Q hB hQ=>?_
 have⟨hC,hE,hM,hY⟩:=bE
 repeat' (first
 |simp only[go_sem,hC,hE,hM,hY,b0,Bool.not_true]
 |(with_reducible refine aB hQ ?_;exact bj))
 refine dS 0 0 (bg.ind (ι:=List Pm×List Ar×Nat) (fun i=>l.drop i.2.2=i.1∧m.drop i.2.2=i.2.1∧FA i.1 i.2.1=q) (fun i=>i.1.length)
  (fun i=> [(1, .slice .shared 6 (m.map eG)),(12, .slice .shared 2 (l.map gR)),(13, .int .i64 (l.length:Int)),(14, .int .i64 (i.2.2:Int))]) (fun i=>⟨[],[]⟩) ?_ (l,m,0) ⟨rfl,rfl,h⟩)
 rintro⟨r1,r2,k⟩ ⟨h1,h2,h⟩ IH
 dsimp only at h1 h2 h
 cases r1 with
 |nil=>
  have hC:=drop_nil h1
  simp only[FA]at h
  subst h
  repeat' (first
 |simp only[go_sem,hC,hE,hM,hY]
 |(with_reducible refine aB hQ ?_;exact bj))
 | cons a r1=>
  obtain⟨hE,g2,hC,g4⟩:=drop_cons h1
  cases r2 with
  |nil=>have:=List.drop_eq_nil_iff.1 h2;omega
  | cons b r2=>
   obtain⟨ZC,b2,Q3,_⟩:=drop_cons h2
   have cp:k<4611686018427387904:=by omega
   simp only[FA]at h
   have w1:(true==true)=true:=rfl
   have w2:(false==false)=true:=rfl
   have w3:(true==false)=false:=rfl
   have w4:(false==true)=false:=rfl
   have v1:(true != true)=false:=rfl
   have v2:(false != false)=false:=rfl
   have v3:(true != false)=true:=rfl
   have v4:(false != true)=true:=rfl
   rcases Bool.eq_false_or_eq_true a.ref with ea|ea
   ·rcases Bool.eq_false_or_eq_true b.ref with eb | eb
    ·simp only [ea,eb,w1,w2,if_true]at h
     repeat' (first
 |simp only[go_sem,hC,hE,hM,hY,ZC,Q3,ea,eb,w1,w2,v1,v2]
 | (with_reducible refine aB hQ ?_;exact bj))
     refine eV 0 0 ?_ ?_ (IH (r1,r2,k+1) ⟨g2,b2,h⟩ (Nat.lt_succ_self _))
     ·(simp only[go_sem,hC,hE,hM,hY,aL cp];try exact cu)
     ·(simp only[go_sem,hC,hE,hM,hY,aL cp];try exact cu)
    ·simp only [ea,eb,w3,w4,Bool.false_eq_true,if_false]at h
     subst h
     repeat' (first
 |simp only[go_sem,hC,hE,hM,hY,ZC,Q3,ea,eb,w3,w4,v3,v4]
 | (with_reducible refine aB hQ ?_;exact bj))
   ·rcases Bool.eq_false_or_eq_true b.ref with eb | eb
    ·simp only [ea,eb,w3,w4,Bool.false_eq_true,if_false]at h
     subst h
     repeat' (first
 |simp only[go_sem,hC,hE,hM,hY,ZC,Q3,ea,eb,w3,w4,v3,v4]
 | (with_reducible refine aB hQ ?_;exact bj))
    ·simp only [ea,eb,w1,w2,if_true]at h
     repeat' (first
 |simp only[go_sem,hC,hE,hM,hY,ZC,Q3,ea,eb,w1,w2,v1,v2]
 |(with_reducible refine aB hQ ?_;exact bj))
     refine eV 0 0 ?_ ?_ (IH (r1,r2,k+1) ⟨g2,b2,h⟩ (Nat.lt_succ_self _))
     ·(simp only[go_sem,hC,hE,hM,hY,aL cp];try exact cu)
     ·(simp only[go_sem,hC,hE,hM,hY,aL cp];try exact cu)
theorem aeT {p:Pg} {v:Sm} (h:p.jc) (hv:v.nE) (s:St):az Tryz.prog vD [.agg (cO p), .agg (bb v)] s (.bool (v.qE p)) s:=by
 refine az.pure ?_ (by simp[D.bI,D.ok,j8,nj]) rfl s
 obtain⟨sf,r5,rZ⟩:=h.procs
 have As:v.args.length<1000000000:=by have:=Ar.eo v.args;have:=hv.2.2;omega
 generalize hR:v.qE p=R
 simp only[Sm.qE]at hR
 unfold S0
 have b0:(v.kind != 4) = !(v.kind==4):=rfl
 rcases Bool.eq_false_or_eq_true (v.kind==4)with b1|b1
 case inr=>
  rw[b1]at b0
  simp only[b1,Bool.false_and]at hR
  subst hR
  refine az.go yJ rfl fun B Q hB hQ=>?_
  have⟨hC,hE,hM,hY⟩:=bE
  repeat' (first
 |simp only[go_sem,hC,hE,hM,hY,b0,Bool.not_false]
 |(with_reducible refine aB hQ ?_;exact bj))
 rw[b1]at b0
 simp only[b1,Bool.true_and,Pg.find]at hR
 refine az.go yJ rfl fun B Q hB hQ=>?_
 have⟨hC,hE,hM,hY⟩:=bE
 repeat' (first
 |simp only[go_sem,hC,hE,hM,hY,b0,Bool.not_true]
 |(with_reducible refine aB hQ ?_;exact bj))
 refine dS 2 0 (bg.ind (ι:=List Pc×Nat) (fun i=>p.procs.drop i.2=i.1∧(match iY v.proc i.1 with|none=>false|some q=>CI q.params v.args)=R) (fun i=>i.1.length)
  (fun i=> [(3, .ptr 1 0),(11, .slice .shared 5 (p.procs.map cJ)),(12, .int .i64 (p.procs.length:Int)),(13, .int .i64 (i.2:Int))]) (fun i=>⟨[cO p,bb v],[]⟩) ?_ (p.procs,0) ⟨rfl,hR⟩)
 clear hR
 rintro⟨rest,k⟩ ⟨h1,hR⟩ IH
 dsimp only at h1 hR
 cases rest with
 |nil=>
  have hC:=drop_nil h1
  simp only[iY]at hR
  subst hR
  repeat' (first
 |simp only[go_sem,hC,hE,hM,hY]
 |(with_reducible refine aB hQ ?_;exact bj))
 | cons a rest=>
  obtain⟨hE,g2,hC,g4⟩:=drop_cons h1
  have cp:k<4611686018427387904:=by omega
  have vY:=h.small (List.mem_of_getElem? hE)
  have Zv:=fun s=>aeS (l:=a.params) (m:=v.args) (by have:=vY.par;omega) As s
  simp only[iY]at hR
  rcases Bool.eq_false_or_eq_true (a.name==v.proc)with c1|c1
  ·simp only [c1,if_true]at hR
   subst hR
   repeat' (first
 |simp only[go_sem,hC,hE,hM,hY,c1]
 |(with_reducible refine CU (Zv _) ?_)
 | (with_reducible refine aB hQ ?_;exact bj))
  ·simp only [c1,Bool.false_eq_true,if_false]at hR
   repeat' (first
 |simp only[go_sem,hC,hE,hM,hY,c1]
 | (with_reducible refine aB hQ ?_;exact bj))
   refine eV 2 0 ?_ ?_ (IH (rest,k+1) ⟨g2,hR⟩ (Nat.lt_succ_self _))
   ·(simp only[go_sem,hC,hE,hM,hY,aL cp];try exact cu)
   ·(simp only[go_sem,hC,hE,hM,hY,aL cp];try exact cu)
def Lf (p:Pg):List Sm→Option Sm
 | []=>none
 |v::l=>if v.kind==4 && !(v.qE p)then some v else Lf p l
def qt (c:Int):Option Sm→Int×Int
 |some v=>(c,v.id)
 |none=>(0,0)
def Pg.arity (p:Pg):Int×Int:=if p.scope.1==0 then qt 6 (Lf p p.pre)else(1,0)
theorem Pg.jc.pre {p:Pg} (h:p.jc) : ∀ v∈p.pre,v.nE:=fun v m=>by
 simp only[Pg.pre,List.mem_flatten,List.mem_map]at m
 obtain⟨l,⟨f,hf,rfl⟩,m⟩:=m
 exact h.said hf v m
theorem Lg {p:Pg} (h:p.jc) (s:St):az Tryz.prog qB [.agg (cO p)] s (.agg [.int .i64 p.arity.1, .int .i64 p.arity.2]) s:=by
 refine az.pure ?_ (by simp[D.bI,D.ok,j8]) rfl s
 obtain⟨sf,r5,rZ⟩:=h.procs
 have pU:=fun s=>vX h s
 have dv:=fun s=>Cz (p:=p) (by omega) s
 have hL:=(nO p).1
 have HQ:=pB p
 generalize hR:p.arity=R
 simp only[Pg.arity]at hR
 unfold S0
 have b0:(p.scope.1 != 0) = !(p.scope.1==0):=rfl
 rcases Bool.eq_false_or_eq_true (p.scope.1==0)with b1|b1
 case inr=>
  rw[b1]at b0
  simp only[b1,Bool.false_eq_true,if_false]at hR
  subst hR
  refine az.go wR rfl fun B Q hB hQ=>?_
  have⟨hC,hE,hM,hY⟩:=bE
  repeat' (first
 |simp only[go_sem,hC,hE,hM,hY,b0,Bool.not_false]
 |(with_reducible refine CU (pU _) ?_)
 |(with_reducible refine aB hQ ?_;exact bj))
 rw[b1]at b0
 simp only[b1,if_true, ← hL]at hR
 refine az.go wR rfl fun B Q hB hQ=>?_
 have⟨hC,hE,hM,hY⟩:=bE
 repeat' (first
 |simp only[go_sem,hC,hE,hM,hY,b0,Bool.not_true,oc]
 |(with_reducible refine CU (pU _) ?_)
 |(with_reducible refine CU (dv _) ?_)
 |(with_reducible refine aB hQ ?_;exact bj))
 refine dS 2 0 (bg.ind (ι:=List Im×Nat) (fun i=>p.bh.L.drop i.2=i.1∧qt 6 (Lf p (i.1.map Im.s))=R) (fun i=>i.1.length)
  (fun i=> [(1, .ptr 0 0),(2, .ptr 1 0),(14, .slice .shared 17 (p.bh.L.map dN)),(15, .int .i64 (p.bh.L.length:Int)),(16, .int .i64 (i.2:Int))]) (fun i=>⟨[cO p,[.int .i64 0, .int .i64 0]],[]⟩) ?_ (p.bh.L,0) ⟨rfl,hR⟩)
 clear hR
 rintro⟨rest,k⟩ ⟨h1,hR⟩ IH
 dsimp only at h1 hR
 cases rest with
 |nil=>
  have hC:=drop_nil h1
  simp only[List.map_nil,Lf,qt]at hR
  subst hR
  repeat' (first
 |simp only[go_sem,hC,hE,hM,hY]
 |(with_reducible refine aB hQ ?_;exact bj))
 | cons a rest=>
  obtain⟨hE,g2,hC,g4⟩:=drop_cons h1
  have cp:k<4611686018427387904:=by omega
  have Fz:a.s∈p.pre:=by rw[← hL];exact List.mem_map_of_mem (List.mem_of_getElem? hE)
  have hf1:=fun s=>aeT h (h.pre _ Fz) s
  simp only[List.map_cons,Lf]at hR
  rcases Bool.eq_false_or_eq_true (a.s.kind==4)with c1|c1
  ·rcases Bool.eq_false_or_eq_true (a.s.qE p)with c2 | c2
   ·simp only [c1,c2,Bool.not_true,Bool.and_false,Bool.false_eq_true,if_false]at hR
    repeat' (first
 |simp only[go_sem,hC,hE,hM,hY,c1,c2]
 |(with_reducible refine CU (hf1 _) ?_)
 | (with_reducible refine aB hQ ?_;exact bj))
    refine eV 2 0 ?_ ?_ (IH (rest,k+1) ⟨g2,hR⟩ (Nat.lt_succ_self _))
    ·(simp only[go_sem,hC,hE,hM,hY,aL cp];try exact cu)
    ·(simp only[go_sem,hC,hE,hM,hY,aL cp];try exact cu)
   ·simp only [c1,c2,Bool.not_false,Bool.and_true,if_true,qt]at hR
    subst hR
    repeat' (first
 |simp only[go_sem,hC,hE,hM,hY,c1,c2]
 |(with_reducible refine CU (hf1 _) ?_)
 | (with_reducible refine aB hQ ?_;exact bj))
  ·simp only [c1,Bool.false_and,Bool.false_eq_true,if_false]at hR
   repeat' (first
 |simp only[go_sem,hC,hE,hM,hY,c1]
 |(with_reducible refine CU (hf1 _) ?_)
 | (with_reducible refine aB hQ ?_;exact bj))
   refine eV 2 0 ?_ ?_ (IH (rest,k+1) ⟨g2,hR⟩ (Nat.lt_succ_self _))
   ·(simp only[go_sem,hC,hE,hM,hY,aL cp];try exact cu)
   ·(simp only[go_sem,hC,hE,hM,hY,aL cp];try exact cu)
theorem BY {p:Pg} (h:(p.scope.1==0)=true):p.may=true:=by
 unfold Pg.scope at h
 split at h
 ·assumption
 ·cases h
def nG (out:List aF):List aF→aF→Bool→aF×Bool
 | [],c,a=>(c,a)
 |s::l,c,a=>if !(fw out s) && (!a ||bytesLess s c)then nG out l s true else nG out l c a
def TX (l out:List aF):List aF:=if(nG out l [] false).2 then out++ [(nG out l [] false).1]else out
def pP (l:List aF):Nat→List aF→List aF
 | 0,out=>out
 |n+1,out=>pP l n (TX l out)
def kD (l:List aF):List aF:=pP l l.length []
end Go.Abs
namespace Go.Proofs
open Go.Shelf
def Tryz.MM:Go.Shelf.Ren:=⟨fun| 190=>176| 125=>200| 258=>199| 128=>223| 129=>224| 302=>214| 303=>215| 304=>216| 305=>217| 306=>218| 307=>219| 308=>220| 309=>221| 310=>222| 333=>236| 329=>237| 330=>238| 334=>239| 335=>240| 336=>241| 344=>244|n=>n,fun| 31=>22| 9=>9| 3=>3| 46=>220| 0=>0| 51=>241| 53=>200| 4=>4| 183=>234| 182=>233| 131=>158| 5=>5| 218=>248| 222=>252| 228=>255| 229=>256|n=>n,fun|n=>n⟩
theorem Tryz.Nu:Go.Proofs.Lays.n190 Tryz.prog Tryz.MM:= {
 mixed:=by kernel_rfl
 f125:=Tryz.func200.trans (congrArg some (by kernel_rfl))
 f128:=Tryz.func223.trans (congrArg some (by kernel_rfl))
 f129:=Tryz.func224.trans (congrArg some (by kernel_rfl))
 f190:=Tryz.func176.trans (congrArg some (by kernel_rfl))
 f258:=Tryz.func199.trans (congrArg some (by kernel_rfl))
 f302:=Tryz.func214.trans (congrArg some (by kernel_rfl))
 f303:=Tryz.func215.trans (congrArg some (by kernel_rfl))
 f304:=Tryz.func216.trans (congrArg some (by kernel_rfl))
 f305:=Tryz.func217.trans (congrArg some (by kernel_rfl))
 f306:=Tryz.func218.trans (congrArg some (by kernel_rfl))
 f307:=Tryz.func219.trans (congrArg some (by kernel_rfl))
 f308:=Tryz.func220.trans (congrArg some (by kernel_rfl))
 f309:=Tryz.func221.trans (congrArg some (by kernel_rfl))
 f310:=Tryz.func222.trans (congrArg some (by kernel_rfl))
 f329:=Tryz.func237.trans (congrArg some (by kernel_rfl))
 f330:=Tryz.func238.trans (congrArg some (by kernel_rfl))
 f333:=Tryz.func236.trans (congrArg some (by kernel_rfl))
 f334:=Tryz.func239.trans (congrArg some (by kernel_rfl))
 f335:=Tryz.func240.trans (congrArg some (by kernel_rfl))
 f336:=Tryz.func241.trans (congrArg some (by kernel_rfl))
 f344:=Tryz.func244.trans (congrArg some (by kernel_rfl))
 t0:=Tryz.underlying0
 a0:=Tryz.isAgg0
 z0:=Tryz.sizeOf0
 v0:=Tryz.zeroValue0
 t3:=Tryz.underlying3
 a3:=Tryz.isAgg3
 z3:=Tryz.sizeOf3
 v3:=Tryz.zeroValue3
 t4:=Tryz.underlying4
 a4:=Tryz.isAgg4
 z4:=Tryz.sizeOf4
 v4:=Tryz.zeroValue4
 t5:=Tryz.underlying5
 a5:=Tryz.isAgg5
 z5:=Tryz.sizeOf5
 v5:=Tryz.zeroValue5
 t9:=Tryz.underlying9
 a9:=Tryz.isAgg9
 z9:=Tryz.sizeOf9
 v9:=Tryz.zeroValue9
 t31:=Tryz.underlying22
 a31:=Tryz.isAgg22
 z31:=Tryz.sizeOf22
 v31:=Tryz.zeroValue22
 t46:=Tryz.underlying220
 a46:=Tryz.isAgg220
 z46:=Tryz.sizeOf220
 v46:=Tryz.zeroValue220
 t51:=Tryz.underlying241
 a51:=Tryz.isAgg241
 z51:=Tryz.sizeOf241
 v51:=Tryz.zeroValue241
 t53:=Tryz.underlying200
 a53:=Tryz.isAgg200
 z53:=Tryz.sizeOf200
 v53:=Tryz.zeroValue200
 t131:=Tryz.underlying158
 a131:=Tryz.isAgg158
 z131:=Tryz.sizeOf158
 v131:=Tryz.zeroValue158
 t182:=Tryz.underlying233
 a182:=Tryz.isAgg233
 z182:=Tryz.sizeOf233
 v182:=Tryz.zeroValue233
 t183:=Tryz.underlying234
 a183:=Tryz.isAgg234
 z183:=Tryz.sizeOf234
 v183:=Tryz.zeroValue234
 t218:=Tryz.underlying248
 a218:=Tryz.isAgg248
 z218:=Tryz.sizeOf248
 v218:=Tryz.zeroValue248
 t222:=Tryz.underlying252
 a222:=Tryz.isAgg252
 z222:=Tryz.sizeOf252
 v222:=Tryz.zeroValue252
 t228:=Tryz.underlying255
 a228:=Tryz.isAgg255
 z228:=Tryz.sizeOf255
 v228:=Tryz.zeroValue255
 t229:=Tryz.underlying256
 a229:=Tryz.isAgg256
 z229:=Tryz.sizeOf256
 v229:=Tryz.zeroValue256}
open Go.Sort Go.RowKit in
theorem Tryz.slices_Sort_string (B0 off cap:Nat) (ss:List (List UInt8)) (w:World) (hH:Holds encStr w B0 off ss.toArray) (asP:B0<w.heap.size) (ej:ss.length<4611686018427387904) :
 Calls Tryz.prog 176 #[.slice (some ⟨B0,off,none⟩) ss.length cap] w fun e w'=>
  e = .returned (.tuple #[])∧∃ n os,w'=grow (putRow encStr (Sort.ahead w n) B0 off (ss.mergeSort fun x y=>decide (x≤y)).toArray) os:=Any.slices_Sort_string Tryz.Nu B0 off cap ss w hH asP ej
def Tryz.MN:Go.Shelf.Ren:=⟨fun| 194=>177|n=>n,fun| 31=>22| 9=>9| 3=>3| 4=>4| 0=>0|n=>n,fun|n=>n⟩
theorem Tryz.Nv:Go.Proofs.Lays.n194 Tryz.prog Tryz.MN:= {
 mixed:=by kernel_rfl
 f194:=Tryz.func177.trans (congrArg some (by kernel_rfl))
 t0:=Tryz.underlying0
 a0:=Tryz.isAgg0
 z0:=Tryz.sizeOf0
 v0:=Tryz.zeroValue0
 t3:=Tryz.underlying3
 a3:=Tryz.isAgg3
 z3:=Tryz.sizeOf3
 v3:=Tryz.zeroValue3
 t4:=Tryz.underlying4
 a4:=Tryz.isAgg4
 z4:=Tryz.sizeOf4
 v4:=Tryz.zeroValue4
 t9:=Tryz.underlying9
 a9:=Tryz.isAgg9
 z9:=Tryz.sizeOf9
 v9:=Tryz.zeroValue9
 t31:=Tryz.underlying22
 a31:=Tryz.isAgg22
 z31:=Tryz.sizeOf22
 v31:=Tryz.zeroValue22}
open Go.RowKit Go.Lib Go.Sort in
theorem Tryz.slices_Compact_string (B0 off cap:Nat) (zs:List (List UInt8)) (w:World) (hH:Holds encStr w B0 off zs.toArray) (ej:zs.length≤9223372036854775807) (tX:zs.length≤cap) :
 Calls Tryz.prog 177 #[.slice (some ⟨B0,off,none⟩) zs.length cap] w fun e w'=>e = .returned (.slice (some ⟨B0,off,none⟩) (Lib.compact zs).length cap)∧∃ q,w'=putRow encStr (Sort.ahead w q) B0 off (Lib.compact zs++List.replicate (zs.length - (Lib.compact zs).length) []).toArray:=Any.slices_Compact_string Tryz.Nv B0 off cap zs w hH ej tX
open Go.RowKit Go.Lib Go.Sort in
theorem Tryz.slices_Compact_string_empty (a:Option Addr) (cap:Nat) (w:World) :
 Calls Tryz.prog 177 #[.slice a 0 cap] w fun e w'=>e = .returned (.slice a 0 cap)∧w'=w:=Any.slices_Compact_string_empty Tryz.Nv a cap w
open Go.RowKit Go.Sort in
theorem Tryz.slices_Sort_string_none (p:Option Addr) (cap:Nat) (w:World) :
 Calls Tryz.prog 176 #[.slice p 0 cap] w fun e w'=>e = .returned (.tuple #[])∧w'=w:=Any.slices_Sort_string_none Tryz.Nu p cap w
end Go.Proofs
namespace Go.Abs
open Go.Proofs
section
variable {P:Program} {B:fa} {nt:Nat}
theorem abb {x:Operand} {t:Nat} (h:cX x=some (.s t)):x = .tmp t:=by
 unfold cX at h
 split at h
 ·cases h;rfl
 ·obtain⟨d,_,h⟩:=map_some h;cases h
 ·cases h
 ·cases h
theorem Q5 {ops:Array Oper} {o:Oper} {g g':Option (Nat×Bool)} {dst:Option Nat} {f:Nat} {xs:List X} (h:sL P ops o g=some (.call dst g' f xs)) :
 g'=g∧∃ args mM,o.op = .call ⟨.value (.func f),args,mM⟩∧enters P f=true∧x0 args.toList=some xs:=by
 unfold sL at h
 split at h
 ·rename_i f' args mM mL
  split at h
  ·rename_i he
   obtain⟨xs',h1,h2⟩:=map_some h
   cases h2
   exact⟨rfl,args,mM,mL,he,h1⟩
  ·cases h
 ·obtain⟨_,_,h⟩:=map_some h;cases h
 ·split at h
  ·cases h
  ·split at h<;>cases h
theorem TY {ops:Array Oper} {o:Oper} {tmps:Array Value} (hg:vk ops o.guard=some none):Region.wanted o (yielded ops tmps)=true:=by
 have:o.guard=none:=by
  cases Hh:o.guard with
  |none=>rfl
  |some p=>
   obtain⟨j,b⟩:=p
   rw[Hh]at hg
   unfold vk at hg
   simp only at hg
   split at hg<;>cases hg
 simp[Region.wanted,this]
theorem Sem.aeW {a k b f:Nat} {is:List AI} {Q:Exit→Tm→St→Prop} {tm:Tm} {s:St}
 (aib : ∀ act w,Holds B nt (tm.put (some a) (tm.get k)) s act w→Calls P f #[act.tmps.getD a Go.undef] w fun e w'=>∃ v,e = .returned v∧∃ bF s',Holds B nt bF s' (act.put (some b) v) w'∧jb P is (Q .normal) bF s') :
 Sem P B nt (.run (.op (some a) none (.mv (.s k)):: .call (some b) none f [.s a]::is)) Q tm s:=by
 intro c hc act w hh
 obtain⟨id,ops,rfl,hi⟩:=lF hc
 refine wp_region ?_
 have key : ∀ (l:List Nat) (ol:List Oper),l.map (ops[·]?)=ol.map some→rj P nt ops ol=some (.op (some a) none (.mv (.s k)):: .call (some b) none f [.s a]::is)→wpOps P ops (p7 B nt Q) l act w:=by
  intro l ol hl xu
  match ol,l,hl with
  | [],_,_=>simp[rj]at xu
  |o0::ol,[],hl=>simp at hl
  | o0::ol,j0::l,hl=>
   simp only[List.map_cons,List.cons.injEq]at hl
   obtain⟨hj0,hl⟩:=hl
   unfold rj at xu
   split at xu
   ·rename_i i0 is0 h1 h2
    cases xu
    match ol,l,hl,h2 with
    | [],_,_,h2=>simp[rj]at h2
    |o1::ol,[],hl,_=>simp at hl
    | o1::ol,j1::l,hl,h2=>
     simp only[List.map_cons,List.cons.injEq]at hl
     obtain⟨hj1,hl⟩:=hl
     unfold rj at h2
     split at h2
     ·rename_i i1 is1 h3 h4
      cases h2
      obtain⟨M,e,r,ht,hn,hd⟩:=hh
      have hd0:=tA h1
      have Nw:=tA h3
      simp only[AI.dst]at hd0 Nw
      refine xr (K':=fun bF s'=>bF=tm.put (some a) (tm.get k)∧s'=s) hj0 h1 r (B.laid.ext e) ht (by simp only[jb,guarded,aO,X.ev,and_self]) (fun d v s1 w1 M1 hk e1 r1 hv=>?_)
      obtain⟨rn,rfl⟩:=hk
      have hH:=Holds.put e ht hn hd (yk h1) e1 r1 hv
      simp only[AI.dst]at rn
      rw[← hd0]at hH ⊢
      rw[rn]at hH
      obtain⟨g,hg,_,hb⟩:=Bq h3
      obtain⟨rfl,args,mM,mL,zm,oO⟩:=Q5 hb
      simp only[wpOps,hj1,TY hg,if_true]
      left
      have WL:args.map (act.put (some a) v).eval = #[(act.put (some a) v).tmps.getD a Go.undef]:=by
       have:args.toList = [.tmp a]:=by
        match hA:args.toList with
        | []=>rw[hA]at oO;simp[x0]at oO
        | [x]=>
         rw[hA]at oO
         simp only[x0]at oO
         split at oO
         ·rename_i x' r' hx hr
          cases oO
          rw[abb hx]
         ·cases oO
        | x::y::z=>
         rw[hA]at oO
         simp only[x0]at oO
         split at oO
         ·rename_i x' r' hx hr
          cases oO
          split at hr
          ·cases hr
          ·cases hr
         ·cases oO
       have:args = #[.tmp a]:=by rw[← Array.toArray_toList (xs:=args),this]
       rw[this]
       simp only[List.map_toArray,List.map_cons,List.map_nil]
       rfl
      have hex:(execOp (act.put (some a) v).eval o1).run P w1 = .ok (.enter f #[(act.put (some a) v).tmps.getD a Go.undef]) w1:=by
       obtain⟨dst,op,type,pos,after,guard⟩:=o1
       simp only at mL
       subst mL
       rw[← WL]
       exact xm (act.put (some a) v).eval dst f args mM type pos after guard rfl zm w1
      unfold Oper.wp
      rw[hex,Oper.upon_enter]
      refine(aib _ _ hH).mono ?_
      rintro en w' ⟨v',rfl,bF,s',hH',hvc⟩
      rw[← Nw]
      exact Bl (Q:=Q) l ol _ hl h4 bF s' _ w' hvc hH'
     ·cases h2
   ·cases xu
 exact key _ _ (Bm ops) hi
theorem HR (hB:B.s = ⟨[],[]⟩) {tm:Tm} {s:St} {act:Act} {w:World} (h:Holds B nt tm s act w) {t:Nat} {l:List aF} (ht:s.aw[t]? = some (some l.length)) {k0:Nat} (hk0:tm.get k0 = .slice (.tok t) 1 (l.map encStr)) :
 (l = []∧∀ k,tm.get k = .slice (.tok t) 1 (l.map encStr)→(act.tmps.getD k Go.undef = .slice none 0 0∨∃ b q,act.tmps.getD k Go.undef = .slice (some ⟨b,q,none⟩) 0 0))∨
 ∃ (b cap:Nat) (vs:Array Value) (T:TypeId),(∀ k,tm.get k = .slice (.tok t) 1 (l.map encStr)→act.tmps.getD k Go.undef = .slice (some ⟨b,0,none⟩) l.length cap)∧l.length≤cap∧w.heap[b]? = some (.cells vs T (0,0))∧vs.size=cap∧B.w.heap.size≤b∧
  ∀ j (hj:j<l.length),vs[j]? = some (.string ⟨⟨l[j]⟩⟩):=by
 obtain⟨M,e,r,hr,_,_⟩:=h
 rcases r.tok t _ ht with ⟨h3,h4⟩|⟨b,cap,z,vs,T,h3,h4,h5,h6,h7⟩
 ·have hl:l = []:=List.eq_nil_of_length_eq_zero h4
  subst hl
  refine .inl ⟨rfl,fun k hk=>?_⟩
  have hv:=hr k
  rw[hk]at hv
  generalize act.tmps.getD k Go.undef=v at hv
  cases hv with
  |jv _ _ cap hc pW=>subst hc;exact .inl rfl
  |slice _ _ _ b q cap hl hs h1 h2 pW=>
   rcases(pW.2 _ ht).2 rfl with ⟨_,h0,_⟩|⟨b',_,kW⟩
   ·subst h0;exact .inr ⟨b,q,rfl⟩
   ·rw[h3]at kW;cases kW
 ·right
  have each : ∀ k,tm.get k = .slice (.tok t) 1 (l.map encStr)→z=1∧act.tmps.getD k Go.undef = .slice (some ⟨b,0,none⟩) l.length cap∧l.length≤cap∧∀ j (hj:j<l.length),∃ u,M.G b j=some u∧RD M s (.str l[j]) u:=by
   intro k hk
   have hv:=hr k
   rw[hk]at hv
   generalize act.tmps.getD k Go.undef=v at hv
   generalize ky:l.map encStr=rows at hv
   cases hv with
   |jv _ _ cap hc pW=>
    have hl:l = []:=by cases l<;>simp at ky;rfl
    subst hl
    rcases(pW.2 _ ht).2 rfl with ⟨h0,_⟩|⟨b',h0,_⟩
    ·rw[h3]at h0;cases h0
    ·cases h0
   | slice _ _ _ b2 q aAt hl hs h1 h2 pW=>
    subst ky
    rw[List.length_map]at hl pW
    rcases(pW.2 _ ht).2 rfl with ⟨h0,_⟩|⟨b',hb,kW⟩
    ·rw[h3]at h0;cases h0
    ·cases hb
     rw[h3]at kW
     cases kW
     refine⟨rfl,by rw[List.length_map],hl,fun j hj=>?_⟩
     have e1:(l.map encStr)[j]? = some [.str l[j]]:=by rw[List.getElem?_map,List.getElem?_eq_getElem hj];rfl
     obtain⟨u,hu⟩:=h1 j _ 0 _ e1 rfl
     refine⟨u,by simpa using hu,h2 j _ 0 _ u e1 rfl hu⟩
  obtain⟨rfl,_,tX,l8⟩:=each k0 hk0
  have dv:B.w.heap.size≤b:=by
   rcases e.qG t b cap 1 ⟨_,ht⟩ h3 with ⟨⟨n,hn⟩,_⟩|h
   ·rw[hB]at hn;simp at hn
   ·exact h
  refine⟨b,cap,vs,T,fun k hk=>(each k hk).2.1,tX,h4,by simpa[zs]using h5,dv,fun j hj=>?_⟩
  obtain⟨u,hu,jC⟩:=l8 j hj
  have:=(r.comm _ _ _ hu).1
  rw[jm h4,jC.lx]at this
  exact this
theorem Lh (hB:B.s = ⟨[],[]⟩) {tm:Tm} {s:St} {act uy:Act} {w w':World} (h:Holds B nt tm s act w) {b cap:Nat} {vs:Array Value} {T:TypeId} (ej:vs.size=cap) (wV:B.w.heap.size≤b)
 (lZ : ∀ q,q<B.w.heap.size→w'.heap[q]? = w.heap[q]?) (eD:w'.heap[b]? = some (.cells vs T (0,0))) (eL:w.heap.size≤w'.heap.size) (uE:w'.os=w.os) (EA:w'.tape=w.tape) (Vf:w'.output=w.output)
 {l:List aF} (hl:l.length≤cap) (l8 : ∀ j (hj:j<l.length),vs[j]? = some (.string ⟨⟨l[j]⟩⟩)) {k:Nat} (Q6:uy.tmps.getD k Go.undef = .slice (some ⟨b,0,none⟩) l.length cap) (hn:uy.tmps.size=nt) (hd:uy.defers = []) :
 Holds B nt [(k, .slice (.tok 0) 1 (l.map encStr))] ⟨[],[some l.length]⟩ uy w':=by
 obtain⟨M,e,r,hr,_,_⟩:=h
 let M':Map:=⟨fun q o=>if q=b then(if o<l.length then(l[o]?).map fun x=>Value.string ⟨⟨x⟩⟩else none)else B.M.G q o,B.M.loc,fun _=>some (b,cap,1)⟩
 have hGb : ∀ q o v,B.M.G q o=some v→q<B.w.heap.size∧w'.cell? ⟨q,o,none⟩=some v∧v.oneCell'=true:=by
  intro q o v hq
  obtain⟨h1,h2⟩:=r.comm q o v (e.le.G q o v hq)
  have hC:=B.Dm q o v hq
  refine⟨hC, ?_,h2⟩
  rw[← h1]
  simp[World.cell?,lZ q hC]
 have kM : ∀ j (hj:j<l.length),w'.cell? ⟨b,j,none⟩=some (.string ⟨⟨l[j]⟩⟩):=fun j hj=>by rw[jm eD];exact l8 j hj
 have hE : ∀ (j:Nat) v,(if j<l.length then(l[j]?).map fun x=>Value.string ⟨⟨x⟩⟩else none)=some v→∃ hj:j<l.length,v = .string ⟨⟨l[j]⟩⟩:=by
  intro j v hv
  split at hv
  ·rename_i hj
   rw[List.getElem?_eq_getElem hj]at hv
   exact⟨hj,by simpa using hv.symm⟩
  ·cases hv
 refine⟨M',⟨⟨fun q o v hq=>?_,by simp[hB],fun o ho=> .refl _,by rw[hB];exact Nat.zero_le _,fun t n' ht _=>by rw[hB]at ht;exact absurd ht (Nat.not_lt_zero _)⟩,fun q hq _ _=>?_,fun o _ h2=>absurd h2 (Nat.not_lt_zero _),fun t q c z _ hb=>?_,fun q o fl=>?_,Nat.le_trans e.size eL,uE.trans e.os,EA.trans e.tape,Vf.trans e.output⟩,
  ⟨fun q o v hq=>?_,fun o ds ho=>by simp at ho,fun o ho=>absurd ho (Nat.not_lt_zero _),fun o o' ho=>absurd ho (Nat.not_lt_zero _),fun t n ht=>?_,fun t q c z o _ _ ho=>absurd ho (Nat.not_lt_zero _),fun t t' q c z c' z' vU lh _ _=>?_⟩,fun u=>?_,hn,hd⟩
 ·show(if q=b then _ else B.M.G q o)=some v
  rw[if_neg (by have:=(hGb q o v hq).1;omega)]
  exact hq
 ·rw [lZ q hq]
  exact e.kept q hq (fun o ho=>by rw[hB]at ho;exact absurd ho (Nat.not_lt_zero _)) (fun t c z lh=>by rw[hB]at lh;obtain⟨n,AB⟩:=lh;simp at AB)
 ·cases hb;exact .inr wV
 ·by_cases hq:q=b
  ·subst hq;exact .inl wV
  ·exact absurd (show(if q=b then _ else B.M.G q o)=B.M.G q o from if_neg hq) fl
 ·have mJ:(if q=b then(if o<l.length then(l[o]?).map fun x=>Value.string ⟨⟨x⟩⟩else none)else B.M.G q o)=some v:=hq
  by_cases hqb:q=b
  ·rw [if_pos hqb]at mJ
   obtain⟨hj,rfl⟩:=hE o v mJ
   rw[hqb]
   exact⟨kM o hj,rfl⟩
  ·rw [if_neg hqb]at mJ
   exact(hGb q o v mJ).2
 ·match t with
  | 0=>
   simp at ht
   subst ht
   refine .inr ⟨b,cap,1,vs,T,rfl,eD,by simp[zs,ej],hl,fun off ho=>?_,fun h=>by cases h⟩
   show(if b=b then(if off<l.length then _ else none)else B.M.G b off)=none
   rw[if_pos rfl,if_neg (by simp[zs]at ho;omega)]
  |t+1=>simp at ht
 ·obtain⟨n1,h1⟩:=vU
  obtain⟨n2,h2⟩:=lh
  have a1:=(List.getElem?_eq_some_iff.1 h1).1
  have a2:=(List.getElem?_eq_some_iff.1 h2).1
  simp at a1 a2
  omega
 ·simp only [Tm.get]
  split
  ·rename_i hku
   subst hku
   rw[Q6]
   have:=RD.slice (M:=M') (s:=⟨[],[some l.length]⟩) (.tok 0) 1 (l.map encStr) b 0 cap (by simpa using hl) (fun row hr=>by
    obtain⟨x,_,rfl⟩:=List.mem_map.1 hr;rfl) (fun i row j d e1 e2=>?_) (fun i row j d u e1 e2 eu=>?_) ⟨by simp,fun n AB=>by
    simp at AB
    subst AB
    exact⟨by simp,fun _=> .inr ⟨b,rfl,rfl⟩⟩⟩
   ·simpa using this
   ·rw [List.getElem?_map]at e1
    cases Ao:l[i]? with
    |none=>rw[Ao]at e1;cases e1
    |some x=>
     have qZ:=(List.getElem?_eq_some_iff.1 Ao).1
     rw[Ao]at e1
     cases e1
     have hj:j=0:=by cases j with|zero=>rfl|succ j=>simp[encStr]at e2
     subst hj
     refine⟨.string ⟨⟨x⟩⟩, ?_⟩
     show(if b=b then(if 0+(i*1+0)<l.length then _ else none)else _)=_
     rw[if_pos rfl,if_pos (by omega)]
     simp[Ao]
   ·rw [List.getElem?_map]at e1
    cases Ao:l[i]? with
    |none=>rw[Ao]at e1;cases e1
    |some x=>
     have qZ:=(List.getElem?_eq_some_iff.1 Ao).1
     rw[Ao]at e1
     cases e1
     have hj:j=0:=by cases j with|zero=>rfl|succ j=>simp[encStr]at e2
     subst hj
     have Fg:(if b=b then(if 0+(i*1+0)<l.length then(l[0+(i*1+0)]?).map fun x=>Value.string ⟨⟨x⟩⟩else none)else B.M.G b (0+(i*1+0)))=some u:=eu
     rw[if_pos rfl,if_pos (by omega)]at Fg
     simp[Ao]at Fg
     subst Fg
     simp[encStr]at e2
     subst e2
     exact .str x
  ·exact .junk _
theorem Nx (hB:B.s = ⟨[],[]⟩) {tm:Tm} {s:St} {act uy:Act} {w:World} (h:Holds B nt tm s act w) {k:Nat} (Q6:uy.tmps.getD k Go.undef = .slice none 0 0∨∃ b q,uy.tmps.getD k Go.undef = .slice (some ⟨b,q,none⟩) 0 0) (hn:uy.tmps.size=nt) (hd:uy.defers = []) :
 Holds B nt [(k, .slice (.tok 0) 1 (([] : List aF).map encStr))] ⟨[],[some 0]⟩ uy w:=by
 obtain⟨M,e,r,hr,_,_⟩:=h
 let M':Map:=⟨B.M.G,B.M.loc,fun _=>none⟩
 refine⟨M',⟨⟨fun q o v hq=>hq,by simp[hB],fun o ho=> .refl _,by rw[hB];exact Nat.zero_le _,fun t n' ht _=>by rw[hB]at ht;exact absurd ht (Nat.not_lt_zero _)⟩,fun q hq _ _=>?_,fun o _ h2=>absurd h2 (Nat.not_lt_zero _),fun t q c z _ hb=>(by cases hb),fun q o fl=>absurd rfl fl,e.size,e.os,e.tape,e.output⟩,
  ⟨fun q o v hq=>r.comm q o v (e.le.G q o v hq),fun o ds ho=>by simp at ho,fun o ho=>absurd ho (Nat.not_lt_zero _),fun o o' ho=>absurd ho (Nat.not_lt_zero _),fun t n ht=>?_,fun t q c z o _ _ ho=>absurd ho (Nat.not_lt_zero _),fun t t' q c z c' z' vU lh h1 _=>by cases h1⟩,fun u=>?_,hn,hd⟩
 ·exact e.kept q hq (fun o ho=>by rw[hB]at ho;exact absurd ho (Nat.not_lt_zero _)) (fun t c z lh=>by rw[hB]at lh;obtain⟨n,AB⟩:=lh;simp at AB)
 ·match t with
  | 0=>simp at ht;subst ht;exact .inl ⟨rfl,rfl⟩
  |t+1=>simp at ht
 ·simp only [Tm.get]
  split
  ·rename_i hku
   subst hku
   have pW : ∀ base,iU M' ⟨[],[some 0]⟩ (.tok 0) 1 0 base 0:=fun base=>⟨by simp,fun n AB=>by
    simp at AB
    subst AB
    exact⟨Nat.le_refl _,fun _=> .inl ⟨rfl,rfl,fun h=>by cases h⟩⟩⟩
   rcases Q6 with h|⟨b,q,h⟩
   ·rw[h];exact .jv _ _ 0 rfl (pW none)
   ·rw[h];exact .slice (.tok 0) 1 [] b q 0 (Nat.le_refl _) (by simp) (by simp) (by simp) (pW _)
  ·exact .junk _
theorem Li {α:Type} [Inhabited α] (enc:α→Value) (d:Array α) (c:Array Value) (j:Nat):(Sort.putCells enc 0 d c)[j]? = if j<d.size then(c[j]?).map fun _=>enc d[j]! else c[j]? :=by
 simp only[Sort.putCells,Array.getElem?_mapIdx]
 cases h:c[j]? with
 |none=>simp
 |some x=>by_cases hj:j<d.size<;>simp[hj]
theorem HS {w:World} {b n cap:Nat} {vs:Array Value} {T:TypeId} (eD:w.heap[b]? = some (.cells vs T (0,0))) (ej:vs.size=cap) (l:List aF) (hl:l.length≤cap) (os:Array Obj) :
 (∀ q,q≠b→q<w.heap.size→(Sort.grow (Sort.putRow Go.Proofs.encStr (Sort.ahead w n) b 0 l.toArray) os).heap[q]? = w.heap[q]?)∧
 (Sort.grow (Sort.putRow Go.Proofs.encStr (Sort.ahead w n) b 0 l.toArray) os).heap[b]? = some (.cells (Sort.putCells Go.Proofs.encStr 0 l.toArray vs) T (0,0))∧w.heap.size≤(Sort.grow (Sort.putRow Go.Proofs.encStr (Sort.ahead w n) b 0 l.toArray) os).heap.size∧
 (Sort.putCells Go.Proofs.encStr 0 l.toArray vs).size=cap∧∀ j (hj:j<l.length),(Sort.putCells Go.Proofs.encStr 0 l.toArray vs)[j]? = some (.string ⟨⟨l[j]⟩⟩):=by
 have hb:b<w.heap.size:=(Array.getElem?_eq_some_iff.1 eD).1
 refine⟨fun q hq hC=>?_, ?_, ?_, ?_,fun j hj=>?_⟩
 ·simp only [Sort.grow,Sort.putRow,Sort.mapBlock,Sort.ahead]
  rw[Array.getElem?_append_left (by simpa using hC),Array.getElem?_modify]
  simp[Ne.symm hq]
 ·simp only [Sort.grow,Sort.putRow,Sort.mapBlock,Sort.ahead]
  rw[Array.getElem?_append_left (by simpa using hb),Array.getElem?_modify]
  simp[eD,Sort.onCells]
 ·simp[Sort.grow,Sort.putRow,Sort.mapBlock,Sort.ahead]
 ·simp[Sort.putCells,ej]
 ·rw [Li]
  have h1:j<l.toArray.size:=by simpa using hj
  have h2:vs[j]? = some vs[j]:=Array.getElem?_eq_getElem (by omega)
  rw[if_pos h1,h2]
  simp[hj]
def mh (l:List aF):List aF:=l.mergeSort fun x y=>decide (x≤y)
theorem Lj {act:Act} {b:Nat} {v:Value} {u:Nat} (h:u≠b):(act.put (some b) v).tmps.getD u Go.undef=act.tmps.getD u Go.undef:=by
 simp only[Act.put,Array.getD_eq_getD_getElem?]
 rw[Array.getElem?_setIfInBounds_ne (fun e=>h e.symm)]
theorem HT {act:Act} {b:Nat} {v:Value} (h:b<act.tmps.size):(act.put (some b) v).tmps.getD b Go.undef=v:=by
 simp only[Act.put,Array.getD_eq_getD_getElem?]
 simp[h]
theorem Sem.sort (hB:B.s = ⟨[],[]⟩) {a k b t:Nat} {l:List aF} {is:List AI} {Q:Exit→Tm→St→Prop} {tm:Tm} {s:St} (hak:a≠k) (hbk:b≠k) (Zu:a≠b)
 (hk:tm.get k = .slice (.tok t) 1 (l.map encStr)) (ht:s.aw[t]? = some (some l.length)) (hl:l.length<4611686018427387904)
 (h:jb Tryz.prog is (Q .normal) [(k, .slice (.tok 0) 1 ((mh l).map encStr))] ⟨[],[some l.length]⟩) :
 Sem Tryz.prog B nt (.run (.op (some a) none (.mv (.s k)):: .call (some b) none jH [.s a]::is)) Q tm s:=by
 refine Sem.aeW fun act w hh=>?_
 have Ak:(tm.put (some a) (tm.get k)).get k = .slice (.tok t) 1 (l.map encStr):=by rw[Tm.lA,if_neg (by simpa using hak)];exact hk
 have Lk:(tm.put (some a) (tm.get k)).get a = .slice (.tok t) 1 (l.map encStr):=by rw[Tm.lA,if_pos rfl];exact hk
 have FB:(mh l).length=l.length:=List.length_mergeSort l
 have hn:(act.put (some b) (.tuple #[])).tmps.size=nt:=by obtain⟨_,_,_,_,h1,_⟩:=hh;simpa[Act.put]using h1
 have hd:(act.put (some b) (.tuple #[])).defers = []:=by obtain⟨_,_,_,_,_,h1⟩:=hh;simpa[Act.put]using h1
 have ej:(act.tmps).size=nt:=by obtain⟨_,_,_,_,h1,_⟩:=hh;exact h1
 rcases HR hB hh ht Lk with ⟨rfl,hv⟩|⟨b',cap,vs,T,hv,tX,eD,tv,wV,l8⟩
 ·rw [show mh [] = [] by simp [mh]]at h
  have call : ∀ p,act.tmps.getD a Go.undef = .slice p 0 0→Calls Tryz.prog jH #[act.tmps.getD a Go.undef] w fun e w'=>∃ v,e = .returned v∧∃ bF s',Holds B nt bF s' (act.put (some b) v) w'∧jb Tryz.prog is (Q .normal) bF s':=by
   intro p hp
   rw[hp]
   refine(Tryz.slices_Sort_string_none p 0 w).mono ?_
   rintro e w' ⟨rfl,rfl⟩
   refine⟨_,rfl,_,_,Nx hB hh (k:=k) ?_ hn hd,h⟩
   rw[Lj (Ne.symm hbk)]
   exact hv k Ak
  rcases hv a Lk with h1|⟨b',q,h1⟩
  ·exact call _ h1
  ·exact call _ h1
 ·rw [hv a Lk]
  have hC:b'<w.heap.size:=(Array.getElem?_eq_some_iff.1 eD).1
  refine(Tryz.slices_Sort_string b' 0 cap l w (fun j hj=>?_) hC hl).mono ?_
  ·have T1:j<l.length:=by simpa using hj
   refine⟨?_,by simp[World.frozen?,eD]⟩
   rw[Nat.zero_add,jm eD,l8 j T1]
   simp[T1]
  ·rintro e w' ⟨rfl,n,os,rfl⟩
   obtain⟨p1,p2,p3,p4,p5⟩:=HS (n:=n) eD tv (mh l) (by omega) os
   have hH:=Lh hB hh (uy:=act.put (some b) (.tuple #[])) (l:=mh l) (k:=k) p4 wV (fun q hq=>p1 q (by omega) (by obtain⟨M,e,_⟩:=hh;exact Nat.lt_of_lt_of_le hq e.size)) p2 p3 rfl rfl rfl (by omega) p5 (by rw[Lj (Ne.symm hbk),hv k Ak,FB]) hn hd
   rw[FB]at hH
   exact⟨_,rfl,_,_,hH,h⟩
theorem MO (l:List aF):(Lib.compact l).length≤l.length:=by
 unfold Lib.compact Lib.compactUpTo
 rw[List.length_map]
 exact Nat.le_trans (List.length_filter_le _ _) (by simp)
theorem Sem.compact (hB:B.s = ⟨[],[]⟩) {a k b t:Nat} {l:List aF} {is:List AI} {Q:Exit→Tm→St→Prop} {tm:Tm} {s:St} (hbt:b<nt)
 (hk:tm.get k = .slice (.tok t) 1 (l.map encStr)) (ht:s.aw[t]? = some (some l.length)) (hl:l.length<4611686018427387904)
 (h:jb Tryz.prog is (Q .normal) [(b, .slice (.tok 0) 1 ((Lib.compact l).map encStr))] ⟨[],[some (Lib.compact l).length]⟩) :
 Sem Tryz.prog B nt (.run (.op (some a) none (.mv (.s k)):: .call (some b) none ke [.s a]::is)) Q tm s:=by
 refine Sem.aeW fun act w hh=>?_
 have Lk:(tm.put (some a) (tm.get k)).get a = .slice (.tok t) 1 (l.map encStr):=by rw[Tm.lA,if_pos rfl];exact hk
 have ej:(act.tmps).size=nt:=by obtain⟨_,_,_,_,h1,_⟩:=hh;exact h1
 have hn : ∀ v,(act.put (some b) v).tmps.size=nt:=fun v=>by simpa[Act.put]using ej
 have hd : ∀ v,(act.put (some b) v).defers = []:=by obtain⟨_,_,_,_,_,h1⟩:=hh;intro v;simpa[Act.put]using h1
 rcases HR hB hh ht Lk with ⟨rfl,hv⟩|⟨b',cap,vs,T,hv,tX,eD,tv,wV,l8⟩
 ·rw [show Lib.compact ([] : List aF) = []from rfl]at h
  have call : ∀ p,act.tmps.getD a Go.undef = .slice p 0 0→(p=none∨∃ b q,p=some ⟨b,q,none⟩)→Calls Tryz.prog ke #[act.tmps.getD a Go.undef] w fun e w'=>∃ v,e = .returned v∧∃ bF s',Holds B nt bF s' (act.put (some b) v) w'∧jb Tryz.prog is (Q .normal) bF s':=by
   intro p hp hq
   rw[hp]
   refine(Tryz.slices_Compact_string_empty p 0 w).mono ?_
   rintro e w' ⟨rfl,rfl⟩
   refine⟨_,rfl,_,_,Nx hB hh (k:=b) ?_ (hn _) (hd _),h⟩
   rw[HT (by omega)]
   rcases hq with rfl|⟨x,y,rfl⟩
   ·exact .inl rfl
   ·exact .inr ⟨x,y,rfl⟩
  rcases hv a Lk with h1|⟨b',q,h1⟩
  ·exact call _ h1 (.inl rfl)
  ·exact call _ h1 (.inr ⟨b',q,rfl⟩)
 ·rw [hv a Lk]
  have nM:(Lib.compact l).length≤l.length:=MO l
  refine(Tryz.slices_Compact_string b' 0 cap l w (fun j hj=>?_) (by omega) tX).mono ?_
  ·have T1:j<l.length:=by simpa using hj
   refine⟨?_,by simp[World.frozen?,eD]⟩
   rw[Nat.zero_add,jm eD,l8 j T1]
   simp[T1]
  ·rintro e w' ⟨rfl,q,rfl⟩
   obtain⟨p1,p2,p3,p4,p5⟩:=HS (n:=q) eD tv (Lib.compact l++List.replicate (l.length - (Lib.compact l).length) []) (by simp;omega) #[]
   rw[Sort.grow_empty]at p1 p2 p3
   have hH:=Lh hB hh (uy:=act.put (some b) (.slice (some ⟨b',0,none⟩) (Lib.compact l).length cap)) (l:=Lib.compact l) (k:=b) p4 wV (fun q hq=>p1 q (by omega) (by obtain⟨M,e,_⟩:=hh;exact Nat.lt_of_lt_of_le hq e.size)) p2 p3 rfl rfl rfl (by omega)
    (fun j hj=>by
     have:=p5 j (by simp;omega)
     rw[List.getElem_append_left hj]at this
     exact this) (HT (by omega)) (hn _) (hd _)
   exact⟨_,rfl,_,_,hH,h⟩
end
end Go.Abs
namespace Go.Abs
theorem FC {a b:UInt8} : a<b↔a.toNat<b.toNat:=UInt8.lt_iff_toNat_lt
theorem yS : ∀ a:aF,bytesLess a a=false
 | []=>rfl
 |x::a=>by
  show Go.Op.bytesLess (x::a) (x::a)=false
  have h:=yS a
  have h:Go.Op.bytesLess a a=false:=h
  simp[Go.Op.bytesLess,h]
theorem yT : ∀ a b:aF,bytesLess a b=true∨a=b∨bytesLess b a=true
 | [],[]=> .inr (.inl rfl)
 | [],y::b=> .inl rfl
 |x::a,[]=> .inr (.inr rfl)
 | x::a,y::b=>by
  show Go.Op.bytesLess (x::a) (y::b)=true∨_∨Go.Op.bytesLess (y::b) (x::a)=true
  have h:Go.Op.bytesLess a b=true∨a=b∨Go.Op.bytesLess b a=true:=yT a b
  simp only[Go.Op.bytesLess,Bool.or_eq_true,Bool.and_eq_true,decide_eq_true_eq,beq_iff_eq,List.cons.injEq]
  by_cases e:x=y
  ·subst e
   rcases h with h|h|h
   ·exact .inl (.inr ⟨rfl,h⟩)
   ·exact .inr (.inl ⟨rfl,h⟩)
   ·exact .inr (.inr (.inr ⟨rfl,h⟩))
  ·have:x.toNat≠y.toNat:=fun h=>e (UInt8.toNat_inj.1 h)
   rcases Nat.lt_or_gt_of_ne this with h|h
   ·exact .inl (.inl (FC.2 h))
   ·exact .inr (.inr (.inl (FC.2 h)))
theorem FD : ∀ a b c:aF,bytesLess a b=true→bytesLess b c=true→bytesLess a c=true
 |a,b,[],h1,h2=>by cases b<;>cases h2
 |a,[],z::c,h1,h2=>by cases a<;>cases h1
 | [],y::b,z::c,h1,h2=>rfl
 | x::a,y::b,z::c,h1,h2=>by
  have h1:Go.Op.bytesLess (x::a) (y::b)=true:=h1
  have h2:Go.Op.bytesLess (y::b) (z::c)=true:=h2
  show Go.Op.bytesLess (x::a) (z::c)=true
  simp only[Go.Op.bytesLess,Bool.or_eq_true,Bool.and_eq_true,decide_eq_true_eq,beq_iff_eq]at h1 h2 ⊢
  rcases h1 with e1|⟨i1,e1⟩
  ·rcases h2 with e2 | ⟨i2,e2⟩
   ·exact .inl (FC.2 (Nat.lt_trans (FC.1 e1) (FC.1 e2)))
   ·exact .inl (i2 ▸ e1)
  ·rcases h2 with e2 | ⟨i2,e2⟩
   ·exact .inl (i1 ▸ e2)
   ·exact .inr ⟨i1.trans i2,FD a b c e1 e2⟩
def B1 (l:List aF):Prop:=l.Pairwise fun a b=>bytesLess a b=true
theorem xN : ∀ {a b:List aF},B1 a→B1 b→(∀ x,x∈a↔x∈b)→a=b
 | [],[],_,_,_=>rfl
 | [],y::b,_,_,h=>absurd ((h y).2 List.mem_cons_self) (by simp)
 |x::a,[],_,_,h=>absurd ((h x).1 List.mem_cons_self) (by simp)
 | x::a,y::b,h1,h2,h=>by
  obtain⟨g1,g2⟩:=List.pairwise_cons.1 h1
  obtain⟨g3,g4⟩:=List.pairwise_cons.1 h2
  have e:x=y:=by
   rcases List.mem_cons.1 ((h x).1 List.mem_cons_self)with e|m
   ·exact e
   ·rcases List.mem_cons.1 ((h y).2 List.mem_cons_self)with e | m'
    ·exact e.symm
    ·have:=FD _ _ _ (g3 x m) (g1 y m');rw[yS]at this;cases this
  subst e
  rw[xN g2 g4 fun z=>?_]
  constructor
  ·intro m
   rcases List.mem_cons.1 ((h z).1 (List.mem_cons_of_mem _ m))with e|m'
   ·subst e;have:=g1 z m;rw[yS]at this;cases this
   ·exact m'
  ·intro m
   rcases List.mem_cons.1 ((h z).2 (List.mem_cons_of_mem _ m))with e|m'
   ·subst e;have:=g3 z m;rw[yS]at this;cases this
   ·exact m'
theorem u5 (out:List aF) : ∀ (l:List aF) (c:aF) (a:Bool),
 let q:=nG out l c a
 (q.2=false↔a=false∧∀ x∈l,x∈out)∧(q.2=true→((a=true∧q.1=c)∨(q.1∈l∧q.1∉out))∧(a=true→bytesLess c q.1=false)∧∀ x∈l,x∉out→bytesLess x q.1=false)
 | [],c,a=>by
  simp only[nG]
  refine⟨by simp,fun h=>⟨.inl ⟨h,by trivial⟩,fun _=>yS c,fun x m=>(by cases m)⟩⟩
 | s::l,c,a=>by
  simp only[nG]
  by_cases h1:fw out s=true
  ·have m:=(jl _ _).1 h1
   simp only[h1,Bool.not_true,Bool.false_and,Bool.false_eq_true,if_false]
   obtain⟨k1,k2⟩:=u5 out l c a
   refine⟨k1.trans ⟨fun h=>⟨h.1,fun x hx=>?_⟩,fun h=>⟨h.1,fun x hx=>h.2 x (List.mem_cons_of_mem _ hx)⟩⟩,fun h=>?_⟩
   ·rcases List.mem_cons.1 hx with rfl | hx
    ·exact m
    ·exact h.2 x hx
   ·obtain⟨g1,g2,g3⟩:=k2 h
    refine⟨g1.imp_right fun h=>⟨List.mem_cons_of_mem _ h.1,h.2⟩,g2,fun x hx hn=>?_⟩
    rcases List.mem_cons.1 hx with rfl|hx
    ·exact absurd m hn
    ·exact g3 x hx hn
  ·have m:s∉out:=fun m=>h1 ((jl _ _).2 m)
   have si:fw out s=false:=by simpa using h1
   by_cases h2:(!a ||bytesLess s c)=true
   ·simp only [si,h2,Bool.not_false,Bool.and_self,if_true]
    obtain⟨k1,k2⟩:=u5 out l s true
    refine⟨⟨fun h=>absurd (k1.1 h).1 (by simp),fun h=>absurd (h.2 s List.mem_cons_self) m⟩,fun h=>?_⟩
    obtain⟨g1,g2,g3⟩:=k2 h
    have g4:=g2 rfl
    refine⟨.inr ?_,fun ha=>?_,fun x hx hn=>?_⟩
    ·rcases g1 with ⟨_,e⟩ | g1
     ·rw[e];exact⟨List.mem_cons_self,m⟩
     ·exact⟨List.mem_cons_of_mem _ g1.1,g1.2⟩
    ·have h3:bytesLess s c=true:=by simpa [ha]using h2
     cases hh:bytesLess c (nG out l s true).1
     ·rfl
     ·have:=FD _ _ _ h3 hh;rw[g4]at this;cases this
    ·rcases List.mem_cons.1 hx with rfl | hx
     ·exact g4
     ·exact g3 x hx hn
   ·have uF:(!a || bytesLess s c)=false:=by simpa using h2
    have ha:a=true:=by cases a<;>simp_all
    have h3:bytesLess s c=false:=by cases a<;>simp_all
    simp only[si,uF,Bool.not_false,Bool.and_false,Bool.false_eq_true,if_false]
    obtain⟨k1,k2⟩:=u5 out l c a
    refine⟨⟨fun h=>absurd (k1.1 h).1 (by simp[ha]),fun h=>absurd h.1 (by simp[ha])⟩,fun h=>?_⟩
    obtain⟨g1,g2,g3⟩:=k2 h
    refine⟨g1.imp_right fun h=>⟨List.mem_cons_of_mem _ h.1,h.2⟩,g2,fun x hx hn=>?_⟩
    rcases List.mem_cons.1 hx with rfl|hx
    ·cases hh:bytesLess x (nG out l c a).1
     ·rfl
     ·have g4:=g2 ha
      rcases yT x c with e|e|e
      ·rw[h3]at e;cases e
      ·subst e;rw[g4]at hh;cases hh
      ·have:=FD _ _ _ e hh;rw[g4]at this;cases this
    ·exact g3 x hx hn
theorem xO (l:List aF) : ∀ (n:Nat) (out:List aF),B1 out→(∀ x∈out,x∈l)→(∀ x∈out,∀ y∈l,y∉out→bytesLess x y=true)→
 B1 (pP l n out)∧(∀ x∈pP l n out,x∈l)∧(∀ x∈out,x∈pP l n out)∧((∀ x∈l,x∈pP l n out)∨(pP l n out).length=out.length+n)
 | 0,out,h1,h2,h3=>⟨h1,h2,fun x m=>m, .inr rfl⟩
 | n+1,out,h1,h2,h3=>by
  simp only[pP,TX]
  obtain⟨k1,k2⟩:=u5 out l [] false
  cases hq:(nG out l [] false).2
  ·simp only [Bool.false_eq_true,if_false]
   obtain⟨g1,g2,g3,g4⟩:=xO l n out h1 h2 h3
   exact⟨g1,g2,g3, .inl fun x m=>g3 x ((k1.1 hq).2 x m)⟩
  ·simp only [if_true]
   obtain⟨g1,_,g3⟩:=k2 hq
   have g1:(nG out l [] false).1∈l∧(nG out l [] false).1∉out:=by
    rcases g1 with ⟨h,_⟩|g1
    ·cases h
    ·exact g1
   generalize (nG out l [] false).1=c at g1 g3
   obtain⟨r1,r2,r3,r4⟩:=xO l n (out++ [c])
    (by
     refine List.pairwise_append.2 ⟨h1,by simp,fun x hx y hy=>?_⟩
     have:y=c:=by simpa using hy
     subst this
     exact h3 x hx y g1.1 g1.2)
    (fun x hx=>by
     rcases List.mem_append.1 hx with hx|hx
     ·exact h2 x hx
     ·have:x=c:=by simpa using hx
      subst this;exact g1.1)
    (fun x hx y hy hn=>by
     have hyo:y∉out:=fun m=>hn (List.mem_append_left _ m)
     have hyc:y≠c:=fun e=>hn (List.mem_append_right _ (by simp[e]))
     rcases List.mem_append.1 hx with hx|hx
     ·exact h3 x hx y hy hyo
     ·have:x=c:=by simpa using hx
      subst this
      rcases yT x y with h|h|h
      ·exact h
      ·exact absurd h.symm hyc
      ·rw[g3 y hy hyo]at h;cases h)
   refine⟨r1,r2,fun x m=>r3 x (List.mem_append_left _ m),r4.imp_right fun h=>?_⟩
   rw[h];simp;omega
theorem xb : ∀ (a l:List aF),a.Nodup→(∀ x∈a,x∈l)→a.length≤l.length
 | [],l,_,_=>Nat.zero_le _
 |x::a,l,h,hm=>by
  obtain⟨h1,h2⟩:=List.nodup_cons.1 h
  have m:=hm x List.mem_cons_self
  have:=xb a (l.erase x) h2 fun y hy=>(List.mem_erase_of_ne (fun e=>h1 (by rw[← e];exact hy))).2 (hm y (List.mem_cons_of_mem _ hy))
  rw[List.length_erase_of_mem m]at this
  have:0<l.length:=List.length_pos_of_mem m
  simp only[List.length_cons];omega
theorem u6 {l:List aF} (h:B1 l):l.Nodup:=h.imp fun {a b} h e=>by subst e;rw[yS]at h;cases h
theorem ml (l:List aF):B1 (kD l)∧∀ x,x∈kD l↔x∈l:=by
 obtain⟨h1,h2,h3,h4⟩:=xO l l.length [] List.Pairwise.nil (fun x m=>(by cases m)) (fun x m=>(by cases m))
 refine⟨h1,fun x=>⟨h2 x,fun m=>?_⟩⟩
 rcases h4 with h4|h4
 ·exact h4 x m
 ·refine Classical.byContradiction fun hn=> ?_
  have:=xb (x::pP l l.length []) l (List.nodup_cons.2 ⟨hn,u6 h1⟩) fun y hy=>by
   rcases List.mem_cons.1 hy with rfl|hy
   ·exact m
   ·exact h2 y hy
  simp only[List.length_cons,h4,List.length_nil]at this
  omega
theorem MP (zs:List aF) (hs:zs.Pairwise fun a b=>bytesLess b a=false) : ∀ m,m≤zs.length→
 B1 (Lib.compactUpTo zs.toArray m)∧(∀ x,x∈Lib.compactUpTo zs.toArray m↔x∈zs.take m):=by
 intro m
 induction m with
 |zero=>intro _;exact⟨by simp[Lib.compactUpTo,B1],fun x=>by simp[Lib.compactUpTo]⟩
 | succ m ih=>
  intro hm
  obtain⟨h1,h2⟩:=ih (by omega)
  have hz:zs[m]? = some zs[m]:=List.getElem?_eq_getElem (by omega)
  have e1:zs.toArray[m]! = zs[m]:=by simp[hm,Nat.lt_of_succ_le hm]
  have et:zs.take (m+1)=zs.take m++ [zs[m]]:=by rw[List.take_add_one,hz];rfl
  rw[Lib.compactUpTo_succ,e1,et]
  by_cases hk:Lib.keeps zs.toArray m=true
  ·rw [if_pos hk]
   refine⟨List.pairwise_append.2 ⟨h1,by simp,fun x hx y hy=>?_⟩,fun x=>by rw[List.mem_append,List.mem_append,h2]⟩
   have hy:y=zs[m]:=by simpa using hy
   subst hy
   have hx:=(h2 x).1 hx
   simp only[Lib.keeps,decide_eq_true_eq]at hk
   rcases hk with rfl|hk
   ·simp at hx
   ·have nF:m - 1<zs.length:=by omega
    have e2:zs.toArray[m - 1]! = zs[m - 1]:=by simp[nF]
    rw[e1,e2]at hk
    have h0:0<m:=by
     cases m with
     |zero=>simp at hx
     |succ m=>omega
    have hle : ∀ i j (hi:i<zs.length) (hj:j<zs.length),i<j→bytesLess zs[j] zs[i] = false:=fun i j hi hj Yp=>List.pairwise_iff_getElem.1 hs i j hi hj Yp
    have g1:bytesLess zs[m] zs[m - 1] = false:=hle (m - 1) m nF (by omega) (by omega)
    have g2:bytesLess zs[m - 1] zs[m] = true:=by
     rcases yT zs[m - 1] zs[m]with h|h|h
     ·exact h
     ·exact absurd h.symm hk
     ·rw[g1]at h;cases h
    obtain⟨i,hi,rfl⟩:=List.mem_iff_getElem.1 hx
    rw[List.length_take]at hi
    rw[List.getElem_take]
    by_cases o8:i=m - 1
    ·subst o8;exact g2
    ·have g3:=hle i (m - 1) (by omega) nF (by omega)
     rcases yT zs[i] zs[m - 1]with h|h|h
     ·exact FD _ _ _ h g2
     ·rw[h];exact g2
     ·rw[g3]at h;cases h
  ·rw [if_neg hk]
   simp only[List.append_nil]
   refine⟨h1,fun x=>?_⟩
   rw[h2]
   simp only[Lib.keeps,decide_eq_true_eq,not_or,ne_eq,Decidable.not_not]at hk
   obtain⟨k1,k2⟩:=hk
   have nF:m - 1<zs.length:=by omega
   have e2:zs.toArray[m - 1]! = zs[m - 1]:=by simp[nF]
   rw[e1,e2]at k2
   simp only[List.mem_append,List.mem_singleton]
   constructor
   ·exact .inl
   ·rintro(h | rfl)
    ·exact h
    ·rw [k2]
     exact List.mem_iff_getElem.2 ⟨m - 1,by rw[List.length_take];omega,by rw[List.getElem_take]⟩
theorem HU (l:List aF):(mh l).Pairwise fun a b=>bytesLess b a=false:=by
 have h:=List.pairwise_mergeSort (le:=fun x y:aF=>decide (x≤y)) (fun a b c h1 h2=>?_) (fun a b=>?_) l
 ·refine h.imp fun {a b} h=> ?_
  rw[decide_eq_true_eq]at h
  show Go.Op.bytesLess b a=false
  rw[Go.Proofs.bytesLess_eq]
  simpa using h
 ·rw [decide_eq_true_eq]at h1 h2 ⊢
  exact List.le_trans h1 h2
 ·have:=List.le_total a b
  simpa using this
theorem B2 (l:List aF):Lib.compact (mh l)=kD l:=by
 obtain⟨h1,h2⟩:=MP (mh l) (HU l) (mh l).length (Nat.le_refl _)
 obtain⟨h3,h4⟩:=ml l
 refine xN h1 h3 fun x=>?_
 rw[h4]
 refine(h2 x).trans ?_
 rw[List.take_length]
 exact(List.mergeSort_perm _ _).mem_iff
set_option maxRecDepth 8000
open Go.Proofs
def lY:List Sm→List aF
 | []=> []
 |v::l=>if v.kind==4 then v.proc::lY l else lY l
theorem Dz : ∀ l:List Sm,(lY l).length≤l.length
 | []=>Nat.le_refl _
 |v::l=>by
  simp only[lY]
  have:=Dz l
  split<;>simp<;>omega
def Pc.calls (f:Pc):List aF:=kD (lY (Sm.dr f.body))
theorem B3 {name:aF} : ∀ {l:List Pc} {k:Nat} {f:Pc},iY name l=some f→∃ j,l[j]? = some f∧lb (fun f:Pc=>f.name==name) (k:Int) l=((k+j:Nat):Int)
 | g::l,k,f,h=>by
  simp only[iY]at h
  cases e:(g.name==name)
  ·rw [e]at h
   simp only[Bool.false_eq_true,if_false]at h
   obtain⟨j,h1,h2⟩:=B3 (k:=k+1) h
   refine⟨j+1,by simpa using h1, ?_⟩
   simp only[lb,e,Bool.false_eq_true,if_false]
   rw[show((k:Int)+1)=((k+1:Nat):Int)from rfl,h2]
   congr 1;omega
  ·rw [e]at h
   simp only[if_true,Option.some.injEq]at h
   exact⟨0,by simpa using h,by simp[lb,e]⟩
theorem abd {p:Pg} (h:p.jc) {name:aF} {f:Pc} (hf:p.find name=some f) (s:St):az Tryz.prog uj [.dO (fA p) 0, .str name] s (.slice .shared 1 (f.calls.map encStr)) s:=by
 refine az.pure ?_ (by simp[D.bI,D.ok,uw]) (by simp only[D.ok,Tag.ok,eF];rfl) s
 obtain⟨sf,r5,rZ⟩:=h.procs
 obtain⟨j,hj,rz⟩:=B3 (k:=0) hf
 have rz:p.at name=((j:Nat):Int):=by unfold Pg.at;simpa using rz
 have yQ:=fun s=>Fl (p:=p) (by omega) name s
 rw[rz]at yQ
 obtain⟨it,pY,BW⟩:=WR hj (by omega)
 have aeR:it.length≤900000:=by
  have e:=congrArg List.length pY
  obtain⟨a,b,e',_,_,e3,e4⟩:=(nO p).2 j f hj
  have e5:=pB p
  have e6:=congrArg List.length e3
  rw[e4]at e5
  simp only[List.length_map,List.length_append]at e e5 e6
  omega
 unfold S0
 obtain⟨fn,AG,Dy⟩:=Fb
 refine az.intro ⟨fn,AG,Dy⟩ (Nat.le_of_ble_eq_true rfl) fun B hB=>?_
 generalize hQ:iC (⟨[],[]⟩:St).ah.length (⟨[],[]⟩:St).aw.length _ _ (⟨[],[]⟩:St)=Q
 have⟨hC,hE,hM,hY⟩:=bE
 refine Sem.iS ?_
 repeat' (first
 |simp only[go_sem,hC,hE,hM,hY]
 |(with_reducible refine aB hQ ?_;exact bj))
 refine Sem.iS ?_
 repeat' (first
 |simp only[go_sem,hC,hE,hM,hY]
 |(with_reducible refine aB hQ ?_;exact bj))
 refine Sem.iS ?_
 repeat' (first
 |simp only[go_sem,hC,hE,hM,hY]
 |(with_reducible refine CU (yQ _) ?_)
 |(with_reducible refine CU (BW _) ?_)
 |(with_reducible refine aB hQ ?_;exact bj))
 refine bg.p8 5 1 rfl ?_
 simp only[go_sem,hC,hE,hM,hY]
 obtain⟨R,hR⟩ : ∃ R,R=lY (Sm.dr f.body):=⟨_,rfl⟩
 have hRl:R.length≤900000:=by rw[hR, ← pY];have:=Dz (it.map Im.s);rw[List.length_map]at this;omega
 refine dS 0 1 (bg.ind (ι:=List Im×Nat×List aF×Nat) (fun i=>it.drop i.2.1=i.1∧i.2.2.1++lY (i.1.map Im.s)=R∧i.2.2.2=i.2.2.1.length) (fun i=>i.1.length)
  (fun i=> [(5, .slice (.tok 0) 1 (i.2.2.1.map encStr)),(12, .slice .shared 17 (it.map dN)),(13, .int .i64 (it.length:Int)),(14, .int .i64 (i.2.1:Int))]) (fun i=>⟨[],[some i.2.2.2]⟩) ?_ (it,0,[],0) ⟨rfl,by rw[hR,pY];rfl,rfl⟩)
 rintro⟨rest,k,out,n⟩ ⟨h1,h2,h3⟩ IH
 dsimp only at h1 h2 h3
 subst h3
 have jX:out.length≤900000:=by have:=congrArg List.length h2;rw[List.length_append]at this;omega
 cases rest with
 | cons a rest=>
  obtain⟨hE,g2,hC,g4⟩:=drop_cons h1
  have cp:k<4611686018427387904:=by omega
  have hM:(out.length+1)*17≤bA:=by unfold bA;omega
  simp only[List.map_cons,lY]at h2
  rcases Bool.eq_false_or_eq_true (a.s.kind==4)with c1|c1
  ·simp only [c1,if_true]at h2
   repeat' (first
 |simp only[go_sem,hC,hE,hM,hY,c1]
 | (with_reducible refine aB hQ ?_;exact bj))
   refine eV 0 1 ?_ ?_ (IH (rest,k+1,out++ [a.s.proc],out.length+1) ⟨g2,by rw[← h2];simp,by simp⟩ (Nat.lt_succ_self _))
   ·(simp only[go_sem,hC,hE,hM,hY,aL cp,List.map_append,List.map_cons,List.map_nil,encStr];try exact cu)
   ·(simp only[go_sem,hC,hE,hM,hY,aL cp,List.map_append,List.map_cons,List.map_nil,encStr];try exact cu)
  ·simp only [c1,Bool.false_eq_true,if_false]at h2
   repeat' (first
 |simp only[go_sem,hC,hE,hM,hY,c1]
 | (with_reducible refine aB hQ ?_;exact bj))
   refine eV 0 1 ?_ ?_ (IH (rest,k+1,out,_) ⟨g2,h2,rfl⟩ (Nat.lt_succ_self _))
   ·(simp only[go_sem,hC,hE,hM,hY,aL cp];try exact cu)
   ·(simp only[go_sem,hC,hE,hM,hY,aL cp];try exact cu)
 |nil=>
  have hC:=drop_nil h1
  simp only[List.map_nil,lY,List.append_nil]at h2
  subst h2
  have FB:(mh out).length=out.length:=List.length_mergeSort out
  repeat' (first
 |simp only[go_sem,hC,hE,hM,hY]
 |(with_reducible refine aB hQ ?_;exact bj))
  refine Sem.seq (Sem.sort (k:=5) (t:=0) (l:=out) hB (by decide) (by decide) (by decide) rfl rfl (by omega) ?_)
  show Sem _ _ _ _ _ _ _
  refine Sem.seq (Sem.compact (k:=5) (t:=0) (l:=mh out) hB (by decide) rfl (by rw[FB];rfl) (by rw[FB];omega) ?_)
  rw[B2]
  have asS:f.calls=kD out:=by unfold Pc.calls;rw[hR]
  rw[asS]at hQ
  refine gG (ac:= .ret) (Q:=Q) (tm:= [(32, .slice (.tok 0) 1 ((kD out).map encStr)),(4, .slice (.tok 0) 1 ((kD out).map encStr))]) (s:=⟨[],[some (kD out).length]⟩) ?_
  repeat' (first
 |simp only[go_sem,hC,hE,hM,hY]
 |(with_reducible refine aB hQ ?_;exact bj))
theorem HV {name:aF} : ∀ {l:List Pc},name∈l.map (·.name)→∃ f,iY name l=some f
 | f::l,h=>by
  simp only[iY]
  cases e:(f.name==name)
  ·simp only [Bool.false_eq_true,if_false]
   refine HV ?_
   rcases List.mem_cons.1 h with h|h
   ·rw[h]at e;simp at e
   ·exact h
  ·exact⟨f,rfl⟩
theorem HW {p:Pg} {f:Pc} {procs:List aF} : ∀ {l:List Sm},BV p f procs l=none→∀ v∈l,v.known p f procs=true
 | v::l,h,w,m=>by
  simp only[BV]at h
  split at h
  ·rename_i e
   rcases List.mem_cons.1 m with rfl|m
   ·exact e
   ·exact HW h w m
  ·cases h
theorem HX {p:Pg} {procs:List aF} : ∀ {l:List Pc},((vW p procs l).1==0)=true→∀ f∈l,fG (p.globals++f.own)=false∧∀ v∈Sm.dr f.body,v.known p f procs=true
 | g::l,h,f,m=>by
  simp only[vW]at h
  split at h
  ·cases h
  ·rename_i e
   split at h
   ·cases h
   ·rename_i e2
    rcases List.mem_cons.1 m with rfl|m
    ·exact⟨by simpa using e,HW e2⟩
    ·exact HX h f m
theorem D6 {p:Pg} (h:(p.scope.1==0)=true):fG p.globals=false∧fG p.pn=false∧p.tP=false∧∀ f∈p.procs,fG (p.globals++f.own)=false∧∀ v∈Sm.dr f.body,v.known p f p.pn=true:=by
 unfold Pg.scope at h
 split at h
 ·split at h
  ·cases h
  ·rename_i e
   simp only[Bool.or_eq_true,not_or,Bool.not_eq_true]at e
   exact⟨e.1,e.2.1,e.2.2,HX h⟩
 ·cases h
theorem xP {x:aF} : ∀ {l:List Sm},x∈lY l↔∃ v∈l,v.kind=4∧v.proc=x
 | []=>by simp[lY]
 | v::l=>by
  simp only[lY]
  cases e:(v.kind==4)
  ·have:v.kind≠4:=by simpa using e
   simp[this,xP (l:=l)]
  ·have:v.kind=4:=by simpa using e
   simp only[if_true,List.mem_cons,xP (l:=l),exists_eq_or_imp,this,true_and]
   constructor
   ·rintro(h | h)
    ·exact .inl h.symm
    ·exact .inr h
   ·rintro(h | h)
    ·exact .inl h.symm
    ·exact .inr h
theorem T2 {f:Pc} {x:aF} : x∈f.calls↔∃ v∈Sm.dr f.body,v.kind=4∧v.proc=x:=by
 unfold Pc.calls;rw[(ml _).2,xP]
theorem DA {p:Pg} (h:(p.scope.1==0)=true) {f:Pc} (hf:f∈p.procs) {x:aF} (m:x∈f.calls) : ∃ g,p.find x=some g:=by
 obtain⟨v,hv,h4,rfl⟩:=T2.1 m
 have hk:=((D6 h).2.2.2 f hf).2 v hv
 simp only[Sm.known,h4,Bool.and_eq_true,Bool.or_eq_true]at hk
 rcases hk.2 with h|⟨_,h⟩
 ·simp at h
 ·exact HV ((jl _ _).1 h)
def FE (p:Pg) (x:aF):List aF:=match p.find x with|some f=>f.calls|none=> []
def D7 (out:List aF):List aF→List aF
 | []=>out
 |x::l=>D7 (CD out x) l
def xc (p:Pg):Nat→Nat→List aF→List aF
 | 0,_,out=>out
 |n+1,i,out=>match out[i]? with
  |some x=>xc p n (i+1) (D7 out (FE p x))
  |none=>out
def Pg.work (p:Pg) (name:aF):List aF:=xc p (p.procs.length+1) 0 [name]
def Good (p:Pg) (out:List aF):Prop:=out.Nodup∧∀ x∈out,∃ f,p.find x=some f
theorem Good.len {p:Pg} {out:List aF} (h:Good p out):out.length≤p.procs.length:=by
 have:=xb out p.pn h.1 fun x m=>by
  obtain⟨f,hf⟩:=h.2 x m
  obtain⟨h1,h2⟩:=sG hf
  rw[← h2];exact List.mem_map_of_mem h1
 simpa[Pg.pn]using this
theorem Good.spk {p:Pg} {out:List aF} (h:Good p out) {x:aF} (hx : ∃ f,p.find x=some f):Good p (CD out x):=by
 unfold CD
 split
 ·exact h
 ·rename_i e
  have:x∉out:=fun m=>e ((jl _ _).2 m)
  refine⟨List.nodup_append.2 ⟨h.1,by simp,fun a ha b hb e'=>?_⟩,fun y hy=>?_⟩
  ·have hbx:b=x:=by simpa using hb
   rw[e',hbx]at ha;exact this ha
  ·rcases List.mem_append.1 hy with hy | hy
   ·exact h.2 y hy
   ·have:y=x:=by simpa using hy
    subst this;exact hx
theorem Good.add {p:Pg} : ∀ {l out:List aF},Good p out→(∀ x∈l,∃ f,p.find x=some f)→Good p (D7 out l)
 | [],out,h,_=>h
 |x::l,out,h,hx=>Good.add (l:=l) (out:=CD out x) (Good.spk h (hx x List.mem_cons_self)) fun y m=>hx y (List.mem_cons_of_mem _ m)
def tgB:Bool→Tag
 |true=> .tok 0
 |false=> .full
def tkB:Bool→Nat→List (Option Nat)
 |true,n=> [some n]
 |false,_=> []
def zR:AI→AI
 | .op d g (.cf z k n ps)=> .op d g (.vi z k n ps)
 |a=>a
section
variable {P:Program}
theorem MQ {nt:Nat} {ops:Array Oper} {i:Nat} {o:Oper} {ai:AI} (hi:ops[i]? = some o) (hc:cI P nt ops o=some ai)
 {M:Map} {s:St} {w:World} {tm:Tm} {act:Act} (r:Rel M s w) (kQ:Laid M s w) (ht:l5 M s tm act.tmps) {K':Tm→St→Prop} (h:jb P [zR ai] K' tm s)
 {K:Act→World→Prop} {Q:Exit→Act→World→Prop}
 (hK : ∀ d v s1 w1 M1,K' (tm.put ai.dst d) s1→Ext M s w M1 s1 w1→Rel M1 s1 w1→RD M1 s1 d v→K (act.put o.dst v) w1):wpOp P ops Q i K act w:=by
 by_cases hb : ∃ d g z k n ps,ai = .op d g (.cf z k n ps)
 ·obtain⟨d0,g0,z,k,n,ps,rfl⟩:=hb
  obtain⟨g,hg,_,hb⟩:=Bq hc
  rw[tz hb]at hK
  simp only[wpOp,hi]
  have skip:K' (tm.put o.dst (.tuple [])) s→K (act.put o.dst Go.undef) w:=fun hk=>hK _ _ _ _ _ hk (Ext.refl M s w) r .undef
  have hd:=tz hb
  simp only[AI.dst]at hd
  subst hd
  have om:Es P o=some (.cf z k n ps)∧g0=g:=by
   unfold sL at hb
   split at hb
   ·split at hb
    ·obtain⟨xs,_,h⟩:=map_some hb;cases h
    ·cases hb
   ·obtain⟨xs,_,h⟩:=map_some hb;cases h
   ·split at hb
    ·cases hb
    ·split at hb
     ·rename_i om
      simp only[Option.some.injEq,AI.op.injEq,true_and]at hb
      obtain⟨h1,h2⟩:=hb
      split at h2
      ·cases h2
      ·cases h2;exact⟨om,h1.symm⟩
     ·rename_i ao fl om
      simp only[Option.some.injEq,AI.op.injEq,true_and]at hb
      obtain⟨h1,h2⟩:=hb
      subst h2
      exact⟨om,h1.symm⟩
     ·cases hb
  obtain⟨om,rfl⟩:=om
  simp only[zR,jb]at h
  rcases kz hg ht h with ⟨hw,hA⟩|⟨hw,hB⟩
  ·simp only [hw,if_true]
   left
   split at hA
   ·rename_i d s' qY
    obtain⟨v,w',M',dK,r',hv,e'⟩:=zl om r ht qY
    unfold Oper.wp
    rcases dK with dK|⟨dK,rfl⟩
    ·rw [dK,Oper.upon_value]
     exact hK _ _ _ _ _ hA e' r' hv
    ·rw [dK,Oper.upon_skip]
     exact hK _ _ _ _ _ hA e' r' hv
   ·exact hA.elim
  ·simp only [hw]
   exact skip hB
 ·have hs:zR ai=ai:=by
   unfold zR
   split
   ·rename_i d g z k n ps;exact absurd ⟨d,g,z,k,n,ps,rfl⟩ hb
   ·rfl
  rw[hs]at h
  exact xr hi hc r kQ ht h hK
theorem abe {a:AI} {r:List AI} {K:Tm→St→Prop} {tm:Tm} {s:St} (h:jb P (a::r) K tm s):jb P [a] (jb P r K) tm s:=by
 cases a<;>exact h
theorem HY {B:fa} {nt:Nat} {ops:Array Oper} {Q:Exit→Tm→St→Prop} : ∀ (l:List Nat) (ol:List Oper) (is:List AI),l.map (ops[·]?)=ol.map some→rj P nt ops ol=some is→
 ∀ (tm:Tm) (s:St) (act:Act) (w:World),jb P (is.map zR) (Q .normal) tm s→Holds B nt tm s act w→wpOps P ops (p7 B nt Q) l act w
 | [],[],is,_,hc,tm,s,act,w,h,hh=>by cases hc;exact⟨tm,s,h,hh⟩
 | [],_::_,_,hl,_,_,_,_,_,_,_=>by simp at hl
 |_::_,[],_,hl,_,_,_,_,_,_,_=>by simp at hl
 | i::l,o::ol,is,hl,hc,tm,s,act,w,h,hh=>by
  simp only[List.map_cons,List.cons.injEq]at hl
  obtain⟨hi,hl⟩:=hl
  unfold rj at hc
  split at hc
  ·rename_i ai Sd h1 h2
   cases hc
   obtain⟨M,e,r,ht,hn,hd⟩:=hh
   have qK:=yk h1
   have hdd:=tA h1
   rw[List.map_cons]at h
   have key:=MQ (K:=fun act w=>wpOps P ops (p7 B nt Q) l act w) (Q:=p7 B nt Q) hi h1 r (B.laid.ext e) ht (abe h) (fun d v s1 w1 M1 hk e1 r1 hv=>
    HY (Q:=Q) l ol Sd hl h2 _ _ _ _ hk (hdd ▸ Holds.put e ht hn hd qK e1 r1 hv))
   simpa only[wpOps,wpOp,hi]using key
  ·cases hc
theorem Sem.swap {B:fa} {nt:Nat} {is:List AI} {Q:Exit→Tm→St→Prop} {tm:Tm} {s:St} (h:gF P B nt (.run (is.map zR)) Q tm s):Sem P B nt (.run is) Q tm s:=by
 intro c hc act w hh
 obtain⟨id,ops,rfl,hi⟩:=lF hc
 refine wp_region ?_
 exact HY _ _ is (Bm ops) hi tm s act w (oz h) hh
end
end Go.Abs
namespace Go.Abs
set_option maxRecDepth 8000
open Go.Proofs
theorem Q7 {l:List aF} (h:l.Nodup):mh l=kD l:=by
 refine xN ?_ (ml l).1 fun x=>?_
 ·have h1:=HU l
  have h2:(mh l).Nodup:=(List.mergeSort_perm l _).nodup_iff.2 h
  refine(List.pairwise_and_iff.2 ⟨h1,h2⟩).imp fun {a b} Zu=>?_
  rcases yT a b with e|e|e
  ·exact e
  ·exact absurd e Zu.2
  ·rw[Zu.1]at e;cases e
 ·rw[(ml l).2];exact(List.mergeSort_perm l _).mem_iff
theorem B4 {p:Pg} (nP:(p.scope.1==0)=true) : ∀ (n i:Nat) (out:List aF),Good p out→Good p (xc p n i out)
 | 0,i,out,h=>h
 | n+1,i,out,h=>by
  simp only[xc]
  split
  ·rename_i x hx
   obtain⟨g,hg⟩:=h.2 x (List.mem_of_getElem? hx)
   refine B4 nP n _ _ (h.add fun y m=>?_)
   unfold FE at m
   rw[hg]at m
   exact DA nP (sG hg).1 m
  ·exact h
theorem D8 {p:Pg} {name:aF} {f:Pc} (hf:p.find name=some f):Good p [name]:=
 ⟨by simp,fun x m=>by
  have:x=name:=by simpa using m
  subst this;exact⟨f,hf⟩⟩
theorem abf {p:Pg} (h:p.jc) (nP:(p.scope.1==0)=true) {name:aF} {f:Pc} (hf:p.find name=some f) (s:St):az Tryz.prog xD [.dO (fA p) 0, .str name] s (.slice .shared 1 ((kD (p.work name)).map encStr)) s:=by
 refine az.pure ?_ (by simp[D.bI,D.ok,uw]) (by simp only[D.ok,Tag.ok,eF];rfl) s
 obtain⟨sf,r5,rZ⟩:=h.procs
 obtain⟨R,hR⟩ : ∃ R,p.work name=R:=⟨_,rfl⟩
 have hgR:Good p R:=hR ▸ B4 nP _ _ _ (D8 hf)
 rw[hR, ← Q7 hgR.1]
 unfold Pg.work at hR
 have hg0:Good p [name]:=D8 hf
 have hRl:=hgR.len
 unfold S0
 obtain⟨fn,AG,Dy⟩:=IB
 refine az.intro ⟨fn,AG,Dy⟩ (Nat.le_of_ble_eq_true rfl) fun B hB=>?_
 generalize hQ:iC (⟨[],[]⟩:St).ah.length (⟨[],[]⟩:St).aw.length _ _ (⟨[],[]⟩:St)=Q
 have⟨hC,hE,hM,hY⟩:=bE
 refine Sem.iS ?_
 repeat' (first
 |simp only[go_sem,hC,hE,hM,hY]
 |(with_reducible first|refine aX fun hc=>?_|refine aY fun hc=>?_|refine aZ (fun hc=>?_) fun hc=>?_)<;>(try simp only[hc,bs,↓reduceIte]at h)<;>try simp only[hc]
 |(with_reducible refine aB hQ ?_;exact eA)
 |(cases h;done))
 refine Sem.seq (Sem.swap ?_)
 simp only[List.map_cons,List.map_nil,zR]
 repeat' (first
 |simp only[go_sem,hC,hE,hM,hY]
 |(with_reducible first|refine aX fun hc=>?_|refine aY fun hc=>?_|refine aZ (fun hc=>?_) fun hc=>?_)<;>(try simp only[hc,bs,↓reduceIte]at h)<;>try simp only[hc]
 |(with_reducible refine aB hQ ?_;exact eA)
 |(cases h;done))
 refine Sem.iS ?_
 repeat' (first
 |simp only[go_sem,hC,hE,hM,hY]
 |(with_reducible first|refine aX fun hc=>?_|refine aY fun hc=>?_|refine aZ (fun hc=>?_) fun hc=>?_)<;>(try simp only[hc,bs,↓reduceIte]at h)<;>try simp only[hc]
 |(with_reducible refine aB hQ ?_;exact eA)
 |(cases h;done))
 refine dS 0 1 (bg.ind (ι:=Nat×Nat×List aF×Nat) (fun i=>xc p i.1 i.2.1 i.2.2.1=R∧Good p i.2.2.1∧i.1+i.2.1=p.procs.length+1∧i.2.2.2=i.2.2.1.length) (fun i=>i.1)
  (fun i=> [(0, .dO (fA p) 0),(5, .slice (.tok 0) 1 (i.2.2.1.map encStr)),(6, .int .i64 (i.2.1:Int))]) (fun i=>⟨[],[some i.2.2.2]⟩) ?_ (p.procs.length+1,0,[name],1) ⟨hR,hg0,rfl,rfl⟩)
 rintro⟨n,i,out,no⟩ ⟨h1,h2,h3,h4⟩ IH
 dsimp only at h1 h2 h3 h4
 subst h4
 have jX:=h2.len
 cases hx:out[i]? with
 | none=>
  have hC:decide ((i:Int)<(out.length:Int))=false:=by have:=List.getElem?_eq_none_iff.1 hx;simp;omega
  have:R=out:=by
   cases n with
   |zero=>simpa[xc]using h1.symm
   |succ n=>simp only[xc,hx]at h1;exact h1.symm
  subst this
  repeat' (first
 |simp only[go_sem,hC,hE,hM,hY]
 |(with_reducible first|refine aX fun hc=>?_|refine aY fun hc=>?_|refine aZ (fun hc=>?_) fun hc=>?_)<;>(try simp only[hc,bs,↓reduceIte]at h)<;>try simp only[hc]
 |(with_reducible refine aB hQ ?_;exact eA)
 |(cases h;done))
  refine Sem.seq (Sem.sort (k:=5) (t:=0) (l:=R) hB (by decide) (by decide) (by decide) rfl rfl (by omega) ?_)
  refine gG (ac:=aea) (Q:=Q) (tm:= [(5, .slice (.tok 0) 1 ((mh R).map encStr))]) (s:=⟨[],[some R.length]⟩) ?_
  repeat' (first
 |simp only[go_sem,hC,hE,hM,hY]
 |(with_reducible first|refine aX fun hc=>?_|refine aY fun hc=>?_|refine aZ (fun hc=>?_) fun hc=>?_)<;>(try simp only[hc,bs,↓reduceIte]at h)<;>try simp only[hc]
 |(with_reducible refine aB hQ ?_;exact eA)
 |(cases h;done))
 |some x=>
  have qZ:=(List.getElem?_eq_some_iff.1 hx).1
  have hC:decide ((i:Int)<(out.length:Int))=true:=by simp;omega
  have o8:i<4611686018427387904:=by omega
  cases n with
  |zero=>omega
  |succ n=>
  simp only[xc,hx]at h1
  obtain⟨g,Ll⟩:=h2.2 x (List.mem_of_getElem? hx)
  have T3:=(sG Ll).1
  have ZD:=fun s=>abd h Ll s
  have hcn:FE p x=g.calls:=by unfold FE;rw[Ll]
  rw[hcn]at h1
  have hth : ∀ y∈g.calls,∃ f,p.find y=some f:=fun y m=>DA nP T3 m
  have aAu:g.calls.length≤p.procs.length:=Good.len ⟨u6 (ml _).1,hth⟩
  obtain⟨W,hW⟩ : ∃ W,D7 out g.calls=W:=⟨_,rfl⟩
  rw[hW]at h1
  repeat' (first
 |simp only[go_sem,hC,hE,hM,hY,hx]
 |(with_reducible refine CU (ZD _) ?_)
 |(with_reducible first|refine aX fun hc=>?_|refine aY fun hc=>?_|refine aZ (fun hc=>?_) fun hc=>?_)<;>(try simp only[hc,bs,↓reduceIte]at h)<;>try simp only[hc]
 |(with_reducible refine aB hQ ?_;(try cases h);simp only[aR,aS,bo,bp,go_sem,hC,hE,hM,hY,hx];try exact bS)
 | (cases h;done))
  refine dS 0 1 (bg.ind (ι:=List aF×Nat×List aF×Nat) (fun j=>g.calls.drop j.2.1=j.1∧D7 j.2.2.1 j.1=W∧Good p j.2.2.1∧j.2.2.2=j.2.2.1.length) (fun j=>j.1.length)
   (fun j=> [(0, .dO (fA p) 0),(5, .slice (.tok 0) 1 (j.2.2.1.map encStr)),(6, .int .i64 (i:Int)),(22, .slice .shared 1 (g.calls.map encStr)),(23, .int .i64 (g.calls.length:Int)),(24, .int .i64 (j.2.1:Int))]) (fun j=>⟨[],[some j.2.2.2]⟩) ?_ (g.calls,0,out,out.length) ⟨rfl,hW,h2,rfl⟩)
  clear hW
  rintro⟨rest,k,cR,n'⟩ ⟨j1,j2,j3,j4⟩ ZA
  dsimp only at j1 j2 j3 j4
  subst j4
  have aAv:=j3.len
  cases rest with
  |nil=>
   have ae0:=drop_nil j1
   simp only[D7]at j2
   subst j2
   repeat' (first
 |simp only[go_sem,hC,hE,hM,hY,ae0]
 |(with_reducible first|refine aX fun hc=>?_|refine aY fun hc=>?_|refine aZ (fun hc=>?_) fun hc=>?_)<;>(try simp only[hc,bs,↓reduceIte]at h)<;>try simp only[hc]
 |(with_reducible refine aB hQ ?_;(try cases h);simp only[aR,aS,bo,bp,go_sem,hC,hE,hM,hY,ae0];try exact bS)
 | (cases h;done))
   refine eV 0 1 ?_ ?_ (IH (n,i+1,cR,cR.length) ⟨h1,j3,by dsimp only;omega,rfl⟩ (Nat.lt_succ_self _))
   ·(simp only[go_sem,hC,hE,hM,hY,aL o8];try exact cu)
   ·(simp only[go_sem,hC,hE,hM,hY,aL o8];try exact cu)
  | cons y rest=>
   obtain⟨pD,Ns,yR,jg4⟩:=drop_cons j1
   have tI:k<4611686018427387904:=by omega
   have hM:(cR.length+1)*17≤bA:=by unfold bA;omega
   have HZ:=fun g s=>jN (l:=cR) (by omega) y g s
   have hy:=hth y (List.mem_of_getElem? pD)
   have Dr:=j3.spk hy
   simp only[D7]at j2
   rcases Bool.eq_false_or_eq_true (fw cR y)with c1|c1
   ·simp only [CD,c1,if_true]at j2
    repeat' (first
 |simp only[go_sem,hC,hE,hM,hY,yR,pD,c1]
 |(with_reducible refine CU (HZ _ _) ?_)
 |(with_reducible first|refine aX fun hc=>?_|refine aY fun hc=>?_|refine aZ (fun hc=>?_) fun hc=>?_)<;>(try simp only[hc,bs,↓reduceIte]at h)<;>try simp only[hc]
 |(with_reducible refine aB hQ ?_;(try cases h);simp only[aR,aS,bo,bp,go_sem,hC,hE,hM,hY,yR,pD,c1];try exact bS)
 | (cases h;done))
    refine eV 0 1 ?_ ?_ (ZA (rest,k+1,cR,cR.length) ⟨Ns,j2,j3,rfl⟩ (Nat.lt_succ_self _))
    ·(simp only[go_sem,hC,hE,hM,hY,aL tI];try exact cu)
    ·(simp only[go_sem,hC,hE,hM,hY,aL tI];try exact cu)
   ·simp only [CD,c1,Bool.false_eq_true,if_false]at j2 Dr
    repeat' (first
 |simp only[go_sem,hC,hE,hM,hY,yR,pD,c1]
 |(with_reducible refine CU (HZ _ _) ?_)
 |(with_reducible first|refine aX fun hc=>?_|refine aY fun hc=>?_|refine aZ (fun hc=>?_) fun hc=>?_)<;>(try simp only[hc,bs,↓reduceIte]at h)<;>try simp only[hc]
 |(with_reducible refine aB hQ ?_;(try cases h);simp only[aR,aS,bo,bp,go_sem,hC,hE,hM,hY,yR,pD,c1];try exact bS)
 | (cases h;done))
    refine eV 0 1 ?_ ?_ (ZA (rest,k+1,cR++ [y],cR.length+1) ⟨Ns,j2,Dr,by simp⟩ (Nat.lt_succ_self _))
    ·(simp only[go_sem,hC,hE,hM,hY,aL tI,List.map_append,List.map_cons,List.map_nil,encStr];try exact cu)
    ·(simp only[go_sem,hC,hE,hM,hY,aL tI,List.map_append,List.map_cons,List.map_nil,encStr];try exact cu)
theorem Lm (name:aF) : ∀ l:List Pc,l.any (fun f=>f.name==name)=(iY name l).isSome
 | []=>rfl
 |f::l=>by
  simp only[List.any_cons,iY]
  cases e:(f.name==name)
  ·simp[Lm name l]
  ·simp
theorem Xg (name:aF) (f:Pc):az Tryz.prog oU ([.agg (cJ f)]++ [.ptr 0 0]) ⟨[[.str name]],[]⟩ (.bool (f.name==name)) ⟨[[.str name]],[]⟩:=by
 show az Tryz.prog oU [.agg (cJ f), .ptr 0 0] _ _ _
 refine az.go C8 rfl fun B Q hB hQ=>?_
 have⟨hC,hE,hM,hY⟩:=bE
 repeat' (first
 |simp only[go_sem,hC,hE,hM,hY]
 |(with_reducible refine aB hQ ?_;exact bj))
def Pg.zS (p:Pg) (name:aF):Option Pc:=if p.scope.1==0 then p.find name else none
theorem Xh {p:Pg} (h:p.jc) (name:aF) (s:St):az Tryz.prog uh [.agg (cO p), .str name] s (.bool (p.zS name).isSome) s:=by
 refine az.pure ?_ (by simp[D.bI,D.ok,j8]) rfl s
 obtain⟨sf,r5,rZ⟩:=h.procs
 have pU:=fun s=>vX h s
 have hi:=fun {s:St} {o:Nat} (ho:s.ah[o]? = some [.str name])=>BN (AQ (l:=p.procs) (f:=oU) (row:= [.str name]) (b:=fun f:Pc=>f.name==name) (by omega) rfl (by with_unfolding_all rfl) (fun x _=>Xg name x)) rfl (wL _) rfl ho
 have ig:=fun {s:St} {o:Nat} (ho:s.ah[o]? = some [.str name])=>(show az Tryz.prog gU [.slice .shared 5 (p.procs.map cJ), .gn 197 [.ptr o 0]] s (.bool (p.procs.any fun f:Pc=>f.name==name)) s from hi ho)
 simp only[Lm]at ig
 unfold Pg.zS Pg.find
 unfold S0
 rcases Bool.eq_false_or_eq_true (p.scope.1==0)with b1|b1
 ·simp only [b1,if_true]
  refine az.go wU rfl fun B Q hB hQ=>?_
  have⟨hC,hE,hM,hY⟩:=bE
  repeat' (first
 |simp only[go_sem,hC,hE,hM,hY,b1]
 |(with_reducible refine CU (pU _) ?_)
 |(with_reducible refine CU (ig (by with_unfolding_all rfl)) ?_)
 |(with_reducible refine aB hQ ?_;exact bj))
 ·simp only [b1,Bool.false_eq_true,if_false,Option.isSome_none]
  refine az.go wU rfl fun B Q hB hQ=>?_
  have⟨hC,hE,hM,hY⟩:=bE
  repeat' (first
 |simp only[go_sem,hC,hE,hM,hY,b1]
 |(with_reducible refine CU (pU _) ?_)
 |(with_reducible refine CU (ig (by with_unfolding_all rfl)) ?_)
 |(with_reducible refine aB hQ ?_;exact bj))
def Pg.azs (p:Pg) (name:aF):List aF:=match p.zS name with|some f=>f.calls|none=> []
def Pg.asT (p:Pg) (name:aF):List aF:=match p.zS name with|some _=>kD (p.work name)|none=> []
theorem H0 {p:Pg} {name:aF} {f:Pc} (h:p.zS name=some f):(p.scope.1==0)=true∧p.find name=some f:=by
 unfold Pg.zS at h
 split at h
 ·exact⟨by assumption,h⟩
 ·cases h
def s8 (p:Pg) (out:List aF):List aF→List aF
 | []=>out
 |v::l=>s8 p (if fw p.globals v then out++ [v]else out) l
def s9 (p:Pg) (out:List aF):List Sm→List aF
 | []=>out
 |v::l=>s9 p (s8 p out v.said) l
def tQ (p:Pg) (n:aF):List Sm:=match p.find n with|some f=>Sm.dr f.body|none=> []
def u7 (p:Pg) (out:List aF):List aF→List aF
 | []=>out
 |n::l=>u7 p (s9 p out (tQ p n)) l
theorem zT (p:Pg) : ∀ (l out:List aF),out.length≤(s8 p out l).length∧(s8 p out l).length≤out.length+l.length
 | [],out=>⟨Nat.le_refl _,Nat.le_refl _⟩
 |v::l,out=>by
  simp only[s8]
  have h:=zT p l (if fw p.globals v then out++ [v]else out)
  have h2:out.length≤(if fw p.globals v then out++ [v]else out).length∧(if fw p.globals v then out++ [v]else out).length≤out.length+1:=by split<;>simp
  simp only[List.length_cons]
  omega
def oW:List Sm→Nat
 | []=>0
 |v::l=>v.said.length+oW l
theorem B5 : ∀ a b:List Sm,oW (a++b)=oW a+oW b
 | [],b=>by simp[oW]
 |v::a,b=>by simp only[List.cons_append,oW,B5 a b];omega
theorem abg (v:Sm):v.said.length≤1+v.x.size+2*Ar.bt v.args:=by
 have : ∀ (l:List Ar) (out:List aF),(Ar.said out l).length≤out.length+2*Ar.bt l:=by
  intro l
  induction l with
  |nil=>intro out;simp[Ar.said]
  |cons a l ih=>
   intro out
   simp only[Ar.said,Ar.bt]
   refine Nat.le_trans (ih _) ?_
   have:=lq a.x
   have:1≤a.x.size:=by obtain⟨_,_,_,_⟩:=a.x;simp[Ex.size]
   simp only[List.length_append]
   split<;>simp<;>omega
 have h1:=this v.args (v.s7++v.x.names)
 have h2:=lq v.x
 have h4:v.s7.length≤1:=by unfold Sm.s7;split<;>simp
 simp only[List.length_append]at h1
 unfold Sm.said
 omega
mutual
theorem T4 : ∀ s:Sm,oW s.pre≤2*s.size
 |⟨id,kind,labels,name,proc,x,has,args,bm,bd⟩=>by
  simp only[Sm.pre,oW,B5,Sm.size]
  have h1:=abg ⟨id,kind,labels,name,proc,x,has,args,bm,bd⟩
  have h2:=u9 bm
  have h3:=u9 bd
  dsimp only at h1
  omega
theorem u9 : ∀ l:List Sm,oW (Sm.dr l)≤2*Sm.bt l
 | []=>by simp[Sm.dr,oW,Sm.bt]
 |s::l=>by
  simp only[Sm.dr,B5,Sm.bt]
  have:=T4 s;have:=u9 l;omega
end
theorem zU (p:Pg) : ∀ (l:List Sm) (out:List aF),out.length≤(s9 p out l).length∧(s9 p out l).length≤out.length+oW l
 | [],out=>⟨Nat.le_refl _,Nat.le_refl _⟩
 |v::l,out=>by
  simp only[s9,oW]
  have h:=zU p l (s8 p out v.said)
  have h2:=zT p v.said out
  omega
theorem zV {p:Pg} (h:p.jc) : ∀ (l out:List aF),out.length≤(u7 p out l).length∧(u7 p out l).length≤out.length+l.length*1800000
 | [],out=>⟨Nat.le_refl _,by simp[u7]⟩
 | n::l,out=>by
  simp only[u7]
  have h1:=zV h l (s9 p out (tQ p n))
  have h2:=zU p (tQ p n) out
  have h3:oW (tQ p n)≤1800000:=by
   unfold tQ
   split
   ·rename_i f hf
    have:=u9 f.body
    have h4:=Pc.dg (sG hf).1
    have h5:=h.procs.2.1
    simp only[Pc.size]at h4
    omega
   ·simp[oW]
  simp only[List.length_cons]
  omega
theorem T5 {p:Pg} (h:p.may=true):p.procs.length≤16:=by
 unfold Pg.may at h
 split at h
 ·cases h
 ·rename_i c
  simp only[Bool.or_eq_true,decide_eq_true_eq,not_or,Int.not_lt,gt_iff_lt]at c
  have:=c.1.2
  omega
def Pg.sH (p:Pg) (name:aF):List aF:=u7 p [] (kD (p.work name))
def Pg.qv (p:Pg) (name:aF):List aF:=match p.zS name with|some _=>kD (p.sH name)|none=> []
theorem Ln {p:Pg} (nP:(p.scope.1==0)=true) {name:aF} {f:Pc} (hf:p.find name=some f):Good p (kD (p.work name)):=by
 have h:=B4 nP (p.procs.length+1) 0 [name] (D8 hf)
 refine⟨u6 (ml _).1,fun x m=>h.2 x ?_⟩
 exact((ml _).2 x).1 m
theorem T6 {p:Pg} (h:p.jc) (name:aF) (s:St):az Tryz.prog rL [.agg (cO p), .str name] s (.slice .shared 1 ((p.qv name).map encStr)) s:=by
 refine az.pure ?_ (by simp[D.bI,D.ok,j8]) (by simp only[D.ok,Tag.ok,eF];rfl) s
 have hk:=fun s=>Xh h name s
 have dv:=fun s=>Cz (p:=p) (by have:=h.procs;omega) s
 unfold Pg.qv
 unfold S0
 cases Xi:p.zS name with
 |none=>
  simp only[Xi,Option.isSome_none]at hk
  simp only[List.map_nil]
  refine az.go uK rfl fun B Q hB hQ=>?_
  have⟨hC,hE,hM,hY⟩:=bE
  repeat' (first
 |simp only[go_sem,hC,hE,hM,hY]
 |(with_reducible refine CU (hk _) ?_)
 |(with_reducible refine aB hQ ?_;exact bj))
 |some f=>
 obtain⟨nP,hf⟩:=H0 Xi
 simp only[Xi,Option.isSome_some]at hk
 dsimp only
 obtain⟨sf,r5,rZ⟩:=h.procs
 have hN:=Ln nP hf
 obtain⟨N,hNe⟩ : ∃ N,kD (p.work name)=N:=⟨_,rfl⟩
 rw[hNe]at hN
 have hNl:=hN.len
 obtain⟨R,hR⟩ : ∃ R,p.sH name=R:=⟨_,rfl⟩
 rw[hR]
 unfold Pg.sH at hR
 rw[hNe]at hR
 have hRl:R.length≤28800000:=by
  have:=(zV h N []).2
  rw[hR]at this
  have h4:=T5 (BY nP)
  have h3:N.length*1800000≤16*1800000:=Nat.mul_le_mul_right _ (by omega)
  simp only[List.length_nil]at this
  omega
 have ZD:=fun s=>abf h nP hf s
 simp only[hNe]at ZD
 obtain⟨fn,AG,Dy⟩:=uK
 refine az.intro ⟨fn,AG,Dy⟩ (Nat.le_of_ble_eq_true rfl) fun B hB=>?_
 generalize hQ:iC (⟨[],[]⟩:St).ah.length (⟨[],[]⟩:St).aw.length _ _ (⟨[],[]⟩:St)=Q
 have⟨hC,hE,hM,hY⟩:=bE
 refine Sem.iS ?_
 repeat' (first
 |simp only[go_sem,hC,hE,hM,hY]
 |(with_reducible refine aB hQ ?_;exact bj))
 refine Sem.iS ?_
 repeat' (first
 |simp only[go_sem,hC,hE,hM,hY]
 |(with_reducible refine CU (hk _) ?_)
 |(with_reducible refine aB hQ ?_;exact bj))
 refine Sem.iS ?_
 repeat' (first
 |simp only[go_sem,hC,hE,hM,hY]
 |(with_reducible refine CU (dv _) ?_)
 |(with_reducible refine aB hQ ?_;exact bj))
 refine Sem.iS ?_
 repeat' (first
 |simp only[go_sem,hC,hE,hM,hY]
 |(with_reducible refine aB hQ ?_;exact bj))
 refine Sem.iS ?_
 repeat' (first
 |simp only[go_sem,hC,hE,hM,hY]
 |(with_reducible refine CU (ZD _) ?_)
 |(with_reducible refine aB hQ ?_;exact bj))
 refine bg.p8 6 1 rfl ?_
 simp only[go_sem,hC,hE,hM,hY]
 refine dS 1 1 (bg.ind (ι:=List aF×Nat×List aF×Nat) (fun i=>N.drop i.2.1=i.1∧u7 p i.2.2.1 i.1=R∧i.2.2.1.length≤R.length∧i.2.2.2=i.2.2.1.length) (fun i=>i.1.length)
  (fun i=> [(2, .ptr 0 0),(5, .dO (fA p) 0),(6, .slice (.tok 0) 1 (i.2.2.1.map encStr)),(21, .slice .shared 1 (N.map encStr)),(22, .int .i64 (N.length:Int)),(23, .int .i64 (i.2.1:Int))]) (fun i=>⟨[cO p],[some i.2.2.2]⟩) ?_ (N,0,[],0) ⟨rfl,hR,Nat.zero_le _,rfl⟩)
 rintro⟨rest,k,out,no⟩ ⟨h1,h2,h3,h4⟩ IH
 dsimp only at h1 h2 h3 h4
 subst h4
 cases rest with
 |nil=>
  have hC:=drop_nil h1
  simp only[u7]at h2
  subst h2
  have FB:(mh out).length=out.length:=List.length_mergeSort out
  repeat' (first
 |simp only[go_sem,hC,hE,hM,hY]
 |(with_reducible refine aB hQ ?_;exact bj))
  refine Sem.seq (Sem.sort (k:=6) (t:=0) (l:=out) hB (by decide) (by decide) (by decide) rfl rfl (by omega) ?_)
  refine Sem.seq (Sem.compact (k:=6) (t:=0) (l:=mh out) hB (by decide) rfl (by rw[FB];rfl) (by rw[FB];omega) ?_)
  rw[B2]
  refine gG (ac:= .ret) (Q:=Q) (tm:= [(59, .slice (.tok 0) 1 ((kD out).map encStr)),(4, .slice (.tok 0) 1 ((kD out).map encStr))]) (s:=⟨[],[some (kD out).length]⟩) ?_
  repeat' (first
 |simp only[go_sem,hC,hE,hM,hY]
 |(with_reducible refine aB hQ ?_;exact bj))
 | cons x rest=>
  obtain⟨hE,g2,hC,g4⟩:=drop_cons h1
  have cp:k<4611686018427387904:=by omega
  obtain⟨g,Ll⟩:=hN.2 x (List.mem_of_getElem? hE)
  have T3:=(sG Ll).1
  have hbd:tQ p x=Sm.dr g.body:=by unfold tQ;rw[Ll]
  simp only[u7,hbd]at h2
  obtain⟨j,hj,rz⟩:=B3 (k:=0) Ll
  have rz:p.at x=((j:Nat):Int):=by unfold Pg.at;simpa using rz
  have yQ:=fun s=>Fl (p:=p) (by omega) x s
  simp only[rz]at yQ
  obtain⟨it,pY,BW⟩:=WR hj (by omega)
  have aeR:it.length≤900000:=by
   have e:=congrArg List.length pY
   obtain⟨a,b,e',_,_,e3,e4⟩:=(nO p).2 j g hj
   have e5:=pB p
   have e6:=congrArg List.length e3
   rw[e4]at e5
   simp only[List.length_map,List.length_append]at e e5 e6
   omega
  rw[← pY]at h2
  repeat' (first
 |simp only[go_sem,hC,hE,hM,hY,hE]
 |(with_reducible refine CU (yQ _) ?_)
 |(with_reducible refine CU (BW _) ?_)
 | (with_reducible refine aB hQ ?_;exact bj))
  obtain⟨W,hW⟩ : ∃ W,s9 p out (it.map Im.s)=W:=⟨_,rfl⟩
  rw[hW]at h2
  have hWR:W.length≤R.length:=by have:=(zV h rest W).1;rw[h2]at this;exact this
  have TW:out.length≤W.length:=by have:=(zU p (it.map Im.s) out).1;rw[hW]at this;exact this
  refine dS 1 1 (bg.ind (ι:=List Im×Nat×List aF×Nat) (fun i=>it.drop i.2.1=i.1∧s9 p i.2.2.1 (i.1.map Im.s)=W∧i.2.2.1.length≤W.length∧i.2.2.2=i.2.2.1.length) (fun i=>i.1.length)
   (fun i=> [(2, .ptr 0 0),(5, .dO (fA p) 0),(6, .slice (.tok 0) 1 (i.2.2.1.map encStr)),(21, .slice .shared 1 (N.map encStr)),(22, .int .i64 (N.length:Int)),(23, .int .i64 (k:Int)),(31, .slice .shared 17 (it.map dN)),(32, .int .i64 (it.length:Int)),(33, .int .i64 (i.2.1:Int))]) (fun i=>⟨[cO p],[some i.2.2.2]⟩) ?_ (it,0,out,out.length) ⟨rfl,hW,TW,rfl⟩)
  rintro⟨xd,k2,D9,no⟩ ⟨j1,j2,j3,j4⟩ TH
  dsimp only at j1 j2 j3 j4
  subst j4
  cases xd with
  |nil=>
   have Xj:=drop_nil j1
   simp only[List.map_nil,s9]at j2
   subst j2
   repeat' (first
 |simp only[go_sem,hC,hE,hM,hY,Xj]
 | (with_reducible refine aB hQ ?_;exact bj))
   refine eV 1 1 ?_ ?_ (IH (rest,k+1,D9,D9.length) ⟨g2,h2,hWR,rfl⟩ (Nat.lt_succ_self _))
   ·(simp only[go_sem,hC,hE,hM,hY,aL cp];try exact cu)
   ·(simp only[go_sem,hC,hE,hM,hY,aL cp];try exact cu)
  |cons y xd=>
   obtain⟨pD,Ns,yR,jg4⟩:=drop_cons j1
   have tI:k2<4611686018427387904:=by omega
   have hym:y.s∈Sm.dr g.body:=by rw[← pY];exact List.mem_map_of_mem (List.mem_of_getElem? pD)
   have sh:=h.said T3 _ hym
   have Zv:=fun s=>BQ sh s
   have FB:=K8 _ sh
   simp only[List.map_cons,s9]at j2
   repeat' (first
 |simp only[go_sem,hC,hE,hM,hY,yR,pD]
 |(with_reducible refine CU (Zv _) ?_)
 | (with_reducible refine aB hQ ?_;exact bj))
   obtain⟨V,hV⟩ : ∃ V,s8 p D9 y.s.said=V:=⟨_,rfl⟩
   rw[hV]at j2
   have hVW:V.length≤W.length:=by have:=(zU p (xd.map Im.s) V).1;rw[j2]at this;exact this
   have hoV:D9.length≤V.length:=by have:=(zT p y.s.said D9).1;rw[hV]at this;exact this
   refine dS 1 1 (bg.ind (ι:=List aF×Nat×List aF×Nat) (fun i=>y.s.said.drop i.2.1=i.1∧s8 p i.2.2.1 i.1=V∧i.2.2.1.length≤V.length∧i.2.2.2=i.2.2.1.length) (fun i=>i.1.length)
    (fun i=> [(2, .ptr 0 0),(5, .dO (fA p) 0),(6, .slice (.tok 0) 1 (i.2.2.1.map encStr)),(21, .slice .shared 1 (N.map encStr)),(22, .int .i64 (N.length:Int)),(23, .int .i64 (k:Int)),(31, .slice .shared 17 (it.map dN)),(32, .int .i64 (it.length:Int)),(33, .int .i64 (k2:Int)),(39, .slice .shared 1 (y.s.said.map encStr)),(40, .int .i64 (y.s.said.length:Int)),(41, .int .i64 (i.2.1:Int))]) (fun i=>⟨[cO p],[some i.2.2.2]⟩) ?_ (y.s.said,0,D9,D9.length) ⟨rfl,hV,hoV,rfl⟩)
   rintro⟨FF,k3,zW,no⟩ ⟨l1,l2,l3,l4⟩ IH3
   dsimp only at l1 l2 l3 l4
   subst l4
   cases FF with
   |nil=>
    have asU:=drop_nil l1
    simp only[s8]at l2
    subst l2
    repeat' (first
 |simp only[go_sem,hC,hE,hM,hY,asU]
 | (with_reducible refine aB hQ ?_;exact bj))
    refine eV 1 1 ?_ ?_ (TH (xd,k2+1,zW,zW.length) ⟨Ns,j2,hVW,rfl⟩ (Nat.lt_succ_self _))
    ·(simp only[go_sem,hC,hE,hM,hY,aL tI];try exact cu)
    ·(simp only[go_sem,hC,hE,hM,hY,aL tI];try exact cu)
   | cons z FF=>
    obtain⟨ae2,lg2,llt,lg4⟩:=drop_cons l1
    have H2:k3<4611686018427387904:=by omega
    have HZ:=fun g s=>jN (l:=p.globals) (by omega) z g s
    simp only[s8]at l2
    rcases Bool.eq_false_or_eq_true (fw p.globals z)with c1|c1
    ·simp only [c1,if_true]at l2
     have hM:(zW.length+1)*17≤bA:=by unfold bA;omega
     have hoo:(zW++ [z]).length≤V.length:=by have:=(zT p FF (zW++ [z])).1;rw[l2]at this;exact this
     repeat' (first
 |simp only[go_sem,hC,hE,hM,hY,llt,ae2,c1]
 |(with_reducible refine CU (HZ _ _) ?_)
 | (with_reducible refine aB hQ ?_;exact bj))
     refine eV 1 1 ?_ ?_ (IH3 (FF,k3+1,zW++ [z],zW.length+1) ⟨lg2,l2,hoo,by simp⟩ (Nat.lt_succ_self _))
     ·(simp only[go_sem,hC,hE,hM,hY,aL H2,List.map_append,List.map_cons,List.map_nil,encStr];try exact cu)
     ·(simp only[go_sem,hC,hE,hM,hY,aL H2,List.map_append,List.map_cons,List.map_nil,encStr];try exact cu)
    ·simp only [c1,Bool.false_eq_true,if_false]at l2
     repeat' (first
 |simp only[go_sem,hC,hE,hM,hY,llt,ae2,c1]
 |(with_reducible refine CU (HZ _ _) ?_)
 |(with_reducible refine aB hQ ?_;exact bj))
     refine eV 1 1 ?_ ?_ (IH3 (FF,k3+1,zW,zW.length) ⟨lg2,l2,l3,rfl⟩ (Nat.lt_succ_self _))
     ·(simp only[go_sem,hC,hE,hM,hY,aL H2];try exact cu)
     ·(simp only[go_sem,hC,hE,hM,hY,aL H2];try exact cu)
mutual
def Sm.its (deep dG:Int) (bd:Bool):Sm→List It
 |⟨id,kind,labels,name,proc,x,has,args,bm,e⟩=>⟨⟨id,kind,labels,name,proc,x,has,args,bm,e⟩,deep,dG,bd⟩::(Sm.Xk (deep+1) id false bm++Sm.Xk (deep+1) id true e)
def Sm.Xk (deep dG:Int) (bd:Bool):List Sm→List It
 | []=> []
 |s::l=>s.its deep dG bd++Sm.Xk deep dG bd l
end
def gv (l:List Sm) (none:Int):Int:=match l with| []=>none|t::_=>t.id
mutual
def Sm.vZ (proc up next loop:Int):Sm→List Im
 |⟨id,kind,labels,name,pc,x,has,args,bm,bd⟩=>⟨⟨id,kind,labels,name,pc,x,has,args,bm,bd⟩,proc,up,next,loop⟩::
  (Sm.kb proc id (if kind==6 then id else next) (if kind==6 then id else loop) bm++Sm.kb proc id (if kind==6 then id else next) (if kind==6 then id else loop) bd)
def Sm.kb (proc up next loop:Int):List Sm→List Im
 | []=> []
 |s::l=>s.vZ proc up (gv l next) loop++Sm.kb proc up next loop l
end
def oN (n:Nat) (l:List Sm):Prop:=∀ (i:Nat) (v:Sm),l[i]? = some v→v.id=((n+i+1:Nat):Int)
theorem oN.head {n:Nat} {v:Sm} {l:List Sm} (h:oN n (v::l)):v.id=((n+1:Nat):Int):=h 0 v rfl
theorem oN.tail {n:Nat} {v:Sm} {l:List Sm} (h:oN n (v::l)):oN (n+1) l:=fun i w hw=>by
 rw[h (i+1) w (by simpa using hw)];congr 1;omega
theorem oN.left {n:Nat} {a b:List Sm} (h:oN n (a++b)):oN n a:=fun i w hw=>h i w (by rw[List.getElem?_append_left (List.getElem?_eq_some_iff.1 hw).1];exact hw)
theorem oN.right {n:Nat} {a b:List Sm} (h:oN n (a++b)):oN (n+a.length) b:=fun i w hw=>by
 rw[h (a.length+i) w (by rw[List.getElem?_append_right (by omega)];simpa using hw)];congr 1;omega
theorem Xl (s:Sm):s.pre=s::(Sm.dr s.bm++Sm.dr s.bd):=Sm.qq s
mutual
theorem Ny : ∀ s:Sm,s.jE=s.pre.length
 |⟨id,kind,labels,name,proc,x,has,args,bm,bd⟩=>by
  simp only[Sm.jE,Sm.pre,List.length_cons,List.length_append,zX bm,zX bd];omega
theorem zX : ∀ l:List Sm,Sm.jf l=(Sm.dr l).length
 | []=>rfl
 |s::l=>by simp only[Sm.jf,Sm.dr,List.length_append,Ny s,zX l]
end
mutual
theorem ZE (proc up next loop:Int) : ∀ s:Sm,(s.vZ proc up next loop).map Im.s=s.pre
 |⟨id,kind,labels,name,pc,x,has,args,bm,bd⟩=>by
  simp only[Sm.vZ,Sm.pre,List.map_cons,List.map_append,r6 _ _ _ _ bm,r6 _ _ _ _ bd]
theorem r6 (proc up next loop:Int) : ∀ l:List Sm,(Sm.kb proc up next loop l).map Im.s=Sm.dr l
 | []=>rfl
 |s::l=>by simp only[Sm.kb,Sm.dr,List.map_append,ZE _ _ _ _ s,r6 _ _ _ _ l]
end
theorem abh (proc up next loop:Int) (s:Sm):(s.vZ proc up next loop).length=s.pre.length:=by rw[← ZE proc up next loop s,List.length_map]
theorem Ea (proc up next loop:Int) (l:List Sm):(Sm.kb proc up next loop l).length=(Sm.dr l).length:=by rw[← r6 proc up next loop l,List.length_map]
mutual
theorem abi (proc up next loop:Int) (out:List Im) : ∀ s:Sm,oN out.length s.pre→Im.one proc up next loop out s=out++s.vZ proc up next loop
 | ⟨id,kind,labels,name,pc,x,has,args,bm,bd⟩,h=>by
  simp only[Sm.pre]at h
  have h0:id=((out.length+1:Nat):Int):=h.head
  have h1:=h.tail.left
  have h2:=h.tail.right
  have e0:((out.length:Int)+1)=id:=by rw[h0];rfl
  simp only[Im.one,Sm.vZ,e0]
  rw[v7 proc id _ _ (out++ [_]) bm (by rw[List.length_append];exact h1)]
  rw[v7 proc id _ _ _ bd (by
   rw[List.length_append,List.length_append,Ea];exact h2)]
  simp
theorem v7 (proc up next loop:Int) (out:List Im) : ∀ l:List Sm,oN out.length (Sm.dr l)→Im.rows proc up next loop out l=out++Sm.kb proc up next loop l
 | [],h=>by simp[Im.rows,Sm.kb]
 | s::l,h=>by
  simp only[Sm.dr]at h
  have e:(if l.length=0 then next else(out.length:Int)+1+(s.jE:Int))=gv l next:=by
   cases l with
   |nil=>rfl
   |cons t l=>
    have h2:=h.right
    simp only[Sm.dr]at h2
    rw[Xl t]at h2
    simp only[List.length_cons,gv]
    rw[if_neg (by omega),h2.head,Ny]
    omega
  simp only[Im.rows,Sm.kb,e]
  rw[abi proc up _ loop out s h.left,v7 proc up next loop _ l (by rw[List.length_append,abh];exact h.right)]
  simp
end
def qe (n:Nat):List Pc→List Im
 | []=> []
 |f::l=>Sm.kb n 0 (-1) 0 f.body++qe (n+1) l
theorem T8 : ∀ (l:List Pc) (n:Nat) (h:Sh),oN h.L.length ((l.map fun f=>Sm.dr f.body).flatten)→(Sh.go n h l).L=h.L++qe n l
 | [],n,h,_=>by simp[Sh.go,qe]
 | f::l,n,h,hi=>by
  simp only[List.map_cons,List.flatten_cons]at hi
  simp only[Sh.go,qe]
  have e:=v7 (n:Int) 0 (-1) 0 h.L f.body hi.left
  rw[T8 l (n+1) _ (by
   show oN (Im.rows (n:Int) 0 (-1) 0 h.L f.body).length _
   rw[e,List.length_append,Ea];exact hi.right)]
  show Im.rows (n:Int) 0 (-1) 0 h.L f.body++_=_
  rw[e];simp
theorem Nz {p:Pg} (h:p.may=true):oN 0 p.pre:=fun i v hv=>by rw[Lc h hv];congr 1;omega
theorem T9 {p:Pg} (h:p.may=true):p.bh.L=qe 0 p.procs:=by
 have:=T8 p.procs 0 ⟨[],[],[]⟩ (Nz h)
 simpa[Pg.bh]using this
def Ua (l:List It):Nat→Int→Int
 | 0,_=>0
 |n+1,dG=>if dG==0 then 0 else match l[n]? with
  |none=>0
  |some x=>if x.s.id != dG then Ua l n dG else if x.s.kind==6 then dG else Ua l n x.dG
def Up (L:List It) (k:Nat) (its:List It) (vZ:List Im):Prop:=∀ (i:Nat) (a:It) (b:Im),its[i]? = some a→vZ[i]? = some b→a.s=b.s∧a.dG=b.up∧Ua L (k+i) a.dG=b.loop
def iZ (seen:List aF):List aF→List aF×Bool
 | []=>(seen,true)
 |n::l=>if fw seen n then(seen,false)else iZ (seen++ [n]) l
theorem B6 : ∀ (l seen:List aF),iZ seen l=(if qs seen l then((iZ seen l).1,false)else(seen++l,true))
 | [],seen=>by simp[iZ,qs]
 | n::l,seen=>by
  simp only[iZ,qs]
  split
  ·rfl
  ·rw [B6 l (seen++ [n])]
   split
   ·rfl
   ·simp
theorem NA : ∀ (a b seen:List aF),qs seen (a++b)=(qs seen a ||qs (seen++a) b)
 | [],b,seen=>by simp[qs]
 |x::a,b,seen=>by
  simp only[List.cons_append,qs]
  split
  ·rfl
  ·rw[NA a b (seen++ [x])];simp
theorem H3 : ∀ (l seen:List aF),seen.length≤(iZ seen l).1.length∧(iZ seen l).1.length≤seen.length+l.length
 | [],seen=>by simp[iZ]
 |n::l,seen=>by
  simp only[iZ]
  split
  ·simp
  ·have:=H3 l (seen++ [n]);simp at this ⊢;omega
def qF (zY:List aF) (v:Sm) (loop:Int):Bool:=if v.kind==7 ||v.kind==8 then loop != 0 else if v.kind==10 then fw zY v.name else true
def ta (zY fin seen:List aF):List (Sm×Int)→Option Int
 | []=>if(iZ seen fin).2 then none else some 0
 |(v,lp)::l=>if(iZ seen v.labels).2 then(if qF zY v lp then ta zY fin (iZ seen v.labels).1 l else some v.id)else some v.id
def iF:List Sm→List aF
 | []=> []
 |v::l=>v.labels++iF l
def Pc.labels (f:Pc):List aF:=iF (Sm.dr f.body)++f.fin
def Im.pair (m:Im):Sm×Int:=(m.s,m.loop)
def Pc.xe (f:Pc):List (Sm×Int):=(Sm.kb 0 0 (-1) 0 f.body).map Im.pair
def tc:List Pc→Option Int
 | []=>none
 |f::l=>match ta f.labels f.fin [] f.xe with
  |some id=>some id
  |none=>tc l
def yU (c:Int):Option Int→Int×Int
 |some id=>(c,id)
 |none=>(0,0)
def Pg.jump (p:Pg):Int×Int:=if p.scope.1==0 then yU 7 (tc p.procs)else(1,0)
mutual
theorem Xm (proc up next va Ub next' loop:Int) : ∀ s:Sm,(s.vZ proc up next loop).map Im.pair=(s.vZ va Ub next' loop).map Im.pair
 |⟨id,kind,labels,name,pc,x,has,args,bm,bd⟩=>by
  simp only[Sm.vZ,List.map_cons,List.map_append,Im.pair]
  rw[xf proc id _ va id (if kind==6 then id else next') _ bm,xf proc id _ va id (if kind==6 then id else next') _ bd]
theorem xf (proc up next va Ub next' loop:Int) : ∀ l:List Sm,(Sm.kb proc up next loop l).map Im.pair=(Sm.kb va Ub next' loop l).map Im.pair
 | []=>rfl
 |s::l=>by
  simp only[Sm.kb,List.map_append]
  rw[Xm proc up _ va Ub (gv l next') loop s,xf proc up next va Ub next' loop l]
end
theorem Lo (n:Int) (f:Pc):(Sm.kb n 0 (-1) 0 f.body).map Im.pair=f.xe:=xf _ _ _ _ _ _ _ _
theorem abj (f:Pc):f.xe.map Prod.fst=Sm.dr f.body:=by
 unfold Pc.xe
 rw[List.map_map, ← r6 0 0 (-1) 0 f.body]
 rfl
def NB (l:List It):Nat→Int→Int
 | 0,_=>0
 |n+1,id=>match l[n]? with
  |none=>0
  |some x=>if x.s.id != id then NB l n id else if Ua l n x.dG != 0 then Ua l n x.dG else NB l n id
theorem NC : ∀ (l:List Pc) (n:Nat) (h:Sh),h.lo.length=n→h.hi.length=n→oN h.L.length ((l.map fun f=>Sm.dr f.body).flatten)→
 ∃ lo hi,Sh.go n h l = ⟨h.L++qe n l,h.lo++lo,h.hi++hi⟩∧lo.length=l.length∧hi.length=l.length∧
  ∀ (i:Nat) (f:Pc),l[i]? = some f→∃ a e:List Im,lo[i]? = some (((h.L++a).length:Int)+1)∧hi[i]? = some (((h.L++a++Sm.kb ((n+i:Nat):Int) 0 (-1) 0 f.body).length:Int)+1)∧qe n l=a++Sm.kb ((n+i:Nat):Int) 0 (-1) 0 f.body++e
 | [],n,h,hl,hh,_=>⟨[],[],by simp[Sh.go,qe],rfl,rfl,fun i f h=>by simp at h⟩
 | f::l,n,h,hl,hh,hi=>by
  simp only[List.map_cons,List.flatten_cons]at hi
  simp only[Sh.go,qe]
  have e1:=v7 (n:Int) 0 (-1) 0 h.L f.body hi.left
  obtain⟨lo,ig,h2,h3,h4,h5⟩:=NC l (n+1) ⟨Im.rows (n:Int) 0 (-1) 0 h.L f.body,h.lo++ [(h.L.length:Int)+1],h.hi++ [((Im.rows (n:Int) 0 (-1) 0 h.L f.body).length:Int)+1]⟩ (by simp[hl]) (by simp[hh]) (by
   show oN (Im.rows (n:Int) 0 (-1) 0 h.L f.body).length _
   rw[e1,List.length_append,Ea];exact hi.right)
  refine⟨((h.L.length:Int)+1)::lo,(((Im.rows (n:Int) 0 (-1) 0 h.L f.body).length:Int)+1)::ig, ?_,by simp[h3],by simp[h4],fun i g ig=>?_⟩
  ·rw[h2,e1];simp
  ·cases i with
   |zero=>
    simp only[List.getElem?_cons_zero,Option.some.injEq]at ig
    subst ig
    exact⟨[],qe (n+1) l,by simp,by rw[e1];simp,by simp⟩
   |succ i=>
    simp only[List.getElem?_cons_succ]at ig
    obtain⟨a,e,g1,g2,g3⟩:=h5 i g ig
    have en:n+1+i=n+(i+1):=by omega
    rw[en]at g2 g3
    refine⟨Sm.kb n 0 (-1) 0 f.body++a,e, ?_, ?_,by rw[g3];simp⟩
    ·rw[List.getElem?_cons_succ,g1,e1];simp
    ·rw[List.getElem?_cons_succ,g2,e1];simp
theorem ae4 {p:Pg} (hb:p.may=true) {i:Nat} {f:Pc} (hf:p.procs[i]? = some f) (hs:Pc.bt p.procs<1000000000) (s:St) :
 az Tryz.prog gT [.dO (fA p) 0, .int .i64 (i:Int)] s (.slice .shared 17 ((Sm.kb (i:Int) 0 (-1) 0 f.body).map dN)) s:=by
 obtain⟨lo,hi,h1,h2,h3,h4⟩:=NC p.procs 0 ⟨[],[],[]⟩ rfl rfl (Nz hb)
 obtain⟨a,e,g1,g2,g3⟩:=h4 i f hf
 simp only[Nat.zero_add,List.nil_append]at g1 g2 g3 h1
 refine aeC hs (a:=a) (e:=e) ?_ ?_ ?_ s
 ·show(Sh.go 0 ⟨[],[],[]⟩ p.procs).lo[i]? = _
  rw[h1];exact g1
 ·show(Sh.go 0 ⟨[],[],[]⟩ p.procs).hi[i]? = _
  rw[h1];exact g2
 ·show(Sh.go 0 ⟨[],[],[]⟩ p.procs).L=_
  rw[h1];exact g3
theorem az.asV {P:Program} {f:FuncId} {pre post:List D} {rows lL:List (List D)} {z z' k k':Nat} {b:Bool} (h:az P f (pre++ .slice (.tok 0) z rows::post) ⟨[],[some k]⟩ (.tuple [.slice (.tok 0) z' lL, .bool b]) ⟨[],[some k']⟩)
 (hp:D.bI 0 0 pre=true) (ha:D.bI 0 0 post=true) (hw:D.gY 0 0 rows=true) (SI:D.gY 0 0 lL=true)
 {s:St} {t:Nat} (ht:s.aw[t]? = some (some k)):az P f (pre++ .slice (.tok t) z rows::post) s (.tuple [.slice (.tok t) z' lL, .bool b]) ⟨s.ah,s.aw.set t (some k')⟩:=by
 refine bL.frame [] [t] h (by simp) (by simp) (by simp) (by simpa using (List.getElem?_eq_some_iff.1 ht).1) rfl (fun i o' ds e1 e2=>by simp at e1) rfl (fun i t' e1=>?_)
  ?_ ?_ ?_
 ·cases i with
  |zero=>simp at e1;subst e1;simp[ht]
  |succ i=>simp at e1
 ·have h1:=fb [] [t] _ hp
  have h2:=fb [] [t] _ ha
  rw[fQ]at h1 h2
  simp[fQ,D.de,Tag.de,h1,h2,ik _ _ _ hw]
 ·have h1:=gH (n':=0) (m':=1) (Nat.le_refl 0) (Nat.zero_le 1) _ hp
  have h2:=gH (n':=0) (m':=1) (Nat.le_refl 0) (Nat.zero_le 1) _ ha
  rw[yl]at h1 h2 ⊢
  simp only[List.length_nil,List.length_cons,List.all_append,h1,Bool.true_and,List.all_cons,h2,Bool.and_true,D.ok,Tag.ok,lG (Nat.zero_le 0) (Nat.zero_le 1) _ hw]
  rfl
 ·rintro _ _ ⟨rfl,rfl⟩
  refine⟨by simp[D.back,D.de,D.eW,Tag.de,ko,ik _ _ _ SI], ?_⟩
  simp[St.back,kG]
theorem ae5 {seen l:List aF} (hl:seen.length+l.length<1000000000):az Tryz.prog ql [.slice (.tok 0) 1 (seen.map encStr), .slice .shared 1 (l.map encStr)] ⟨[],[some seen.length]⟩
 (.tuple [.slice (.tok 0) 1 ((iZ seen l).1.map encStr), .bool (iZ seen l).2]) ⟨[],[some (iZ seen l).1.length]⟩:=by
 generalize hR:iZ seen l=R
 refine az.go IG rfl fun B Q hB hQ=>?_
 have⟨hC,hE,hM,hY⟩:=bE
 repeat' (first
 |simp only[go_sem,hC,hE,hM,hY]
 |(with_reducible refine aB hQ ?_;exact bj))
 refine dS 0 1 (bg.ind (ι:=List aF×Nat×List aF×Nat) (fun i=>l.drop i.2.1=i.1∧iZ i.2.2.1 i.1=R∧i.2.2.2=i.2.2.1.length∧i.2.2.1.length+i.1.length<1000000000) (fun i=>i.1.length)
  (fun i=> [(0, .slice (.tok 0) 1 (i.2.2.1.map encStr)),(8, .slice .shared 1 (l.map encStr)),(9, .int .i64 (l.length:Int)),(10, .int .i64 (i.2.1:Int))]) (fun i=>⟨[],[some i.2.2.2]⟩) ?_ (l,0,seen,seen.length) ⟨rfl,hR,rfl,hl⟩)
 clear hR
 rintro⟨rest,k,out,n⟩ ⟨h1,h2,h3,h4⟩ IH
 dsimp only at h1 h2 h3 h4
 subst h3
 cases rest with
 |nil=>
  have hC:=drop_nil h1
  simp only[iZ]at h2
  subst h2
  repeat' (first
 |simp only[go_sem,hC,hE,hM,hY]
 |(with_reducible refine aB hQ ?_;exact bj))
 | cons x rest=>
  obtain⟨hE,g2,hC,g4⟩:=drop_cons h1
  have cp:k<4611686018427387904:=by omega
  simp only[List.length_cons]at h4
  have hM:(out.length+1)*17≤bA:=by unfold bA;omega
  have HZ:=fun g s=>jN (l:=out) (by omega) x g s
  simp only[iZ]at h2
  rcases Bool.eq_false_or_eq_true (fw out x)with c1|c1
  ·simp only [c1,if_true]at h2
   subst h2
   repeat' (first
 |simp only[go_sem,hC,hE,hM,hY,c1]
 |(with_reducible refine CU (HZ _ _) ?_)
 | (with_reducible refine aB hQ ?_;exact bj))
  ·simp only [c1,Bool.false_eq_true,if_false]at h2
   repeat' (first
 |simp only[go_sem,hC,hE,hM,hY,c1]
 |(with_reducible refine CU (HZ _ _) ?_)
 | (with_reducible refine aB hQ ?_;exact bj))
   refine eV 0 1 ?_ ?_ (IH (rest,k+1,out++ [x],out.length+1) ⟨g2,h2,by simp,by simp;omega⟩ (Nat.lt_succ_self _))
   ·(simp only[go_sem,hC,hE,hM,hY,aL cp,List.map_append,List.map_cons,List.map_nil,encStr];try exact cu)
   ·(simp only[go_sem,hC,hE,hM,hY,aL cp,List.map_append,List.map_cons,List.map_nil,encStr];try exact cu)
theorem Uc {seen l:List aF} (hl:seen.length+l.length<1000000000) {s:St} {t:Nat} (ht:s.aw[t]? = some (some seen.length)):az Tryz.prog ql [.slice (.tok t) 1 (seen.map encStr), .slice .shared 1 (l.map encStr)] s
 (.tuple [.slice (.tok t) 1 ((iZ seen l).1.map encStr), .bool (iZ seen l).2]) ⟨s.ah,s.aw.set t (some (iZ seen l).1.length)⟩:=
 (ae5 hl).asV (pre:= []) (post:= [_]) rfl (by simp[D.bI,D.ok,Tag.ok,eF]) (eF _) (eF _) ht
theorem Xn (x:Im):(dN x)[2]? = some (.slice .shared 1 (x.s.labels.map encStr)):=nd rfl
theorem Ud (x:Im):(dN x)[3]? = some (.str x.s.name):=nd rfl
attribute [go_sem] Xn Ud
def lf (fin:List aF) (label:aF):List Sm→Int×Bool
 | []=>if fw fin label then(-1,true)else(0,false)
 |v::l=>if fw v.labels label then(v.id,true)else lf fin label l
theorem B7 (fin:List aF) (label:aF) : ∀ l:List Sm,(lf fin label l).2=fw (iF l++fin) label
 | []=>by simp only[lf,iF,List.nil_append];split<;>simp_all
 | v::l=>by
  simp only[lf,iF,List.append_assoc]
  have h:=B7 fin label l
  rw[Bool.eq_iff_iff,jl]at h
  split
  ·rename_i c
   exact((jl _ _).2 (List.mem_append.2 (.inl ((jl _ _).1 c)))).symm
  ·rename_i c
   have:label∉v.labels:=fun m=>c ((jl _ _).2 m)
   rw[Bool.eq_iff_iff,h,jl]
   exact⟨fun m=>List.mem_append.2 (.inr m),fun m=>(List.mem_append.1 m).resolve_left this⟩
theorem Lp {p:Pg} {v:Sm} (ho:p.jc) {f:Pc} (hf:f∈p.procs) (hv:v∈Sm.dr f.body):v.labels.length≤900000:=by
 have key : ∀ n:Nat,(∀ s:Sm,s.pre.length≤n→∀ v∈s.pre,v.labels.length≤s.size)∧(∀ l:List Sm,(Sm.dr l).length≤n→∀ v∈Sm.dr l,v.labels.length≤Sm.bt l):=by
  intro n
  induction n with
  |zero=>
   refine⟨fun s h=>by rw[Sm.qq]at h;simp at h,fun l h v m=>?_⟩
   have:=List.eq_nil_of_length_eq_zero (Nat.le_zero.1 h)
   rw[this]at m;cases m
  | succ n ih=>
   have h1 : ∀ s:Sm,s.pre.length≤n+1→∀ v∈s.pre,v.labels.length≤s.size:=by
    intro s h v m
    rw[Sm.qq]at h m
    simp only[List.length_cons,List.length_append]at h
    obtain⟨id,kind,labels,name,proc,x,has,args,bm,bd⟩:=s
    simp only[Sm.size]
    rcases List.mem_cons.1 m with rfl|m
    ·dsimp only;omega
    ·rcases List.mem_append.1 m with m | m
     ·have:=ih.2 bm (by dsimp only at h;omega) v m;omega
     ·have:=ih.2 bd (by dsimp only at h;omega) v m;omega
   refine⟨h1,fun l=>?_⟩
   induction l with
   |nil=>intro _ v m;cases m
   |cons s l Tk=>
    intro h v m
    simp only[Sm.dr,List.length_append]at h
    simp only[Sm.dr]at m
    simp only[Sm.bt]
    rcases List.mem_append.1 m with m|m
    ·have:=h1 s (by omega) v m;omega
    ·have:=Tk (by omega) v m;omega
 have h1:=(key (Sm.dr f.body).length).2 f.body (Nat.le_refl _) v hv
 have h2:=Pc.dg hf
 have h3:=ho.procs.2.1
 simp only[Pc.size]at h2
 omega
theorem H4 {p:Pg} (ho:p.jc) {f:Pc} (hf:f∈p.procs):f.fin.length≤900000:=by
 have h2:=Pc.dg hf
 have h3:=ho.procs.2.1
 simp only[Pc.size]at h2
 omega
theorem FG {p:Pg} (ho:p.jc) {f:Pc} (hf:f∈p.procs):(Sm.dr f.body).length≤900000:=by
 rw[← zX]
 have:=nN f.body
 have h2:=Pc.dg hf
 have h3:=ho.procs.2.1
 simp only[Pc.size]at h2
 omega
theorem ae6 {p:Pg} (ho:p.jc) (hb:p.may=true) {i:Nat} {f:Pc} (hf:p.procs[i]? = some f) (label:aF) (s:St) :
 az Tryz.prog oR [.dO (fA p) 0, .int .i64 (i:Int), .str label] s (.tuple [.int .i64 (lf f.fin label (Sm.dr f.body)).1, .bool (lf f.fin label (Sm.dr f.body)).2]) s:=by
 refine az.pure ?_ (by simp[D.bI,D.ok,uw]) rfl s
 obtain⟨sf,r5,rZ⟩:=ho.procs
 have AE:=List.mem_of_getElem? hf
 have BW:=fun s=>ae4 hb hf (by omega) s
 have qd:=r6 (i:Int) 0 (-1) 0 f.body
 have Lq:=FG ho AE
 have v8:=H4 ho AE
 have Dy:=fun s=>rY (l:=f.fin) (by omega) label s
 have qZ:i<p.procs.length:=(List.getElem?_eq_some_iff.1 hf).1
 generalize hI:Sm.kb (i:Int) 0 (-1) 0 f.body=I at *
 have hIl:I.length≤900000:=by rw[← qd,List.length_map]at Lq;exact Lq
 obtain⟨R,hR⟩ : ∃ R,lf f.fin label (Sm.dr f.body)=R:=⟨_,rfl⟩
 rw[hR]
 rw[← qd]at hR
 unfold S0
 refine az.go C9 rfl fun B Q hB hQ=>?_
 have⟨hC,hE,hM,hY⟩:=bE
 repeat' (first
 |simp only[go_sem,hC,hE,hM,hY]
 |(with_reducible refine CU (BW _) ?_)
 |(with_reducible refine aB hQ ?_;exact bj))
 refine dS 0 0 (bg.ind (ι:=List Im×Nat) (fun j=>I.drop j.2=j.1∧lf f.fin label (j.1.map Im.s)=R) (fun j=>j.1.length)
  (fun j=> [(0, .dO (fA p) 0),(1, .int .i64 (i:Int)),(2, .str label),(12, .slice .shared 17 (I.map dN)),(13, .int .i64 (I.length:Int)),(14, .int .i64 (j.2:Int))]) (fun j=>⟨[],[]⟩) ?_ (I,0) ⟨rfl,hR⟩)
 clear hR
 rintro⟨rest,k⟩ ⟨h1,h2⟩ IH
 dsimp only at h1 h2
 cases rest with
 | nil=>
  have hC:=drop_nil h1
  simp only[List.map_nil,lf]at h2
  rcases Bool.eq_false_or_eq_true (fw f.fin label)with c1|c1
  ·simp only [c1,if_true]at h2
   subst h2
   repeat' (first
 |simp only[go_sem,hC,hE,hM,hY,oc,hf,c1]
 |(with_reducible refine CU (Dy _) ?_)
 | (with_reducible refine aB hQ ?_;exact bj))
  ·simp only [c1,Bool.false_eq_true,if_false]at h2
   subst h2
   repeat' (first
 |simp only[go_sem,hC,hE,hM,hY,oc,hf,c1]
 |(with_reducible refine CU (Dy _) ?_)
 |(with_reducible refine aB hQ ?_;exact bj))
 | cons a rest=>
  obtain⟨hE,g2,hC,g4⟩:=drop_cons h1
  have cp:k<4611686018427387904:=by omega
  have Fz:a.s∈Sm.dr f.body:=by rw[← qd];exact List.mem_map_of_mem (List.mem_of_getElem? hE)
  have nM:=fun s=>rY (l:=a.s.labels) (by have:=Lp ho AE Fz;omega) label s
  simp only[List.map_cons,lf]at h2
  rcases Bool.eq_false_or_eq_true (fw a.s.labels label)with c1|c1
  ·simp only [c1,if_true]at h2
   subst h2
   repeat' (first
 |simp only[go_sem,hC,hE,hM,hY,c1]
 |(with_reducible refine CU (nM _) ?_)
 | (with_reducible refine aB hQ ?_;exact bj))
  ·simp only [c1,Bool.false_eq_true,if_false]at h2
   repeat' (first
 |simp only[go_sem,hC,hE,hM,hY,c1]
 |(with_reducible refine CU (nM _) ?_)
 | (with_reducible refine aB hQ ?_;exact bj))
   refine eV 0 0 ?_ ?_ (IH (rest,k+1) ⟨g2,h2⟩ (Nat.lt_succ_self _))
   ·(simp only[go_sem,hC,hE,hM,hY,aL cp];try exact cu)
   ·(simp only[go_sem,hC,hE,hM,hY,aL cp];try exact cu)
theorem abk {p:Pg} (ho:p.jc) (hb:p.may=true) {i:Nat} {f:Pc} (hf:p.procs[i]? = some f) (m:Im) (hm:m.proc=(i:Int)) (s:St) :
 az Tryz.prog vE [.dO (fA p) 0, .agg (dN m)] s (.bool (qF f.labels m.s m.loop)) s:=by
 refine az.pure ?_ (by simp[D.bI,D.ok,uw,QU]) rfl s
 have rz:=fun s=>ae6 ho hb hf m.s.name s
 have ae7:=B7 f.fin m.s.name (Sm.dr f.body)
 rw[← hm]at rz
 obtain⟨A,hA⟩ : ∃ A,lf f.fin m.s.name (Sm.dr f.body)=A:=⟨_,rfl⟩
 rw[hA]at rz ae7
 obtain⟨R,hR⟩ : ∃ R,qF f.labels m.s m.loop=R:=⟨_,rfl⟩
 rw[hR]
 unfold qF Pc.labels at hR
 unfold S0
 rcases Bool.eq_false_or_eq_true (m.s.kind==7)with c1|c1
 ·simp only [c1,Bool.true_or,if_true]at hR
  subst hR
  refine az.go pK rfl fun B Q hB hQ=>?_
  have⟨hC,hE,hM,hY⟩:=bE
  repeat' (first
 |simp only[go_sem,hC,hE,hM,hY,c1]
 |(with_reducible refine aB hQ ?_;exact bj))
 rcases Bool.eq_false_or_eq_true (m.s.kind==8)with c2|c2
 ·simp only [c1,c2,Bool.or_true,if_true]at hR
  subst hR
  refine az.go pK rfl fun B Q hB hQ=>?_
  have⟨hC,hE,hM,hY⟩:=bE
  repeat' (first
 |simp only[go_sem,hC,hE,hM,hY,c1,c2]
 |(with_reducible refine aB hQ ?_;exact bj))
 rcases Bool.eq_false_or_eq_true (m.s.kind==10)with c3|c3
 ·simp only [c1,c2,c3,Bool.or_self,Bool.false_eq_true,if_false,if_true, ← ae7]at hR
  subst hR
  refine az.go pK rfl fun B Q hB hQ=>?_
  have⟨hC,hE,hM,hY⟩:=bE
  repeat' (first
 |simp only[go_sem,hC,hE,hM,hY,c1,c2,c3]
 |(with_reducible refine CU (rz _) ?_)
 |(with_reducible refine aB hQ ?_;exact bj))
 ·simp only [c1,c2,c3,Bool.or_self,Bool.false_eq_true,if_false]at hR
  subst hR
  refine az.go pK rfl fun B Q hB hQ=>?_
  have⟨hC,hE,hM,hY⟩:=bE
  repeat' (first
 |simp only[go_sem,hC,hE,hM,hY,c1,c2,c3]
 |(with_reducible refine aB hQ ?_;exact bj))
end Go.Abs
namespace Go.Abs
set_option maxRecDepth 8000
open Go.Proofs
theorem abl {p:Pg} (h:p.jc) (nP:(p.scope.1==0)=true) (s:St):az Tryz.prog rK [.agg (cO p)] s (.dO (fA p) 0) s:=by
 refine az.pure ?_ (by simp[D.bI,D.ok,j8]) (by simp[D.ok,uw]) s
 obtain⟨sf,r5,rZ⟩:=h.procs
 have pU:=fun s=>vX h s
 have dv:=fun s=>Cz (p:=p) (by omega) s
 have b0:(p.scope.1 != 0) = !(p.scope.1==0):=rfl
 rw[nP]at b0
 unfold S0
 refine az.go yK rfl fun B Q hB hQ=>?_
 have⟨hC,hE,hM,hY⟩:=bE
 repeat' (first
 |simp only[go_sem,hC,hE,hM,hY,b0,Bool.not_true]
 |(with_reducible refine CU (pU _) ?_)
 |(with_reducible refine CU (dv _) ?_)
 |(with_reducible refine aB hQ ?_;exact bj))
theorem abm {p:Pg} (h:p.jc) (nP:(p.scope.1==0)=false) (s:St):az Tryz.prog rK [.agg (cO p)] s .ew s:=by
 refine az.pure ?_ (by simp[D.bI,D.ok,j8]) rfl s
 have pU:=fun s=>vX h s
 have b0:(p.scope.1 != 0) = !(p.scope.1==0):=rfl
 rw[nP]at b0
 unfold S0
 refine az.go yK rfl fun B Q hB hQ=>?_
 have⟨hC,hE,hM,hY⟩:=bE
 repeat' (first
 |simp only[go_sem,hC,hE,hM,hY,b0,Bool.not_false]
 |(with_reducible refine CU (pU _) ?_)
 |(with_reducible refine aB hQ ?_;exact bj))
mutual
theorem Xo {pr up next loop:Int} : ∀ (s:Sm) (m:Im),m∈s.vZ pr up next loop→m.proc=pr
 | ⟨id,kind,labels,name,pc,x,has,args,bm,bd⟩,m,h=>by
  simp only[Sm.vZ]at h
  rcases List.mem_cons.1 h with rfl|h
  ·rfl
  ·rcases List.mem_append.1 h with h | h
   ·exact xg bm m h
   ·exact xg bd m h
theorem xg {pr up next loop:Int} : ∀ (l:List Sm) (m:Im),m∈Sm.kb pr up next loop l→m.proc=pr
 |s::l,m,h=>by
  simp only[Sm.kb]at h
  rcases List.mem_append.1 h with h|h
  ·exact Xo s m h
  ·exact xg l m h
end
theorem xQ : ∀ a b:List Sm,iF (a++b)=iF a++iF b
 | [],b=>rfl
 |v::a,b=>by simp only[List.cons_append,iF,xQ a b,List.append_assoc]
mutual
theorem MR : ∀ s:Sm,(iF s.pre).length≤s.size
 |⟨id,kind,labels,name,pc,x,has,args,bm,bd⟩=>by
  have:=r7 bm;have:=r7 bd
  simp only[Sm.pre,iF,xQ,List.length_append,Sm.size];omega
theorem r7 : ∀ l:List Sm,(iF (Sm.dr l)).length≤Sm.bt l
 | []=>Nat.le_refl _
 |s::l=>by
  have:=MR s;have:=r7 l
  simp only[Sm.dr,xQ,List.length_append,Sm.bt];omega
end
theorem Ue (seen l:List aF):(iZ seen l).1.length≤seen.length+l.length:=(H3 l seen).2
theorem Xp {p:Pg} (h:p.jc) (s:St):az Tryz.prog vB [.agg (cO p)] s (.agg [.int .i64 p.jump.1, .int .i64 p.jump.2]) s:=by
 refine az.pure ?_ (by simp[D.bI,D.ok,j8]) rfl s
 obtain⟨sf,r5,rZ⟩:=h.procs
 obtain⟨R,hR⟩ : ∃ R,p.jump=R:=⟨_,rfl⟩
 rw[hR]
 unfold Pg.jump at hR
 unfold S0
 rcases Bool.eq_false_or_eq_true (p.scope.1==0)with nP|nP
 case inr=>
  have hs:=fun s=>abm h nP s
  simp only[nP,Bool.false_eq_true,if_false]at hR
  subst hR
  refine az.go yr rfl fun B Q hB hQ=>?_
  have⟨hC,hE,hM,hY⟩:=bE
  repeat' (first
 |simp only[go_sem,hC,hE,hM,hY]
 |(with_reducible refine CU (hs _) ?_)
 |(with_reducible refine aB hQ ?_;exact bj))
 have hs:=fun s=>abl h nP s
 have hb:=BY nP
 simp only[nP,if_true]at hR
 refine az.go yr rfl fun B Q hB hQ=>?_
 have⟨hC,hE,hM,hY⟩:=bE
 repeat' (first
 |simp only[go_sem,hC,hE,hM,hY]
 |(with_reducible refine CU (hs _) ?_)
 |(with_reducible refine aB hQ ?_;exact bj))
 refine dS 2 0 (bg.ind (ι:=List Pc×Nat) (fun i=>p.procs.drop i.2=i.1∧yU 7 (tc i.1)=R) (fun i=>i.1.length)
  (fun i=> [(1, .ptr 0 0),(2, .ptr 1 0),(3, .dO (fA p) 0),(16, .slice .shared 5 (p.procs.map cJ)),(17, .int .i64 (p.procs.length:Int)),(18, .int .i64 (i.2:Int))]) (fun i=>⟨[cO p,[.int .i64 0, .int .i64 0]],[]⟩) ?_ (p.procs,0) ⟨rfl,hR⟩)
 clear hR
 rintro⟨rest,k⟩ ⟨h1,hR⟩ IH
 dsimp only at h1 hR
 cases rest with
 |nil=>
  have hC:=drop_nil h1
  simp only[tc,yU]at hR
  subst hR
  repeat' (first
 |simp only[go_sem,hC,hE,hM,hY]
 |(with_reducible refine aB hQ ?_;exact bj))
 | cons f rest=>
  obtain⟨hE,g2,hC,g4⟩:=drop_cons h1
  have cp:k<4611686018427387904:=by omega
  have AE:=List.mem_of_getElem? hE
  have BW:=fun s=>ae4 hb hE (by omega) s
  have qd:=r6 (k:Int) 0 (-1) 0 f.body
  have yQ:=Lo (k:Int) f
  have QT:=fun m=>xg (pr:=(k:Int)) (up:=0) (next:= -1) (loop:=0) f.body m
  have Lq:=FG h AE
  have v8:=H4 h AE
  have ae8:(iF (Sm.dr f.body)).length≤900000:=by
   have h1:=r7 f.body
   have h2:=Pc.dg AE
   simp only[Pc.size]at h2
   omega
  rw[← qd]at ae8
  generalize hI:Sm.kb (k:Int) 0 (-1) 0 f.body=I at *
  have hIl:I.length≤900000:=by rw[← qd,List.length_map]at Lq;exact Lq
  simp only[tc, ← yQ]at hR
  obtain⟨J,hJ⟩ : ∃ J,ta f.labels f.fin [] (I.map Im.pair)=J:=⟨_,rfl⟩
  rw[hJ]at hR
  have hld:=fun(m:Im) (hm:m∈I) s=>abk h hb hE m (QT m hm) s
  repeat' (first
 |simp only[go_sem,hC,hE,hM,hY]
 |(with_reducible refine CU (BW _) ?_)
 | (with_reducible refine aB hQ ?_;exact bj))
  refine bg.p8 6 1 rfl ?_
  simp only[go_sem,hC,hE,hM,hY]
  refine dS 3 1 (bg.ind (ι:=List Im×Nat×List aF×Nat) (fun i=>I.drop i.2.1=i.1∧ta f.labels f.fin i.2.2.1 (i.1.map Im.pair)=J∧i.2.2.2=i.2.2.1.length∧i.2.2.1.length+(iF (i.1.map Im.s)).length≤900000) (fun i=>i.1.length)
   (fun i=> [(1, .ptr 0 0),(2, .ptr 1 0),(3, .dO (fA p) 0),(5, .ptr 2 0),(6, .slice (.tok 0) 1 (i.2.2.1.map encStr)),(16, .slice .shared 5 (p.procs.map cJ)),(17, .int .i64 (p.procs.length:Int)),(18, .int .i64 (k:Int)),
    (25, .slice .shared 17 (I.map dN)),(26, .int .i64 (I.length:Int)),(27, .int .i64 (i.2.1:Int))]) (fun i=>⟨[cO p,[.int .i64 0, .int .i64 0],cJ f],[some i.2.2.2]⟩) ?_ (I,0,[],0) ⟨rfl,hJ,rfl,by simpa using ae8⟩)
  clear hJ
  rintro⟨xd,k2,seen,n2⟩ ⟨j1,j2,j3,j4⟩ TH
  dsimp only at j1 j2 j3 j4
  subst j3
  cases xd with
  | nil=>
   have Q8:=drop_nil j1
   simp only[List.map_nil,ta]at j2
   simp only[List.map_nil,iF,List.length_nil,Nat.add_zero]at j4
   have H5:=fun {s:St} {t:Nat} (ht:s.aw[t]? = some (some seen.length))=>Uc (seen:=seen) (l:=f.fin) (by omega) ht
   obtain⟨P1,hP1⟩ : ∃ P1,iZ seen f.fin=P1:=⟨_,rfl⟩
   rw[hP1]at j2 H5
   rcases Bool.eq_false_or_eq_true P1.2 with c1|c1
   ·simp only [c1,if_true]at j2
    subst j2
    simp only at hR
    repeat' (first
 |simp only[go_sem,hC,hE,hM,hY,Q8,c1,Bool.not_true]
 |(with_reducible refine CU (H5 (by with_unfolding_all rfl)) ?_)
 | (with_reducible refine aB hQ ?_;exact bj))
    refine eV 2 0 ?_ ?_ (IH (rest,k+1) ⟨g2,hR⟩ (Nat.lt_succ_self _))
    ·(simp only[go_sem,hC,hE,hM,hY,aL cp];try exact cu)
    ·(simp only[go_sem,hC,hE,hM,hY,aL cp];try exact cu)
   ·simp only [c1,Bool.false_eq_true,if_false]at j2
    subst j2
    simp only[yU]at hR
    subst hR
    repeat' (first
 |simp only[go_sem,hC,hE,hM,hY,Q8,c1,Bool.not_false]
 |(with_reducible refine CU (H5 (by with_unfolding_all rfl)) ?_)
 | (with_reducible refine aB hQ ?_;exact bj))
  | cons m xd=>
   obtain⟨pD,j5,yR,j6⟩:=drop_cons j1
   have tI:k2<4611686018427387904:=by omega
   have ND:=List.mem_of_getElem? pD
   have ZB:=fun s=>hld m ND s
   simp only[List.map_cons,Im.pair,ta]at j2
   simp only[List.map_cons,iF,List.length_append]at j4
   have H5:=fun {s:St} {t:Nat} (ht:s.aw[t]? = some (some seen.length))=>Uc (seen:=seen) (l:=m.s.labels) (by omega) ht
   have YE:=Ue seen m.s.labels
   obtain⟨P1,hP1⟩ : ∃ P1,iZ seen m.s.labels=P1:=⟨_,rfl⟩
   rw[hP1]at j2 H5 YE
   rcases Bool.eq_false_or_eq_true P1.2 with c1|c1
   ·rcases Bool.eq_false_or_eq_true (qF f.labels m.s m.loop)with c2 | c2
    ·simp only [c1,c2,if_true]at j2
     repeat' (first
 |simp only[go_sem,hC,hE,hM,hY,pD,yR,c1,c2,Bool.not_true]
 |(with_reducible refine CU (H5 (by with_unfolding_all rfl)) ?_)
 |(with_reducible refine CU (ZB _) ?_)
 | (with_reducible refine aB hQ ?_;exact bj))
     refine eV 3 1 ?_ ?_ (TH (xd,k2+1,P1.1,P1.1.length) ⟨j5,j2,rfl,by dsimp only;omega⟩ (Nat.lt_succ_self _))
     ·(simp only[go_sem,hC,hE,hM,hY,aL tI];try exact cu)
     ·(simp only[go_sem,hC,hE,hM,hY,aL tI];try exact cu)
    ·simp only [c1,c2,if_true,Bool.false_eq_true,if_false]at j2
     subst j2
     simp only[yU]at hR
     subst hR
     repeat' (first
 |simp only[go_sem,hC,hE,hM,hY,pD,yR,c1,c2,Bool.not_true,Bool.not_false]
 |(with_reducible refine CU (H5 (by with_unfolding_all rfl)) ?_)
 |(with_reducible refine CU (ZB _) ?_)
 | (with_reducible refine aB hQ ?_;exact bj))
   ·simp only [c1,Bool.false_eq_true,if_false]at j2
    subst j2
    simp only[yU]at hR
    subst hR
    repeat' (first
 |simp only[go_sem,hC,hE,hM,hY,pD,yR,c1,Bool.not_false]
 |(with_reducible refine CU (H5 (by with_unfolding_all rfl)) ?_)
 |(with_reducible refine CU (ZB _) ?_)
 |(with_reducible refine aB hQ ?_;exact bj))
theorem Xq (x:It):(kg x)[2]? = some (.slice .shared 1 (x.s.labels.map encStr)):=nd rfl
theorem Uf (x:It):(kg x)[14]? = some (.int .i64 x.dG):=nd rfl
attribute [go_sem] Xq Uf
end Go.Abs
namespace Go.Abs
def DB (a b t:aF):aF:=if t==a then b else if t==b then a else t
mutual
def Ex.swap (a b:aF):Ex→Ex
 |⟨op,n,name,kids⟩=>⟨op,n,DB a b name,Ex.zZ a b kids⟩
def Ex.zZ (a b:aF):List Ex→List Ex
 | []=> []
 |x::l=>x.swap a b::Ex.zZ a b l
end
def Ar.swap (a b:aF) (x:Ar):Ar:=⟨x.ref,DB a b x.name,x.x.swap a b⟩
mutual
def Sm.swap (a b:aF):Sm→Sm
 |⟨id,kind,labels,name,proc,x,has,args,bm,bd⟩=>⟨id,kind,labels.map (DB a b),DB a b name,DB a b proc,x.swap a b,has,args.map (Ar.swap a b),Sm.zZ a b bm,Sm.zZ a b bd⟩
def Sm.zZ (a b:aF):List Sm→List Sm
 | []=> []
 |s::l=>s.swap a b::Sm.zZ a b l
end
def Pm.swap (a b:aF) (x:Pm):Pm:=⟨DB a b x.name,x.ref⟩
def Pc.swap (a b:aF) (f:Pc):Pc:=⟨DB a b f.name,f.params.map (Pm.swap a b),f.vars.map (DB a b),Sm.zZ a b f.body,f.fin.map (DB a b)⟩
def Pg.swap (a b:aF) (p:Pg):Pg:=⟨p.globals.map (DB a b),p.procs.map (Pc.swap a b)⟩
def It.swap (a b:aF) (i:It):It:=⟨i.s.swap a b,i.deep,i.dG,i.bd⟩
def ZF:List Sm→List aF
 | []=> []
 |v::l=>v.said++ZF l
def aid (p:Pg):List aF→List aF
 | []=> []
 |n::l=>ZF (tQ p n)++aid p l
set_option maxRecDepth 8000
open Go.Proofs
def pQ (nm:aF) (T:List aF) (seen:List aF):List Ar→Bool
 | []=>true
 |a::l=>if a.ref then(if fw seen a.name ||(a.name==nm ||fw T a.name)then false else pQ nm T (seen++ [a.name]) l)else pQ nm T seen l
def apM (T:List aF) (seen:List aF):List Ar→Bool
 | []=>true
 |a::l=>if a.ref then(if fw seen a.name ||fw T a.name then false else apM T (seen++ [a.name]) l)else apM T seen l
def Sm.asX (v:Sm):List aF:=if v.name != []then [v.name]else []
theorem Xr {v:Sm} (As:v.args.length<1000000000) {T:List aF} (hT:T.length<4611686018427387904) (s:St) :
 az Tryz.prog sy [.agg (bb v), .slice .shared 1 (T.map encStr)] s (.bool (pQ v.name T [] v.args)) s:=by
 refine az.pure ?_ (by simp[D.bI,D.ok,nj,Tag.ok,eF]) rfl s
 generalize hR:pQ v.name T [] v.args=R
 have ZG:=fun x s=>rY hT x s
 unfold S0
 refine az.go DY rfl fun B Q hB hQ=>?_
 have⟨hC,hE,hM,hY⟩:=bE
 repeat' (first
 |simp only[go_sem,hC,hE,hM,hY]
 |(with_reducible refine aB hQ ?_;exact bj))
 refine bg.p8 5 1 rfl ?_
 simp only[go_sem,hC,hE,hM,hY]
 refine dS 1 1 (bg.ind (ι:=List Ar×Nat×List aF×Nat) (fun i=>v.args.drop i.2.1=i.1∧pQ v.name T i.2.2.1 i.1=R∧i.2.2.1.length≤i.2.1∧i.2.2.2=i.2.2.1.length) (fun i=>i.1.length)
  (fun i=> [(1, .slice .shared 1 (T.map encStr)),(2, .ptr 0 0),(5, .slice (.tok 0) 1 (i.2.2.1.map encStr)),(9, .slice .shared 6 (v.args.map eG)),(10, .int .i64 (v.args.length:Int)),(11, .int .i64 (i.2.1:Int))]) (fun i=>⟨[bb v],[some i.2.2.2]⟩) ?_ (v.args,0,[],0) ⟨rfl,hR,Nat.le_refl _,rfl⟩)
 clear hR
 rintro⟨rest,k,seen,n'⟩ ⟨h1,h2,h3,h4⟩ IH
 dsimp only at h1 h2 h3 h4
 subst h4
 cases rest with
 |nil=>
  have hC:=drop_nil h1
  simp only[pQ]at h2
  subst h2
  repeat' (first
 |simp only[go_sem,hC,hE,hM,hY]
 |(with_reducible refine aB hQ ?_;exact bj))
 | cons a rest=>
  obtain⟨hE,g2,hC,g4⟩:=drop_cons h1
  have cp:k<4611686018427387904:=by omega
  have hM:(seen.length+1)*17≤bA:=by unfold bA;omega
  have qX:=fun g s=>jN (l:=seen) (by omega) a.name g s
  simp only[pQ]at h2
  rcases Bool.eq_false_or_eq_true a.ref with c1|c1
  case inr=>
   simp only[c1,Bool.false_eq_true,if_false]at h2
   repeat' (first
 |simp only[go_sem,hC,hE,hM,hY,c1,Bool.not_false]
 | (with_reducible refine aB hQ ?_;exact bj))
   refine eV 1 1 ?_ ?_ (IH (rest,k+1,seen,_) ⟨g2,h2,by dsimp only;omega,rfl⟩ (Nat.lt_succ_self _))
   ·(simp only[go_sem,hC,hE,hM,hY,aL cp];try exact cu)
   ·(simp only[go_sem,hC,hE,hM,hY,aL cp];try exact cu)
  simp only[c1,if_true]at h2
  rcases Bool.eq_false_or_eq_true (fw seen a.name)with c2|c2
  ·simp only [c2,Bool.true_or,if_true]at h2
   subst h2
   repeat' (first
 |simp only[go_sem,hC,hE,hM,hY,c1,c2,Bool.not_true]
 |(with_reducible refine CU (qX _ _) ?_)
 |(with_reducible refine CU (ZG _ _) ?_)
 | (with_reducible refine aB hQ ?_;exact bj))
  rcases Bool.eq_false_or_eq_true (a.name==v.name)with c3|c3
  ·simp only [c2,c3,Bool.false_or,Bool.true_or,if_true]at h2
   subst h2
   repeat' (first
 |simp only[go_sem,hC,hE,hM,hY,c1,c2,c3,Bool.not_true]
 |(with_reducible refine CU (qX _ _) ?_)
 |(with_reducible refine CU (ZG _ _) ?_)
 | (with_reducible refine aB hQ ?_;exact bj))
  rcases Bool.eq_false_or_eq_true (fw T a.name)with c4|c4
  ·simp only [c2,c3,c4,Bool.false_or,if_true]at h2
   subst h2
   repeat' (first
 |simp only[go_sem,hC,hE,hM,hY,c1,c2,c3,c4,Bool.not_true]
 |(with_reducible refine CU (qX _ _) ?_)
 |(with_reducible refine CU (ZG _ _) ?_)
 | (with_reducible refine aB hQ ?_;exact bj))
  ·simp only [c2,c3,c4,Bool.false_or,Bool.false_eq_true,if_false]at h2
   repeat' (first
 |simp only[go_sem,hC,hE,hM,hY,c1,c2,c3,c4,Bool.not_true]
 |(with_reducible refine CU (qX _ _) ?_)
 |(with_reducible refine CU (ZG _ _) ?_)
 | (with_reducible refine aB hQ ?_;exact bj))
   refine eV 1 1 ?_ ?_ (IH (rest,k+1,seen++ [a.name],seen.length+1) ⟨g2,h2,by simp;omega,by simp⟩ (Nat.lt_succ_self _))
   ·(simp only[go_sem,hC,hE,hM,hY,aL cp,List.map_append,List.map_cons,List.map_nil,encStr];try exact cu)
   ·(simp only[go_sem,hC,hE,hM,hY,aL cp,List.map_append,List.map_cons,List.map_nil,encStr];try exact cu)
def nH (p:Pg):List Pc→List D
 | []=> []
 |f::l=> .str f.name:: .slice .shared 1 ((p.qv f.name).map encStr)::nH p l
theorem Ug (p:Pg) : ∀ l,D.bI 0 0 (nH p l)=true
 | []=>rfl
 |f::l=>by simp only[nH,D.bI,D.ok,Tag.ok,eF,Ug p l];rfl
theorem abn (n m:Nat) (p:Pg) (l:List Pc):D.gA n m (nH p l)=nH p l:=il n m _ (Ug p l)
attribute [go_sem] abn
theorem Lr (p:Pg) : ∀ l m,nH p (l++m)=nH p l++nH p m
 | [],m=>rfl
 |f::l,m=>by simp only[List.cons_append,nH,Lr p l m]
theorem Ls {p:Pg} {nm:aF} {d:D} : ∀ {l:List Pc},nm∉l.map (·.name)→xj nm d (nH p l)=some (nH p l++ [.str nm,d])
 | [],_=>rfl
 |f::l,h=>by
  simp only[List.map_cons,List.mem_cons,not_or]at h
  have:(f.name==nm)=false:=by simpa using fun e=>h.1 e.symm
  simp only[nH,xj,this,Bool.false_eq_true,if_false,Ls h.2,List.cons_append]
theorem Lt {p:Pg} {nm:aF} {z:D} : ∀ {l:List Pc} {f:Pc},iY nm l=some f→za nm z (nH p l)=some (.slice .shared 1 ((p.qv nm).map encStr))
 | g::l,f,h=>by
  simp only[iY]at h
  simp only[nH,za]
  split at h
  ·rename_i e
   rw[if_pos e,eq_of_beq e]
  ·rename_i e
   rw[if_neg e]
   exact Lt h
theorem abo (l:List aF) : ∀ (s:List aF),qs s l=false→∀ a x b,l=a++x::b→x∉s++a:=by
 induction l with
 |nil=>intro s _ a x b e;cases a<;>cases e
 | cons y l ih=>
  intro s h a x b e
  simp only[qs]at h
  split at h
  ·cases h
  ·rename_i hy
   cases a with
   |nil=>cases e;simpa[← jl]using hy
   |cons z a=>
    cases e
    have:=ih (s++ [y]) h a x b rfl
    simpa using this
end Go.Abs
namespace Go.Abs
set_option maxRecDepth 8000
open Go.Proofs
theorem Lu {p:Pg} (h:(p.arity.1==0)=true):(p.scope.1==0)=true∧∀ v∈p.pre,(v.kind==4)=true→v.qE p=true:=by
 unfold Pg.arity at h
 split at h
 ·rename_i e
  refine⟨e,fun v hv hk=>?_⟩
  have : ∀ l:List Sm,((qt 6 (Lf p l)).1==0)=true→∀ v∈l,(v.kind==4)=true→v.qE p=true:=by
   intro l
   induction l with
   |nil=>intro _ v m;cases m
   | cons a l ih=>
    intro h v m hk
    simp only[Lf]at h
    split at h
    ·cases h
    ·rename_i c
     rcases List.mem_cons.1 m with rfl|m
     ·simpa[hk]using c
     ·exact ih h v m hk
  exact this _ h v hv hk
 ·cases h
theorem H6 {p:Pg} {v:Sm} (h:v.qE p=true) : ∃ f,p.find v.proc=some f:=by
 unfold Sm.qE at h
 cases e:p.find v.proc with
 |some f=>exact⟨f,rfl⟩
 |none=>rw[e]at h;simp at h
theorem Lv : ∀ {l:List It} {n:Nat} {i:It},It.fq n l=true→i∈l→i.s.one=true
 | j::l,n,i,h,m=>by
  simp only[It.fq]at h
  split at h
  ·cases h
  ·rename_i c
   simp only[Bool.or_eq_true,not_or,Bool.not_eq_true',Bool.not_eq_false]at c
   rcases List.mem_cons.1 m with rfl|m
   ·exact c.2
   ·exact Lv h m
theorem abp {p:Pg} (h:p.may=true) : ∀ v∈p.pre,v.one=true:=fun v m=>by
 rw[← (Lb h).2,List.mem_map]at m
 obtain⟨i,hi,rfl⟩:=m
 exact Lv (GZ h).2 hi
def Sm.yV (p:Pg) (v:Sm):Bool:=pQ v.name (p.qv v.proc) [] v.args
def Lw (p:Pg):List Sm→Option Sm
 | []=>none
 |v::l=>if v.kind==4 && !(v.yV p)then some v else Lw p l
def Pg.alias (p:Pg):Int×Int:=if p.arity.1==0 then qt 8 (Lw p p.pre)else(1,0)
theorem Lx {p:Pg} (h:p.jc) (nm:aF):(p.qv nm).length<4611686018427387904:=by
 unfold Pg.qv
 cases hs:p.zS nm with
 |none=>dsimp only;decide
 |some f=>
  obtain⟨nP,hf⟩:=H0 hs
  have h1:=(Ln nP hf).len
  have h2:=h.procs
  have h3:=(zV h (kD (p.work nm)) []).2
  have h4:(kD (p.work nm)).length*1800000≤900000*1800000:=Nat.mul_le_mul_right _ (by omega)
  have h5:(kD (p.sH nm)).length≤(p.sH nm).length:=xb _ _ (u6 (ml _).1) fun x m=>((ml _).2 x).1 m
  dsimp only
  unfold Pg.sH at *
  simp only[List.length_nil]at h3
  omega
theorem Q9 {v:Sm} (hv:v.nE):v.args.length<1000000000:=by have:=Ar.eo v.args;have:=hv.2.2;omega
theorem Uh {p:Pg} (h:p.jc) (s:St):az Tryz.prog ud [.agg (cO p)] s (.agg [.int .i64 p.alias.1, .int .i64 p.alias.2]) s:=by
 refine az.pure ?_ (by simp[D.bI,D.ok,j8]) rfl s
 obtain⟨sf,r5,rZ⟩:=h.procs
 have pU:=fun s=>Lg h s
 have dv:=fun s=>Cz (p:=p) (by omega) s
 have hL:=(nO p).1
 have HQ:=pB p
 generalize hR:p.alias=R
 simp only[Pg.alias]at hR
 unfold S0
 have b0:(p.arity.1 != 0) = !(p.arity.1==0):=rfl
 rcases Bool.eq_false_or_eq_true (p.arity.1==0)with b1|b1
 case inr=>
  rw[b1]at b0
  simp only[b1,Bool.false_eq_true,if_false]at hR
  subst hR
  refine az.go wS rfl fun B Q hB hQ=>?_
  have⟨hC,hE,hM,hY⟩:=bE
  repeat' (first
 |simp only[go_sem,hC,hE,hM,hY,b0,Bool.not_false]
 |(with_reducible refine CU (pU _) ?_)
 |(with_reducible refine aB hQ ?_;exact bj))
 rw[b1]at b0
 obtain⟨nP,jx⟩:=Lu b1
 have htw:=(D6 nP).2.1
 simp only[b1,if_true, ← hL]at hR
 refine az.go wS rfl fun B Q hB hQ=>?_
 have⟨hC,hE,hM,hY⟩:=bE
 repeat' (first
 |simp only[go_sem,hC,hE,hM,hY,b0,Bool.not_true]
 |(with_reducible refine CU (pU _) ?_)
 |(with_reducible refine aB hQ ?_;exact bj))
 refine eV 3 0 ?_ ?_ (bg.ind (ι:=List Pc×Nat×List Pc) (fun i=>p.procs.drop i.2.1=i.1∧p.procs=i.2.2++i.1) (fun i=>i.1.length)
  (fun i=> [(1, .ptr 0 0),(2, .ptr 1 0),(3, .fW 2),(15, .slice .shared 5 (p.procs.map cJ)),(16, .int .i64 (p.procs.length:Int)),(17, .int .i64 (i.2.1:Int))]) (fun i=>⟨[cO p,[.int .i64 0, .int .i64 0],nH p i.2.2],[]⟩) ?_ (p.procs,0,[]) ⟨rfl,rfl⟩)
 ·(simp only[go_sem,hC,hE,hM,hY,nH];try exact cu)
 ·(simp only[go_sem,hC,hE,hM,hY,nH];try exact cu)
 rintro⟨rest,k,done⟩ ⟨h1,h2⟩ IH
 dsimp only at h1 h2
 cases rest with
 | cons a rest=>
  obtain⟨hE,g2,hC,g4⟩:=drop_cons h1
  have cp:k<4611686018427387904:=by omega
  have ye:=fun s=>T6 h a.name s
  have hnm:a.name∉done.map (·.name):=by
   have:=abo _ [] htw (done.map (·.name)) a.name (rest.map (·.name)) (by simp[Pg.pn,h2])
   simpa using this
  have hmp:xj a.name (.slice .shared 1 ((p.qv a.name).map encStr)) (nH p done)=some (nH p (done++ [a])):=by
   rw[Ls hnm,Lr];rfl
  repeat' (first
 |simp only[go_sem,hC,hE,hM,hY,hmp]
 |(with_reducible refine CU (ye _) ?_)
 |(with_reducible refine aB hQ ?_;exact bj))
  refine eV 3 0 ?_ ?_ (IH (rest,k+1,done++ [a]) ⟨g2,by rw[h2];simp⟩ (Nat.lt_succ_self _))
  ·(simp only[go_sem,hC,hE,hM,hY,aL cp];try exact cu)
  ·(simp only[go_sem,hC,hE,hM,hY,aL cp];try exact cu)
 |nil=>
  have hC:=drop_nil h1
  rw[List.append_nil]at h2
  subst h2
  repeat' (first
 |simp only[go_sem,hC,hE,hM,hY,oc]
 |(with_reducible refine CU (dv _) ?_)
 | (with_reducible refine aB hQ ?_;exact bj))
  refine dS 3 0 (bg.ind (ι:=List Im×Nat) (fun i=>p.bh.L.drop i.2=i.1∧qt 8 (Lw p (i.1.map Im.s))=R) (fun i=>i.1.length)
   (fun i=> [(1, .ptr 0 0),(2, .ptr 1 0),(3, .fW 2),(33, .slice .shared 17 (p.bh.L.map dN)),(34, .int .i64 (p.bh.L.length:Int)),(35, .int .i64 (i.2:Int))]) (fun i=>⟨[cO p,[.int .i64 0, .int .i64 0],nH p p.procs],[]⟩) ?_ (p.bh.L,0) ⟨rfl,hR⟩)
  clear hR
  rintro⟨rest,k⟩ ⟨h1,hR⟩ IH
  dsimp only at h1 hR
  cases rest with
  |nil=>
   have hC:=drop_nil h1
   simp only[List.map_nil,Lw,qt]at hR
   subst hR
   repeat' (first
 |simp only[go_sem,hC,hE,hM,hY]
 | (with_reducible refine aB hQ ?_;exact bj))
  | cons a rest=>
   obtain⟨hE,g2,hC,g4⟩:=drop_cons h1
   have cp:k<4611686018427387904:=by omega
   have Fz:a.s∈p.pre:=by rw[← hL];exact List.mem_map_of_mem (List.mem_of_getElem? hE)
   have Ai:=fun s=>Xr (Q9 (h.pre _ Fz)) (Lx h a.s.proc) s
   simp only[List.map_cons,Lw,Sm.yV]at hR
   rcases Bool.eq_false_or_eq_true (a.s.kind==4)with c1|c1
   ·obtain⟨f,hf⟩:=H6 (jx _ Fz c1)
    have hmg:=fun z=>Lt (p:=p) (z:=z) hf
    rcases Bool.eq_false_or_eq_true (pQ a.s.name (p.qv a.s.proc) [] a.s.args)with c2|c2
    ·simp only [c1,c2,Bool.not_true,Bool.and_false,Bool.false_eq_true,if_false]at hR
     repeat' (first
 |simp only[go_sem,hC,hE,hM,hY,c1,c2,hmg]
 |(with_reducible refine CU (Ai _) ?_)
 | (with_reducible refine aB hQ ?_;exact bj))
     refine eV 3 0 ?_ ?_ (IH (rest,k+1) ⟨g2,hR⟩ (Nat.lt_succ_self _))
     ·(simp only[go_sem,hC,hE,hM,hY,aL cp];try exact cu)
     ·(simp only[go_sem,hC,hE,hM,hY,aL cp];try exact cu)
    ·simp only [c1,c2,Bool.not_false,Bool.and_true,if_true,qt]at hR
     subst hR
     repeat' (first
 |simp only[go_sem,hC,hE,hM,hY,c1,c2,hmg]
 |(with_reducible refine CU (Ai _) ?_)
 | (with_reducible refine aB hQ ?_;exact bj))
   ·simp only [c1,Bool.false_and,Bool.false_eq_true,if_false]at hR
    repeat' (first
 |simp only[go_sem,hC,hE,hM,hY,c1]
 |(with_reducible refine CU (Ai _) ?_)
 | (with_reducible refine aB hQ ?_;exact bj))
    refine eV 3 0 ?_ ?_ (IH (rest,k+1) ⟨g2,hR⟩ (Nat.lt_succ_self _))
    ·(simp only[go_sem,hC,hE,hM,hY,aL cp];try exact cu)
    ·(simp only[go_sem,hC,hE,hM,hY,aL cp];try exact cu)
def Sm.afc (p:Pg) (v:Sm):Bool:=v.qE p && apM (p.qv v.proc) v.asX v.args
def apF (p:Pg):List Sm→Option Sm
 | []=>none
 |v::l=>if v.kind==4 && !(v.afc p)then some v else apF p l
theorem abq {n:Nat} {l:List aF} {gI:Int} {r:Rd} {p:List aF×Rd} (h:Rd.names n l gI r=some p) :
 az Tryz.prog jG [.ptr 0 0, .slice (.tok 0) 1 (l.map encStr), .int .i64 gI] ⟨[cL r],[some l.length]⟩ (.slice (.tok 0) 1 (p.1.map encStr)) ⟨[cL p.2],[some p.1.length]⟩:=by
 refine az.go xH rfl fun B Q hB hQ=>?_
 have⟨hC,hE,hM,hY⟩:=bE
 repeat' (first
 |simp only[go_sem,hC,hE,hM,hY]
 |(with_reducible first|refine aX fun hc=>?_|refine aY fun hc=>?_|refine aZ (fun hc=>?_) fun hc=>?_)<;>(try simp only[hc,bs,↓reduceIte]at h)<;>try simp only[hc]
 |(with_reducible refine aB hQ ?_;exact bj))
 refine dS 1 1 (bg.ind (ι:=Nat×List aF×Rd×Nat) (fun i=>Rd.names i.1 i.2.1 gI i.2.2.1=some p∧i.2.2.2=i.2.1.length) (fun i=>i.1)
  (fun i=> [(0, .ptr 0 0),(1, .slice (.tok 0) 1 (i.2.1.map encStr)),(2, .int .i64 gI)]) (fun i=>⟨[cL i.2.2.1],[some i.2.2.2]⟩) ?_ (n,l,r,l.length) ⟨h,rfl⟩)
 rintro⟨n,l,r,k⟩ ⟨h,hk⟩ IH
 dsimp only at hk;subst hk
 cases n with
 |zero=>simp only[Rd.names]at h;cases h
 |succ n=>
  simp only[Rd.names]at h
  repeat' (first
 |simp only[go_sem,hC,hE,hM,hY]
 |(rw[Option.bind_eq_some_iff]at h;obtain⟨_,h1,h⟩:=h;first|(with_reducible refine CU (yM h1 (by with_unfolding_all rfl)) ?_)|(obtain⟨hM,pR⟩:=pg h1;subst pR;simp only[go_sem,hC,hE,hM,hY])|(with_reducible refine CU (tH h1 (by with_unfolding_all rfl)) ?_)|(with_reducible refine CU (qp h1 (by with_unfolding_all rfl)) ?_))
 |(with_reducible refine CU (kY (by with_unfolding_all rfl)) ?_)
 |(with_reducible first|refine aX fun hc=>?_|refine aY fun hc=>?_|refine aZ (fun hc=>?_) fun hc=>?_)<;>(try simp only[hc,bs,↓reduceIte]at h)<;>try simp only[hc]
 |(with_reducible refine aB hQ ?_;exact eA))
  refine dS 1 1 (IH (n,_,_,l.length+1) ⟨h,by simp⟩ (Nat.lt_succ_self _))
theorem NF {n:Nat} {l:List aF} {gI:Int} {r:Rd} {p:List aF×Rd} (h:Rd.names n l gI r=some p) {s:St} {o t:Nat} (ho:s.ah[o]? = some (cL r)) (ht:s.aw[t]? = some (some l.length)) :
 az Tryz.prog jG [.ptr o 0, .slice (.tok t) 1 (l.map encStr), .int .i64 gI] s (.slice (.tok t) 1 (p.1.map encStr)) ⟨s.ah.set o (cL p.2),s.aw.set t (some p.1.length)⟩:=
 (abq h).ag1 rfl (fM r) (fM p.2) (eF l) (eF p.1) ho ht
theorem Ly {n:Nat} {r:Rd} {p:List aF×Rd} (h:Rd.labels n [] r=some p) {s:St} {o:Nat} (ho:s.ah[o]? = some (cL r)) :
 az Tryz.prog nu [.ptr o 0] s (.slice .shared 1 (p.1.map encStr)) ⟨s.ah.set o (cL p.2),s.aw⟩:=by
 refine az.kR ?_ rfl (fM r) (fM p.2) (by simp[D.ok,eF,Tag.ok]) ho
 refine az.go wv rfl fun B Q hB hQ=>?_
 have⟨hC,hE,hM,hY⟩:=bE
 repeat' (first
 |simp only[go_sem,hC,hE,hM,hY]
 |(with_reducible first|refine aX fun hc=>?_|refine aY fun hc=>?_|refine aZ (fun hc=>?_) fun hc=>?_)<;>(try simp only[hc,bs,↓reduceIte]at h)<;>try simp only[hc]
 |(with_reducible refine aB hQ ?_;exact bj))
 refine bg.p8 3 1 rfl ?_
 simp only[go_sem,hC,hE,hM,hY]
 refine dS 1 1 (bg.ind (ι:=Nat×List aF×Rd×Nat) (fun i=>Rd.labels i.1 i.2.1 i.2.2.1=some p∧i.2.2.2=i.2.1.length) (fun i=>i.1)
  (fun i=> [(0, .ptr 0 0),(3, .slice (.tok 0) 1 (i.2.1.map encStr))]) (fun i=>⟨[cL i.2.2.1],[some i.2.2.2]⟩) ?_ (n,[],r,0) ⟨h,rfl⟩)
 rintro⟨n,l,r,k⟩ ⟨h,hk⟩ IH
 dsimp only at hk;subst hk
 cases n with
 |zero=>simp only[Rd.labels]at h;cases h
 |succ n=>
  simp only[Rd.labels,Rd.ahead]at h
  repeat' (first
 |simp only[go_sem,hC,hE,hM,hY]
 |(rw[Option.bind_eq_some_iff]at h;obtain⟨_,h1,h⟩:=h;first|(with_reducible refine CU (pz h1 (by with_unfolding_all rfl)) ?_;have hC:=sD h1)|(obtain⟨hM,pR⟩:=pg h1;subst pR;simp only[go_sem,hC,hE,hM,hY])|(obtain⟨Q8,hE⟩:=Bu h1;simp only[go_sem,hE,hC,hE,hM,hY]))
 |(with_reducible refine CU (kY (by with_unfolding_all rfl)) ?_)
 |(with_reducible first|refine aX fun hc=>?_|refine aY fun hc=>?_|refine aZ (fun hc=>?_) fun hc=>?_)<;>(try simp only[hc,bs,↓reduceIte]at h)<;>try simp only[hc]
 |(with_reducible refine aB hQ ?_;exact eA))
  refine dS 1 1 (IH (n,_,_,l.length+1) ⟨h,by simp⟩ (Nat.lt_succ_self _))
end Go.Abs
