/-
  What is proved here: part 3 of the road to the claim (TMay1, TMay2, RefMay3, RefMay4, TMay3, TMay4, MayFine, MayEq, Nm1, Nm2, Nm3, MayEq2, Tree1, Tree2, Sc1, Sc2, Sc3, ScP, Sc4, Rng, FineM, Sc5, Ar1, Ar2, Ar3, Srt1, Shelf, SortR, SrtP, Tc1, Tc2, Tc3, Bsl, Tc4, Tc5, Tc6, FlP, JmpP, Jm1, Jm2, Jm3, Rj1, Swap0, Swap2p, ToP, Al1, Al2, Al3, Prs3).
  No conditions.
-/
import Derived.Test.YtpjadlleefgcpabGreatRnN2
import Derived.Shelf.Small.Bits
import Derived.Shelf.Strconv.Itoa0
import Derived.Shelf.Sort.Plain
import Derived.Shelf.Slices.Turned
import Derived.Ground.Names2Prog
import Derived.Shelf.Slices.Clone
import Derived.Shelf.Slices.CompactS
import Derived.Shelf.Slices.Cells
import Derived.Shelf.Slices.In.SortNone
import Derived.Ground.SlgnProg
import Derived.Shelf.SlicesE.Clone
import Derived.Test.YtpjadlleefgcpabGreatProg
import Derived.Sort.Walk0

set_option linter.unusedSimpArgs false
set_option linter.unusedVariables false
namespace Go.Abs
set_option maxRecDepth 8000
open Go.Proofs
theorem Hv {r:aF} : uZ r=true↔lQ r=r.length:=by
 induction r with
 |nil=>simp[uZ,lQ]
 |cons c r ih=>
  simp only[uZ,lQ]
  cases h1:rW c<;>cases h2:pS c<;>simp[ih]
theorem BO (t:aF) (hl:t.length<4611686018427387904) (s:St):az Tryz.prog nS [.str t] s (.bool (isName t)) s:=by
 refine az.pure ?_ rfl rfl s
 have hr:=fun s=>Zf (pos:=0) hl s
 simp only[List.drop_zero,Nat.zero_add]at hr
 unfold S0
 cases t with
 |nil=>
  have z:decide (((0:Nat):Int)<1)=true:=rfl
  have z':decide ((0:Int)<1)=true:=rfl
  have e:isName [] = false:=rfl
  rw[e]
  refine az.go np rfl fun B Q hB hQ=>?_
  have⟨hC,hE,hM,hY⟩:=bC
  repeat' (first
 |simp only[go_sem,hC,hE,hM,hY,z,z']
 |(with_reducible refine aB hQ ?_;exact bg))
 | cons c r=>
  have l1:decide (((r.length+1:Nat):Int)<1)=false:=by simp;omega
  generalize h:isName (c::r)=p
  simp only[isName]at h
  cases hL:rW c
  ·simp only [hL,Bool.not_false,Bool.or_true, ↓reduceIte]at h
   subst h
   by_cases c8:decide (((r.length+1:Nat):Int) > 8)=true
   ·refine az.go np rfl fun B Q hB hQ=> ?_
    have⟨hC,hE,hM,hY⟩:=bC
    repeat' (first
 |simp only[go_sem,hC,hE,hM,hY,l1,c8]
 | (with_reducible refine aB hQ ?_;exact bg))
   ·have c8:decide (((r.length+1:Nat):Int) > 8)=false:=by simpa using c8
    refine az.go np rfl fun B Q hB hQ=>?_
    have⟨hC,hE,hM,hY⟩:=bC
    repeat' (first
 |simp only[go_sem,hC,hE,hM,hY,l1,c8,hL]
 |(with_reducible refine CU (iG _ _) ?_)
 | (with_reducible refine aB hQ ?_;exact bg))
  ·simp only [hL,Bool.not_true,Bool.or_false]at h
   by_cases c8:decide (((r.length+1:Nat):Int) > 8)=true
   ·simp only [c8, ↓reduceIte]at h
    subst h
    refine az.go np rfl fun B Q hB hQ=>?_
    have⟨hC,hE,hM,hY⟩:=bC
    repeat' (first
 |simp only[go_sem,hC,hE,hM,hY,l1,c8]
 | (with_reducible refine aB hQ ?_;exact bg))
   ·have c8:decide (((r.length+1:Nat):Int) > 8)=false:=by simpa using c8
    simp only[c8,Bool.false_eq_true,↓reduceIte]at h
    have dG:lQ (c::r)=lQ r+1:=by simp[lQ,hL]
    cases hn:uZ r
    ·simp only [hn,Bool.false_eq_true, ↓reduceIte]at h
     have:lQ r≠r.length:=fun e=>by rw[Hv.2 e]at hn;cases hn
     have e:(((lQ (c::r):Nat):Int)==((r.length+1:Nat):Int))=false:=by rw[dG];simp;omega
     subst h
     refine az.go np rfl fun B Q hB hQ=>?_
     have⟨hC,hE,hM,hY⟩:=bC
     repeat' (first
 |simp only[go_sem,hC,hE,hM,hY,l1,c8,hL,e]
 |(with_reducible refine CU (iG _ _) ?_)
 |(with_reducible refine CU (hr _) ?_)
 | (with_reducible refine aB hQ ?_;exact bg))
    ·simp only [hn, ↓reduceIte]at h
     have:=Hv.1 hn
     have e:(((lQ (c::r):Nat):Int)==((r.length+1:Nat):Int))=true:=by rw[dG];simp;omega
     subst h
     refine az.go np rfl fun B Q hB hQ=>?_
     have⟨hC,hE,hM,hY⟩:=bC
     repeat' (first
 |simp only[go_sem,hC,hE,hM,hY,l1,c8,hL,e]
 |(with_reducible refine CU (iG _ _) ?_)
 |(with_reducible refine CU (hr _) ?_)
 |(with_reducible refine CU (vR _ _) ?_)
 |(with_reducible refine aB hQ ?_;exact bg))
theorem Nk (op:Int) (s:St):az Tryz.prog xy [.int .i64 op] s (.int .i64 (lG op)) s:=by
 refine az.pure ?_ rfl rfl s
 unfold S0
 generalize h:lG op=p
 unfold lG at h
 refine az.go Il rfl fun B Q hB hQ=>?_
 have⟨hC,hE,hM,hY⟩:=bC
 repeat' (first
 |simp only[go_sem,hC,hE,hM,hY]
 |(with_reducible first|refine aX fun hc=>?_|refine aY fun hc=>?_|refine aZ (fun hc=>?_) fun hc=>?_)<;>(try simp only[hc,bs,↓reduceIte]at h)<;>try simp only[hc]
 |(with_reducible refine aB hQ ?_;exact ep))
theorem zO {l:List aF} (hl:l.length<4611686018427387904) (hs : ∀ t∈l,t.length<4611686018427387904) (s:St):az Tryz.prog nc [.slice .shared 1 (l.map encStr)] s (.bool (eo l)) s:=by
 refine az.pure ?_ (by simp[D.bH,D.ok,eB,Tag.ok]) rfl s
 unfold S0
 generalize h:eo l=p
 refine az.go Gj rfl fun B Q hB hQ=>?_
 have⟨hC,hE,hM,hY⟩:=bC
 repeat' (first
 |simp only[go_sem,hC,hE,hM,hY]
 |(with_reducible first|refine aX fun hc=>?_|refine aY fun hc=>?_|refine aZ (fun hc=>?_) fun hc=>?_)<;>(try simp only[hc,bs,↓reduceIte]at h)<;>try simp only[hc]
 |(with_reducible refine aB hQ ?_;exact ep))
 refine dQ 0 0 (bd.ind (ι:=List aF×Nat) (fun i=>l.drop i.2=i.1∧eo i.1=p) (fun i=>i.1.length)
  (fun i=> [(5, .slice .shared 1 (l.map encStr)),(6, .int .i64 (l.length:Int)),(7, .int .i64 (i.2:Int))]) (fun i=>⟨[],[]⟩) ?_ (l,0) ⟨rfl,h⟩)
 rintro⟨rest,k⟩ ⟨h1,h⟩ IH
 dsimp only at h1 h
 cases rest with
 |nil=>
  have hC:=drop_nil h1
  simp only[eo]at h
  repeat' (first
 |simp only[go_sem,hC,hE,hM,hY]
 |(with_reducible first|refine aX fun hc=>?_|refine aY fun hc=>?_|refine aZ (fun hc=>?_) fun hc=>?_)<;>(try simp only[hc,bs,↓reduceIte]at h)<;>try simp only[hc]
 |(with_reducible refine aB hQ ?_;exact ep))
 |cons t rest=>
  obtain⟨hE,g2,hC,g4⟩:=drop_cons h1
  have hM:k<4611686018427387904:=by omega
  have hn:=BO t (hs t (List.mem_of_getElem? hE))
  simp only[eo]at h
  repeat' (first
 |simp only[go_sem,hC,hE,hM,hY]
 |(with_reducible refine CU (hn _) ?_)
 |(with_reducible first|refine aX fun hc=>?_|refine aY fun hc=>?_|refine aZ (fun hc=>?_) fun hc=>?_)<;>(try simp only[hc,bs,↓reduceIte]at h)<;>try simp only[hc]
 |(with_reducible refine aB hQ ?_;exact ep))
  refine dQ 0 0 (IH (rest,k+1) ⟨g2,h⟩ (Nat.lt_succ_self _))
mutual
def Ex.dp (left:Int):Ex→Bool
 |⟨op,n,name,kids⟩=>
  if decide (left<1) ||(kids.length:Int) != lG op then false
  else if op==1 then decide (n≥0) && name == []
  else if op==2 then n==0 && isName name
  else if n != 0 || !(name == [])then false
  else Ex.BP (left - 1) kids
def Ex.BP (left:Int):List Ex→Bool
 | []=>true
 |x::l=>if !(Ex.dp left x)then false else Ex.BP left l
end
theorem aaR : ∀ (m:Nat) (x:Ex),x.size≤m→x.size<4611686018427387904→x.texts→∀ left:Int,0≤left→left≤100→∀ s:St,az Tryz.prog qh [.agg (bI x), .int .i64 left] s (.bool (x.dp left)) s:=by
 intro m
 induction m with
 |zero=>rintro⟨op,v,name,kids⟩ h;simp only[Ex.size]at h;omega
 | succ m ih=>
  rintro⟨op,v,name,kids⟩ h hx ht left h0 WM s
  refine az.pure ?_ (by simp[D.bH,D.ok,gT]) rfl s
  have hlen:kids.length<4611686018427387904:=by simp only[Ex.size]at hx;have:=Ex.ei kids;omega
  have hn:=BO name ht.1
  generalize hp:Ex.dp left ⟨op,v,name,kids⟩=p
  simp only[Ex.dp]at hp
  unfold S0
  by_cases vT:left<1
  ·have d1:decide (left<1)=true:=by simpa using vT
   simp only[d1,Bool.true_or,↓reduceIte]at hp
   subst hp
   refine az.go Ax rfl fun B Q hB hQ=>?_
   have⟨hC,hE,hM,hY⟩:=bC
   repeat' (first
 |simp only[go_sem,hC,hE,hM,hY,d1]
 |(with_reducible refine CU (Nk _ _) ?_)
 |(with_reducible refine CU (hn _) ?_)
 | (with_reducible refine aB hQ ?_;exact bg))
  ·have d1:decide (left<1)=false:=by simpa using vT
   have w1:IntKind.wrap .i64 (left - 1)=left - 1:=dN (by omega) (by omega)
   have hk : ∀ y∈kids,∀ s,az Tryz.prog qh [.agg (bI y), .int .i64 (left - 1)] s (.bool (y.dp (left - 1))) s:=fun y hy s=>
    ih y (by simp only[Ex.size]at h;have:=Ex.dd hy;omega) (by simp only[Ex.size]at hx;have:=Ex.dd hy;omega) (Ex.Hs ht hy) (left - 1) (by omega) (by omega) s
   simp only[d1,Bool.false_or]at hp
   have h:=hp
   clear hp
   refine az.go Ax rfl fun B Q hB hQ=>?_
   have⟨hC,hE,hM,hY⟩:=bC
   repeat' (first
 |simp only[go_sem,hC,hE,hM,hY,d1]
 |(with_reducible refine CU (Nk _ _) ?_)
 |(with_reducible refine CU (hn _) ?_)
 |(with_reducible first|refine aX fun hc=>?_|refine aY fun hc=>?_|refine aZ (fun hc=>?_) fun hc=>?_)<;>(try simp only[hc,bs,↓reduceIte]at h)<;>try simp only[hc]
 | (with_reducible refine aB hQ ?_;(try cases h);simp only [aQ,aR,bn,bo,go_sem,hC,hE,hM,hY,d1];repeat' (first | exact Ok.out | with_reducible refine eL ?_ ?_ | (simp;done))))
   all_goals
    refine dQ 1 0 (bd.ind (ι:=List Ex×Nat) (fun i=>kids.drop i.2=i.1∧Ex.BP (left - 1) i.1=p) (fun i=>i.1.length)
     (fun i=> [(1, .int .i64 left),(49, .slice .shared 4 (kids.map bI)),(50, .int .i64 (kids.length:Int)),(51, .int .i64 (i.2:Int))]) (fun i=>⟨[bI ⟨op,v,name,kids⟩],[]⟩) ?_ (kids,0) ⟨rfl,h⟩)
    rintro⟨rest,k⟩ ⟨h1,h⟩ IH
    dsimp only at h1 h
    cases rest with
    |nil=>
     have hC:=drop_nil h1
     simp only[Ex.BP]at h
     repeat' (first
 |simp only[go_sem,hC,hE,hM,hY]
 |(with_reducible first|refine aX fun hc=>?_|refine aY fun hc=>?_|refine aZ (fun hc=>?_) fun hc=>?_)<;>(try simp only[hc,bs,↓reduceIte]at h)<;>try simp only[hc]
 |(with_reducible refine aB hQ ?_;exact ep)
 | (cases h;done))
    |cons y rest=>
     obtain⟨hE,g2,hC,g4⟩:=drop_cons h1
     have hy:=hk y (List.mem_of_getElem? hE)
     have hM:k<4611686018427387904:=by omega
     simp only[Ex.BP]at h
     repeat' (first
 |simp only[go_sem,hC,hE,hM,hY,w1]
 |(with_reducible refine CU (hy _) ?_)
 |(with_reducible first|refine aX fun hc=>?_|refine aY fun hc=>?_|refine aZ (fun hc=>?_) fun hc=>?_)<;>(try simp only[hc,bs,↓reduceIte]at h)<;>try simp only[hc]
 |(with_reducible refine aB hQ ?_;(try cases h);simp only[aQ,aR,bn,bo,go_sem,hC,hE,hM,hY,w1];try exact bR))
     refine dQ 1 0 (IH (rest,k+1) ⟨g2,h⟩ (Nat.lt_succ_self _))
set_option maxRecDepth 8000
open Go.Proofs
theorem zP {x:Ex} (hx:x.size<4611686018427387904) (ht:x.texts) (s:St):az Tryz.prog na [.agg (bI x)] s (.bool (x.dp 20)) s:=by
 refine az.pure ?_ (by simp[D.bH,D.ok,gT]) rfl s
 have hd:=fun s=>aaR _ x (Nat.le_refl _) hx ht 20 (by omega) (by omega) s
 unfold S0
 refine az.go D2 rfl fun B Q hB hQ=>?_
 have⟨hC,hE,hM,hY⟩:=bC
 repeat' (first
 |simp only[go_sem,hC,hE,hM,hY]
 |(with_reducible refine CU (hd _) ?_)
 |(with_reducible refine aB hQ ?_;exact bg))
theorem aaS (x:Ex) (s:St):az Tryz.prog xB [.agg (bI x)] s (.bool x.none) s:=by
 refine az.pure ?_ (by simp[D.bH,D.ok,gT]) rfl s
 unfold S0
 generalize h:Ex.none x=p
 unfold Ex.none at h
 refine az.go Ir rfl fun B Q hB hQ=>?_
 have⟨hC,hE,hM,hY⟩:=bC
 repeat' (first
 |simp only[go_sem,hC,hE,hM,hY]
 |(with_reducible first|refine aX fun hc=>?_|refine aY fun hc=>?_|refine aZ (fun hc=>?_) fun hc=>?_)<;>(try simp only[hc,bs,↓reduceIte]at h)<;>try simp only[hc]
 |(with_reducible refine aB hQ ?_;exact ep))
def tN (t:aF) (is:Bool):Bool:=(is && isName t) ||(!is && t == [])
theorem D6 (t:aF) (is:Bool) (hl:t.length<4611686018427387904) (s:St):az Tryz.prog pg [.str t, .bool is] s (.bool (tN t is)) s:=by
 refine az.pure ?_ rfl rfl s
 have hn:=BO t hl
 unfold S0
 generalize h:tN t is=p
 unfold tN at h
 refine az.go Gq rfl fun B Q hB hQ=>?_
 have⟨hC,hE,hM,hY⟩:=bC
 repeat' (first
 |simp only[go_sem,hC,hE,hM,hY]
 |(with_reducible refine CU (hn _) ?_)
 |(with_reducible first|refine aX fun hc=>?_|refine aY fun hc=>?_|refine aZ (fun hc=>?_) fun hc=>?_)<;>(try simp only[hc,bs,↓reduceIte]at h)<;>try simp only[hc]
 |(with_reducible refine aB hQ ?_;exact ep))
def vU (x:Ex) (is:Bool):Bool:=(is && x.dp 20) ||(!is && x.none)
theorem Nl {x:Ex} (is:Bool) (hx:x.size<4611686018427387904) (ht:x.texts) (s:St):az Tryz.prog rO [.agg (bI x), .bool is] s (.bool (vU x is)) s:=by
 refine az.pure ?_ (by simp[D.bH,D.ok,gT]) rfl s
 have hm:=zP hx ht
 unfold S0
 generalize h:vU x is=p
 unfold vU at h
 refine az.go Gr rfl fun B Q hB hQ=>?_
 have⟨hC,hE,hM,hY⟩:=bC
 repeat' (first
 |simp only[go_sem,hC,hE,hM,hY]
 |(with_reducible refine CU (hm _) ?_)
 |(with_reducible refine CU (aaS _ _) ?_)
 |(with_reducible first|refine aX fun hc=>?_|refine aY fun hc=>?_|refine aZ (fun hc=>?_) fun hc=>?_)<;>(try simp only[hc,bs,↓reduceIte]at h)<;>try simp only[hc]
 |(with_reducible refine aB hQ ?_;exact ep))
def pJ:List Ar→Bool
 | []=>true
 |a::l=>if !(tN a.name a.ref) || !(vU a.x !a.ref)then false else pJ l
theorem WN {l:List Ar} (hl:l.length<4611686018427387904) (hs : ∀ a∈l,a.x.size<4611686018427387904∧a.x.texts∧a.name.length<4611686018427387904) (s:St) :
 az Tryz.prog um [.slice .shared 6 (l.map eC)] s (.bool (pJ l)) s:=by
 refine az.pure ?_ (by simp[D.bH,D.ok,II,Tag.ok]) rfl s
 unfold S0
 generalize h:pJ l=p
 refine az.go E0 rfl fun B Q hB hQ=>?_
 have⟨hC,hE,hM,hY⟩:=bC
 repeat' (first
 |simp only[go_sem,hC,hE,hM,hY]
 |(with_reducible first|refine aX fun hc=>?_|refine aY fun hc=>?_|refine aZ (fun hc=>?_) fun hc=>?_)<;>(try simp only[hc,bs,↓reduceIte]at h)<;>try simp only[hc]
 |(with_reducible refine aB hQ ?_;exact ep))
 refine dQ 0 0 (bd.ind (ι:=List Ar×Nat) (fun i=>l.drop i.2=i.1∧pJ i.1=p) (fun i=>i.1.length)
  (fun i=> [(5, .slice .shared 6 (l.map eC)),(6, .int .i64 (l.length:Int)),(7, .int .i64 (i.2:Int))]) (fun i=>⟨[],[]⟩) ?_ (l,0) ⟨rfl,h⟩)
 rintro⟨rest,k⟩ ⟨h1,h⟩ IH
 dsimp only at h1 h
 cases rest with
 |nil=>
  have hC:=drop_nil h1
  simp only[pJ]at h
  repeat' (first
 |simp only[go_sem,hC,hE,hM,hY]
 |(with_reducible first|refine aX fun hc=>?_|refine aY fun hc=>?_|refine aZ (fun hc=>?_) fun hc=>?_)<;>(try simp only[hc,bs,↓reduceIte]at h)<;>try simp only[hc]
 |(with_reducible refine aB hQ ?_;exact ep))
 |cons a rest=>
  obtain⟨hE,g2,hC,g4⟩:=drop_cons h1
  have hM:k<4611686018427387904:=by omega
  obtain⟨a1,a2,a3⟩:=hs a (List.mem_of_getElem? hE)
  have hn:=fun b s=>D6 a.name b a3 s
  have hw:=fun b s=>Nl b a1 a2 s
  simp only[pJ]at h
  repeat' (first
 |simp only[go_sem,hC,hE,hM,hY]
 |(with_reducible refine CU (hn _ _) ?_)
 |(with_reducible refine CU (hw _ _) ?_)
 |(with_reducible first|refine aX fun hc=>?_|refine aY fun hc=>?_|refine aZ (fun hc=>?_) fun hc=>?_)<;>(try simp only[hc,bs,↓reduceIte]at h)<;>try simp only[hc]
 |(with_reducible refine aB hQ ?_;exact ep))
  refine dQ 0 0 (IH (rest,k+1) ⟨g2,h⟩ (Nat.lt_succ_self _))
def Sm.flags (s:Sm):Option (Bool×Bool×Bool×Bool×Bool×Bool):=
 if s.kind==1 then some (true,false,true,s.has,false,false)
 else if s.kind==2 ||s.kind==10 then some (true,false,false,s.has,false,false)
 else if s.kind==3 then some (false,false,true,s.has,false,false)
 else if s.kind==4 then some (!(s.name == []),true,false,s.has,false,false)
 else if s.kind==5 then some (false,false,true,s.has,true,true)
 else if s.kind==6 then some (false,false,true,s.has,true,false)
 else if s.kind==9 then some (false,false,s.has,false,false,false)
 else if s.kind==7 ||s.kind==8 then some (false,false,false,s.has,false,false)
 else none
def Sm.Jm (s:Sm) (nm pr x:Bool):Bool:=if !(tN s.name nm) || !(tN s.proc pr) || !(vU s.x x)then false else pJ s.args
def Sm.Jn (s:Sm) (f:Bool×Bool×Bool×Bool×Bool×Bool):Bool:=
 if f.2.2.2.1 ||(!f.2.2.2.2.1 && decide ((s.bm.length:Int) > 0)) ||(!f.2.2.2.2.2 && decide ((s.bc.length:Int) > 0)) ||(!(s.kind==4) && decide ((s.args.length:Int) > 0))then false
 else s.Jm f.1 f.2.1 f.2.2.1
def Sm.fields (s:Sm):Bool:=match s.flags with
 |none=>false
 |some f=>s.Jn f
section
variable {v:Sm} {B:e7} {Q:Exit→Tm→St→Prop} {p:Bool}
theorem WO {nm pr x:Bool} (hf:v.nq) (hB:B.s = ⟨[],[]⟩) (hQ:iz 0 0 [(2,none)] (.bool p) ⟨[],[]⟩=Q) (h:v.Jm nm pr x=p) :
 Sem Tryz.prog B 93 adW Q [(1, .ptr 0 0),(3, .bool nm),(4, .bool pr),(5, .bool x)] ⟨[a8 v],[]⟩:=by
 have h1:=fun b s=>D6 v.name b hf.name s
 have h2:=fun b s=>D6 v.proc b hf.proc s
 have h3:=fun b s=>Nl b hf.x hf.xt s
 have h4:=fun s=>WN hf.aeo hf.arg s
 unfold Sm.Jm at h
 have⟨hC,hE,hM,hY⟩:=bC
 refine gE ?_
 repeat' (first
 |simp only[go_sem,hC,hE,hM,hY]
 |(with_reducible refine CU (h1 _ _) ?_)
 |(with_reducible refine CU (h2 _ _) ?_)
 |(with_reducible refine CU (h3 _ _) ?_)
 |(with_reducible refine CU (h4 _) ?_)
 |(with_reducible first|refine aX fun hc=>?_|refine aY fun hc=>?_|refine aZ (fun hc=>?_) fun hc=>?_)<;>(try simp only[hc,bs,↓reduceIte]at h)<;>try simp only[hc]
 |(with_reducible refine aB hQ ?_;exact ep))
theorem WQ {nm pr x has th ot ar:Bool} (hf:v.nq) (hB:B.s = ⟨[],[]⟩) (hQ:iz 0 0 [(2,none)] (.bool p) ⟨[],[]⟩=Q) (e:(v.kind==4)=ar) (h:v.Jn (nm,pr,x,has,th,ot)=p) :
 Sem Tryz.prog B 93 adX Q [(1, .ptr 0 0),(3, .bool nm),(4, .bool pr),(5, .bool x),(6, .bool has),(7, .bool th),(8, .bool ot),(9, .bool ar)] ⟨[a8 v],[]⟩:=by
 simp only[Sm.Jn,e]at h
 have⟨hC,hE,hM,hY⟩:=bC
 refine Sem.iN ?_
 repeat' (first
 |simp only[go_sem,hC,hE,hM,hY]
 |(with_reducible first|refine aX fun hc=>?_|refine aY fun hc=>?_|refine aZ (fun hc=>?_) fun hc=>?_)<;>(try simp only[hc,bs,↓reduceIte]at h)<;>try simp only[hc]
 |(with_reducible refine aB hQ ?_;(try cases h);simp only[aQ,aR,bn,bo,go_sem,hC,hE,hM,hY];repeat' (first|exact Ok.out|with_reducible refine eL ?_ ?_|(simp;done))))
 all_goals
  refine Sem.re _ _ 1 0 (by rw[hB];exact mH rfl) (by rw[hB];exact mH rfl) ?_ ?_ (WO hf hB hQ h)
  ·(simp only[go_sem,hC,hE,hM,hY];repeat' (first|exact Ok.out|with_reducible refine eL ?_ ?_))
  ·(simp only[go_sem,hC,hE,hM,hY];repeat' (first|exact Ok.out|with_reducible refine eL ?_ ?_))
theorem WR {ar:Bool} (hf:v.nq) (hB:B.s = ⟨[],[]⟩) (hQ:iz 0 0 [(2,none)] (.bool p) ⟨[],[]⟩=Q) (e:(v.kind==4)=ar) (h:v.fields=p) :
 Sem Tryz.prog B 93 Wv Q [(1, .ptr 0 0),(3, .bool false),(4, .bool false),(5, .bool false),(6, .bool v.has),(7, .bool false),(8, .bool false),(9, .bool ar)] ⟨[a8 v],[]⟩:=by
 simp only[Sm.fields,Sm.flags]at h
 have⟨hC,hE,hM,hY⟩:=bC
 refine Sem.iN ?_
 repeat' (first
 |simp only[go_sem,hC,hE,hM,hY]
 |(with_reducible first|refine aX fun hc=>?_|refine aY fun hc=>?_|refine aZ (fun hc=>?_) fun hc=>?_)<;>(try simp only[hc,bs,↓reduceIte]at h)<;>try simp only[hc]
 |(with_reducible refine aB hQ ?_;(try cases h);simp only[aQ,aR,bn,bo,go_sem,hC,hE,hM,hY];repeat' (first|exact Ok.out|with_reducible refine eL ?_ ?_|(simp;done))))
 all_goals
  refine Sem.re _ _ 1 0 (by rw[hB];exact mH rfl) (by rw[hB];exact mH rfl) ?_ ?_ (WQ hf hB hQ e h)
  ·(simp only[go_sem,hC,hE,hM,hY];repeat' (first|exact Ok.out|with_reducible refine eL ?_ ?_))
  ·(simp only[go_sem,hC,hE,hM,hY];repeat' (first|exact Ok.out|with_reducible refine eL ?_ ?_))
end
theorem WS {v:Sm} (hf:v.nq) (s:St):az Tryz.prog ui [.agg (a8 v)] s (.bool v.fields) s:=by
 refine az.pure ?_ (by simp[D.bH,D.ok,mY]) rfl s
 unfold S0
 refine az.goS EZ rfl fun B Q hB hQ=>?_
 have⟨hC,hE,hM,hY⟩:=bC
 refine Sem.seq (b:=adZ) (gE ?_)
 repeat' (first
 |simp only[go_sem,hC,hE,hM,hY]
 |(with_reducible refine aB hQ ?_;exact bg))
 refine Sem.seq (b:=adY) (gE ?_)
 repeat' (first
 |simp only[go_sem,hC,hE,hM,hY]
 |(with_reducible refine aB hQ ?_;exact bg))
 refine Sem.seq (b:=Wv) (gE ?_)
 repeat' (first
 |simp only[go_sem,hC,hE,hM,hY]
 |(with_reducible refine aB hQ ?_;exact bg))
 refine Sem.re _ _ 1 0 (by rw[hB];exact mH rfl) (by rw[hB];exact mH rfl) ?_ ?_ (WR hf hB hQ rfl rfl)
 ·(simp only[go_sem,hC,hE,hM,hY];repeat' (first|exact Ok.out|with_reducible refine eL ?_ ?_))
 ·(simp only[go_sem,hC,hE,hM,hY];repeat' (first|exact Ok.out|with_reducible refine eL ?_ ?_))
end Go.Abs
namespace Go.Abs
set_option maxRecDepth 8000
open Go.Proofs
def j8 (i:It):List D:= [.int .i64 i.s.id, .int .i64 i.s.kind, .slice .shared 1 (i.s.labels.map encStr), .str i.s.name, .str i.s.proc,
 .int .i64 i.s.x.op, .int .i64 i.s.x.n, .str i.s.x.name, .slice .shared 4 (i.s.x.kids.map bI), .bool i.s.has, .slice .shared 6 (i.s.args.map eC), .slice .shared 13 (i.s.bm.map a8), .slice .shared 13 (i.s.bc.map a8), .int .i64 i.deep, .int .i64 i.dD, .bool i.bc]
theorem aew (i:It):D.bH 0 0 (j8 i)=true:=by simp[j8,D.bH,D.ok,Tag.ok,eB,YE,II,oK]
theorem ahX (n m:Nat) (l:List It):D.kL n m (l.map j8)=l.map j8:=lR aew n m l
theorem ahY (n m:Nat) (i:It):D.gw n m (j8 i)=j8 i:=ij n m _ (aew i)
theorem ahZ (x:It):(j8 x).length=16:=nd rfl
theorem aex (x:It):List.take 13 (j8 x)=a8 x.s:=by simp only[j8,dR];rfl
theorem WT (x:It):(j8 x)[0]? = some (.int .i64 x.s.id):=nd rfl
theorem TE (x:It):(j8 x)[13]? = some (.int .i64 x.deep):=nd rfl
attribute [go_sem] ahX ahY ahZ aex WT TE
abbrev ay1 (N:Nat):Prop:=∀ (l:List Sm) (deep dD:Int) (bc:Bool) (out:List It),Sm.br l<N→0≤deep→deep≤13→out.length≤201→∀ {s:St} {t:Nat},s.aw[t]? = some (some out.length)→
 az Tryz.prog ME [.slice .shared 13 (l.map a8), .int .i64 deep, .int .i64 dD, .bool bc, .slice (.tok t) 16 (out.map j8)] s (.slice (.tok t) 16 ((fO deep dD bc out l).map j8)) ⟨s.ah,s.aw.set t (some (fO deep dD bc out l).length)⟩
end Go.Abs
namespace Go.Abs
set_option maxRecDepth 8000
open Go.Proofs
structure Pg.nq (p:Pg):Prop where
 sz:p.size<4611686018427387000
 ux : ∀ t∈p.globals,t.length<4611686018427387904
 pH : ∀ f∈p.procs,f.name.length<4611686018427387904∧(∀ t∈f.vars,t.length<4611686018427387904)∧(∀ t∈f.fin,t.length<4611686018427387904)∧∀ a∈f.params,a.name.length<4611686018427387904
 items : ∀ i∈p.all,i.s.nq
def gate (nest:Int) (len n:Nat) (r:Bool×Nat):Bool×Nat:=if decide (nest > 12) && decide ((len:Int) > 0)then(false,n)else r
mutual
def Sm.qa (nest:Int) (n:Nat):Sm→Bool×Nat
 |⟨id,kind,labels,name,proc,x,has,args,bm,bc⟩=>
  if decide (((n+1:Nat):Int) > 200) ||id != ((n+1:Nat):Int) || !(eo labels) || !(Sm.fields ⟨id,kind,labels,name,proc,x,has,args,bm,bc⟩)then(false,n+1)
  else if !(gate (nest+1) bm.length (n+1) (Sm.ff (nest+1) (n+1) bm)).1 then(false,(gate (nest+1) bm.length (n+1) (Sm.ff (nest+1) (n+1) bm)).2)
  else gate (nest+1) bc.length (gate (nest+1) bm.length (n+1) (Sm.ff (nest+1) (n+1) bm)).2 (Sm.ff (nest+1) (gate (nest+1) bm.length (n+1) (Sm.ff (nest+1) (n+1) bm)).2 bc)
def Sm.ff (nest:Int) (n:Nat):List Sm→Bool×Nat
 | []=>(true,n)
 |s::l=>if !(Sm.qa nest n s).1 then(false,(Sm.qa nest n s).2)else Sm.ff nest (Sm.qa nest n s).2 l
end
def Sm.gB (nest:Int) (n:Nat) (l:List Sm):Bool×Nat:=gate nest l.length n (Sm.ff nest n l)
theorem GC (nest:Int) (n:Nat) (s:Sm):Sm.qa nest n s =
 if decide (((n+1:Nat):Int) > 200) ||s.id != ((n+1:Nat):Int) || !(eo s.labels) || !(s.fields)then(false,n+1)
 else if !(Sm.gB (nest+1) (n+1) s.bm).1 then(false,(Sm.gB (nest+1) (n+1) s.bm).2)
 else Sm.gB (nest+1) (Sm.gB (nest+1) (n+1) s.bm).2 s.bc:=by
 cases s;simp only[Sm.qa,Sm.gB];rfl
mutual
def Sm.zQ:Sm→Prop
 |⟨id,kind,labels,name,proc,x,has,args,bm,bc⟩=>Sm.nq ⟨id,kind,labels,name,proc,x,has,args,bm,bc⟩∧Sm.nr bm∧Sm.nr bc
def Sm.nr:List Sm→Prop
 | []=>True
 |s::l=>s.zQ∧Sm.nr l
end
theorem K0 (s:Sm):s.zQ↔s.nq∧Sm.nr s.bm∧Sm.nr s.bc:=by cases s;simp only[Sm.zQ]
theorem Fe {s:Sm} : ∀ {l:List Sm},Sm.nr l→s∈l→s.zQ
 |y::l,h,m=>by
  simp only[Sm.nr]at h
  rcases List.mem_cons.1 m with rfl|m
  ·exact h.1
  ·exact Fe h.2 m
mutual
theorem aaT (nest:Int) (n:Nat) : ∀ s:Sm,n≤201→(Sm.qa nest n s).2≤202∧((Sm.qa nest n s).1=true→(Sm.qa nest n s).2≤200)
 | ⟨id,kind,labels,name,proc,x,has,args,bm,bc⟩,hn=>by
  simp only[Sm.qa]
  split
  ·exact⟨by dsimp only;omega,fun h=>by cases h⟩
  rename_i hc
  simp only[Bool.or_eq_true,decide_eq_true_eq,not_or]at hc
  have AG:n+1≤200:=by omega
  have g1 : ∀ (nest:Int) (l:List Sm) (m:Nat),m≤200→(Sm.ff nest m l).2≤202∧((Sm.ff nest m l).1=true→(Sm.ff nest m l).2≤200)→
   (gate nest l.length m (Sm.ff nest m l)).2≤202∧((gate nest l.length m (Sm.ff nest m l)).1=true→(gate nest l.length m (Sm.ff nest m l)).2≤200):=by
   intro nest l m hm h
   unfold gate
   split
   ·exact⟨by dsimp only;omega,fun h=>by cases h⟩
   ·exact h
  have h1:=g1 (nest+1) bm (n+1) AG (CA (nest+1) (n+1) bm AG)
  split
  ·exact⟨h1.1,fun h=>by cases h⟩
  rename_i JG
  have h2:=h1.2 (by simpa using JG)
  exact g1 (nest+1) bc _ h2 (CA (nest+1) _ bc h2)
theorem CA (nest:Int) (n:Nat) : ∀ l:List Sm,n≤200→(Sm.ff nest n l).2≤202∧((Sm.ff nest n l).1=true→(Sm.ff nest n l).2≤200)
 | [],hn=>by simp only[Sm.ff];exact⟨by omega,fun _=>hn⟩
 |s::l,hn=>by
  simp only[Sm.ff]
  have h1:=aaT nest n s (by omega)
  split
  ·exact⟨h1.1,fun h=>by cases h⟩
  rename_i hc
  exact CA nest _ l (h1.2 (by simpa using hc))
end
theorem GD {nest:Int} {n:Nat} {l:List Sm} (hn:n≤200):(Sm.gB nest n l).2≤202∧((Sm.gB nest n l).1=true→(Sm.gB nest n l).2≤200):=by
 unfold Sm.gB gate
 split
 ·exact⟨by dsimp only;omega,fun h=>by cases h⟩
 ·exact CA nest n l hn
theorem aaU : ∀ (m:Nat) (l:List Sm),Sm.br l≤m→Sm.br l<4611686018427387000→Sm.nr l→∀ (nest:Int) (n:Nat),0≤nest→nest≤13→n≤200→
 az Tryz.prog kD [.ptr 0 0, .slice .shared 13 (l.map a8), .int .i64 nest] ⟨[[.int .i64 n]],[]⟩ (.bool (Sm.gB nest n l).1) ⟨[[.int .i64 (Sm.gB nest n l).2]],[]⟩:=by
 intro m
 induction m with
 | zero=>
  intro l h hs hf nest n h0 h13 hn
  cases l with
  |nil=>
   have d1:decide ((0:Int) > 0)=false:=rfl
   have e:Sm.gB nest n [] = (true,n):=by simp[Sm.gB,gate,Sm.ff]
   have z:decide ((0:Int)<0)=false:=rfl
   rw[e]
   refine az.go rT rfl fun B Q hB hQ=>?_
   have⟨hC,hE,hM,hY⟩:=bC
   repeat' (first
 |simp only[go_sem,hC,hE,hM,hY,d1,z]
 |(with_reducible refine bd.kv ?_)
 |(with_reducible first|refine aX fun hc=>?_|refine aY fun hc=>?_|refine aZ (fun hc=>?_) fun hc=>?_)<;>(try simp only[hc,bs,↓reduceIte]at h)<;>try simp only[hc]
 |(with_reducible refine aB hQ ?_;exact bg))
  |cons s l=>simp only[Sm.br]at h;omega
 |succ m ih=>
  intro l h hs hf nest n h0 h13 hn
  generalize hR:Sm.gB nest n l=R
  have hlen:=Sm.ei l
  unfold Sm.gB gate at hR
  have h:=hR
  refine az.go rT rfl fun B Q hB hQ=>?_
  have⟨hC,hE,hM,hY⟩:=bC
  repeat' (first
 |simp only[go_sem,hC,hE,hM,hY]
 |(with_reducible first|refine aX fun hc=>?_|refine aY fun hc=>?_|refine aZ (fun hc=>?_) fun hc=>?_)<;>(try simp only[hc,bs,↓reduceIte]at h)<;>try simp only[hc]
 | (with_reducible refine aB hQ ?_;(try cases h);simp only [aQ,aR,bn,bo,go_sem,hC,hE,hM,hY];repeat' (first | exact Ok.out | with_reducible refine eL ?_ ?_ | (simp;done))))
  all_goals
   have ah0:l≠ []→nest≤12:=by
    intro fi
    have:l.length≠0:=by simpa using fi
    simp_all<;>omega
   refine dQ 1 0 (bd.ind (ι:=List Sm×Nat×Nat) (fun i=>l.drop i.2.1=i.1∧Sm.ff nest i.2.2 i.1=R∧i.2.2≤200) (fun i=>i.1.length)
    (fun i=> [(0, .ptr 0 0),(2, .int .i64 nest),(16, .slice .shared 13 (l.map a8)),(17, .int .i64 (l.length:Int)),(18, .int .i64 (i.2.1:Int))]) (fun i=>⟨[[.int .i64 (i.2.2:Int)]],[]⟩) ?_ (l,0,n) ⟨rfl,h,hn⟩)
   rintro⟨rest,k,j⟩ ⟨h1,h,hj⟩ IH
   dsimp only at h1 h hj
   cases rest with
   |nil=>
    have hC:=drop_nil h1
    simp only[Sm.ff]at h
    repeat' (first
 |simp only[go_sem,hC,hE,hM,hY]
 |(with_reducible first|refine aX fun hc=>?_|refine aY fun hc=>?_|refine aZ (fun hc=>?_) fun hc=>?_)<;>(try simp only[hc,bs,↓reduceIte]at h)<;>try simp only[hc]
 | (with_reducible refine aB hQ ?_;exact ep))
   | cons s rest=>
    obtain⟨hE,g2,hC,g4⟩:=drop_cons h1
    have hM:k<4611686018427387904:=by omega
    have iM:=List.mem_of_getElem? hE
    have eg:=Sm.dd iM
    have aAx:=ah0 (by rintro rfl;simp at iM)
    obtain⟨JL,hft,hfe⟩:=(K0 s).1 (Fe hf iM)
    have acy:Sm.br s.bm<s.size∧Sm.br s.bc<s.size:=by cases s;simp only[Sm.size];omega
    have w1:IntKind.wrap .i64 ((j:Int)+1)=((j+1:Nat):Int):=by rw[dN]<;>omega
    have w2:IntKind.wrap .i64 (nest+1)=nest+1:=dN (by omega) (by omega)
    have c1:=fun s=>zO JL.aen JL.Tv s
    have c2:=fun s=>WS JL s
    simp only[Sm.ff,GC]at h
    by_cases TF:j+1≤200
    ·have r1:=GD (nest:=nest+1) (l:=s.bm) TF
     have c3:=fun s' ho=>(ih s.bm (by omega) (by omega) hft (nest+1) (j+1) (by omega) (by omega) TF).kN (s:=s') (o:=0) (by simp[D.bH,D.ok,oK,Tag.ok]) rfl rfl rfl ho
     by_cases wT:(Sm.gB (nest+1) (j+1) s.bm).1=true
     ·have c4:=fun s' ho=>(ih s.bc (by omega) (by omega) hfe (nest+1) _ (by omega) (by omega) (r1.2 wT)).kN (s:=s') (o:=0) (by simp [D.bH,D.ok,oK,Tag.ok]) rfl rfl rfl ho
      have r2:=GD (nest:=nest+1) (l:=s.bc) (r1.2 wT)
      simp only[wT]at c3
      simp only[wT,Bool.not_true,Bool.false_eq_true,↓reduceIte]at h
      repeat' (first
 |simp only[go_sem,hC,hE,hM,hY,w1,w2,wT]
 |(with_reducible refine CU (c1 _) ?_)
 |(with_reducible refine CU (c2 _) ?_)
 |(with_reducible refine CU (c3 _ rfl) ?_)
 |(with_reducible refine CU (c4 _ rfl) ?_)
 |(with_reducible first|refine aX fun hc=>?_|refine aY fun hc=>?_|refine aZ (fun hc=>?_) fun hc=>?_)<;>(try simp only[hc,bs,↓reduceIte]at h)<;>try simp only[hc]
 |(with_reducible refine aB hQ ?_;(try cases h);simp only[aQ,aR,bn,bo,go_sem,hC,hE,hM,hY,w1,w2,wT];try exact bR))
      refine dQ 1 0 (IH (rest,k+1,(Sm.gB (nest+1) (Sm.gB (nest+1) (j+1) s.bm).2 s.bc).2) ⟨g2,h,r2.2 (by assumption)⟩ (Nat.lt_succ_self _))
     ·have wT:(Sm.gB (nest+1) (j+1) s.bm).1=false:=by simpa using wT
      simp only[wT]at c3
      simp only[wT,Bool.not_false,↓reduceIte]at h
      repeat' (first
 |simp only[go_sem,hC,hE,hM,hY,w1,w2,wT]
 |(with_reducible refine CU (c1 _) ?_)
 |(with_reducible refine CU (c2 _) ?_)
 |(with_reducible refine CU (c3 _ rfl) ?_)
 |(with_reducible first|refine aX fun hc=>?_|refine aY fun hc=>?_|refine aZ (fun hc=>?_) fun hc=>?_)<;>(try simp only[hc,bs,↓reduceIte]at h)<;>try simp only[hc]
 | (with_reducible refine aB hQ ?_;(try cases h);simp only [aQ,aR,bn,bo,go_sem,hC,hE,hM,hY,w1,w2,wT];try exact bR))
    ·have d1:decide (((j+1:Nat):Int) > 200)=true:=by simp;omega
     simp only[d1,Bool.true_or,Bool.not_false,↓reduceIte]at h
     repeat' (first
 |simp only[go_sem,hC,hE,hM,hY,w1,w2,d1]
 |(with_reducible refine CU (c1 _) ?_)
 |(with_reducible refine CU (c2 _) ?_)
 |(with_reducible first|refine aX fun hc=>?_|refine aY fun hc=>?_|refine aZ (fun hc=>?_) fun hc=>?_)<;>(try simp only[hc,bs,↓reduceIte]at h)<;>try simp only[hc]
 |(with_reducible refine aB hQ ?_;(try cases h);simp only[aQ,aR,bn,bo,go_sem,hC,hE,hM,hY,w1,w2,d1];try exact bR))
def Pc.ff (n:Nat):List Pc→Bool
 | []=>true
 |f::l=>
  if decide ((f.params.length:Int) > 8) ||decide ((f.vars.length:Int) > 16) || !(isName f.name) || !(eo f.vars) || !(eo f.fin)then false
  else if !(Pm.fl f.params)then false
  else if !(Sm.gB 1 n f.body).1 then false
  else Pc.ff (Sm.gB 1 n f.body).2 l
def Pg.GF (p:Pg):Bool:=
 if decide ((p.globals.length:Int) > 16) ||decide ((p.procs.length:Int) > 16) || !(eo p.globals)then false
 else Pc.ff 0 p.procs
structure Pg.QT (p:Pg):Prop where
 sz:p.size<4611686018427387000
 ux : ∀ t∈p.globals,t.length<4611686018427387904
 pH : ∀ f∈p.procs,f.name.length<4611686018427387904∧(∀ t∈f.vars,t.length<4611686018427387904)∧(∀ t∈f.fin,t.length<4611686018427387904)∧∀ a∈f.params,a.name.length<4611686018427387904
 body : ∀ f∈p.procs,Sm.nr f.body
theorem K1 {p:Pg} (hf:p.QT) (s:St):az Tryz.prog rI [.agg (cR p)] s (.bool p.GF) s:=by
 refine az.pure ?_ (by simp only[D.bH,D.ok,jX];rfl) rfl s
 obtain⟨eg,rZ,aey,Co⟩:=hf
 have r7:Pc.br p.procs<4611686018427387000:=by simp only[Pg.size]at eg;omega
 have ah1:p.globals.length<4611686018427387904:=by simp only[Pg.size]at eg;omega
 have az7:p.procs.length<4611686018427387904:=by have:=Pc.ei p.procs;omega
 have hg:=fun s=>zO ah1 rZ s
 unfold S0
 generalize h:p.GF=R
 unfold Pg.GF at h
 refine az.go KH rfl fun B Q hB hQ=>?_
 have⟨hC,hE,hM,hY⟩:=bC
 repeat' (first
 |simp only[go_sem,hC,hE,hM,hY]
 |(with_reducible refine CU (hg _) ?_)
 |(with_reducible first|refine aX fun hc=>?_|refine aY fun hc=>?_|refine aZ (fun hc=>?_) fun hc=>?_)<;>(try simp only[hc,bs,↓reduceIte]at h)<;>try simp only[hc]
 |(with_reducible refine aB hQ ?_;exact ep))
 refine dQ 2 0 (bd.ind (ι:=List Pc×Nat×Nat) (fun i=>p.procs.drop i.2.1=i.1∧Pc.ff i.2.2 i.1=R∧i.2.2≤200) (fun i=>i.1.length)
  (fun i=> [(1, .ptr 0 0),(3, .ptr 1 0),(27, .slice .shared 5 (p.procs.map cH)),(28, .int .i64 (p.procs.length:Int)),(29, .int .i64 (i.2.1:Int))]) (fun i=>⟨[cR p,[.int .i64 (i.2.2:Int)]],[]⟩) ?_ (p.procs,0,0) ⟨rfl,h,Nat.zero_le _⟩)
 rintro⟨rest,k,n⟩ ⟨h1,h,hn⟩ IH
 dsimp only at h1 h hn
 cases rest with
 |nil=>
  have hC:=drop_nil h1
  simp only[Pc.ff]at h
  repeat' (first
 |simp only[go_sem,hC,hE,hM,hY]
 |(with_reducible first|refine aX fun hc=>?_|refine aY fun hc=>?_|refine aZ (fun hc=>?_) fun hc=>?_)<;>(try simp only[hc,bs,↓reduceIte]at h)<;>try simp only[hc]
 |(with_reducible refine aB hQ ?_;exact ep))
 |cons f rest=>
  obtain⟨hE,g2,hC,g4⟩:=drop_cons h1
  have cm:k<4611686018427387904:=by omega
  have iM:=List.mem_of_getElem? hE
  have AH:=Pc.dd iM
  simp only[Pc.size]at AH
  obtain⟨AJ,hfv,hff,hfp⟩:=aey f iM
  have hnm:=BO f.name AJ
  have hv:=fun s=>zO (by omega) hfv s
  have he:=fun s=>zO (by omega) hff s
  have hb:=fun s' o ho=>(aaU _ f.body (Nat.le_refl _) (by omega) (Co f iM) 1 n (by omega) (by omega) hn).kN (s:=s') (o:=o) (by simp[D.bH,D.ok,oK,Tag.ok]) rfl rfl rfl ho
  have hle:=GD (nest:=1) (l:=f.body) hn
  simp only[Pc.ff]at h
  repeat' (first
 |simp only[go_sem,hC,hE,hM,hY]
 |(with_reducible refine CU (hnm _) ?_)
 |(with_reducible refine CU (hv _) ?_)
 |(with_reducible refine CU (he _) ?_)
 |(with_reducible first|refine aX fun hc=>?_|refine aY fun hc=>?_|refine aZ (fun hc=>?_) fun hc=>?_)<;>(try simp only[hc,bs,↓reduceIte]at h)<;>try simp only[hc]
 |(with_reducible refine aB hQ ?_;exact ep)
 | (cases h;done))
  refine dQ 3 0 (bd.ind (ι:=List Pm×Nat) (fun i=>f.params.drop i.2=i.1∧(if !(Pm.fl i.1)then false else if !(Sm.gB 1 n f.body).1 then false else Pc.ff (Sm.gB 1 n f.body).2 rest)=R) (fun i=>i.1.length)
   (fun i=> [(1, .ptr 0 0),(3, .ptr 1 0),(5, .ptr 2 0),(27, .slice .shared 5 (p.procs.map cH)),(28, .int .i64 (p.procs.length:Int)),(29, .int .i64 (k:Int)),(62, .slice .shared 2 (f.params.map gN)),(63, .int .i64 (f.params.length:Int)),(64, .int .i64 (i.2:Int))]) (fun i=>⟨[cR p,[.int .i64 (n:Int)],cH f],[]⟩) ?_ (f.params,0) ⟨rfl,h⟩)
  rintro⟨QU,j⟩ ⟨j1,h⟩ TG
  dsimp only at j1 h
  cases QU with
  |nil=>
   have hC:=drop_nil j1
   simp only[Pm.fl,Bool.not_true,Bool.false_eq_true,↓reduceIte]at h
   repeat' (first
 |simp only[go_sem,hC,hE,hM,hY]
 |(with_reducible refine CU (hb _ _ rfl) ?_)
 |(with_reducible first|refine aX fun hc=>?_|refine aY fun hc=>?_|refine aZ (fun hc=>?_) fun hc=>?_)<;>(try simp only[hc,bs,↓reduceIte]at h)<;>try simp only[hc]
 |(with_reducible refine aB hQ ?_;exact ep)
 | (cases h;done))
   refine eM 2 0 ?_ ?_ (IH (rest,k+1,(Sm.gB 1 n f.body).2) ⟨g2,h,hle.2 (by assumption)⟩ (Nat.lt_succ_self _))
   ·(simp only[go_sem,hC,hE,hM,hY,aL cm];try exact cb)
   ·(simp only[go_sem,hC,hE,hM,hY,aL cm];try exact cb)
  |cons a QU=>
   obtain⟨hE,b2,hC,b4⟩:=drop_cons j1
   have TF:j<4611686018427387904:=by omega
   have ha:=BO a.name (hfp a (List.mem_of_getElem? hE))
   simp only[Pm.fl]at h
   repeat' (first
 |simp only[go_sem,hC,hE,hM,hY]
 |(with_reducible refine CU (ha _) ?_)
 |(with_reducible first|refine aX fun hc=>?_|refine aY fun hc=>?_|refine aZ (fun hc=>?_) fun hc=>?_)<;>(try simp only[hc,bs,↓reduceIte]at h)<;>try simp only[hc]
 |(with_reducible refine aB hQ ?_;exact ep)
 | (cases h;done))
   refine eM 3 0 ?_ ?_ (TG (QU,j+1) ⟨b2,h⟩ (Nat.lt_succ_self _))
   ·(simp only[go_sem,hC,hE,hM,hY,aL TF];try exact cb)
   ·(simp only[go_sem,hC,hE,hM,hY,aL TF];try exact cb)
theorem zR {s:aF} (h:isName s=true):s.length≤8:=by
 cases s with
 |nil=>simp
 | cons c r=>
  simp only[isName]at h
  split at h
  ·cases h
  ·rename_i hc
   simp only[Bool.or_eq_true,decide_eq_true_eq,not_or]at hc
   simp only[List.length_cons];omega
theorem px {t:aF} : ∀ {l:List aF},eo l=true→t∈l→isName t=true
 | s::l,h,m=>by
  simp only[eo]at h
  cases hs:isName s
  ·simp[hs]at h
  ·simp [hs]at h
   rcases List.mem_cons.1 m with rfl|m
   ·exact hs
   ·exact px h m
theorem K3 {a:Ar} : ∀ {l:List Ar},Ar.fl l=true→a∈l→a.may=true
 | s::l,h,m=>by
  simp only[Ar.fl]at h
  cases hs:s.may
  ·simp[hs]at h
  ·simp [hs]at h
   rcases List.mem_cons.1 m with rfl|m
   ·exact hs
   ·exact K3 h m
theorem Hw {a:Pm} : ∀ {l:List Pm},Pm.fl l=true→a∈l→isName a.name=true
 | s::l,h,m=>by
  simp only[Pm.fl]at h
  cases hs:isName s.name
  ·simp[hs]at h
  ·simp [hs]at h
   rcases List.mem_cons.1 m with rfl|m
   ·exact hs
   ·exact Hw h m
mutual
theorem Ff : ∀ x:Ex,x.form=true→x.texts
 | ⟨op,n,name,kids⟩,h=>by
  simp only[Ex.form]at h
  split at h
  ·cases h
  ·rename_i hc
   refine⟨?_,Du kids h⟩
   simp only[Bool.or_eq_true,Bool.and_eq_true,Bool.not_eq_true',not_or,not_and,Bool.not_eq_false]at hc
   cases hn:(name == [])
   ·have:=zR (hc.2 hn);omega
   ·simp at hn;subst hn;simp
theorem Du : ∀ l:List Ex,Ex.pG l=true→Ex.yM l
 | [],_=>trivial
 | x::l,h=>by
  simp only[Ex.pG]at h
  cases hx:x.form
  ·simp[hx]at h
  ·simp [hx]at h
   exact⟨Ff x hx,Du l h⟩
end
theorem Hx {x:Ex} (h:x.may=true):x.texts:=by
 unfold Ex.may at h
 simp only[Bool.and_eq_true]at h
 exact Ff x h.2
theorem Fg {x:Ex} (h:x.none=true):x.texts:=by
 obtain⟨op,n,name,kids⟩:=x
 simp[Ex.none]at h
 obtain⟨⟨_,h1⟩,h2⟩:=h
 subst h1 h2
 exact⟨by simp,trivial⟩
mutual
theorem TH {deep dD:Int} {bc:Bool} {out:List It} {i:It} : ∀ s:Sm,i∈kx deep dD bc out s→i∈out∨i.s.size≤s.size
 | ⟨id,kind,labels,name,proc,x,has,args,bm,e⟩,h=>by
  simp only[kx]at h
  have key:i∈out++ [(⟨⟨id,kind,labels,name,proc,x,has,args,bm,e⟩,deep,dD,bc⟩:It)]→i∈out∨i.s.size≤(⟨id,kind,labels,name,proc,x,has,args,bm,e⟩:Sm).size:=by
   intro h
   rcases List.mem_append.1 h with h|h
   ·exact .inl h
   ·simp at h;subst h;exact .inr (Nat.le_refl _)
  split at h
  ·rcases wU e h with h | h
   ·rcases wU bm h with h | h
    ·exact key h
    ·right;simp only[Sm.size];omega
   ·right;simp only[Sm.size];omega
  ·exact key h
theorem wU {deep dD:Int} {bc:Bool} {out:List It} {i:It} : ∀ l:List Sm,i∈fO deep dD bc out l→i∈out∨i.s.size<Sm.br l
 | [],h=>by simp only[fO]at h;exact .inl h
 | s::l,h=>by
  simp only[fO]at h
  split at h
  ·rcases wU l h with h | h
   ·rcases TH s h with h | h
    ·exact .inl h
    ·right;simp only[Sm.br];omega
   ·right;simp only[Sm.br];omega
  ·exact .inl h
end
theorem K4 {i:It} : ∀ (l:List Pc) (out:List It),i∈allM out l→i∈out∨i.s.size<Pc.br l
 | [],out,h=>by simp only[allM]at h;exact .inl h
 | f::l,out,h=>by
  have key:i∈out++f.flat→i∈out∨i.s.size<Pc.br (f::l):=by
   intro h
   rcases List.mem_append.1 h with h|h
   ·exact .inl h
   ·rcases wU _ h with h | h
    ·simp at h
    ·right;simp only[Pc.br,Pc.size];omega
  simp only[allM]at h
  split at h
  ·exact key h
  ·rcases K4 l _ h with h | h
   ·exact key h
   ·right;simp only[Pc.br];omega
theorem Fh {i:It} : ∀ (l:List It) (n:Nat),It.fl n l=true→i∈l→i.s.one=true
 | s::l,n,h,m=>by
  simp only[It.fl]at h
  split at h
  ·cases h
  ·rename_i hc
   simp only[Bool.or_eq_true,Bool.not_eq_true',not_or,Bool.not_eq_false]at hc
   rcases List.mem_cons.1 m with rfl|m
   ·exact hc.2
   ·exact Fh l (n+1) h m
theorem K5 {s:Sm} (h:s.one=true) (hs:s.size<4611686018427387000):s.nq:=by
 unfold Sm.one at h
 split at h
 ·cases h
 split at h
 ·cases h
 split at h
 ·cases h
 split at h
 ·cases h
 rename_i c1 c2 c3 c4
 simp only[Bool.or_eq_true,Bool.and_eq_true,Bool.not_eq_true',not_or,not_and,Bool.not_eq_false,decide_eq_true_eq]at c1 c2 c3 c4
 obtain⟨⟨⟨⟨⟨_,_⟩,asP⟩,cx⟩,cn⟩,_⟩:=c1
 obtain⟨c21,c22⟩:=c2
 obtain⟨⟨c31,c32⟩,c33⟩:=c3
 have nm : ∀ {t:aF},isName t=true→t.length<4611686018427387904:=fun h=>by have:=zR h;omega
 have eg:1+s.labels.length+s.x.size+Ar.br s.args≤s.size:=by cases s;simp only[Sm.size];omega
 have Av:=Ar.ei s.args
 refine⟨fun t ht=>nm (px asP ht),by omega, ?_, ?_,by omega, ?_,by omega,fun a ha=>?_⟩
 ·cases hn:s.hasName
  ·cases he:(s.name == [])
   ·exact nm (c22 ⟨hn,he⟩).2
   ·simp at he;rw[he];simp
  ·exact nm (c21 hn)
 ·cases nF:s.tJ
  ·rw [nF]at c31
   have:s.proc = []:=by simpa using c31
   rw[this];simp
  ·exact nm (c32 nF)
 ·cases hx:s.BK
  ·exact Fg (cn hx)
  ·exact Hx (cx hx)
 ·have hm:=K3 c4 ha
  have Zm:=Ar.dd ha
  unfold Ar.may at hm
  split at hm
  ·simp only [Bool.and_eq_true]at hm
   exact⟨by omega,Fg hm.2,nm hm.1⟩
  ·simp only [Bool.and_eq_true,beq_iff_eq]at hm
   exact⟨by omega,Hx hm.2,by rw[hm.1];simp⟩
theorem Hy {f:Pc} : ∀ {l:List Pc},Pc.pH l=true→f∈l→isName f.name=true∧eo f.vars=true∧eo f.fin=true∧Pm.fl f.params=true
 |s::l,h,m=>by
  simp only[Pc.pH]at h
  split at h
  ·cases h
  split at h
  ·cases h
  rename_i c1 c2
  simp only[Bool.or_eq_true,Bool.not_eq_true',not_or,Bool.not_eq_false]at c1 c2
  rcases List.mem_cons.1 m with rfl|m
  ·exact⟨c1.1.1.1.1,c1.1.2,c1.2,c2⟩
  ·exact Hy h m
theorem WU {p:Pg} (h:p.may=true) (hs:p.size<4611686018427387000):p.nq:=by
 unfold Pg.may at h
 split at h
 ·cases h
 split at h
 ·cases h
 split at h
 ·cases h
 rename_i c1 c2 c3
 simp only[Bool.or_eq_true,Bool.not_eq_true',not_or,Bool.not_eq_false]at c1 c2
 have nm : ∀ {t:aF},isName t=true→t.length<4611686018427387904:=fun h=>by have:=zR h;omega
 refine⟨hs,fun t ht=>nm (px c1.2 ht),fun f hf=>?_,fun i hi=>?_⟩
 ·obtain⟨a,b,c,d⟩:=Hy c2 hf
  exact⟨nm a,fun t ht=>nm (px b ht),fun t ht=>nm (px c ht),fun t ht=>nm (Hw d ht)⟩
 ·refine K5 (Fh _ _ h hi) ?_
  rcases K4 _ _ hi with h1|h1
  ·simp at h1
  ·simp only[Pg.size]at hs;omega
theorem TI {t:aF} (h:isName t=true):t≠ []:=by rintro rfl;cases h
theorem WV (op n:Int) (name:aF) (kids:List Ex):Ex.form ⟨op,n,name,kids⟩=true↔
 lG op=(kids.length:Int)∧(op=1∨n=0)∧0≤n∧(op=2↔name≠ [])∧(name = []∨isName name=true)∧Ex.pG kids=true:=by
 simp only[Ex.form]
 split
 ·rename_i h
  simp only[Bool.or_eq_true,Bool.and_eq_true,bne_iff_ne,ne_eq,decide_eq_true_eq,Bool.not_eq_true']at h
  refine⟨fun h=>(Bool.false_ne_true h).elim,fun⟨h1,h2,h3,h4,h5,_⟩=>?_⟩
  exfalso
  rcases h with (((h|h)|h)|h)|h
  ·exact h h1
  ·rcases h2 with h2 | h2
   ·exact h.1 h2
   ·exact h.2 h2
  ·omega
  ·by_cases h2:op=2<;>cases name<;>simp_all
  ·rcases h5 with h5 | h5
   ·subst h5;simp at h
   ·rw[h5]at h;simp at h
 ·rename_i h
  simp only[Bool.or_eq_true,Bool.and_eq_true,bne_iff_ne,ne_eq,decide_eq_true_eq,Bool.not_eq_true',not_or,not_and,Decidable.not_not,Bool.not_eq_false]at h
  obtain⟨⟨⟨⟨h1,h2⟩,h3⟩,h4⟩,h5⟩:=h
  refine⟨fun h=>⟨h1, ?_,by omega, ?_, ?_,h⟩,fun h=>h.2.2.2.2.2⟩
  ·by_cases h:op=1
   ·exact .inl h
   ·exact .inr (h2 h)
  ·by_cases h2:op=2<;>cases name<;>simp_all
  ·cases name with
   |nil=>exact .inl rfl
   |cons c r=>exact .inr (h5 rfl)
theorem K6 (op n:Int) (name:aF) (kids:List Ex) (k:Int):Ex.dp k ⟨op,n,name,kids⟩=true↔
 1≤k∧(kids.length:Int)=lG op∧(if op=1 then 0≤n∧name = []else if op=2 then n=0∧isName name=true else n=0∧name = []∧Ex.BP (k - 1) kids=true):=by
 simp only[Ex.dp]
 split
 ·rename_i h
  simp only[Bool.or_eq_true,decide_eq_true_eq,bne_iff_ne,ne_eq]at h
  refine⟨fun h=>(Bool.false_ne_true h).elim,fun⟨h1,h2,_⟩=>?_⟩
  rcases h with h|h
  ·omega
  ·exact(h h2).elim
 rename_i h
 simp only[Bool.or_eq_true,decide_eq_true_eq,bne_iff_ne,ne_eq,not_or,Decidable.not_not]at h
 have h1:1≤k:=by omega
 simp only[h1,h.2,true_and]
 by_cases o1:op=1
 ·subst o1
  cases name<;>simp
 ·have o1' : ¬ (op==1)=true:=by simpa using o1
  rw[if_neg o1',if_neg o1]
  by_cases o2:op=2
  ·subst o2;simp
  ·have o2' : ¬ (op==2)=true:=by simpa using o2
   rw[if_neg o2',if_neg o2]
   by_cases hn:n=0
   ·subst hn
    cases name<;>simp
   ·simp[hn]
mutual
theorem Zn : ∀ (x:Ex) (k:Int),0≤k→(x.dp k=true↔(x.depth:Int)≤k∧x.form=true)
 | ⟨op,n,name,kids⟩,k,hk=>by
  rw[K6,WV]
  have hd:Ex.depth ⟨op,n,name,kids⟩=Ex.gP kids+1:=by simp only[Ex.depth]
  rw[hd]
  by_cases h1:1≤k
  ·have ih:=TJ kids (k - 1) (by omega)
   by_cases o1:op=1
   ·subst o1
    have ha:lG 1=0:=rfl
    rw[ha,if_pos rfl]
    constructor
    ·rintro⟨_,h2,h3,h4⟩
     have:kids = []:=List.eq_nil_of_length_eq_zero (by omega)
     subst this;subst h4
     simp[Ex.gP,Ex.pG,h3];omega
    ·rintro⟨h2,h3,_,h4,h5,_⟩
     refine⟨h1,h3.symm,h4, ?_⟩
     cases name
     ·rfl
     ·simp at h5
   ·rw [if_neg o1]
    by_cases o2:op=2
    ·subst o2
     have ha:lG 2=0:=rfl
     rw[ha,if_pos rfl]
     constructor
     ·rintro⟨_,h2,h3,h4⟩
      have:kids = []:=List.eq_nil_of_length_eq_zero (by omega)
      subst this;subst h3
      have:=TI h4
      simp[Ex.gP,Ex.pG,h4,this];omega
     ·rintro⟨h2,h3,h4,_,h5,h6,_⟩
      refine⟨h1,h3.symm,h4.resolve_left o1, ?_⟩
      exact h6.resolve_left (h5.1 rfl)
    ·rw [if_neg o2,ih]
     constructor
     ·rintro⟨_,h2,h3,h4,h5,h6⟩
      subst h3;subst h4
      exact⟨by omega,h2.symm, .inr rfl,Int.le_refl _,by simp[o2], .inl rfl,h6⟩
     ·rintro⟨h2,h3,h4,_,h5,h6,h7⟩
      refine⟨h1,h3.symm,h4.resolve_left o1, ?_,by omega,h7⟩
      exact Decidable.byContradiction fun h=>o2 (h5.2 h)
  ·constructor
   ·rintro⟨h,_⟩;exact(h1 h).elim
   ·rintro⟨h,_⟩;omega
theorem TJ : ∀ (l:List Ex) (k:Int),0≤k→(Ex.BP k l=true↔(Ex.gP l:Int)≤k∧Ex.pG l=true)
 | [],k,hk=>by simp[Ex.BP,Ex.gP,Ex.pG,hk]
 | x::l,k,hk=>by
  have h1:=Zn x k hk
  have h2:=TJ l k hk
  have hd:Ex.gP (x::l)=max x.depth (Ex.gP l):=by simp only[Ex.gP]
  rw[hd]
  simp only[Ex.BP,Ex.pG]
  cases hx:Ex.dp k x
  ·simp only [Bool.not_false, ↓reduceIte,Bool.false_eq_true,false_iff,not_and]
   intro h3
   have : ¬ ((x.depth:Int)≤k∧x.form=true):=by rw[← h1,hx];simp
   have hf:x.form=false:=by
    cases hf:x.form
    ·rfl
    ·exact(this ⟨by omega,hf⟩).elim
   simp[hf]
  ·have:=h1.1 hx
   simp only[Bool.not_true,Bool.false_eq_true,↓reduceIte,this.2,h2]
   have h3:=this.1
   refine and_congr_left fun _=>?_
   omega
end
theorem Fi (x:Ex):x.dp 20=x.may:=by
 rw[Bool.eq_iff_iff,Zn x 20 (by omega)]
 unfold Ex.may
 simp only[Bool.and_eq_true,decide_eq_true_eq]
 refine and_congr_left fun _=>?_
 omega
theorem Hz (x:Ex) (b:Bool):vU x b=if b then x.may else x.none:=by
 unfold vU
 rw[Fi]
 cases b<;>simp
theorem HA (t:aF) (b:Bool):tN t b=if b then isName t else t == []:=by
 unfold tN
 cases b<;>simp
theorem Dv : ∀ l:List Ar,pJ l=Ar.fl l
 | []=>rfl
 |a::l=>by
  simp only[pJ,Ar.fl,Ar.may,Hz,HA,Dv l]
  grind
theorem acN {α:Type} (l:List α):((l.length:Int)==0) = !(decide ((l.length:Int) > 0)):=by
 cases l with
 |nil=>rfl
 |cons a l=>
  have h1:(((a::l).length:Int)==0)=false:=by simp only[List.length_cons,beq_eq_false_iff_ne];omega
  have h2:decide (((a::l).length:Int) > 0)=true:=by simp only[List.length_cons,decide_eq_true_eq];omega
  rw[h1,h2];rfl
theorem Fj (s:Sm):s.one=(eo s.labels && s.fields):=by
 have hk:s.kind=1∨s.kind=2∨s.kind=3∨s.kind=4∨s.kind=5∨s.kind=6∨s.kind=7∨s.kind=8∨s.kind=9∨s.kind=10∨s.kind<1∨s.kind > 10:=by omega
 unfold Sm.one Sm.fields Sm.flags Sm.BK Sm.hasName Sm.tJ
 have p1:isName [] = false:=rfl
 rcases hk with h|h|h|h|h|h|h|h|h|h|h|h
 all_goals
  simp only[h,acN,Dv,Hz,HA,Sm.Jn,Sm.Jm]
  grind
mutual
def Ex.mB (out:List aF):Ex→List aF
 |⟨op,_,name,kids⟩=>Ex.lL (if op==2 && !(fq out name)then out++ [name]else out) kids
def Ex.lL (out:List aF):List Ex→List aF
 | []=>out
 |x::l=>Ex.lL (Ex.mB out x) l
end
def Ex.names (x:Ex):List aF:=if x.may then x.mB []else []
mutual
theorem sH (out:List aF) : ∀ x:Ex,(Ex.mB out x).length≤out.length+x.size
 |⟨op,n,name,kids⟩=>by
  simp only[Ex.mB,Ex.size]
  have h:=HC (if op==2 && !(fq out name)then out++ [name]else out) kids
  refine Nat.le_trans h ?_
  split<;>simp<;>omega
theorem HC (out:List aF) : ∀ l:List Ex,(Ex.lL out l).length≤out.length+Ex.br l
 | []=>by simp[Ex.lL,Ex.br]
 |x::l=>by
  simp only[Ex.lL,Ex.br]
  have h1:=sH out x
  have h2:=HC (Ex.mB out x) l
  omega
end
def CC (out:List aF) (x:aF):List aF:=if fq out x then out else out++ [x]
def ah2 (x:aF):List aF→Bool
 | []=>false
 |s::l=>if s==x then true else ah2 x l
abbrev TK (N:Nat):Prop:=∀ (x:Ex),x.size≤N→∀ out:List aF,out.length+x.size≤1000000000→∀ {s:St} {t:Nat},s.aw[t]? = some (some out.length)→
 az Tryz.prog iR [.agg (bI x), .slice (.tok t) 1 (out.map encStr)] s (.slice (.tok t) 1 ((x.mB out).map encStr)) ⟨s.ah,s.aw.set t (some (x.mB out).length)⟩
theorem aeB {N:Nat} (ih:TK N) {op m:Int} {name:aF} {kids:List Ex} (h:Ex.size ⟨op,m,name,kids⟩≤N+1) {out:List aF} (ho:out.length+Ex.size ⟨op,m,name,kids⟩≤1000000000) :
 az Tryz.prog iR [.agg (bI ⟨op,m,name,kids⟩), .slice (.tok 0) 1 (out.map encStr)] ⟨[],[some out.length]⟩ (.slice (.tok 0) 1 ((Ex.mB out ⟨op,m,name,kids⟩).map encStr)) ⟨[],[some (Ex.mB out ⟨op,m,name,kids⟩).length]⟩:=by
 obtain⟨R,hG⟩ : ∃ R,Ex.mB out ⟨op,m,name,kids⟩=R:=⟨_,rfl⟩
 rw[hG]
 simp only[Ex.mB]at hG
 simp only[Ex.size]at h ho
 have hlen:kids.length<1000000000:=by have:=Ex.ei kids;omega
 have hk : ∀ y∈kids,∀ out:List aF,out.length+y.size≤1000000000→∀ {s:St} {t:Nat},s.aw[t]? = some (some out.length)→
  az Tryz.prog iR [.agg (bI y), .slice (.tok t) 1 (out.map encStr)] s (.slice (.tok t) 1 ((y.mB out).map encStr)) ⟨s.ah,s.aw.set t (some (y.mB out).length)⟩:=fun y hy out ho=>
  ih y (by have:=Ex.dd hy;omega) out ho
 refine az.go rU rfl fun B Q hB hQ=>?_
 have⟨hC,hE,hM,hY⟩:=bC
 have hM:(out.length+1)*17≤bu:=by unfold bu;omega
 rcases Bool.eq_false_or_eq_true (op==2)with b1|b1
 ·rcases Bool.eq_false_or_eq_true (fq out name)with b2 | b2
  ·simp only [b1,b2,Bool.not_true,Bool.and_false,Bool.false_eq_true,if_false]at hG
   repeat' (first
 |simp only[go_sem,hC,hE,hM,hY,b1,b2]
 |(with_reducible refine CU (jJ (l:=out) (by omega) name _ _) ?_)
 | (with_reducible refine aB hQ ?_;exact bg))
   refine dQ 1 1 (bd.ind (ι:=List Ex×Nat×List aF×Nat) (fun i=>kids.drop i.2.1=i.1∧Ex.lL i.2.2.1 i.1=R∧i.2.2.1.length+Ex.br i.1≤1000000000∧i.2.2.2=i.2.2.1.length) (fun i=>i.1.length)
    (fun i=> [(1, .slice (.tok 0) 1 (i.2.2.1.map encStr)),(2, .ptr 0 0),(23, .slice .shared 4 (kids.map bI)),(24, .int .i64 (kids.length:Int)),(25, .int .i64 (i.2.1:Int))]) (fun i=>⟨[bI ⟨op,m,name,kids⟩],[some i.2.2.2]⟩) ?_ (kids,0,out,out.length) ⟨rfl,hG,by simp;omega,by simp⟩)
   rintro⟨rest,k,cQ,n'⟩ ⟨h1,h2,h3,h4⟩ IH
   dsimp only at h1 h2 h3 h4
   subst h4
   cases rest with
   |nil=>
    have hC:=drop_nil h1
    simp only[Ex.lL]at h2
    subst h2
    repeat' (first
 |simp only[go_sem,hC,hE,hM,hY]
 | (with_reducible refine aB hQ ?_;exact bg))
   |cons y rest=>
    obtain⟨hE,g2,hC,g4⟩:=drop_cons h1
    have cm:k<4611686018427387904:=by omega
    simp only[Ex.lL]at h2
    simp only[Ex.br]at h3
    have hy:=fun {s:St} {t:Nat} (ht:s.aw[t]? = some (some cQ.length))=>hk y (List.mem_of_getElem? hE) cQ (by omega) ht
    have hl:=sH cQ y
    repeat' (first
 |simp only[go_sem,hC,hE,hM,hY]
 |(with_reducible refine CU (hy (by with_unfolding_all rfl)) ?_)
 | (with_reducible refine aB hQ ?_;exact bg))
    refine eM 1 1 ?_ ?_ (IH (rest,k+1,_,_) ⟨g2,h2,by dsimp only;omega,rfl⟩ (Nat.lt_succ_self _))
    ·(simp only[go_sem,hC,hE,hM,hY,aL cm];try exact cb)
    ·(simp only[go_sem,hC,hE,hM,hY,aL cm];try exact cb)
  ·simp only [b1,b2,Bool.not_false,Bool.and_true,if_true]at hG
   repeat' (first
 |simp only[go_sem,hC,hE,hM,hY,b1,b2]
 |(with_reducible refine CU (jJ (l:=out) (by omega) name _ _) ?_)
 | (with_reducible refine aB hQ ?_;exact bg))
   refine eM 1 1 ?_ ?_ (bd.ind (ι:=List Ex×Nat×List aF×Nat) (fun i=>kids.drop i.2.1=i.1∧Ex.lL i.2.2.1 i.1=R∧i.2.2.1.length+Ex.br i.1≤1000000000∧i.2.2.2=i.2.2.1.length) (fun i=>i.1.length)
    (fun i=> [(1, .slice (.tok 0) 1 (i.2.2.1.map encStr)),(2, .ptr 0 0),(23, .slice .shared 4 (kids.map bI)),(24, .int .i64 (kids.length:Int)),(25, .int .i64 (i.2.1:Int))]) (fun i=>⟨[bI ⟨op,m,name,kids⟩],[some i.2.2.2]⟩) ?_ (kids,0,(out++ [name]),(out.length+1)) ⟨rfl,hG,by simp;omega,by simp⟩)
   ·(simp only[go_sem,hC,hE,hM,hY,List.map_append,List.map_cons,List.map_nil,List.length_append,List.length_cons,List.length_nil,encStr];try exact cb)
   ·(simp only[go_sem,hC,hE,hM,hY,List.map_append,List.map_cons,List.map_nil,List.length_append,List.length_cons,List.length_nil,encStr];try exact cb)
   rintro⟨rest,k,cQ,n'⟩ ⟨h1,h2,h3,h4⟩ IH
   dsimp only at h1 h2 h3 h4
   subst h4
   cases rest with
   |nil=>
    have hC:=drop_nil h1
    simp only[Ex.lL]at h2
    subst h2
    repeat' (first
 |simp only[go_sem,hC,hE,hM,hY]
 | (with_reducible refine aB hQ ?_;exact bg))
   |cons y rest=>
    obtain⟨hE,g2,hC,g4⟩:=drop_cons h1
    have cm:k<4611686018427387904:=by omega
    simp only[Ex.lL]at h2
    simp only[Ex.br]at h3
    have hy:=fun {s:St} {t:Nat} (ht:s.aw[t]? = some (some cQ.length))=>hk y (List.mem_of_getElem? hE) cQ (by omega) ht
    have hl:=sH cQ y
    repeat' (first
 |simp only[go_sem,hC,hE,hM,hY]
 |(with_reducible refine CU (hy (by with_unfolding_all rfl)) ?_)
 | (with_reducible refine aB hQ ?_;exact bg))
    refine eM 1 1 ?_ ?_ (IH (rest,k+1,_,_) ⟨g2,h2,by dsimp only;omega,rfl⟩ (Nat.lt_succ_self _))
    ·(simp only[go_sem,hC,hE,hM,hY,aL cm];try exact cb)
    ·(simp only[go_sem,hC,hE,hM,hY,aL cm];try exact cb)
 ·simp only [b1,Bool.false_and,Bool.false_eq_true,if_false]at hG
  repeat' (first
 |simp only[go_sem,hC,hE,hM,hY,b1]
 | (with_reducible refine aB hQ ?_;exact bg))
  refine dQ 1 1 (bd.ind (ι:=List Ex×Nat×List aF×Nat) (fun i=>kids.drop i.2.1=i.1∧Ex.lL i.2.2.1 i.1=R∧i.2.2.1.length+Ex.br i.1≤1000000000∧i.2.2.2=i.2.2.1.length) (fun i=>i.1.length)
   (fun i=> [(1, .slice (.tok 0) 1 (i.2.2.1.map encStr)),(2, .ptr 0 0),(23, .slice .shared 4 (kids.map bI)),(24, .int .i64 (kids.length:Int)),(25, .int .i64 (i.2.1:Int))]) (fun i=>⟨[bI ⟨op,m,name,kids⟩],[some i.2.2.2]⟩) ?_ (kids,0,out,out.length) ⟨rfl,hG,by simp;omega,by simp⟩)
  rintro⟨rest,k,cQ,n'⟩ ⟨h1,h2,h3,h4⟩ IH
  dsimp only at h1 h2 h3 h4
  subst h4
  cases rest with
  |nil=>
   have hC:=drop_nil h1
   simp only[Ex.lL]at h2
   subst h2
   repeat' (first
 |simp only[go_sem,hC,hE,hM,hY]
 | (with_reducible refine aB hQ ?_;exact bg))
  |cons y rest=>
   obtain⟨hE,g2,hC,g4⟩:=drop_cons h1
   have cm:k<4611686018427387904:=by omega
   simp only[Ex.lL]at h2
   simp only[Ex.br]at h3
   have hy:=fun {s:St} {t:Nat} (ht:s.aw[t]? = some (some cQ.length))=>hk y (List.mem_of_getElem? hE) cQ (by omega) ht
   have hl:=sH cQ y
   repeat' (first
 |simp only[go_sem,hC,hE,hM,hY]
 |(with_reducible refine CU (hy (by with_unfolding_all rfl)) ?_)
 | (with_reducible refine aB hQ ?_;exact bg))
   refine eM 1 1 ?_ ?_ (IH (rest,k+1,_,_) ⟨g2,h2,by dsimp only;omega,rfl⟩ (Nat.lt_succ_self _))
   ·(simp only[go_sem,hC,hE,hM,hY,aL cm];try exact cb)
   ·(simp only[go_sem,hC,hE,hM,hY,aL cm];try exact cb)
theorem WW : ∀ N,TK N:=by
 intro N
 induction N with
 |zero=>rintro⟨op,m,name,kids⟩ h;simp only[Ex.size]at h;omega
 |succ N ih=>
  rintro⟨op,m,name,kids⟩ h out ho s t ht
  exact(aeB ih h ho).aky (pre:= [_]) (post:= []) (by simp only[D.bH,D.ok,gT];rfl) rfl (eB out) (eB _) ht
abbrev atp (N:Nat):Prop:=∀ (x:Ex),x.size≤N→∀ out:List aF,out.length+x.size≤1000000000→∀ {s:St} {t:Nat},s.aw[t]? = some (some out.length)→
 az Tryz.prog MF [.agg (bI x), .slice (.tok t) 1 (out.map encStr)] s (.slice (.tok t) 1 ((x.mB out).map encStr)) ⟨s.ah,s.aw.set t (some (x.mB out).length)⟩
theorem TL {op m:Int} {name:aF} {kids:List Ex} (h:Ex.form ⟨op,m,name,kids⟩=true) (h2:(op==2)=true):kids = []:=by
 have e:op=2:=by simpa using h2
 subst e
 simp only[Ex.form]at h
 split at h
 ·cases h
 ·rename_i hh
  simp only[Bool.or_eq_true,not_or,bne_iff_ne,ne_eq,Decidable.not_not]at hh
  have:=hh.1.1.1.1
  have e:lG 2=0:=rfl
  rw[e]at this
  exact List.length_eq_zero_iff.1 (by omega)
theorem WX {op m:Int} {name:aF} {kids:List Ex} (hf:(op==2)=true→kids = []) (ho:Ex.size ⟨op,m,name,kids⟩≤1000000000) (s:St) :
 az Tryz.prog iR [.agg (bI ⟨op,m,name,kids⟩), .slice .full 0 []] s (.slice .shared 1 ((Ex.mB [] ⟨op,m,name,kids⟩).map encStr)) s:=by
 refine az.pure ?_ (by simp only[D.bH,D.ok,gT];rfl) (by simp only[D.ok,Tag.ok,eB];rfl) s
 obtain⟨R,hG⟩ : ∃ R,Ex.mB [] ⟨op,m,name,kids⟩=R:=⟨_,rfl⟩
 rw[hG]
 simp only[Ex.mB]at hG
 simp only[Ex.size]at ho
 have hlen:kids.length<1000000000:=by have:=Ex.ei kids;omega
 have hk : ∀ y∈kids,∀ out:List aF,out.length+y.size≤1000000000→∀ {s:St} {t:Nat},s.aw[t]? = some (some out.length)→
  az Tryz.prog iR [.agg (bI y), .slice (.tok t) 1 (out.map encStr)] s (.slice (.tok t) 1 ((y.mB out).map encStr)) ⟨s.ah,s.aw.set t (some (y.mB out).length)⟩:=fun y hy out ho=>
  WW y.size y (Nat.le_refl _) out ho
 unfold S0
 rcases Bool.eq_false_or_eq_true (op==2)with b1|b1
 ·have hk0:=hf b1
  subst hk0
  have e:fq [] name=false:=rfl
  simp only[b1,e,Bool.not_false,Bool.and_true,if_true,Ex.lL,List.nil_append]at hG
  subst hG
  refine az.go rU rfl fun B Q hB hQ=>?_
  have⟨hC,hE,hM,hY⟩:=bC
  have hM:17≤bu:=by unfold bu;omega
  repeat' (first
 |simp only[go_sem,hC,hE,hM,hY,b1,List.map_nil,List.map_cons,List.length_nil,encStr,Int.natCast_zero,Int.lt_irrefl,decide_false]
 |(with_reducible refine CU (KZ name _ _ _) ?_)
 |(with_reducible refine bd.kv ?_)
 |(with_reducible refine aB hQ ?_;exact bg))
 ·simp only [b1,Bool.false_and,Bool.false_eq_true,if_false]at hG
  refine az.go rU rfl fun B Q hB hQ=>?_
  have⟨hC,hE,hM,hY⟩:=bC
  repeat' (first
 |simp only[go_sem,hC,hE,hM,hY,b1]
 | (with_reducible refine aB hQ ?_;exact bg))
  refine bd.pY 1 1 rfl ?_
  simp only[go_sem,hC,hE,hM,hY]
  refine dQ 1 1 (bd.ind (ι:=List Ex×Nat×List aF×Nat) (fun i=>kids.drop i.2.1=i.1∧Ex.lL i.2.2.1 i.1=R∧i.2.2.1.length+Ex.br i.1≤1000000000∧i.2.2.2=i.2.2.1.length) (fun i=>i.1.length)
   (fun i=> [(1, .slice (.tok 0) 1 (i.2.2.1.map encStr)),(2, .ptr 0 0),(23, .slice .shared 4 (kids.map bI)),(24, .int .i64 (kids.length:Int)),(25, .int .i64 (i.2.1:Int))]) (fun i=>⟨[bI ⟨op,m,name,kids⟩],[some i.2.2.2]⟩) ?_ (kids,0,[],0) ⟨rfl,hG,by simp;omega,by simp⟩)
  rintro⟨rest,k,cQ,n'⟩ ⟨h1,h2,h3,h4⟩ IH
  dsimp only at h1 h2 h3 h4
  subst h4
  cases rest with
  |nil=>
   have hC:=drop_nil h1
   simp only[Ex.lL]at h2
   subst h2
   repeat' (first
 |simp only[go_sem,hC,hE,hM,hY]
 | (with_reducible refine aB hQ ?_;exact bg))
  |cons y rest=>
   obtain⟨hE,g2,hC,g4⟩:=drop_cons h1
   have cm:k<4611686018427387904:=by omega
   simp only[Ex.lL]at h2
   simp only[Ex.br]at h3
   have hy:=fun {s:St} {t:Nat} (ht:s.aw[t]? = some (some cQ.length))=>hk y (List.mem_of_getElem? hE) cQ (by omega) ht
   have hl:=sH cQ y
   repeat' (first
 |simp only[go_sem,hC,hE,hM,hY]
 |(with_reducible refine CU (hy (by with_unfolding_all rfl)) ?_)
 | (with_reducible refine aB hQ ?_;exact bg))
   refine eM 1 1 ?_ ?_ (IH (rest,k+1,_,_) ⟨g2,h2,by dsimp only;omega,rfl⟩ (Nat.lt_succ_self _))
   ·(simp only[go_sem,hC,hE,hM,hY,aL cm];try exact cb)
   ·(simp only[go_sem,hC,hE,hM,hY,aL cm];try exact cb)
theorem nu {x:Ex} (hx:x.size≤1000000000) (ht:x.texts) (s:St):az Tryz.prog rP [.agg (bI x)] s (.slice .shared 1 (x.names.map encStr)) s:=by
 refine az.pure ?_ (by simp only[D.bH,D.ok,gT];rfl) (by simp only[D.ok,Tag.ok,eB];rfl) s
 have hm:=fun s=>zP (x:=x) (by omega) ht s
 simp only[Fi]at hm
 unfold Ex.names
 unfold S0
 cases hb:x.may
 ·simp only [hb]at hm
  simp only[Bool.false_eq_true,if_false,List.map_nil]
  refine az.go yC rfl fun B Q hB hQ=>?_
  have⟨hC,hE,hM,hY⟩:=bC
  repeat' (first
 |simp only[go_sem,hC,hE,hM,hY]
 |(with_reducible refine CU (hm _) ?_)
 |(with_reducible refine aB hQ ?_;exact bg))
 ·simp only [hb]at hm
  simp only[if_true]
  have hg : ∀ s,az Tryz.prog iR [.agg (bI x), .slice .full 0 []] s (.slice .shared 1 ((x.mB []).map encStr)) s:=by
   intro s
   obtain⟨op,m,name,kids⟩:=x
   exact WX (fun h2=>TL (by simp only[Ex.may,Bool.and_eq_true]at hb;exact hb.2) h2) hx s
  refine az.go yC rfl fun B Q hB hQ=>?_
  have⟨hC,hE,hM,hY⟩:=bC
  repeat' (first
 |simp only[go_sem,hC,hE,hM,hY]
 |(with_reducible refine CU (hm _) ?_)
 |(with_reducible refine CU (hg _) ?_)
 |(with_reducible refine aB hQ ?_;exact bg))
def Ar.said (out:List aF):List Ar→List aF
 | []=>out
 |a::l=>Ar.said ((if a.ref then out++ [a.name]else out)++a.x.names) l
def Sm.s9 (v:Sm):List aF:=if v.kind != 10 && v.name != []then [v.name]else []
def Sm.said (v:Sm):List aF:=Ar.said (v.s9++v.x.names) v.args
theorem lj (x:Ex):x.names.length≤x.size:=by
 unfold Ex.names
 split
 ·simpa using sH [] x
 ·exact Nat.zero_le _
def Ar.yM:List Ar→Prop
 | []=>True
 |a::l=>a.x.texts∧Ar.yM l
def Sm.nw (v:Sm):Prop:=v.x.texts∧(∀ a∈v.args,a.x.texts)∧v.x.size+Ar.br v.args<1000000
theorem kR {l nx:List aF} {n:Nat} (hn:n=l.length) (h:l.length+nx.length≤1000000000) {g:Tag} (o:List (List D)) :
 gp 1 16 (.slice (.tok 0) 1 (l.map encStr)) (.slice g 1 (nx.map encStr)) ⟨o,[some n]⟩=some (.slice (.tok 0) 1 ((l++nx).map encStr),⟨o,[some (l++nx).length]⟩):=by
 subst hn
 have:=o9 (size:=1) (bytes:=16) (t:=0) (rows:=l.map encStr) (new:=nx.map encStr) (g:=g) (s:=⟨o,[some l.length]⟩) (by simp only[List.length_map];unfold bu;omega) (by simp)
 rw[this]
 simp
theorem BR {v:Sm} (hv:v.nw) (s:St):az Tryz.prog rN [.agg (a8 v)] s (.slice .shared 1 (v.said.map encStr)) s:=by
 refine az.pure ?_ (by simp only[D.bH,D.ok,mY];rfl) (by simp only[D.ok,Tag.ok,eB];rfl) s
 obtain⟨BS,tO,eg⟩:=hv
 obtain⟨R,hG⟩ : ∃ R,v.said=R:=⟨_,rfl⟩
 rw[hG]
 simp only[Sm.said]at hG
 have hlen:v.args.length<1000000000:=by have:=Ar.ei v.args;omega
 have hx:=fun s=>nu (x:=v.x) (by omega) BS s
 have Nn:=lj v.x
 unfold S0
 refine az.go Gn rfl fun B Q hB hQ=>?_
 have⟨hC,hE,hM,hY⟩:=bC
 have hM:17≤bu:=by unfold bu;omega
 by_cases hb:(v.kind != 10 && v.name != [])=true
 ·simp only [Sm.s9,hb,if_true]at hG
  rw[Bool.and_eq_true]at hb
  obtain⟨b1,b2⟩:=hb
  have eS:=kR (l:= [v.name]) (nx:=v.x.names) (n:=1) rfl (by simp;omega) (g:= .shared)
  simp only[List.map_append,List.map_cons,List.map_nil,encStr]at eS
  have b3:(v.name == [])=false:=by simpa using b2
  repeat' (first
 |simp only[go_sem,hC,hE,hM,hY,b1,b2,b3,eS]
 |(with_reducible refine CU (hx _) ?_)
 | (with_reducible refine aB hQ ?_;exact bg))
  refine eM 1 1 ?_ ?_ (bd.ind (ι:=List Ar×Nat×List aF×Nat) (fun i=>v.args.drop i.2.1=i.1∧Ar.said i.2.2.1 i.1=R∧i.2.2.1.length+Ar.br i.1≤2000000∧i.2.2.2=i.2.2.1.length) (fun i=>i.1.length)
   (fun i=> [(3, .slice (.tok 0) 1 (i.2.2.1.map encStr)),(1, .ptr 0 0),(25, .slice .shared 6 (v.args.map eC)),(26, .int .i64 (v.args.length:Int)),(27, .int .i64 (i.2.1:Int))]) (fun i=>⟨[a8 v],[some i.2.2.2]⟩) ?_ (v.args,0,([v.name]++v.x.names),(v.x.names.length+1)) ⟨rfl,hG,by simp at Nn ⊢;omega,by simp⟩)
  ·(simp only[go_sem,hC,hE,hM,hY,List.map_append,List.map_cons,List.map_nil,encStr];try exact cb)
  ·(simp only[go_sem,hC,hE,hM,hY,List.map_append,List.map_cons,List.map_nil,encStr];try exact cb)
  rintro⟨rest,k,out,n'⟩ ⟨h1,h2,h3,h4⟩ IH
  dsimp only at h1 h2 h3 h4
  subst h4
  cases rest with
  |nil=>
   have hC:=drop_nil h1
   simp only[Ar.said]at h2
   subst h2
   repeat' (first
 |simp only[go_sem,hC,hE,hM,hY]
 | (with_reducible refine aB hQ ?_;exact bg))
  | cons a rest=>
   obtain⟨hE,g2,hC,g4⟩:=drop_cons h1
   have cm:k<4611686018427387904:=by omega
   simp only[Ar.said]at h2
   simp only[Ar.br]at h3
   have wV:=fun s=>nu (x:=a.x) (by have:=Ar.dd (List.mem_of_getElem? hE);omega) (tO a (List.mem_of_getElem? hE)) s
   have hl:=lj a.x
   have hM:(out.length+1)*17≤bu:=by unfold bu;omega
   rcases Bool.eq_false_or_eq_true a.ref with b1|b1
   ·simp only [b1,if_true]at h2
    have eS:=kR (l:=out++ [a.name]) (nx:=a.x.names) (n:=out.length+1) (by simp) (by simp;omega) (g:= .shared)
    simp only[List.map_append,List.map_cons,List.map_nil,encStr]at eS
    repeat' (first
 |simp only[go_sem,hC,hE,hM,hY,b1,eS]
 |(with_reducible refine CU (wV _) ?_)
 | (with_reducible refine aB hQ ?_;exact bg))
    refine eM 1 1 ?_ ?_ (IH (rest,k+1,out++ [a.name]++a.x.names,_) ⟨g2,h2,by simp;omega,by simp<;>omega⟩ (Nat.lt_succ_self _))
    ·(simp only[go_sem,hC,hE,hM,hY,aL cm,List.map_append,List.map_cons,List.map_nil,encStr];try exact cb)
    ·(simp only[go_sem,hC,hE,hM,hY,aL cm,List.map_append,List.map_cons,List.map_nil,encStr];try exact cb)
   ·simp only [b1,Bool.false_eq_true,if_false]at h2
    have eS:=kR (l:=out) (nx:=a.x.names) rfl (by omega) (g:= .shared)
    repeat' (first
 |simp only[go_sem,hC,hE,hM,hY,b1,eS]
 |(with_reducible refine CU (wV _) ?_)
 | (with_reducible refine aB hQ ?_;exact bg))
    refine eM 1 1 ?_ ?_ (IH (rest,k+1,out++a.x.names,_) ⟨g2,h2,by simp;omega,by simp<;>omega⟩ (Nat.lt_succ_self _))
    ·(simp only[go_sem,hC,hE,hM,hY,aL cm];try exact cb)
    ·(simp only[go_sem,hC,hE,hM,hY,aL cm];try exact cb)
 ·simp only [Sm.s9,hb,Bool.false_eq_true,if_false,List.nil_append]at hG
  have si:(v.kind != 10 && v.name != [])=false:=by simpa using hb
  obtain⟨nx,hnx⟩ : ∃ nx,nx=v.x.names:=⟨_,rfl⟩
  rw[← hnx]at hG Nn
  simp only[← hnx]at hx
  by_cases JV:nx = []
  ·subst JV
   simp only[List.map_nil]at hx
   have eS : ∀ o:List (List D),gp 1 16 (.slice .full 0 []) (.slice .shared 1 []) ⟨o,[]⟩=some (.slice .full 0 [],⟨o,[]⟩):=fun o=>by simp[gp,bu]
   have HB:(v.kind != 10)=false∨(v.kind != 10)=true∧(v.name != [])=false:=by
    cases h1:(v.kind != 10)
    ·exact .inl rfl
    ·rw[h1]at si;exact .inr ⟨rfl,by simpa using si⟩
   rcases HB with b1|⟨b1,b2⟩
   ·rcases Bool.eq_false_or_eq_true (v.name != [])with b2 | b2
    all_goals
     have b3:(v.name == []) = !(v.name != []):=by simp only[bne,Bool.not_not]
     rw[b2]at b3
     repeat' (first
 |simp only[go_sem,hC,hE,hM,hY,b1,b2,b3,Bool.not_true,Bool.not_false,eS]
 |(with_reducible refine CU (hx _) ?_)
 | (with_reducible refine aB hQ ?_;simp only [aQ,aR,bn,bo,go_sem,hC,hE,hM,hY];repeat' (first | exact Ok.out | with_reducible refine eL ?_ ?_ | (simp;done))))
    all_goals
     refine bd.pY 3 1 rfl ?_
     simp only[go_sem,hC,hE,hM,hY]
     refine dQ 1 1 (bd.ind (ι:=List Ar×Nat×List aF×Nat) (fun i=>v.args.drop i.2.1=i.1∧Ar.said i.2.2.1 i.1=R∧i.2.2.1.length+Ar.br i.1≤2000000∧i.2.2.2=i.2.2.1.length) (fun i=>i.1.length)
      (fun i=> [(3, .slice (.tok 0) 1 (i.2.2.1.map encStr)),(1, .ptr 0 0),(25, .slice .shared 6 (v.args.map eC)),(26, .int .i64 (v.args.length:Int)),(27, .int .i64 (i.2.1:Int))]) (fun i=>⟨[a8 v],[some i.2.2.2]⟩) ?_ (v.args,0,[],0) ⟨rfl,hG,by simp at Nn ⊢;omega,by simp⟩)
     rintro⟨rest,k,out,n'⟩ ⟨h1,h2,h3,h4⟩ IH
     dsimp only at h1 h2 h3 h4
     subst h4
     cases rest with
     |nil=>
      have hC:=drop_nil h1
      simp only[Ar.said]at h2
      subst h2
      repeat' (first
 |simp only[go_sem,hC,hE,hM,hY]
 |(with_reducible refine aB hQ ?_;exact bg))
     | cons a rest=>
      obtain⟨hE,g2,hC,g4⟩:=drop_cons h1
      have cm:k<4611686018427387904:=by omega
      simp only[Ar.said]at h2
      simp only[Ar.br]at h3
      have wV:=fun s=>nu (x:=a.x) (by have:=Ar.dd (List.mem_of_getElem? hE);omega) (tO a (List.mem_of_getElem? hE)) s
      have hl:=lj a.x
      have hM:(out.length+1)*17≤bu:=by unfold bu;omega
      rcases Bool.eq_false_or_eq_true a.ref with b1|b1
      ·simp only [b1,if_true]at h2
       have eS:=kR (l:=out++ [a.name]) (nx:=a.x.names) (n:=out.length+1) (by simp) (by simp;omega) (g:= .shared)
       simp only[List.map_append,List.map_cons,List.map_nil,encStr]at eS
       repeat' (first
 |simp only[go_sem,hC,hE,hM,hY,b1,eS]
 |(with_reducible refine CU (wV _) ?_)
 |(with_reducible refine aB hQ ?_;exact bg))
       refine eM 1 1 ?_ ?_ (IH (rest,k+1,out++ [a.name]++a.x.names,_) ⟨g2,h2,by simp;omega,by simp<;>omega⟩ (Nat.lt_succ_self _))
       ·(simp only[go_sem,hC,hE,hM,hY,aL cm,List.map_append,List.map_cons,List.map_nil,encStr];try exact cb)
       ·(simp only[go_sem,hC,hE,hM,hY,aL cm,List.map_append,List.map_cons,List.map_nil,encStr];try exact cb)
      ·simp only [b1,Bool.false_eq_true,if_false]at h2
       have eS:=kR (l:=out) (nx:=a.x.names) rfl (by omega) (g:= .shared)
       repeat' (first
 |simp only[go_sem,hC,hE,hM,hY,b1,eS]
 |(with_reducible refine CU (wV _) ?_)
 | (with_reducible refine aB hQ ?_;exact bg))
       refine eM 1 1 ?_ ?_ (IH (rest,k+1,out++a.x.names,_) ⟨g2,h2,by simp;omega,by simp<;>omega⟩ (Nat.lt_succ_self _))
       ·(simp only[go_sem,hC,hE,hM,hY,aL cm];try exact cb)
       ·(simp only[go_sem,hC,hE,hM,hY,aL cm];try exact cb)
   ·have b3:(v.name == [])=true:=by simpa using b2
    repeat' (first
 |simp only[go_sem,hC,hE,hM,hY,b1,b2,b3,eS]
 |(with_reducible refine CU (hx _) ?_)
 | (with_reducible refine aB hQ ?_;exact bg))
    refine bd.pY 3 1 rfl ?_
    simp only[go_sem,hC,hE,hM,hY]
    refine dQ 1 1 (bd.ind (ι:=List Ar×Nat×List aF×Nat) (fun i=>v.args.drop i.2.1=i.1∧Ar.said i.2.2.1 i.1=R∧i.2.2.1.length+Ar.br i.1≤2000000∧i.2.2.2=i.2.2.1.length) (fun i=>i.1.length)
     (fun i=> [(3, .slice (.tok 0) 1 (i.2.2.1.map encStr)),(1, .ptr 0 0),(25, .slice .shared 6 (v.args.map eC)),(26, .int .i64 (v.args.length:Int)),(27, .int .i64 (i.2.1:Int))]) (fun i=>⟨[a8 v],[some i.2.2.2]⟩) ?_ (v.args,0,[],0) ⟨rfl,hG,by simp at Nn ⊢;omega,by simp⟩)
    rintro⟨rest,k,out,n'⟩ ⟨h1,h2,h3,h4⟩ IH
    dsimp only at h1 h2 h3 h4
    subst h4
    cases rest with
    |nil=>
     have hC:=drop_nil h1
     simp only[Ar.said]at h2
     subst h2
     repeat' (first
 |simp only[go_sem,hC,hE,hM,hY]
 | (with_reducible refine aB hQ ?_;exact bg))
    | cons a rest=>
     obtain⟨hE,g2,hC,g4⟩:=drop_cons h1
     have cm:k<4611686018427387904:=by omega
     simp only[Ar.said]at h2
     simp only[Ar.br]at h3
     have wV:=fun s=>nu (x:=a.x) (by have:=Ar.dd (List.mem_of_getElem? hE);omega) (tO a (List.mem_of_getElem? hE)) s
     have hl:=lj a.x
     have hM:(out.length+1)*17≤bu:=by unfold bu;omega
     rcases Bool.eq_false_or_eq_true a.ref with b1|b1
     ·simp only [b1,if_true]at h2
      have eS:=kR (l:=out++ [a.name]) (nx:=a.x.names) (n:=out.length+1) (by simp) (by simp;omega) (g:= .shared)
      simp only[List.map_append,List.map_cons,List.map_nil,encStr]at eS
      repeat' (first
 |simp only[go_sem,hC,hE,hM,hY,b1,eS]
 |(with_reducible refine CU (wV _) ?_)
 |(with_reducible refine aB hQ ?_;exact bg))
      refine eM 1 1 ?_ ?_ (IH (rest,k+1,out++ [a.name]++a.x.names,_) ⟨g2,h2,by simp;omega,by simp<;>omega⟩ (Nat.lt_succ_self _))
      ·(simp only[go_sem,hC,hE,hM,hY,aL cm,List.map_append,List.map_cons,List.map_nil,encStr];try exact cb)
      ·(simp only[go_sem,hC,hE,hM,hY,aL cm,List.map_append,List.map_cons,List.map_nil,encStr];try exact cb)
     ·simp only [b1,Bool.false_eq_true,if_false]at h2
      have eS:=kR (l:=out) (nx:=a.x.names) rfl (by omega) (g:= .shared)
      repeat' (first
 |simp only[go_sem,hC,hE,hM,hY,b1,eS]
 |(with_reducible refine CU (wV _) ?_)
 | (with_reducible refine aB hQ ?_;exact bg))
      refine eM 1 1 ?_ ?_ (IH (rest,k+1,out++a.x.names,_) ⟨g2,h2,by simp;omega,by simp<;>omega⟩ (Nat.lt_succ_self _))
      ·(simp only[go_sem,hC,hE,hM,hY,aL cm];try exact cb)
      ·(simp only[go_sem,hC,hE,hM,hY,aL cm];try exact cb)
  ·have eS : ∀ o:List (List D),gp 1 16 (.slice .full 0 []) (.slice .shared 1 (nx.map encStr)) ⟨o,[]⟩=some (.slice (.tok 0) 1 (nx.map encStr),⟨o,[some nx.length]⟩):=fun o=>by
    have:nx.length*17≤bu:=by unfold bu;omega
    cases nx with
    |nil=>exact absurd rfl JV
    |cons a r=>simp only[List.length_cons]at this;simp[gp,this]
   have HB:(v.kind != 10)=false∨(v.kind != 10)=true∧(v.name != [])=false:=by
    cases h1:(v.kind != 10)
    ·exact .inl rfl
    ·rw[h1]at si;exact .inr ⟨rfl,by simpa using si⟩
   rcases HB with b1|⟨b1,b2⟩
   ·rcases Bool.eq_false_or_eq_true (v.name != [])with b2 | b2
    all_goals
     have b3:(v.name == []) = !(v.name != []):=by simp only[bne,Bool.not_not]
     rw[b2]at b3
     repeat' (first
 |simp only[go_sem,hC,hE,hM,hY,b1,b2,b3,Bool.not_true,Bool.not_false,eS]
 |(with_reducible refine CU (hx _) ?_)
 | (with_reducible refine aB hQ ?_;simp only [aQ,aR,bn,bo,go_sem,hC,hE,hM,hY];repeat' (first | exact Ok.out | with_reducible refine eL ?_ ?_ | (simp;done))))
    all_goals
     refine dQ 1 1 (bd.ind (ι:=List Ar×Nat×List aF×Nat) (fun i=>v.args.drop i.2.1=i.1∧Ar.said i.2.2.1 i.1=R∧i.2.2.1.length+Ar.br i.1≤2000000∧i.2.2.2=i.2.2.1.length) (fun i=>i.1.length)
      (fun i=> [(3, .slice (.tok 0) 1 (i.2.2.1.map encStr)),(1, .ptr 0 0),(25, .slice .shared 6 (v.args.map eC)),(26, .int .i64 (v.args.length:Int)),(27, .int .i64 (i.2.1:Int))]) (fun i=>⟨[a8 v],[some i.2.2.2]⟩) ?_ (v.args,0,nx,_) ⟨rfl,hG,by simp at Nn ⊢;omega,by simp⟩)
     rintro⟨rest,k,out,n'⟩ ⟨h1,h2,h3,h4⟩ IH
     dsimp only at h1 h2 h3 h4
     subst h4
     cases rest with
     |nil=>
      have hC:=drop_nil h1
      simp only[Ar.said]at h2
      subst h2
      repeat' (first
 |simp only[go_sem,hC,hE,hM,hY]
 |(with_reducible refine aB hQ ?_;exact bg))
     | cons a rest=>
      obtain⟨hE,g2,hC,g4⟩:=drop_cons h1
      have cm:k<4611686018427387904:=by omega
      simp only[Ar.said]at h2
      simp only[Ar.br]at h3
      have wV:=fun s=>nu (x:=a.x) (by have:=Ar.dd (List.mem_of_getElem? hE);omega) (tO a (List.mem_of_getElem? hE)) s
      have hl:=lj a.x
      have hM:(out.length+1)*17≤bu:=by unfold bu;omega
      rcases Bool.eq_false_or_eq_true a.ref with b1|b1
      ·simp only [b1,if_true]at h2
       have eS:=kR (l:=out++ [a.name]) (nx:=a.x.names) (n:=out.length+1) (by simp) (by simp;omega) (g:= .shared)
       simp only[List.map_append,List.map_cons,List.map_nil,encStr]at eS
       repeat' (first
 |simp only[go_sem,hC,hE,hM,hY,b1,eS]
 |(with_reducible refine CU (wV _) ?_)
 |(with_reducible refine aB hQ ?_;exact bg))
       refine eM 1 1 ?_ ?_ (IH (rest,k+1,out++ [a.name]++a.x.names,_) ⟨g2,h2,by simp;omega,by simp<;>omega⟩ (Nat.lt_succ_self _))
       ·(simp only[go_sem,hC,hE,hM,hY,aL cm,List.map_append,List.map_cons,List.map_nil,encStr];try exact cb)
       ·(simp only[go_sem,hC,hE,hM,hY,aL cm,List.map_append,List.map_cons,List.map_nil,encStr];try exact cb)
      ·simp only [b1,Bool.false_eq_true,if_false]at h2
       have eS:=kR (l:=out) (nx:=a.x.names) rfl (by omega) (g:= .shared)
       repeat' (first
 |simp only[go_sem,hC,hE,hM,hY,b1,eS]
 |(with_reducible refine CU (wV _) ?_)
 | (with_reducible refine aB hQ ?_;exact bg))
       refine eM 1 1 ?_ ?_ (IH (rest,k+1,out++a.x.names,_) ⟨g2,h2,by simp;omega,by simp<;>omega⟩ (Nat.lt_succ_self _))
       ·(simp only[go_sem,hC,hE,hM,hY,aL cm];try exact cb)
       ·(simp only[go_sem,hC,hE,hM,hY,aL cm];try exact cb)
   ·have b3:(v.name == [])=true:=by simpa using b2
    repeat' (first
 |simp only[go_sem,hC,hE,hM,hY,b1,b2,b3,eS]
 |(with_reducible refine CU (hx _) ?_)
 | (with_reducible refine aB hQ ?_;exact bg))
    refine dQ 1 1 (bd.ind (ι:=List Ar×Nat×List aF×Nat) (fun i=>v.args.drop i.2.1=i.1∧Ar.said i.2.2.1 i.1=R∧i.2.2.1.length+Ar.br i.1≤2000000∧i.2.2.2=i.2.2.1.length) (fun i=>i.1.length)
     (fun i=> [(3, .slice (.tok 0) 1 (i.2.2.1.map encStr)),(1, .ptr 0 0),(25, .slice .shared 6 (v.args.map eC)),(26, .int .i64 (v.args.length:Int)),(27, .int .i64 (i.2.1:Int))]) (fun i=>⟨[a8 v],[some i.2.2.2]⟩) ?_ (v.args,0,nx,_) ⟨rfl,hG,by simp at Nn ⊢;omega,by simp⟩)
    rintro⟨rest,k,out,n'⟩ ⟨h1,h2,h3,h4⟩ IH
    dsimp only at h1 h2 h3 h4
    subst h4
    cases rest with
    |nil=>
     have hC:=drop_nil h1
     simp only[Ar.said]at h2
     subst h2
     repeat' (first
 |simp only[go_sem,hC,hE,hM,hY]
 | (with_reducible refine aB hQ ?_;exact bg))
    | cons a rest=>
     obtain⟨hE,g2,hC,g4⟩:=drop_cons h1
     have cm:k<4611686018427387904:=by omega
     simp only[Ar.said]at h2
     simp only[Ar.br]at h3
     have wV:=fun s=>nu (x:=a.x) (by have:=Ar.dd (List.mem_of_getElem? hE);omega) (tO a (List.mem_of_getElem? hE)) s
     have hl:=lj a.x
     have hM:(out.length+1)*17≤bu:=by unfold bu;omega
     rcases Bool.eq_false_or_eq_true a.ref with b1|b1
     ·simp only [b1,if_true]at h2
      have eS:=kR (l:=out++ [a.name]) (nx:=a.x.names) (n:=out.length+1) (by simp) (by simp;omega) (g:= .shared)
      simp only[List.map_append,List.map_cons,List.map_nil,encStr]at eS
      repeat' (first
 |simp only[go_sem,hC,hE,hM,hY,b1,eS]
 |(with_reducible refine CU (wV _) ?_)
 |(with_reducible refine aB hQ ?_;exact bg))
      refine eM 1 1 ?_ ?_ (IH (rest,k+1,out++ [a.name]++a.x.names,_) ⟨g2,h2,by simp;omega,by simp<;>omega⟩ (Nat.lt_succ_self _))
      ·(simp only[go_sem,hC,hE,hM,hY,aL cm,List.map_append,List.map_cons,List.map_nil,encStr];try exact cb)
      ·(simp only[go_sem,hC,hE,hM,hY,aL cm,List.map_append,List.map_cons,List.map_nil,encStr];try exact cb)
     ·simp only [b1,Bool.false_eq_true,if_false]at h2
      have eS:=kR (l:=out) (nx:=a.x.names) rfl (by omega) (g:= .shared)
      repeat' (first
 |simp only[go_sem,hC,hE,hM,hY,b1,eS]
 |(with_reducible refine CU (wV _) ?_)
 |(with_reducible refine aB hQ ?_;exact bg))
      refine eM 1 1 ?_ ?_ (IH (rest,k+1,out++a.x.names,_) ⟨g2,h2,by simp;omega,by simp<;>omega⟩ (Nat.lt_succ_self _))
      ·(simp only[go_sem,hC,hE,hM,hY,aL cm];try exact cb)
      ·(simp only[go_sem,hC,hE,hM,hY,aL cm];try exact cb)
theorem k8 : ∀ (a b:List It) (n:Nat),It.fl n (a++b)=(It.fl n a && It.fl (n+a.length) b)
 | [],b,n=>by simp[It.fl]
 |i::a,b,n=>by
  simp only[List.cons_append,It.fl,k8 a b (n+1),List.length_cons]
  have:n+1+a.length=n+(a.length+1):=by omega
  rw[this]
  split<;>simp
theorem Fk (n:Nat) (i:It):It.fl n [i] = true↔i.s.id=((n+1:Nat):Int)∧i.deep≤12∧i.s.one=true:=by
 simp only[It.fl]
 split
 ·rename_i h
  simp only[Bool.or_eq_true,bne_iff_ne,ne_eq,decide_eq_true_eq,Bool.not_eq_true']at h
  refine⟨fun h=>(Bool.false_ne_true h).elim,fun⟨h1,h2,h3⟩=>?_⟩
  rcases h with (h|h)|h
  ·exact(h h1).elim
  ·omega
  ·rw[h]at h3;cases h3
 ·rename_i h
  simp only[Bool.or_eq_true,bne_iff_ne,ne_eq,decide_eq_true_eq,Bool.not_eq_true',not_or,Decidable.not_not,Bool.not_eq_false]at h
  exact⟨fun _=>⟨h.1.1,by omega,h.2⟩,fun _=>rfl⟩
mutual
theorem BT (deep dD:Int) (bc:Bool) : ∀ (s:Sm) (out:List It),∃ new,kx deep dD bc out s=out++(⟨s,deep,dD,bc⟩::new)
 | ⟨id,kind,labels,name,proc,x,has,args,bm,e⟩,out=>by
  simp only[kx]
  split
  ·obtain⟨n1,h1⟩:=q6 (deep+1) id false bm (out++ [⟨⟨id,kind,labels,name,proc,x,has,args,bm,e⟩,deep,dD,bc⟩])
   obtain⟨n2,h2⟩:=q6 (deep+1) id true e (fO (deep+1) id false (out++ [⟨⟨id,kind,labels,name,proc,x,has,args,bm,e⟩,deep,dD,bc⟩]) bm)
   rw[h2,h1]
   exact⟨n1++n2,by simp⟩
  ·exact⟨[],rfl⟩
theorem q6 (deep dD:Int) (bc:Bool) : ∀ (l:List Sm) (out:List It),∃ new,fO deep dD bc out l=out++new
 | [],out=>⟨[],by simp[fO]⟩
 | s::l,out=>by
  simp only[fO]
  split
  ·obtain⟨n1,h1⟩:=BT deep dD bc s out
   obtain⟨n2,h2⟩:=q6 deep dD bc l (kx deep dD bc out s)
   rw[h2,h1]
   exact⟨⟨s,deep,dD,bc⟩::n1++n2,by simp⟩
  ·exact⟨[],by simp⟩
end
theorem HD {nest:Int} {n:Nat} {s:Sm} (h:(Sm.qa nest n s).1=true) :
 n+1≤200∧s.id=((n+1:Nat):Int)∧s.one=true∧(Sm.gB (nest+1) (n+1) s.bm).1=true∧(Sm.gB (nest+1) (Sm.gB (nest+1) (n+1) s.bm).2 s.bc).1=true∧
 (Sm.qa nest n s).2=(Sm.gB (nest+1) (Sm.gB (nest+1) (n+1) s.bm).2 s.bc).2:=by
 rw[GC]at h ⊢
 split at h
 ·cases h
 rename_i h1
 simp only[Bool.or_eq_true,bne_iff_ne,ne_eq,decide_eq_true_eq,Bool.not_eq_true',not_or,Decidable.not_not,Bool.not_eq_false]at h1
 split at h
 ·cases h
 rename_i h2
 have uF:(Sm.gB (nest+1) (n+1) s.bm).1=true:=by simpa using h2
 refine⟨by omega,h1.1.1.2, ?_,uF,h, ?_⟩
 ·rw[Fj,h1.1.2,h1.2];rfl
 ·rw[if_neg (by simp only[Bool.or_eq_true,bne_iff_ne,ne_eq,decide_eq_true_eq,Bool.not_eq_true',not_or,Decidable.not_not,Bool.not_eq_false];exact h1),if_neg h2]
theorem tP {nest:Int} {n:Nat} {l:List Sm} (h:(Sm.gB nest n l).1=true):(l = []∨nest≤12)∧Sm.gB nest n l=Sm.ff nest n l:=by
 unfold Sm.gB gate at *
 split at h
 ·cases h
 ·rename_i hc
  rw[if_neg hc]
  refine⟨?_,rfl⟩
  simp only[Bool.and_eq_true,decide_eq_true_eq,not_and]at hc
  cases l with
  |nil=>exact .inl rfl
  |cons s l=>right;simp only[List.length_cons]at hc;omega
mutual
theorem TN : ∀ (s:Sm) (nest dD:Int) (bc:Bool) (n:Nat) (out:List It),nest≤12→out.length≤n→n≤200→(Sm.qa nest n s).1=true→
 ∃ new,kx nest dD bc out s=out++new∧It.fl n new=true∧n+new.length=(Sm.qa nest n s).2∧(Sm.qa nest n s).2≤200
 | ⟨id,kind,labels,name,proc,x,has,args,bm,e⟩,nest,dD,bc,n,out,TO,ho,hn,h=>by
  obtain⟨h1,h2,h3,h4,h5,h6⟩:=HD h
  dsimp only at h2 h4 h5 h6
  rw[h6]
  obtain⟨g1,e1⟩:=tP h4
  rw[e1]at h4 h5 ⊢
  obtain⟨g2,e2⟩:=tP h5
  rw[e2]at h5 ⊢
  have pT:It.fl n [(⟨⟨id,kind,labels,name,proc,x,has,args,bm,e⟩,nest,dD,bc⟩:It)] = true:=(Fk _ _).2 ⟨h2,TO,h3⟩
  obtain⟨n1,k1,k2,k3,k4⟩:=wW bm (nest+1) id false (n+1) (out++ [⟨⟨id,kind,labels,name,proc,x,has,args,bm,e⟩,nest,dD,bc⟩]) g1 (by simp;omega) h1 h4
  obtain⟨n2,j1,j2,j3,j4⟩:=wW e (nest+1) id true _ (out++ [⟨⟨id,kind,labels,name,proc,x,has,args,bm,e⟩,nest,dD,bc⟩]++n1) g2 (by simp;omega) k4 h5
  simp only[kx]
  rw[if_pos (by simpa using TO),k1,j1]
  refine⟨⟨⟨id,kind,labels,name,proc,x,has,args,bm,e⟩,nest,dD,bc⟩::(n1++n2),by simp, ?_, ?_,j4⟩
  ·have:(⟨⟨id,kind,labels,name,proc,x,has,args,bm,e⟩,nest,dD,bc⟩:It)::(n1++n2) = [⟨⟨id,kind,labels,name,proc,x,has,args,bm,e⟩,nest,dD,bc⟩]++n1++n2:=by simp
   rw[this,k8,k8,pT,Bool.true_and]
   have e3:n+([(⟨⟨id,kind,labels,name,proc,x,has,args,bm,e⟩,nest,dD,bc⟩:It)]++n1).length=(Sm.ff (nest+1) (n+1) bm).2:=by simp;omega
   rw[e3,j2]
   have e4:n + [(⟨⟨id,kind,labels,name,proc,x,has,args,bm,e⟩,nest,dD,bc⟩:It)].length=n+1:=rfl
   rw[e4,k2];rfl
  ·simp only[List.length_cons,List.length_append];omega
theorem wW : ∀ (l:List Sm) (nest dD:Int) (bc:Bool) (n:Nat) (out:List It),(l = []∨nest≤12)→out.length≤n→n≤200→(Sm.ff nest n l).1=true→
 ∃ new,fO nest dD bc out l=out++new∧It.fl n new=true∧n+new.length=(Sm.ff nest n l).2∧(Sm.ff nest n l).2≤200
 | [],nest,dD,bc,n,out,TO,ho,hn,h=>⟨[],by simp[fO],rfl,by simp[Sm.ff],by simpa[Sm.ff]using hn⟩
 |s::l,nest,dD,bc,n,out,TO,ho,hn,h=>by
  have aeD:nest≤12:=TO.resolve_left (by simp)
  simp only[Sm.ff]at h ⊢
  split at h
  ·cases h
  rename_i hc
  rw[if_neg hc]
  obtain⟨n1,k1,k2,k3,k4⟩:=TN s nest dD bc n out aeD ho hn (by simpa using hc)
  obtain⟨n2,j1,j2,j3,j4⟩:=wW l nest dD bc _ (out++n1) (.inr aeD) (by simp;omega) k4 h
  simp only[fO]
  rw[if_pos (by simp only[decide_eq_true_eq];omega),k1,j1]
  refine⟨n1++n2,by simp, ?_,by simp;omega,j4⟩
  rw[k8,k2,k3,j2];rfl
end
mutual
theorem TP : ∀ (s:Sm) (nest dD:Int) (bc:Bool) (n:Nat) (out new:List It),kx nest dD bc out s=out++new→It.fl n new=true→out.length≤n→n+new.length≤200→
 Sm.qa nest n s=(true,n+new.length)∧nest≤12
 | ⟨id,kind,labels,name,proc,x,has,args,bm,e⟩,nest,dD,bc,n,out,new,jk,hm,ho,hn=>by
  obtain⟨n0,h0⟩:=BT nest dD bc ⟨id,kind,labels,name,proc,x,has,args,bm,e⟩ out
  have e0:new = ⟨⟨id,kind,labels,name,proc,x,has,args,bm,e⟩,nest,dD,bc⟩::n0:=List.append_cancel_left (jk.symm.trans h0)
  subst e0
  have ah3:(⟨⟨id,kind,labels,name,proc,x,has,args,bm,e⟩,nest,dD,bc⟩:It)::n0 = [⟨⟨id,kind,labels,name,proc,x,has,args,bm,e⟩,nest,dD,bc⟩]++n0:=rfl
  rw[ah3,k8,Bool.and_eq_true]at hm
  obtain⟨ny,jK⟩:=hm
  obtain⟨c1,c2,c3⟩:=(Fk _ _).1 ny
  dsimp only at c1 c2 c3
  simp only[List.length_cons]at hn ⊢
  have WY:fO (nest+1) id true (fO (nest+1) id false (out++ [⟨⟨id,kind,labels,name,proc,x,has,args,bm,e⟩,nest,dD,bc⟩]) bm) e=out++([⟨⟨id,kind,labels,name,proc,x,has,args,bm,e⟩,nest,dD,bc⟩]++n0):=by
   simp only[kx]at jk
   rw[if_pos (by simpa using c2)]at jk
   exact jk
  obtain⟨n1,g1⟩:=q6 (nest+1) id false bm (out++ [⟨⟨id,kind,labels,name,proc,x,has,args,bm,e⟩,nest,dD,bc⟩])
  obtain⟨n2,g2⟩:=q6 (nest+1) id true e (fO (nest+1) id false (out++ [⟨⟨id,kind,labels,name,proc,x,has,args,bm,e⟩,nest,dD,bc⟩]) bm)
  have en:n0=n1++n2:=by
   rw[g2,g1]at WY
   simp only[List.append_assoc,List.append_cancel_left_eq]at WY
   exact WY.symm
  subst en
  have WZ:It.fl (n+1) (n1++n2)=true:=jK
  rw[k8,Bool.and_eq_true]at WZ
  simp only[List.length_append]at hn ⊢
  obtain⟨r1,r2⟩:=wX bm (nest+1) id false (n+1) _ n1 g1 WZ.1 (by simp;omega) (by omega)
  obtain⟨q1,q2⟩:=wX e (nest+1) id true (n+1+n1.length) _ n2 g2 WZ.2 (by rw[g1];simp;omega) (by omega)
  refine⟨?_,c2⟩
  have gg : ∀ {l:List Sm} {m:Nat} {r:Bool×Nat},Sm.ff (nest+1) m l=r→(l = []∨nest+1≤12)→Sm.gB (nest+1) m l=r:=by
   intro l m r h1 h2
   unfold Sm.gB gate
   rw[if_neg]
   ·exact h1
   ·simp only [Bool.and_eq_true,decide_eq_true_eq,not_and]
    rcases h2 with h2|h2
    ·subst h2;simp
    ·omega
  have t1:=gg r1 r2
  have t2:=gg q1 q2
  rw[GC]
  dsimp only
  rw[t1]
  dsimp only
  rw[t2]
  rw[Fj,Bool.and_eq_true]at c3
  rw[if_neg]
  ·simp;omega
  ·simp only [Bool.or_eq_true,bne_iff_ne,ne_eq,decide_eq_true_eq,Bool.not_eq_true',not_or,Decidable.not_not,Bool.not_eq_false]
   exact⟨⟨⟨by omega,c1⟩,c3.1⟩,c3.2⟩
theorem wX : ∀ (l:List Sm) (nest dD:Int) (bc:Bool) (n:Nat) (out new:List It),fO nest dD bc out l=out++new→It.fl n new=true→out.length≤n→n+new.length≤200→
 Sm.ff nest n l=(true,n+new.length)∧(l = []∨nest≤12)
 | [],nest,dD,bc,n,out,new,jk,hm,ho,hn=>by
  simp only[fO]at jk
  have:new = []:=by simpa using jk
  subst this
  exact⟨by simp[Sm.ff], .inl rfl⟩
 | s::l,nest,dD,bc,n,out,new,jk,hm,ho,hn=>by
  simp only[fO]at jk
  rw[if_pos (by simp only[decide_eq_true_eq];omega)]at jk
  obtain⟨n1,g1⟩:=BT nest dD bc s out
  obtain⟨n2,g2⟩:=q6 nest dD bc l (kx nest dD bc out s)
  have en:new=(⟨s,nest,dD,bc⟩::n1)++n2:=by
   rw[g2,g1,List.append_assoc,List.append_cancel_left_eq]at jk
   exact jk.symm
  subst en
  rw[k8,Bool.and_eq_true]at hm
  rw[List.length_append]at hn ⊢
  obtain⟨r1,r2⟩:=TP s nest dD bc n out _ g1 hm.1 ho (by omega)
  obtain⟨q1,q2⟩:=wX l nest dD bc (n+(⟨s,nest,dD,bc⟩::n1:List It).length) _ n2 g2 hm.2 (by rw[g1,List.length_append];omega) (by omega)
  refine⟨?_, .inr r2⟩
  simp only[Sm.ff,r1,Bool.not_true,Bool.false_eq_true,↓reduceIte,q1]
  congr 1;omega
end
theorem BU : ∀ (l:List Pc) (out:List It),out.length≤200→(Pc.ff out.length l=true↔Pc.pH l=true∧∃ new,allM out l=out++new∧(out++new).length≤200∧It.fl out.length new=true)
 | [],out,ho=>by simp[Pc.ff,Pc.pH,allM,It.fl];exact ho
 | f::l,out,ho=>by
  have qb : ∀ (l:List Pc) (out:List It),∃ new,allM out l=out++new:=by
   intro l
   induction l with
   |nil=>intro out;exact⟨[],by simp[allM]⟩
   | cons f l ih=>
    intro out
    simp only[allM]
    split
    ·exact⟨_,rfl⟩
    ·obtain⟨n1,h1⟩:=ih (out++f.flat)
     exact⟨f.flat++n1,by rw[h1,List.append_assoc]⟩
  simp only[Pc.ff,Pc.pH]
  have ah4:(decide ((f.params.length:Int) > 8) ||decide ((f.vars.length:Int) > 16) || !(isName f.name) || !(eo f.vars) || !(eo f.fin))=(!(isName f.name) ||decide ((f.params.length:Int) > 8) ||decide ((f.vars.length:Int) > 16) || !(eo f.vars) || !(eo f.fin)):=by
   cases isName f.name<;>simp
  rw[ah4]
  split
  ·simp
  split
  ·simp
  have hg:Sm.gB 1 out.length f.body=Sm.ff 1 out.length f.body:=by unfold Sm.gB gate;rw[if_neg (by simp)]
  rw[hg]
  constructor
  ·intro h
   split at h
   ·cases h
   rename_i hc
   obtain⟨n1,k1,k2,k3,k4⟩:=wW f.body 1 0 false out.length [] (.inr (by omega)) (by simp) ho (by simpa using hc)
   have jk:f.flat=n1:=by unfold Pc.flat;rw[k1];rfl
   rw[← k3, ← List.length_append]at h
   obtain⟨hh,n2,j1,j2,j3⟩:=(BU l (out++n1) (by rw[List.length_append];omega)).1 h
   refine⟨hh,n1++n2, ?_,by simpa using j2, ?_⟩
   ·simp only [allM,jk]
    rw[if_neg (by simp only[List.length_append,decide_eq_true_eq];omega),j1,List.append_assoc]
   ·rw[k8,k2, ← List.length_append,j3];rfl
  ·rintro⟨hh,new,j1,j2,j3⟩
   simp only[allM]at j1
   split at j1
   ·rename_i hc
    have:new=f.flat:=(List.append_cancel_left j1).symm
    subst this
    simp only[decide_eq_true_eq]at hc
    omega
   rename_i hc
   simp only[decide_eq_true_eq]at hc
   obtain⟨n2,g2⟩:=qb l (out++f.flat)
   have en:new=f.flat++n2:=by
    rw[g2,List.append_assoc]at j1
    exact(List.append_cancel_left j1).symm
   subst en
   rw[k8,Bool.and_eq_true]at j3
   rw[List.length_append,List.length_append]at j2
   obtain⟨r1,_⟩:=wX f.body 1 0 false out.length [] f.flat (by unfold Pc.flat;rfl) j3.1 (by simp) (by omega)
   rw[r1]
   simp only[Bool.not_true,Bool.false_eq_true,↓reduceIte]
   rw[← List.length_append]
   exact(BU l (out++f.flat) (by rw[List.length_append];omega)).2 ⟨hh,n2,g2,by simp;omega,by rw[List.length_append];exact j3.2⟩
theorem CD (p:Pg):p.GF=p.may:=by
 have h:=BU p.procs [] (by simp)
 unfold Pg.GF Pg.may
 split
 ·rfl
 ·have e:Pc.ff 0 p.procs=(if !(Pc.pH p.procs)then false else if decide ((p.all.length:Int) > 200)then false else It.fl 0 p.all):=by
   rw[Bool.eq_iff_iff]
   have h':Pc.ff 0 p.procs=true↔_:=h
   rw[h']
   have ha:p.all=allM [] p.procs:=rfl
   constructor
   ·rintro⟨h1,new,h2,h3,h4⟩
    rw[ha,h2,h1]
    simp only[List.nil_append]at h3 ⊢
    simp only[Bool.not_true,Bool.false_eq_true,↓reduceIte]
    rw[if_neg (by simp only[decide_eq_true_eq];omega)]
    exact h4
   ·intro h1
    cases hh:Pc.pH p.procs
    ·rw[hh]at h1;simp at h1
    ·rw [hh]at h1
     simp only[Bool.not_true,Bool.false_eq_true,↓reduceIte]at h1
     split at h1
     ·cases h1
     ·rename_i hc
      simp only[decide_eq_true_eq]at hc
      exact⟨rfl,p.all,by rw[ha];rfl,by simp;omega,h1⟩
  exact e
theorem Fl {size bytes z:Nat} {g:Tag} {rows:List (List D)} {s:St} (h:rows.length*(bytes+1)≤bu) (hr:rows≠ []) :
 gp size bytes (.slice .full z []) (.slice g size rows) s=some (.slice (.tok s.aw.length) size rows,⟨s.ah,s.aw++ [some rows.length]⟩):=by
 cases rows with
 |nil=>exact absurd rfl hr
 |cons r l=>simp only[gp];simp at h ⊢;exact h
theorem wY {l:List aF} (hl:l.length<1073741824) (g:Tag) (s:St):az Tryz.prog fe [.slice g 1 (l.map encStr)] s (.slice .shared 1 (l.map encStr)) s:=by
 refine bP.ou (.cons (Wk.shared _ _ _) .nil) (az.pure ?_ (by simp[D.bH,D.ok,Tag.ok,eB]) (by simp[D.ok,Tag.ok,eB]) s)
 unfold S0
 refine az.go lP rfl fun B Q hB hQ=>?_
 have⟨hC,hE,hM,hY⟩:=bC
 cases l with
 |nil=>
  repeat' (first
 |simp only[go_sem,hC,hE,hM,hY]
 |(with_reducible refine aB hQ ?_;exact bg))
  refine DR (fun _=>?_) ?_
  ·repeat' (first
 |simp only[go_sem,hC,hE,hM,hY,gp,true_or,Nat.zero_le]
 |(with_reducible refine aB hQ ?_;exact bg))
  ·repeat' (first
 |simp only[go_sem,hC,hE,hM,hY,gp,true_or,Nat.zero_le]
 |(with_reducible refine aB hQ ?_;exact bg))
 |cons x l=>
  have e:((x::l).map encStr).length*(16+1)≤bu:=by simp only[List.length_map,bu];omega
  have e2:=fun s=>Fl (size:=1) (z:=1) (g:= .shared) (s:=s) e (by simp)
  simp only[List.map_cons,encStr]at e2
  repeat' (first
 |simp only[go_sem,hC,hE,hM,hY,e2]
 |(with_reducible refine aB hQ ?_;exact bg))
theorem W0 {l:List Pm} (hl:l.length<1073741824) (g:Tag) (s:St):az Tryz.prog lE [.slice g 2 (l.map gN)] s (.slice .shared 2 (l.map gN)) s:=by
 refine bP.ou (.cons (Wk.shared _ _ _) .nil) (az.pure ?_ (by simp[D.bH,D.ok,Tag.ok,Qh]) (by simp[D.ok,Tag.ok,Qh]) s)
 unfold S0
 refine az.go uu rfl fun B Q hB hQ=>?_
 have⟨hC,hE,hM,hY⟩:=bC
 cases l with
 |nil=>
  repeat' (first
 |simp only[go_sem,hC,hE,hM,hY]
 |(with_reducible refine aB hQ ?_;exact bg))
  refine DR (fun _=>?_) ?_
  ·repeat' (first
 |simp only[go_sem,hC,hE,hM,hY,gp,true_or,Nat.zero_le]
 |(with_reducible refine aB hQ ?_;exact bg))
  ·repeat' (first
 |simp only[go_sem,hC,hE,hM,hY,gp,true_or,Nat.zero_le]
 |(with_reducible refine aB hQ ?_;exact bg))
 |cons x l=>
  have e:((x::l).map gN).length*(24+1)≤bu:=by simp only[List.length_map,bu];omega
  have e2:=fun s=>Fl (size:=2) (z:=2) (g:= .shared) (s:=s) e (by simp)
  simp only[List.map_cons,encStr]at e2
  repeat' (first
 |simp only[go_sem,hC,hE,hM,hY,e2]
 |(with_reducible refine aB hQ ?_;exact bg))
theorem aeE : ∀ n,n<1073741824→∀ x:Ex,x.size≤n→az Tryz.prog my [.agg (bI x)] S0 (.agg (bI x)) S0:=by
 intro n
 induction n with
 |zero=>rintro _ ⟨op,m,name,kids⟩ h;simp only[Ex.size]at h;omega
 |succ n ihn=>
 rintro hn ⟨op,m,name,kids⟩ hx
 have hk : ∀ y∈kids,∀ s,az Tryz.prog my [.agg (bI y)] s (.agg (bI y)) s:=fun y hy s=>
  (ihn (by omega) y (by simp only[Ex.size]at hx;have:=Ex.dd hy;omega)).pure (by simp[D.bH,D.ok,gT]) (by simp[D.ok,gT]) s
 have hlen:kids.length<1073741824:=by simp only[Ex.size]at hx;have:=Ex.ei kids;omega
 unfold S0
 refine az.go Ik rfl fun B Q hB hQ=>?_
 have⟨hC,hE,hM,hY⟩:=bC
 repeat' (first
 |simp only[go_sem,hC,hE,hM,hY]
 |(with_reducible refine aB hQ ?_;exact bg))
 refine bd.pZ 0 3 4 rfl rfl ?_
 simp only[go_sem,hC,hE,hM,hY]
 refine dQ 2 1 (bd.ind (ι:=List Ex×Nat×List Ex) (fun i=>kids.drop i.2.1=i.1∧i.2.1=i.2.2.length∧i.2.2++i.1=kids) (fun i=>i.1.length)
  (fun i=> [(1, .ptr 0 0),(2, .ptr 1 0),(9, .slice .shared 4 (kids.map bI)),(10, .int .i64 (kids.length:Int)),(11, .int .i64 (i.2.1:Int))])
  (fun i=>⟨[[.int .i64 op, .int .i64 m, .str name, .slice (.tok 0) 4 (i.2.2.map bI)],bI qg],[some i.2.1]⟩) ?_ (kids,0,[]) ⟨rfl,rfl,rfl⟩)
 rintro⟨rest,k,acc⟩ ⟨h1,h2,h3⟩ IH
 dsimp only at h1 h2 h3
 subst h2
 cases rest with
 |nil=>
  have hC:=drop_nil h1
  rw[List.append_nil]at h3
  subst h3
  repeat' (first
 |simp only[go_sem,hC,hE,hM,hY]
 |(with_reducible refine aB hQ ?_;exact bg))
 |cons y rest=>
  obtain⟨hE,g2,hC,g4⟩:=drop_cons h1
  have hM:acc.length<4611686018427387904:=by omega
  have fL:(acc.length+1)*57≤bu:=by simp only[bu];omega
  have hy:=hk y (List.mem_of_getElem? hE)
  repeat' (first
 |simp only[go_sem,hC,hE,hM,hY,fL]
 |(with_reducible refine CU (hy _) ?_)
 |(with_reducible refine aB hQ ?_;exact bg))
  refine dQ 2 1 (IH (rest,acc.length+1,acc++ [y]) ⟨g2,by simp,by simp only[List.append_assoc,List.cons_append,List.nil_append];exact h3⟩ (Nat.lt_succ_self _))
theorem TQ {x:Ex} (h:x.size<1073741824) (s:St):az Tryz.prog my [.agg (bI x)] s (.agg (bI x)) s:=
 (aeE x.size h x (Nat.le_refl _)).pure (by simp[D.bH,D.ok,gT]) (by simp[D.ok,gT]) s
abbrev Zo (b:Bool) (N:Nat):Prop:=∀ l:List Sm,Sm.br l<N→∀ n:Nat,n+Sm.br l<1073741824→∀ s:St,
 az Tryz.prog kQ [.slice .shared 13 (l.map a8), .int .i64 (n:Int), .bool b] s (.tuple [.slice .shared 13 ((Sm.ik b n l).1.map a8), .int .i64 ((Sm.ik b n l).2:Int)]) s
theorem W1 {N:Nat} (ih:Zo true N) (l:List Sm) (hl:Sm.br l<N+1) (n:Nat) (hn:n+Sm.br l<1073741824) :
 az Tryz.prog kQ [.slice .shared 13 (l.map a8), .int .i64 (n:Int), .bool true] S0 (.tuple [.slice .shared 13 ((Sm.ik true n l).1.map a8), .int .i64 ((Sm.ik true n l).2:Int)]) S0:=by
 unfold S0
 refine az.go EY rfl fun B Q hB hQ=>?_
 have⟨hC,hE,hM,hY⟩:=bC
 repeat' (first
 |simp only[go_sem,hC,hE,hM,hY]
 |(with_reducible refine aB hQ ?_;exact bg))
 have hlen:l.length<1073741824:=by have:=Sm.ei l;omega
 refine bd.pY 8 13 rfl ?_
 simp only[go_sem,hC,hE,hM,hY]
 refine dQ 0 1 (bd.ind (ι:=List Sm×Nat×List Sm×Nat) (fun i=>l.drop i.2.1=i.1∧i.2.1=i.2.2.1.length∧Sm.ik true n l=(i.2.2.1++(Sm.ik true i.2.2.2 i.1).1,(Sm.ik true i.2.2.2 i.1).2)∧i.2.2.2+Sm.br i.1≤n+Sm.br l) (fun i=>i.1.length)
  (fun i=> [(1, .int .i64 (i.2.2.2:Int)),(2, .bool true),(8, .slice (.tok 0) 13 (i.2.2.1.map a8)),(14, .slice .shared 13 (l.map a8)),(15, .int .i64 (l.length:Int)),(16, .int .i64 (i.2.1:Int))])
  (fun i=>⟨[],[some i.2.1]⟩) ?_ (l,0,[],n) ⟨rfl,rfl,rfl,Nat.le_refl _⟩)
 rintro⟨rest,k,acc,m⟩ ⟨h1,h2,h3,h4⟩ IH
 dsimp only at h1 h2 h3 h4
 subst h2
 cases rest with
 |nil=>
  have hC:=drop_nil h1
  simp only[Sm.ik,List.append_nil]at h3
  rw[h3]at hQ
  repeat' (first
 |simp only[go_sem,hC,hE,hM,hY]
 |(with_reducible refine aB hQ ?_;exact bg))
 |cons y rest=>
  obtain⟨hE,g2,hC,g4⟩:=drop_cons h1
  simp only[Sm.br]at h4 hl
  have hm:m<4611686018427387904:=by omega
  have hk:acc.length<4611686018427387904:=by omega
  have eg:y.size≤N:=by have:=Sm.dd (List.mem_of_getElem? hE);omega
  obtain⟨id,kind,labels,name,proc,x,has,args,bm,bc⟩:=y
  simp only[Sm.size]at eg h4
  have fL:(acc.length+1)*209≤bu:=by simp only[bu];omega
  have hx:=fun s=>TQ (x:=x) (by omega) s
  simp only[jz]at hx
  have nF:=fun g s=>wY (l:=labels) (by omega) g s
  have Av:=Ar.ei args
  repeat' (first
 |simp only[go_sem,hC,hE,hM,hY,aL hm]
 |(with_reducible refine CU (nF _ _) ?_)
 |(with_reducible refine CU (hx _) ?_)
 | (with_reducible refine aB hQ ?_;exact bg))
  refine bd.pZ 1 10 6 rfl rfl ?_
  simp only[go_sem,hC,hE,hM,hY]
  refine dQ 2 2 (bd.ind (ι:=List Ar×Nat×List Ar) (fun i=>args.drop i.2.1=i.1∧i.2.1=i.2.2.length∧i.2.2++i.1=args) (fun i=>i.1.length)
   (fun i=> [(1, .int .i64 ((m+1:Nat):Int)),(2, .bool true),(8, .slice (.tok 0) 13 (acc.map a8)),(10, .ptr 0 0),(11, .ptr 1 0),(14, .slice .shared 13 (l.map a8)),(15, .int .i64 (l.length:Int)),(16, .int .i64 (acc.length:Int)),
    (36, .slice .shared 6 (args.map eC)),(37, .int .i64 (args.length:Int)),(38, .int .i64 (i.2.1:Int))])
   (fun i=>⟨[a8 ⟨id,kind,labels,name,proc,x,has,args,bm,bc⟩,[.int .i64 ((m+1:Nat):Int), .int .i64 kind, .slice .shared 1 (labels.map encStr), .str name, .str proc, .int .i64 x.op, .int .i64 x.n, .str x.name, .slice .shared 4 (x.kids.map bI), .bool has, .slice (.tok 1) 6 (i.2.2.map eC), .slice .shared 13 (bm.map a8), .slice .shared 13 (bc.map a8)]],[some acc.length,some i.2.1]⟩) ?_ (args,0,[]) ⟨rfl,rfl,rfl⟩)
  rintro⟨QW,ka,GG⟩ ⟨j1,j2,j3⟩ IHa
  dsimp only at j1 j2 j3
  subst j2
  cases QW with
  |nil=>
   have hC:=drop_nil j1
   rw[List.append_nil]at j3
   subst j3
   have b1:=Sm.vf true (m+1) bm
   have b2:=Sm.vf true (Sm.ik true (m+1) bm).2 bc
   have c1:=ih bm (by omega) (m+1) (by omega)
   have c2:=ih bc (by omega) (Sm.ik true (m+1) bm).2 (by omega)
   repeat' (first
 |simp only[go_sem,hC,hE,hM,hY,fL]
 |(with_reducible refine CU (c1 _) ?_)
 |(with_reducible refine CU (c2 _) ?_)
 | (with_reducible refine aB hQ ?_;exact bg))
   refine eM 0 1 ?_ ?_ (IH (rest,acc.length+1,acc++ [(Sm.num true m ⟨id,kind,labels,name,proc,x,has,GG,bm,bc⟩).1],(Sm.num true m ⟨id,kind,labels,name,proc,x,has,GG,bm,bc⟩).2) ⟨g2,by simp,by rw[h3];simp[Sm.ik],by simp only[Sm.num];omega⟩ (Nat.lt_succ_self _))
   ·(simp only[go_sem,hC,hE,hM,hY,aL hk,Sm.num];try exact cb)
   ·(simp only[go_sem,hC,hE,hM,hY,aL hk,Sm.num];try exact cb)
  |cons a QW=>
   obtain⟨hE,g2,hC,g4⟩:=drop_cons j1
   have ha:a.x.size<1073741824:=by have:=Ar.dd (List.mem_of_getElem? hE);omega
   have Hf:GG.length<4611686018427387904:=by omega
   have aeF:(GG.length+1)*81≤bu:=by simp only[bu];omega
   have hxa:=fun s=>TQ ha s
   simp only[jz]at hxa
   obtain⟨asR,ah5,ax⟩:=a
   repeat' (first
 |simp only[go_sem,hC,hE,hM,hY,aeF]
 |(with_reducible refine CU (hxa _) ?_)
 | (with_reducible refine aB hQ ?_;exact bg))
   refine eM 2 2 ?_ ?_ (IHa (QW,GG.length+1,GG++ [⟨asR,ah5,ax⟩]) ⟨g2,by simp,by simp only[List.append_assoc,List.cons_append,List.nil_append];exact j3⟩ (Nat.lt_succ_self _))
   ·(simp only[go_sem,hC,hE,hM,hY,aL Hf];try exact cb)
   ·(simp only[go_sem,hC,hE,hM,hY,aL Hf];try exact cb)
theorem aaV : ∀ N,Zo true N:=by
 intro N
 induction N with
 |zero=>intro l hl;exact absurd hl (Nat.not_lt_zero _)
 |succ N ih=>
  intro l hl n hn s
  exact(W1 ih l hl n hn).pure (by simp[D.bH,D.ok,Tag.ok,oK]) (by simp[D.bH,D.ok,Tag.ok,oK]) s
theorem ah6 {l:List Sm} {n:Nat} (h:n+Sm.br l<1073741824) (s:St) :
 az Tryz.prog kQ [.slice .shared 13 (l.map a8), .int .i64 (n:Int), .bool true] s (.tuple [.slice .shared 13 ((Sm.ik true n l).1.map a8), .int .i64 ((Sm.ik true n l).2:Int)]) s:=
 aaV _ l (Nat.lt_succ_self _) n h s
theorem W2 {p:Pg} (hp:p.size<1073741824):az Tryz.prog qz [.agg (cR p)] S0 (.agg (cR p.number)) S0:=by
 obtain⟨globals,procs⟩:=p
 simp only[Pg.size]at hp
 have hlen:procs.length<1073741824:=by have:=Pc.ei procs;omega
 have hcg:=fun g s=>wY (l:=globals) (by omega) g s
 unfold S0
 refine az.go EW rfl fun B Q hB hQ=>?_
 have⟨hC,hE,hM,hY⟩:=bC
 repeat' (first
 |simp only[go_sem,hC,hE,hM,hY]
 |(with_reducible refine CU (hcg _ _) ?_)
 |(with_reducible first|refine aX fun hc=>?_|refine aY fun hc=>?_|refine aZ (fun hc=>?_) fun hc=>?_)<;>(try simp only[hc,bs,↓reduceIte]at h)<;>try simp only[hc]
 |(with_reducible refine aB hQ ?_;exact bg))
 refine bd.pZ 2 1 5 rfl rfl ?_
 simp only[go_sem,hC,hE,hM,hY]
 refine dQ 3 1 (bd.ind (ι:=List Pc×Nat×List Pc×Nat) (fun i=>procs.drop i.2.1=i.1∧i.2.1=i.2.2.1.length∧Pc.ik 0 procs=i.2.2.1++Pc.ik i.2.2.2 i.1∧i.2.2.2+Pc.br i.1≤Pc.br procs) (fun i=>i.1.length)
  (fun i=> [(2, .ptr 1 0),(3, .int .i64 (i.2.2.2:Int)),(4, .ptr 2 0),(13, .slice .shared 5 (procs.map cH)),(14, .int .i64 (procs.length:Int)),(15, .int .i64 (i.2.1:Int))])
  (fun i=>⟨[cR ⟨globals,procs⟩,cR Yw,[.slice .shared 1 (globals.map encStr), .slice (.tok 0) 5 (i.2.2.1.map cH)]],[some i.2.1]⟩) ?_ (procs,0,[],0) ⟨rfl,rfl,rfl,by dsimp only;omega⟩)
 rintro⟨rest,k,acc,m⟩ ⟨h1,h2,h3,h4⟩ IH
 dsimp only at h1 h2 h3 h4
 subst h2
 cases rest with
 |nil=>
  have hC:=drop_nil h1
  simp only[Pc.ik,List.append_nil]at h3
  subst h3
  repeat' (first
 |simp only[go_sem,hC,hE,hM,hY,Pg.number]
 |(with_reducible first|refine aX fun hc=>?_|refine aY fun hc=>?_|refine aZ (fun hc=>?_) fun hc=>?_)<;>(try simp only[hc,bs,↓reduceIte]at h)<;>try simp only[hc]
 |(with_reducible refine aB hQ ?_;simp only[aQ,aR,bn,bo,go_sem,hC,hE,hM,hY,Pg.number];try exact bR))
 |cons y rest=>
  obtain⟨hE,g2,hC,g4⟩:=drop_cons h1
  simp only[Pc.br]at h4
  have eg:=Pc.dd (List.mem_of_getElem? hE)
  obtain⟨name,params,vars,body,fin⟩:=y
  simp only[Pc.size]at eg h4
  have hk:acc.length<4611686018427387904:=by omega
  have fL:(acc.length+1)*113≤bu:=by simp only[bu];omega
  have c1:=fun g s=>W0 (l:=params) (by omega) g s
  have c2:=fun g s=>wY (l:=vars) (by omega) g s
  have c3:=fun g s=>wY (l:=fin) (by omega) g s
  have c4:=fun s=>ah6 (l:=body) (n:=m) (by omega) s
  have b1:=Sm.vf true m body
  repeat' (first
 |simp only[go_sem,hC,hE,hM,hY,fL]
 |(with_reducible refine CU (c1 _ _) ?_)
 |(with_reducible refine CU (c2 _ _) ?_)
 |(with_reducible refine CU (c3 _ _) ?_)
 |(with_reducible refine CU (c4 _) ?_)
 |(with_reducible refine aB hQ ?_;exact bg))
  refine eM 3 1 ?_ ?_ (IH (rest,acc.length+1,acc++ [⟨name,params,vars,(Sm.ik true m body).1,fin⟩],(Sm.ik true m body).2) ⟨g2,by simp,by rw[h3];simp[Pc.ik],by dsimp only;omega⟩ (Nat.lt_succ_self _))
  ·(simp only[go_sem,hC,hE,hM,hY,aL hk];try exact cb)
  ·(simp only[go_sem,hC,hE,hM,hY,aL hk];try exact cb)
theorem W3 {p q:Pg} (h:p.Ge=some q) (s:St):az Tryz.prog qz [.agg (cR p)] s (.agg (cR q)) s:=by
 unfold Pg.Ge at h
 split at h
 ·cases h;exact(W2 ‹_›).pure (by simp[D.bH,D.ok,jX]) (by simp[D.ok,jX]) s
 ·cases h
def asS (x:aF):List aF→Bool
 | []=>false
 |s::l=>if x==s then true else asS x l
def qp (pre:List aF):List aF→Bool
 | []=>false
 |s::l=>if fq pre s then true else qp (pre++ [s]) l
def fD (l:List aF):Bool:=qp [] l
theorem TR {l:List aF} {k:Nat} {a:aF} (h:l[k]? = some a):l.take (k+1)=l.take k++ [a]:=by rw[List.take_add_one,h];rfl
theorem D8 {l:List aF} (hl:l.length<4611686018427387904) (g:Tag) (s:St):az Tryz.prog oa [.slice g 1 (l.map encStr)] s (.bool (fD l)) s:=by
 refine az.Zk (d':= .slice .shared 1 (l.map encStr)) ?_ (Wk.shared _ _ _)
 refine az.pure ?_ (by simp[D.bH,D.ok,Tag.ok,eB]) rfl s
 generalize h:fD l=p
 simp only[fD]at h
 unfold S0
 refine az.go E3 rfl fun B Q hB hQ=>?_
 have⟨hC,hE,hM,hY⟩:=bC
 repeat' (first
 |simp only[go_sem,hC,hE,hM,hY]
 |(with_reducible first|refine aX fun hc=>?_|refine aY fun hc=>?_|refine aZ (fun hc=>?_) fun hc=>?_)<;>(try simp only[hc,bs,↓reduceIte]at h)<;>try simp only[hc]
 |(with_reducible refine aB hQ ?_;exact ep))
 refine dQ 0 0 (bd.ind (ι:=List aF×Nat) (fun i=>l.drop i.2=i.1∧qp (l.take i.2) i.1=p) (fun i=>i.1.length)
  (fun i=> [(0, .slice .shared 1 (l.map encStr)),(5, .slice .shared 1 (l.map encStr)),(6, .int .i64 (l.length:Int)),(7, .int .i64 (i.2:Int))]) (fun i=>⟨[],[]⟩) ?_ (l,0) ⟨rfl,h⟩)
 rintro⟨rest,k⟩ ⟨h1,h⟩ IH
 dsimp only at h1 h
 cases rest with
 |nil=>
  have hC:=drop_nil h1
  simp only[qp]at h
  repeat' (first
 |simp only[go_sem,hC,hE,hM,hY]
 |(with_reducible first|refine aX fun hc=>?_|refine aY fun hc=>?_|refine aZ (fun hc=>?_) fun hc=>?_)<;>(try simp only[hc,bs,↓reduceIte]at h)<;>try simp only[hc]
 |(with_reducible refine aB hQ ?_;exact ep))
 |cons a rest=>
  obtain⟨hE,g2,hC,g4⟩:=drop_cons h1
  have cm:k<4611686018427387904:=by omega
  simp only[qp]at h
  have hc:=jJ (l:=l.take k) (by rw[List.length_take];omega) a
  have e1:List.drop 0 (List.take k (l.map encStr))=(l.take k).map encStr:=by simp[List.map_take]
  have c1:((0:Int)≤(k:Int))=True:=by simp
  have c2:((k:Int)≤(l.length:Int))=True:=by simp only[eq_iff_iff,iff_true];omega
  have e2:List.take k (l.map encStr)=(l.take k).map encStr:=by simp[List.map_take]
  repeat' (first
 |simp only[go_sem,hC,hE,hM,hY,e1,e2,c1,c2,or_true,true_and,and_self,ite_self,Int.toNat_natCast,List.drop_zero]
 |(with_reducible refine CU (hc _ _) ?_)
 |(with_reducible first|refine aX fun hc=>?_|refine aY fun hc=>?_|refine aZ (fun hc=>?_) fun hc=>?_)<;>(try simp only[hc,bs,↓reduceIte]at h)<;>try simp only[hc]
 |(with_reducible refine aB hQ ?_;(try cases h);simp only[aQ,aR,bn,bo,go_sem,hC,hE,hM,hY,e1,e2,c1,c2,or_true,true_and,and_self,ite_self,Int.toNat_natCast,List.drop_zero];try exact bR))
  refine eM 0 0 ?_ ?_ (IH (rest,k+1) ⟨g2,by dsimp only;rw[TR (by assumption)];exact h⟩ (Nat.lt_succ_self _))
  ·(simp only[go_sem,hC,hE,hM,hY,aL cm];try exact cb)
  ·(simp only[go_sem,hC,hE,hM,hY,aL cm];try exact cb)
def wZ (vars globals:List aF) (name:aF):List Pm→Int
 | []=>if fq vars name then 4 else if fq globals name then 1 else 0
 |a::l=>if a.name==name then(if a.ref then 3 else 2)else wZ vars globals name l
def Pc.lz (p:Pg) (f:Pc) (name:aF):Int:=wZ f.vars p.globals name f.params
theorem K7 {p:Pg} {f:Pc} (hp:f.params.length<1000000000) (hv:f.vars.length<1000000000) (hg:p.globals.length<1000000000) (name:aF) (s:St):az Tryz.prog vF [.agg (cR p), .agg (cH f), .str name] s (.int .i64 (f.lz p name)) s:=by
 refine az.pure ?_ (by simp[D.bH,D.ok,jX,xr]) rfl s
 have sk:=jJ (l:=f.vars) (by omega) name
 have uF:=jJ (l:=p.globals) (by omega) name
 generalize h:f.lz p name=q
 simp only[Pc.lz]at h
 unfold S0
 refine az.go Gp rfl fun B Q hB hQ=>?_
 have⟨hC,hE,hM,hY⟩:=bC
 repeat' (first
 |simp only[go_sem,hC,hE,hM,hY]
 |(with_reducible refine aB hQ ?_;exact bg))
 refine dQ 2 0 (bd.ind (ι:=List Pm×Nat) (fun i=>f.params.drop i.2=i.1∧wZ f.vars p.globals name i.1=q) (fun i=>i.1.length)
  (fun i=> [(2, .str name),(3, .ptr 0 0),(4, .ptr 1 0),(10, .slice .shared 2 (f.params.map gN)),(11, .int .i64 (f.params.length:Int)),(12, .int .i64 (i.2:Int))]) (fun i=>⟨[cR p,cH f],[]⟩) ?_ (f.params,0) ⟨rfl,h⟩)
 rintro⟨rest,k⟩ ⟨h1,h⟩ IH
 dsimp only at h1 h
 cases rest with
 | nil=>
  have hC:=drop_nil h1
  simp only[wZ]at h
  rcases Bool.eq_false_or_eq_true (fq f.vars name)with b1|b1
  ·simp only [b1,if_true]at h
   subst h
   repeat' (first
 |simp only[go_sem,hC,hE,hM,hY,b1]
 |(with_reducible refine CU (sk _ _) ?_)
 |(with_reducible refine CU (uF _ _) ?_)
 | (with_reducible refine aB hQ ?_;exact bg))
  ·simp only [b1,Bool.false_eq_true,if_false]at h
   rcases Bool.eq_false_or_eq_true (fq p.globals name)with b2|b2
   ·simp only [b2,if_true]at h
    subst h
    repeat' (first
 |simp only[go_sem,hC,hE,hM,hY,b1,b2]
 |(with_reducible refine CU (sk _ _) ?_)
 |(with_reducible refine CU (uF _ _) ?_)
 | (with_reducible refine aB hQ ?_;exact bg))
   ·simp only [b2,Bool.false_eq_true,if_false]at h
    subst h
    repeat' (first
 |simp only[go_sem,hC,hE,hM,hY,b1,b2]
 |(with_reducible refine CU (sk _ _) ?_)
 |(with_reducible refine CU (uF _ _) ?_)
 |(with_reducible refine aB hQ ?_;exact bg))
 | cons a rest=>
  obtain⟨hE,g2,hC,g4⟩:=drop_cons h1
  have cm:k<4611686018427387904:=by omega
  simp only[wZ]at h
  rcases Bool.eq_false_or_eq_true (a.name==name)with b1|b1
  ·simp only [b1,if_true]at h
   rcases Bool.eq_false_or_eq_true a.ref with b2|b2
   ·simp only [b2,if_true]at h
    subst h
    repeat' (first
 |simp only[go_sem,hC,hE,hM,hY,b1,b2]
 | (with_reducible refine aB hQ ?_;exact bg))
   ·simp only [b2,Bool.false_eq_true,if_false]at h
    subst h
    repeat' (first
 |simp only[go_sem,hC,hE,hM,hY,b1,b2]
 | (with_reducible refine aB hQ ?_;exact bg))
  ·simp only [b1,Bool.false_eq_true,if_false]at h
   repeat' (first
 |simp only[go_sem,hC,hE,hM,hY,b1]
 | (with_reducible refine aB hQ ?_;exact bg))
   refine eM 2 0 ?_ ?_ (IH (rest,k+1) ⟨g2,h⟩ (Nat.lt_succ_self _))
   ·(simp only[go_sem,hC,hE,hM,hY,aL cm];try exact cb)
   ·(simp only[go_sem,hC,hE,hM,hY,aL cm];try exact cb)
def iT (name:aF):List Pc→Option Pc
 | []=>none
 |f::l=>if f.name==name then some f else iT name l
def Pg.find (p:Pg) (name:aF):Option Pc:=iT name p.procs
def pc0:Pc:=⟨[],[],[],[],[]⟩
def atq (r:Option Pc):D:= .tuple [.agg (cH (r.getD pc0)), .bool r.isSome]
def Pc.tQ (f:Pc):List aF:=f.params.map (·.name)
def Pc.own (f:Pc):List aF:=f.tQ++f.vars
theorem Zp {f:Pc} (hp:f.params.length<1000000) (hv:f.vars.length<1000000) (s:St):az Tryz.prog s5 [.agg (cH f)] s (.slice .shared 1 (f.own.map encStr)) s:=by
 refine az.pure ?_ (by simp[D.bH,D.ok,xr]) (by simp only[D.ok,Tag.ok,eB];rfl) s
 generalize hR:f.own=R
 simp only[Pc.own]at hR
 unfold S0
 refine az.go Ii rfl fun B Q hB hQ=>?_
 have⟨hC,hE,hM,hY⟩:=bC
 repeat' (first
 |simp only[go_sem,hC,hE,hM,hY]
 |(with_reducible refine aB hQ ?_;exact bg))
 refine bd.pY 3 1 rfl ?_
 simp only[go_sem,hC,hE,hM,hY]
 refine dQ 1 1 (bd.ind (ι:=List Pm×Nat×List aF×Nat) (fun i=>f.params.drop i.2.1=i.1∧i.2.2.1++i.1.map (·.name)=f.tQ∧i.2.2.2=i.2.2.1.length) (fun i=>i.1.length)
  (fun i=> [(1, .ptr 0 0),(3, .slice (.tok 0) 1 (i.2.2.1.map encStr)),(7, .slice .shared 2 (f.params.map gN)),(8, .int .i64 (f.params.length:Int)),(9, .int .i64 (i.2.1:Int))]) (fun i=>⟨[cH f],[some i.2.2.2]⟩) ?_ (f.params,0,[],0) ⟨rfl,rfl,rfl⟩)
 rintro⟨rest,k,out,n⟩ ⟨h1,h2,h3⟩ IH
 dsimp only at h1 h2 h3
 subst h3
 have hlo:out.length+rest.length<1000000:=by
  have:=congrArg List.length h2
  simp only[List.length_append,List.length_map,Pc.tQ]at this
  omega
 cases rest with
 |nil=>
  have hC:=drop_nil h1
  simp only[List.map_nil,List.append_nil]at h2
  subst hR
  rw[← h2]at hQ
  have eS:=kR (l:=out) (nx:=f.vars) rfl (by omega) (g:= .shared)
  repeat' (first
 |simp only[go_sem,hC,hE,hM,hY,eS]
 |(with_reducible refine aB hQ ?_;exact bg))
 |cons a rest=>
  obtain⟨hE,g2,hC,g4⟩:=drop_cons h1
  have cm:k<4611686018427387904:=by omega
  have hM:(out.length+1)*17≤bu:=by unfold bu;omega
  repeat' (first
 |simp only[go_sem,hC,hE,hM,hY]
 |(with_reducible refine aB hQ ?_;exact bg))
  refine eM 1 1 ?_ ?_ (IH (rest,k+1,out++ [a.name],out.length+1) ⟨g2,by rw[← h2];simp,by simp⟩ (Nat.lt_succ_self _))
  ·(simp only[go_sem,hC,hE,hM,hY,aL cm,List.map_append,List.map_cons,List.map_nil,encStr];try exact cb)
  ·(simp only[go_sem,hC,hE,hM,hY,aL cm,List.map_append,List.map_cons,List.map_nil,encStr];try exact cb)
def l7:aF:= [109,97,105,110]
def Sm.known (p:Pg) (f:Pc) (procs:List aF) (v:Sm):Bool:=
 !(v.said.any fun n=>f.lz p n==0) && (v.kind != 4 ||(v.proc != l7 && fq procs v.proc))
structure Pc.Small (p:Pg) (f:Pc):Prop where
 par:f.params.length<1000000
 vars:f.vars.length<1000000
 ux:p.globals.length<1000000
def CF (p:Pg) (f:Pc):List aF→Bool
 | []=>true
 |n::l=>if f.lz p n==0 then false else CF p f l
theorem HE (p:Pg) (f:Pc) : ∀ l,CF p f l = !(l.any fun n=>f.lz p n==0)
 | []=>rfl
 |n::l=>by
  simp only[CF,List.any_cons,HE p f l]
  cases (f.lz p n==0)<;>simp
theorem K8 (v:Sm) (h:v.nw):v.said.length<3000000:=by
 have : ∀ (l:List Ar) (out:List aF),(Ar.said out l).length≤out.length+2*Ar.br l:=by
  intro l
  induction l with
  |nil=>intro out;simp[Ar.said]
  |cons a l ih=>
   intro out
   simp only[Ar.said,Ar.br]
   refine Nat.le_trans (ih _) ?_
   have:=lj a.x
   have:1≤a.x.size:=by obtain⟨_,_,_,_⟩:=a.x;simp[Ex.size]
   simp only[List.length_append]
   split<;>simp<;>omega
 have h1:=this v.args (v.s9++v.x.names)
 have h2:=lj v.x
 have h3:=h.2.2
 have h4:v.s9.length≤1:=by unfold Sm.s9;split<;>simp
 simp only[List.length_append]at h1
 unfold Sm.said
 omega
theorem aaW {p:Pg} {f:Pc} {procs:List aF} {v:Sm} (hs:f.Small p) (yR:procs.length<1000000) (hv:v.nw) (s:St):az Tryz.prog qB [.agg (cR p), .agg (cH f), .slice .shared 1 (procs.map encStr), .agg (a8 v)] s (.bool (v.known p f procs)) s:=by
 refine az.pure ?_ (by simp[D.bH,D.ok,jX,xr,mY,Tag.ok,eB]) rfl s
 have hn:=fun s=>BR hv s
 have hk:=fun n s=>K7 (p:=p) (f:=f) (by have:=hs.par;omega) (by have:=hs.vars;omega) (by have:=hs.ux;omega) n s
 have aeG:=jJ (l:=procs) (by omega) v.proc
 have hl:=K8 v hv
 generalize h:v.known p f procs=q
 simp only[Sm.known, ← HE]at h
 unfold S0
 refine az.go E4 rfl fun B Q hB hQ=>?_
 have⟨hC,hE,hM,hY⟩:=bC
 repeat' (first
 |simp only[go_sem,hC,hE,hM,hY]
 |(with_reducible refine CU (hn _) ?_)
 |(with_reducible refine aB hQ ?_;exact bg))
 refine dQ 3 0 (bd.ind (ι:=List aF×Nat) (fun i=>v.said.drop i.2=i.1∧(CF p f i.1 && (v.kind != 4 ||(v.proc != l7 && fq procs v.proc)))=q) (fun i=>i.1.length)
  (fun i=> [(2, .slice .shared 1 (procs.map encStr)),(4, .ptr 0 0),(5, .ptr 1 0),(7, .ptr 2 0),(12, .slice .shared 1 (v.said.map encStr)),(13, .int .i64 (v.said.length:Int)),(14, .int .i64 (i.2:Int))]) (fun i=>⟨[cR p,cH f,a8 v],[]⟩) ?_ (v.said,0) ⟨rfl,h⟩)
 rintro⟨rest,k⟩ ⟨h1,h⟩ IH
 dsimp only at h1 h
 cases rest with
 | nil=>
  have hC:=drop_nil h1
  simp only[CF,Bool.true_and]at h
  rcases Bool.eq_false_or_eq_true (v.kind != 4)with b1|b1
  ·simp only [b1,Bool.true_or]at h
   subst h
   repeat' (first
 |simp only[go_sem,hC,hE,hM,hY,b1]
 | (with_reducible refine aB hQ ?_;exact bg))
  ·simp only [b1,Bool.false_or]at h
   rcases Bool.eq_false_or_eq_true (v.proc != l7)with b2|b2
   ·simp only [b2,Bool.true_and]at h
    unfold l7 at b2
    have b3:(v.proc == [109,97,105,110]) = !(v.proc != [109,97,105,110]):=by simp only[bne,Bool.not_not]
    rw[b2]at b3
    simp only[Bool.not_true,Bool.not_false]at b3
    subst h
    repeat' (first
 |simp only[go_sem,hC,hE,hM,hY,b1,b2,b3]
 |(with_reducible refine CU (aeG _ _) ?_)
 | (with_reducible refine aB hQ ?_;exact bg))
   ·simp only [b2,Bool.false_and]at h
    unfold l7 at b2
    have b3:(v.proc == [109,97,105,110]) = !(v.proc != [109,97,105,110]):=by simp only[bne,Bool.not_not]
    rw[b2]at b3
    simp only[Bool.not_true,Bool.not_false]at b3
    subst h
    repeat' (first
 |simp only[go_sem,hC,hE,hM,hY,b1,b2,b3]
 |(with_reducible refine CU (aeG _ _) ?_)
 |(with_reducible refine aB hQ ?_;exact bg))
 | cons a rest=>
  obtain⟨hE,g2,hC,g4⟩:=drop_cons h1
  have cm:k<4611686018427387904:=by omega
  simp only[CF]at h
  rcases Bool.eq_false_or_eq_true (f.lz p a==0)with b1|b1
  ·simp only [b1,if_true,Bool.false_and]at h
   subst h
   repeat' (first
 |simp only[go_sem,hC,hE,hM,hY,b1]
 |(with_reducible refine CU (hk _ _) ?_)
 | (with_reducible refine aB hQ ?_;exact bg))
  ·simp only [b1,Bool.false_eq_true,if_false]at h
   repeat' (first
 |simp only[go_sem,hC,hE,hM,hY,b1]
 |(with_reducible refine CU (hk _ _) ?_)
 | (with_reducible refine aB hQ ?_;exact bg))
   refine eM 3 0 ?_ ?_ (IH (rest,k+1) ⟨g2,h⟩ (Nat.lt_succ_self _))
   ·(simp only[go_sem,hC,hE,hM,hY,aL cm];try exact cb)
   ·(simp only[go_sem,hC,hE,hM,hY,aL cm];try exact cb)
theorem No : ∀ (l pre:List aF),qp pre l=true↔(∃ x∈l,x∈pre)∨¬ l.Nodup
 | [],pre=>by simp[qp]
 | s::l,pre=>by
  simp only[qp]
  by_cases h:fq pre s=true
  ·simp only [h,if_true,true_iff]
   exact .inl ⟨s,List.mem_cons_self,(jh _ _).1 h⟩
  ·have h':s∉pre:=fun m=>h ((jh _ _).2 m)
   simp only[h,if_false,Bool.false_eq_true]
   rw[No l (pre++ [s])]
   simp only[List.mem_append,List.mem_singleton,List.mem_cons,List.nodup_cons,exists_eq_or_imp]
   constructor
   ·rintro(⟨x,m,h1 | h1⟩ | h1)
    ·exact .inl (.inr ⟨x,m,h1⟩)
    ·have h1:x=s:=by simpa using h1
     subst h1;exact .inr fun h=>h.1 m
    ·exact .inr fun h=>h1 h.2
   ·rintro((h1 | ⟨x,m,h1⟩) | h1)
    ·exact absurd h1 h'
    ·exact .inl ⟨x,m, .inl h1⟩
    ·by_cases m:s∈l
     ·exact .inl ⟨s,m, .inr (.inl rfl)⟩
     ·exact .inr fun h=>h1 ⟨m,h⟩
theorem HF (l:List aF):fD l=true↔¬ l.Nodup:=by
 unfold fD;rw[No];simp
theorem TS (a b:List aF):fD (a++b)=(fD a ||(fD b ||b.any (fq a))):=by
 have h:fD (a++b)=true↔(fD a ||(fD b ||b.any (fq a)))=true:=by
  rw[HF,List.nodup_append]
  simp only[Bool.or_eq_true,HF,List.any_eq_true,jh]
  constructor
  ·intro h
   by_cases ha:a.Nodup
   ·by_cases hb:b.Nodup
    ·refine .inr (.inr (Classical.byContradiction fun hn=>h ⟨ha,hb,fun x hx y hy e=>hn ⟨y,hy,e ▸ hx⟩⟩))
    ·exact .inr (.inl hb)
   ·exact .inl ha
  ·rintro(h | h | ⟨x,h1,h2⟩) ⟨h3,h4,h5⟩
   ·exact h h3
   ·exact h h4
   ·exact h5 x h2 x h1 rfl
 cases h1:fD (a++b)<;>cases h2:(fD a ||(fD b ||b.any (fq a)))<;>simp_all
theorem K9 (name:aF) : ∀ (l:List Pc) (k:Nat),(iT name l=none∧jg name (k:Int) (l.map (·.name)) = -1)∨∃ f j,iT name l=some f∧l[j]? = some f∧jg name (k:Int) (l.map (·.name))=((k+j:Nat):Int)
 | [],k=> .inl ⟨rfl,rfl⟩
 | f::l,k=>by
  by_cases h:f.name=name
  ·subst h
   refine .inr ⟨f,0,by simp[iT],rfl,by simp[jg]⟩
  ·have h1:(f.name==name)=false:=by simp [h]
   have h2:(name==f.name)=false:=by simp[Ne.symm h]
   simp only[iT,h1,Bool.false_eq_true,if_false,List.map_cons,jg,h2]
   rcases K9 name l (k+1)with ⟨g1,g2⟩|⟨g,j,g1,g2,g3⟩
   ·exact .inl ⟨g1,by rw[← g2];rfl⟩
   ·refine .inr ⟨g,j+1,g1,by simpa using g2, ?_⟩
    rw[show((k:Int)+1)=((k+1:Nat):Int)from rfl,g3]
    congr 1;omega
theorem sI {name:aF} {f:Pc} : ∀ {l:List Pc},iT name l=some f→f∈l∧f.name=name
 |g::l,h=>by
  simp only[iT]at h
  split at h
  ·rename_i e;cases h;exact⟨List.mem_cons_self,by simpa using e⟩
  ·have:=sI h;exact⟨List.mem_cons_of_mem _ this.1,this.2⟩
mutual
theorem TT (deep dD:Int) (bc:Bool) (out:List It) : ∀ s:Sm,∃ e,kx deep dD bc out s=out++e
 | ⟨id,kind,labels,name,proc,x,has,args,bm,e⟩=>by
  simp only[kx]
  split
  ·obtain⟨e1,h1⟩:=tR (deep+1) id false (out++ [⟨⟨id,kind,labels,name,proc,x,has,args,bm,e⟩,deep,dD,bc⟩]) bm
   obtain⟨e2,h2⟩:=tR (deep+1) id true (fO (deep+1) id false (out++ [⟨⟨id,kind,labels,name,proc,x,has,args,bm,e⟩,deep,dD,bc⟩]) bm) e
   rw[h2,h1]
   exact⟨_,by rw[List.append_assoc,List.append_assoc]⟩
  ·exact⟨_,rfl⟩
theorem tR (deep dD:Int) (bc:Bool) (out:List It) : ∀ l:List Sm,∃ e,fO deep dD bc out l=out++e
 | []=>⟨[],by simp[fO]⟩
 | s::l=>by
  simp only[fO]
  split
  ·obtain⟨e1,h1⟩:=TT deep dD bc out s
   obtain⟨e2,h2⟩:=tR deep dD bc (kx deep dD bc out s) l
   rw[h2,h1]
   exact⟨_,by rw[List.append_assoc]⟩
  ·exact⟨[],by simp⟩
end
mutual
theorem TU (deep dD:Int) (bc:Bool) (out:List It) : ∀ s:Sm,(kx deep dD bc out s).length≤200→(∀ i∈kx deep dD bc out s,i.deep≤12)→(kx deep dD bc out s).map It.s=out.map It.s++s.pre
 | ⟨id,kind,labels,name,proc,x,has,args,bm,e⟩,h1,h2=>by
  simp only[kx,Sm.pre]at h1 h2 ⊢
  by_cases hd:deep≤12
  ·simp only [hd,decide_true,if_true]at h1 h2 ⊢
   obtain⟨e2,g2⟩:=tR (deep+1) id true (fO (deep+1) id false (out++ [⟨⟨id,kind,labels,name,proc,x,has,args,bm,e⟩,deep,dD,bc⟩]) bm) e
   have k1:(fO (deep+1) id false (out++ [⟨⟨id,kind,labels,name,proc,x,has,args,bm,e⟩,deep,dD,bc⟩]) bm).length≤200:=by
    rw[g2,List.length_append]at h1;omega
   have k2 : ∀ i∈fO (deep+1) id false (out++ [⟨⟨id,kind,labels,name,proc,x,has,args,bm,e⟩,deep,dD,bc⟩]) bm,i.deep≤12:=fun i m=>h2 i (by rw[g2];exact List.mem_append_left _ m)
   rw[w7 (deep+1) id true _ e h1 h2,w7 (deep+1) id false _ bm k1 k2]
   simp
  ·simp only [hd,decide_false,Bool.false_eq_true,if_false]at h1 h2
   exact absurd (h2 _ (List.mem_append_right _ (List.mem_singleton.2 rfl))) (by simpa using hd)
theorem w7 (deep dD:Int) (bc:Bool) (out:List It) : ∀ l:List Sm,(fO deep dD bc out l).length≤200→(∀ i∈fO deep dD bc out l,i.deep≤12)→(fO deep dD bc out l).map It.s=out.map It.s++Sm.dm l
 | [],h1,h2=>by simp[fO,Sm.dm]
 | s::l,h1,h2=>by
  simp only[fO,Sm.dm]at h1 h2 ⊢
  by_cases hc:(out.length:Int)≤200
  ·simp only [hc,decide_true,if_true]at h1 h2 ⊢
   obtain⟨e2,g2⟩:=tR deep dD bc (kx deep dD bc out s) l
   have k1:(kx deep dD bc out s).length≤200:=by rw[g2,List.length_append]at h1;omega
   have k2 : ∀ i∈kx deep dD bc out s,i.deep≤12:=fun i m=>h2 i (by rw[g2];exact List.mem_append_left _ m)
   rw[w7 deep dD bc _ l h1 h2,TU deep dD bc out s k1 k2]
   simp
  ·simp only [hc,decide_false,Bool.false_eq_true,if_false]at h1
   omega
end
theorem La : ∀ (l:List Pc) (out:List It),(allM out l).length≤200→(∀ i∈allM out l,i.deep≤12)→(∀ f∈l,f.flat.map It.s=Sm.dm f.body)∧(allM out l).map It.s=out.map It.s++(l.map fun f=>Sm.dm f.body).flatten
 | [],out,h1,h2=>⟨fun f m=>(by cases m),by simp[allM]⟩
 | f::l,out,h1,h2=>by
  simp only[allM]at h1 h2 ⊢
  by_cases hc:(((out++f.flat).length:Nat):Int) > 200
  ·simp only[hc,decide_true,if_true]at h1;omega
  ·simp only [hc,decide_false,Bool.false_eq_true,if_false]at h1 h2 ⊢
   obtain⟨k1,k2⟩:=La l (out++f.flat) h1 h2
   have qb : ∀ (l:List Pc) (out:List It),∃ e,allM out l=out++e:=by
    intro l
    induction l with
    |nil=>intro out;exact⟨[],by simp[allM]⟩
    |cons g l ih=>
     intro out
     simp only[allM]
     split
     ·exact⟨_,rfl⟩
     ·obtain⟨e,h⟩:=ih (out++g.flat);exact⟨g.flat++e,by rw[h];simp⟩
   obtain⟨e,he⟩:=qb l (out++f.flat)
   have k3:f.flat.map It.s=Sm.dm f.body:=by
    have:=w7 1 0 false [] f.body (by
     have:f.flat.length≤200:=by simp only[List.length_append]at hc;omega
     exact this) (fun i m=>h2 i (by rw[he];exact List.mem_append_left _ (List.mem_append_right _ m)))
    simpa[Pc.flat]using this
   refine⟨fun g m=>?_, ?_⟩
   ·rcases List.mem_cons.1 m with rfl | m
    ·exact k3
    ·exact k1 g m
   ·rw[k2];simp[k3]
theorem BV : ∀ (l:List It) (n:Nat),It.fl n l=true→(∀ i∈l,i.deep≤12)∧∀ (j:Nat) (i:It),l[j]? = some i→i.s.id=((n+j+1:Nat):Int)
 | [],n,h=>⟨fun i m=>(by cases m),fun j i h=>by simp at h⟩
 | a::l,n,h=>by
  simp only[It.fl]at h
  split at h
  ·cases h
  ·rename_i c
   simp only[Bool.or_eq_true,not_or,bne_iff_ne,ne_eq,Decidable.not_not,decide_eq_true_eq,Int.not_lt,gt_iff_lt]at c
   obtain⟨k1,k2⟩:=BV l (n+1) h
   refine⟨fun i m=>?_,fun j i hj=>?_⟩
   ·rcases List.mem_cons.1 m with rfl | m
    ·exact c.1.2
    ·exact k1 i m
   ·cases j with
    |zero=>simp at hj;subst hj;rw[c.1.1]
    |succ j=>simp at hj;rw[k2 j i hj];congr 1;omega
theorem GH {p:Pg} (h:p.may=true):p.all.length≤200∧It.fl 0 p.all=true:=by
 unfold Pg.may at h
 split at h
 ·cases h
 ·split at h
  ·cases h
  ·split at h
   ·cases h
   ·rename_i c
    exact⟨by simp only[decide_eq_true_eq,Int.not_lt,gt_iff_lt]at c;omega,h⟩
theorem Lb {p:Pg} (h:p.may=true):(∀ f∈p.procs,f.flat.map It.s=Sm.dm f.body)∧p.all.map It.s=p.pre:=by
 obtain⟨h1,h2⟩:=GH h
 have:=La p.procs [] h1 (BV _ 0 h2).1
 simpa[Pg.pre,Pg.all]using this
theorem Lc {p:Pg} (h:p.may=true) {i:Nat} {v:Sm} (hv:p.pre[i]? = some v):v.id=((i+1:Nat):Int):=by
 rw[← (Lb h).2,List.getElem?_map,Option.map_eq_some_iff]at hv
 obtain⟨it,h1,rfl⟩:=hv
 have:=(BV _ 0 (GH h).2).2 i it h1
 rw[this];congr 1;omega
structure Pg.iX (p:Pg):Prop where
 QX:p.QT
 sz:p.size≤900000
mutual
theorem aeH : ∀ s:Sm,s.zQ→s.size<1000000→∀ v∈s.pre,v.nw∧v.nq
 |⟨id,kind,labels,name,proc,x,has,args,bm,bc⟩,h,hs,v,m=>by
  simp only[Sm.zQ]at h
  simp only[Sm.size]at hs
  simp only[Sm.pre,List.mem_cons,List.mem_append]at m
  rcases m with rfl|m|m
  ·exact⟨⟨h.1.xt,fun a ha=>(h.1.arg a ha).2.1,by dsimp only;omega⟩,h.1⟩
  ·exact CG bm h.2.1 (by omega) v m
  ·exact CG bc h.2.2 (by omega) v m
theorem CG : ∀ l:List Sm,Sm.nr l→Sm.br l<1000000→∀ v∈Sm.dm l,v.nw∧v.nq
 | [],h,hs,v,m=>by simp[Sm.dm]at m
 |s::l,h,hs,v,m=>by
  simp only[Sm.nr]at h
  simp only[Sm.br]at hs
  simp only[Sm.dm,List.mem_append]at m
  rcases m with m|m
  ·exact aeH s h.1 (by omega) v m
  ·exact CG l h.2 (by omega) v m
end
theorem Pg.iX.said {p:Pg} (h:p.iX) {f:Pc} (hf:f∈p.procs) : ∀ v∈Sm.dm f.body,v.nw:=fun v m=>by
 have h1:=Pc.dd hf
 have h2:=h.sz
 simp only[Pg.size]at h2
 simp only[Pc.size]at h1
 exact(CG f.body (h.QX.body f hf) (by omega) v m).1
theorem Pg.iX.small {p:Pg} (h:p.iX) {f:Pc} (hf:f∈p.procs):f.Small p:=by
 have h1:=Pc.dd hf
 have h2:=h.sz
 simp only[Pg.size]at h2
 simp only[Pc.size]at h1
 exact⟨by omega,by omega,by omega⟩
theorem Pg.iX.procs {p:Pg} (h:p.iX):p.procs.length≤900000∧Pc.br p.procs≤900000∧p.globals.length≤900000:=by
 have h2:=h.sz
 have h3:=Pc.ei p.procs
 simp only[Pg.size]at h2
 omega
def Pg.pn (p:Pg):List aF:=p.procs.map (·.name)
def BW (p:Pg) (f:Pc) (procs:List aF):List Sm→Option Sm
 | []=>none
 |v::l=>if v.known p f procs then BW p f procs l else some v
def vV (p:Pg) (procs:List aF):List Pc→Int×Int
 | []=>(0,0)
 |f::l=>if fD (p.globals++f.own)then(5,0)else match BW p f procs (Sm.dm f.body)with|some v=>(5,v.id)|none=>vV p procs l
def Pg.tS (p:Pg):Bool:=match p.find l7 with|none=>true|some m=>decide ((m.params.length:Int) > 0)
def Pg.scope (p:Pg):Int×Int:=
 if p.may then if fD p.globals ||(fD p.pn ||p.tS)then(5,0)else vV p p.pn p.procs else(1,0)
theorem W4 (p:Pg) (hl:p.globals.length<1000000) (n:aF):az Tryz.prog oN ([.str n]++ [.ptr 0 0]) ⟨[cR p],[]⟩ (.bool (fq p.globals n)) ⟨[cR p],[]⟩:=by
 show az Tryz.prog oN [.str n, .ptr 0 0] _ _ _
 have pP:=jJ (l:=p.globals) (by omega) n
 refine az.go C7 rfl fun B Q hB hQ=>?_
 have⟨hC,hE,hM,hY⟩:=bC
 repeat' (first
 |simp only[go_sem,hC,hE,hM,hY]
 |(with_reducible refine CU (pP _ _) ?_)
 |(with_reducible refine aB hQ ?_;exact bg))
theorem Zq (n m:Nat) (p:Pg):D.gw n m (fw p)=fw p:=ij n m _ (uw p)
attribute [go_sem] Zq
theorem aaX {p:Pg} {f:Pc} {procs:List aF} {v:Sm} (hs:f.Small p) (yR:procs.length<1000000) (hv:v.nw) (g:Tag) (s:St):az Tryz.prog qB [.agg (cR p), .agg (cH f), .slice g 1 (procs.map encStr), .agg (a8 v)] s (.bool (v.known p f procs)) s:=
 bP.ou (.cons (Wk.refl _) (.cons (Wk.refl _) (.cons (Wk.shared g 1 _) (ju.refl _)))) (aaW hs yR hv s)
theorem vW {p:Pg} (h:p.iX) (s:St):az Tryz.prog lS [.agg (cR p)] s (.agg [.int .i64 p.scope.1, .int .i64 p.scope.2]) s:=by
 refine az.pure ?_ (by simp[D.bH,D.ok,jX]) rfl s
 have hm:=fun s=>K1 h.QX s
 simp only[CD]at hm
 obtain⟨sh,r7,rZ⟩:=h.procs
 have dr:=fun s=>Cy (p:=p) (by omega) s
 have pR:=fun s=>D8 (l:=p.globals) (by omega) .shared s
 have hpn:p.pn.length=p.procs.length:=by simp[Pg.pn]
 have EE:=fun g s=>D8 (l:=p.pn) (by omega) g s
 have Ld:=fun g s=>(Cz (l:=p.pn) (by omega) l7 s).Zk (Wk.shared g 1 (p.pn.map encStr))
 have D9:=fun g s=>(show az Tryz.prog fY [.slice g 1 (p.pn.map encStr), .str [109,97,105,110]] s (.int .i64 (jg l7 0 p.pn)) s from Ld g s)
 generalize hR:p.scope=R
 simp only[Pg.scope]at hR
 unfold S0
 rcases Bool.eq_false_or_eq_true p.may with hb|hb
 case inr=>
  simp only[hb]at hm
  simp only[hb,Bool.false_eq_true,if_false]at hR
  subst hR
  refine az.go wN rfl fun B Q hB hQ=>?_
  have⟨hC,hE,hM,hY⟩:=bC
  repeat' (first
 |simp only[go_sem,hC,hE,hM,hY]
 |(with_reducible refine CU (hm _) ?_)
 |(with_reducible refine aB hQ ?_;exact bg))
 simp only[hb]at hm
 simp only[hb,if_true]at hR
 refine az.go wN rfl fun B Q hB hQ=>?_
 have⟨hC,hE,hM,hY⟩:=bC
 repeat' (first
 |simp only[go_sem,hC,hE,hM,hY]
 |(with_reducible refine CU (hm _) ?_)
 |(with_reducible refine aB hQ ?_;exact bg))
 refine bd.pY 3 1 rfl ?_
 simp only[go_sem,hC,hE,hM,hY]
 refine dQ 2 1 (bd.ind (ι:=List Pc×Nat×List aF×Nat) (fun i=>p.procs.drop i.2.1=i.1∧i.2.2.1++i.1.map (·.name)=p.pn∧i.2.2.2=i.2.2.1.length) (fun i=>i.1.length)
  (fun i=> [(1, .ptr 0 0),(2, .ptr 1 0),(3, .slice (.tok 0) 1 (i.2.2.1.map encStr)),(18, .slice .shared 5 (p.procs.map cH)),(19, .int .i64 (p.procs.length:Int)),(20, .int .i64 (i.2.1:Int))]) (fun i=>⟨[cR p,[.int .i64 0, .int .i64 0]],[some i.2.2.2]⟩) ?_ (p.procs,0,[],0) ⟨rfl,rfl,rfl⟩)
 rintro⟨rest,k,out,n⟩ ⟨h1,h2,h3⟩ IH
 dsimp only at h1 h2 h3
 subst h3
 have hlo:out.length+rest.length≤900000:=by
  have:=congrArg List.length h2
  simp only[List.length_append,List.length_map]at this
  omega
 cases rest with
 |cons a rest=>
  obtain⟨hE,g2,hC,g4⟩:=drop_cons h1
  have cm:k<4611686018427387904:=by omega
  have hM:(out.length+1)*17≤bu:=by unfold bu;omega
  repeat' (first
 |simp only[go_sem,hC,hE,hM,hY]
 |(with_reducible refine aB hQ ?_;exact bg))
  refine eM 2 1 ?_ ?_ (IH (rest,k+1,out++ [a.name],out.length+1) ⟨g2,by rw[← h2];simp,by simp⟩ (Nat.lt_succ_self _))
  ·(simp only[go_sem,hC,hE,hM,hY,aL cm,List.map_append,List.map_cons,List.map_nil,encStr];try exact cb)
  ·(simp only[go_sem,hC,hE,hM,hY,aL cm,List.map_append,List.map_cons,List.map_nil,encStr];try exact cb)
 | nil=>
  have hC:=drop_nil h1
  simp only[List.map_nil,List.append_nil]at h2
  subst h2
  rcases Bool.eq_false_or_eq_true (fD p.globals)with b1|b1
  ·simp only [b1,Bool.true_or,if_true]at hR
   subst hR
   repeat' (first
 |simp only[go_sem,hC,hE,hM,hY,b1]
 |(with_reducible refine CU (D9 _ _) ?_)
 |(with_reducible refine CU (pR _) ?_)
 |(with_reducible refine CU (EE _ _) ?_)
 | (with_reducible refine aB hQ ?_;exact bg))
  rcases Bool.eq_false_or_eq_true (fD p.pn)with b2|b2
  ·simp only [b1,b2,Bool.true_or,Bool.or_true,if_true]at hR
   subst hR
   repeat' (first
 |simp only[go_sem,hC,hE,hM,hY,b1,b2]
 |(with_reducible refine CU (D9 _ _) ?_)
 |(with_reducible refine CU (pR _) ?_)
 |(with_reducible refine CU (EE _ _) ?_)
 | (with_reducible refine aB hQ ?_;exact bg))
  rcases K9 l7 p.procs 0 with ⟨e1,e2⟩|⟨m,j,e1,e2,e3⟩
  ·have b3:p.tS=true:=by unfold Pg.tS Pg.find;rw [e1]
   have hi:jg l7 0 p.pn = -1:=e2
   simp only[b1,b2,b3,Bool.or_true,if_true]at hR
   subst hR
   simp only[hi]at D9
   have d1:decide ((-1:Int)<0)=true:=by decide
   repeat' (first
 |simp only[go_sem,hC,hE,hM,hY,b1,b2,d1]
 |(with_reducible refine CU (D9 _ _) ?_)
 |(with_reducible refine CU (pR _) ?_)
 |(with_reducible refine CU (EE _ _) ?_)
 | (with_reducible refine aB hQ ?_;exact bg))
  have hi:jg l7 0 p.pn=((j:Nat):Int):=by rw[show p.pn=p.procs.map (·.name)from rfl];simpa using e3
  simp only[hi]at D9
  have d1:decide (((j:Nat):Int)<0)=false:=by simp
  have hj:j<p.procs.length:=(List.getElem?_eq_some_iff.1 e2).1
  have b3:p.tS=decide ((m.params.length:Int) > 0):=by unfold Pg.tS Pg.find;rw[e1]
  rw[b3]at hR
  rcases Bool.eq_false_or_eq_true (decide ((m.params.length:Int) > 0))with b4|b4
  ·simp only [b1,b2,b4,Bool.or_true,if_true]at hR
   subst hR
   repeat' (first
 |simp only[go_sem,hC,hE,hM,hY,b1,b2,d1,e2,b4]
 |(with_reducible refine CU (D9 _ _) ?_)
 |(with_reducible refine CU (pR _) ?_)
 |(with_reducible refine CU (EE _ _) ?_)
 |(with_reducible refine aB hQ ?_;exact bg))
  simp only[b1,b2,b4,Bool.or_false,Bool.false_eq_true,if_false]at hR
  repeat' (first
 |simp only[go_sem,hC,hE,hM,hY,b1,b2,d1,e2,b4]
 |(with_reducible refine CU (D9 _ _) ?_)
 |(with_reducible refine CU (pR _) ?_)
 |(with_reducible refine CU (EE _ _) ?_)
 |(with_reducible refine CU (dr _) ?_)
 | (with_reducible refine aB hQ ?_;exact bg))
  refine dQ 2 1 (bd.ind (ι:=List Pc×Nat) (fun i=>p.procs.drop i.2=i.1∧vV p p.pn i.1=R) (fun i=>i.1.length)
   (fun i=> [(1, .ptr 0 0),(2, .ptr 1 0),(3, .slice (.tok 0) 1 (p.pn.map encStr)),(7, .dL (fw p) 0),(57, .slice .shared 5 (p.procs.map cH)),(58, .int .i64 (p.procs.length:Int)),(59, .int .i64 (i.2:Int))]) (fun i=>⟨[cR p,[.int .i64 0, .int .i64 0]],[some p.pn.length]⟩) ?_ (p.procs,0) ⟨rfl,hR⟩)
  clear IH h1 hC hR
  rintro⟨rest,k⟩ ⟨h1,hR⟩ IH
  dsimp only at h1 hR
  cases rest with
  |nil=>
   have hC:=drop_nil h1
   simp only[vV]at hR
   subst hR
   repeat' (first
 |simp only[go_sem,hC,hE,hM,hY]
 | (with_reducible refine aB hQ ?_;exact bg))
  | cons f rest=>
   obtain⟨hE,g2,hC,g4⟩:=drop_cons h1
   have cm:k<4611686018427387904:=by omega
   have AH:=List.mem_of_getElem? hE
   have vX:=h.small AH
   have TV:=fun s=>Zp (f:=f) vX.par vX.vars s
   have jT:f.own.length<4611686018427387904:=by have h1:=vX.par;have h2:=vX.vars;unfold Pc.own Pc.tQ;simp;omega
   have hto:=fun s=>D8 (l:=f.own) jT .shared s
   have Dw:=fun {s:St} {o:Nat} (ho:s.ah[o]? = some (cR p))=>yQ (l:=f.own) jT (f:=oN) (row:=cR p) (b:=fq p.globals) (jX p) (by with_unfolding_all rfl) (fun x _=>W4 p vX.ux x) ho
   have W5:=fun {s:St} {o:Nat} (ho:s.ah[o]? = some (cR p))=>(show az Tryz.prog fZ [.slice .shared 1 (f.own.map encStr), .gi 118 [.ptr o 0]] s (.bool (f.own.any (fq p.globals))) s from Dw ho)
   simp only[vV,TS,b1,Bool.false_or]at hR
   rcases Bool.eq_false_or_eq_true (fD f.own)with c1|c1
   ·simp only [c1,Bool.true_or,if_true]at hR
    subst hR
    repeat' (first
 |simp only[go_sem,hC,hE,hM,hY,c1]
 |(with_reducible refine CU (TV _) ?_)
 |(with_reducible refine CU (hto _) ?_)
 |(with_reducible refine CU (W5 (by with_unfolding_all rfl)) ?_)
 | (with_reducible refine aB hQ ?_;exact bg))
   rcases Bool.eq_false_or_eq_true (f.own.any (fq p.globals))with c2|c2
   ·simp only [c1,c2,Bool.false_or,if_true]at hR
    subst hR
    repeat' (first
 |simp only[go_sem,hC,hE,hM,hY,c1,c2]
 |(with_reducible refine CU (TV _) ?_)
 |(with_reducible refine CU (hto _) ?_)
 |(with_reducible refine CU (W5 (by with_unfolding_all rfl)) ?_)
 | (with_reducible refine aB hQ ?_;exact bg))
   simp only[c1,c2,Bool.or_self,Bool.false_eq_true,if_false]at hR
   obtain⟨it,pT,BX⟩:=WL hE (by omega)
   rw[← pT]at hR
   have aeJ:it.length≤900000:=by
    have e:=congrArg List.length pT
    have e2:=(nH p).2 k f hE
    obtain⟨a,b,e',_,_,e3,e4⟩:=e2
    have e5:=pw p
    have e6:=congrArg List.length e3
    rw[e4]at e5
    simp only[List.length_map,List.length_append]at e e5 e6
    omega
   repeat' (first
 |simp only[go_sem,hC,hE,hM,hY,c1,c2]
 |(with_reducible refine CU (TV _) ?_)
 |(with_reducible refine CU (hto _) ?_)
 |(with_reducible refine CU (W5 (by with_unfolding_all rfl)) ?_)
 |(with_reducible refine CU (BX _) ?_)
 | (with_reducible refine aB hQ ?_;exact bg))
   obtain⟨q,hq⟩ : ∃ q,BW p f p.pn (it.map Im.s)=q:=⟨_,rfl⟩
   rw[hq]at hR
   refine dQ 3 1 (bd.ind (ι:=List Im×Nat) (fun i=>it.drop i.2=i.1∧BW p f p.pn (i.1.map Im.s)=q) (fun i=>i.1.length)
    (fun i=> [(1, .ptr 0 0),(2, .ptr 1 0),(3, .slice (.tok 0) 1 (p.pn.map encStr)),(7, .dL (fw p) 0),(9, .ptr 2 0),(57, .slice .shared 5 (p.procs.map cH)),(58, .int .i64 (p.procs.length:Int)),(59, .int .i64 (k:Int)),(76, .slice .shared 17 (it.map dK)),(77, .int .i64 (it.length:Int)),(78, .int .i64 (i.2:Int))]) (fun i=>⟨[cR p,[.int .i64 0, .int .i64 0],cH f],[some p.pn.length]⟩) ?_ (it,0) ⟨rfl,hq⟩)
   rintro⟨qw,n⟩ ⟨j1,j2⟩ Zr
   dsimp only at j1 j2
   have Ao:=hC
   cases qw with
   |nil=>
    have asT:=drop_nil j1
    simp only[List.map_nil,BW]at j2
    subst j2
    simp only at hR
    repeat' (first
 |simp only[go_sem,hC,hE,hM,hY,asT]
 | (with_reducible refine aB hQ ?_;exact bg))
    refine eM 2 1 ?_ ?_ (IH (rest,k+1) ⟨g2,hR⟩ (Nat.lt_succ_self _))
    ·(simp only[go_sem,hC,hE,hM,hY,aL cm];try exact cb)
    ·(simp only[go_sem,hC,hE,hM,hY,aL cm];try exact cb)
   | cons i qw=>
    obtain⟨py,Np,yS,jg4⟩:=drop_cons j1
    have tL:n<4611686018427387904:=by omega
    have Fo:i.s∈Sm.dm f.body:=by rw[← pT];exact List.mem_map_of_mem (List.mem_of_getElem? py)
    have hkn:=aaX (v:=i.s) vX (procs:=p.pn) (by omega) (h.said AH _ Fo)
    simp only[List.map_cons,BW]at j2
    rcases Bool.eq_false_or_eq_true (i.s.known p f p.pn)with c3|c3
    ·simp only [c3,if_true]at j2
     repeat' (first
 |simp only[go_sem,hC,hE,hM,hY,yS,py,c3]
 |(with_reducible refine CU (hkn _ _) ?_)
 | (with_reducible refine aB hQ ?_;exact bg))
     refine eM 3 1 ?_ ?_ (Zr (qw,n+1) ⟨Np,j2⟩ (Nat.lt_succ_self _))
     ·(simp only[go_sem,hC,hE,hM,hY,aL tL];try exact cb)
     ·(simp only[go_sem,hC,hE,hM,hY,aL tL];try exact cb)
    ·simp only [c3,Bool.false_eq_true,if_false]at j2
     subst j2
     simp only at hR
     subst hR
     repeat' (first
 |simp only[go_sem,hC,hE,hM,hY,yS,py,c3]
 |(with_reducible refine CU (hkn _ _) ?_)
 |(with_reducible refine aB hQ ?_;exact bg))
end Go.Abs
namespace Go.Abs
mutual
def Ex.Nq:Ex→Prop
 |⟨_,n,_,kids⟩=>n≤9223372036854775807∧Ex.Ea kids
def Ex.Ea:List Ex→Prop
 | []=>True
 |x::l=>x.Nq∧Ex.Ea l
end
mutual
def Sm.Nq:Sm→Prop
 |⟨_,_,_,_,_,x,_,args,bm,bc⟩=>x.Nq∧(∀ a∈args,a.x.Nq)∧Sm.Ea bm∧Sm.Ea bc
def Sm.Ea:List Sm→Prop
 | []=>True
 |s::l=>s.Nq∧Sm.Ea l
end
def Pg.Nq (p:Pg):Prop:=∀ f∈p.procs,Sm.Ea f.body
theorem HG {f:Pc} : ∀ {l:List Pc} {n:Nat},Pc.ff n l=true→f∈l→(isName f.name=true∧eo f.vars=true∧eo f.fin=true∧Pm.fl f.params=true)∧∃ n,(Sm.gB 1 n f.body).1=true
 |g::l,n,h,m=>by
  simp only[Pc.ff]at h
  split at h
  ·cases h
  rename_i c1
  split at h
  ·cases h
  rename_i c2
  split at h
  ·cases h
  rename_i c3
  simp only[Bool.or_eq_true,Bool.not_eq_true',not_or,Bool.not_eq_false]at c1 c2 c3
  rcases List.mem_cons.1 m with rfl|m
  ·exact⟨⟨c1.1.1.2,c1.1.2,c1.2,c2⟩,n,c3⟩
  ·exact HG h m
mutual
theorem QY : ∀ (s:Sm) (nest:Int) (n:Nat),(Sm.qa nest n s).1=true→s.size<4611686018427387000→s.zQ
 |⟨id,kind,labels,name,proc,x,has,args,bm,bc⟩,nest,n,hm,hs=>by
  obtain⟨_,_,h1,h2,h3,_⟩:=HD hm
  rw[K0]
  rw[(tP h2).2]at h2
  rw[(tP h3).2]at h3
  refine⟨K5 h1 hs,u3 bm _ _ h2 ?_,u3 bc _ _ h3 ?_⟩<;>simp only[Sm.size]at hs<;>omega
theorem u3 : ∀ (l:List Sm) (nest:Int) (n:Nat),(Sm.ff nest n l).1=true→Sm.br l<4611686018427387000→Sm.nr l
 | [],_,_,_,_=>by simp only[Sm.nr]
 |s::l,nest,n,hm,hs=>by
  simp only[Sm.ff]at hm
  simp only[Sm.br]at hs
  split at hm
  ·cases hm
  rename_i hc
  simp only[Bool.not_eq_true',Bool.not_eq_false]at hc
  exact⟨QY s nest n hc (by omega),u3 l nest _ hm (by omega)⟩
end
theorem BY {p:Pg} (h:p.may=true) (hs:p.size<4611686018427387000):p.QT:=by
 have hf:=WU h hs
 rw[← CD]at h
 unfold Pg.GF at h
 split at h
 ·cases h
 refine⟨hf.sz,hf.ux,hf.pH,fun f m=>?_⟩
 obtain⟨_,n,e⟩:=HG h m
 rw[(tP e).2]at e
 have:=Pc.dd m
 simp only[Pg.size]at hs
 exact u3 f.body 1 n e (by unfold Pc.size at this;omega)
set_option maxRecDepth 8000
open Go.Proofs
theorem W6 (x:It):(j8 x)[1]? = some (.int .i64 x.s.kind):=nd rfl
theorem W7 (x:It):(j8 x)[3]? = some (.str x.s.name):=nd rfl
theorem W8 (x:It):(j8 x)[4]? = some (.str x.s.proc):=nd rfl
theorem aaY (x:It):List.take 16 (j8 x)=j8 x:=nd rfl
attribute [go_sem] W6 W7 W8 aaY
end Go.Abs
namespace Go.Abs
set_option maxRecDepth 8000
open Go.Proofs
def Fp:List Pm→List Ar→Bool
 | [],_=>true
 |_,[]=>true
 |a::l,b::m=>if a.ref==b.ref then Fp l m else false
def CH (l:List Pm) (m:List Ar):Bool:=if(l.length:Int)==(m.length:Int)then Fp l m else false
def Sm.qD (p:Pg) (v:Sm):Bool:=v.kind==4 && match p.find v.proc with|none=>false|some q=>CH q.params v.args
theorem aeK {l:List Pm} {m:List Ar} (hl:l.length<1000000000) (hm:m.length<1000000000) (s:St):az Tryz.prog vG [.slice .shared 2 (l.map gN), .slice .shared 6 (m.map eC)] s (.bool (CH l m)) s:=by
 refine az.pure ?_ (by simp[D.bH,D.ok,Tag.ok,Qh,II]) rfl s
 generalize h:CH l m=q
 simp only[CH]at h
 unfold S0
 have b0:((l.length:Int) != (m.length:Int)) = !((l.length:Int)==(m.length:Int)):=rfl
 rcases Bool.eq_false_or_eq_true ((l.length:Int)==(m.length:Int))with b1|b1
 case inr=>
  rw[b1]at b0
  simp only[b1,Bool.false_eq_true,if_false]at h
  subst h
  refine az.go yz rfl fun B Q hB hQ=>?_
  have⟨hC,hE,hM,hY⟩:=bC
  repeat' (first
 |simp only[go_sem,hC,hE,hM,hY,b0,Bool.not_false]
 |(with_reducible refine aB hQ ?_;exact bg))
 rw[b1]at b0
 simp only[b1,if_true]at h
 have Zs:l.length=m.length:=by have:=eq_of_beq b1;omega
 refine az.go yz rfl fun B Q hB hQ=>?_
 have⟨hC,hE,hM,hY⟩:=bC
 repeat' (first
 |simp only[go_sem,hC,hE,hM,hY,b0,Bool.not_true]
 |(with_reducible refine aB hQ ?_;exact bg))
 refine dQ 0 0 (bd.ind (ι:=List Pm×List Ar×Nat) (fun i=>l.drop i.2.2=i.1∧m.drop i.2.2=i.2.1∧Fp i.1 i.2.1=q) (fun i=>i.1.length)
  (fun i=> [(1, .slice .shared 6 (m.map eC)),(12, .slice .shared 2 (l.map gN)),(13, .int .i64 (l.length:Int)),(14, .int .i64 (i.2.2:Int))]) (fun i=>⟨[],[]⟩) ?_ (l,m,0) ⟨rfl,rfl,h⟩)
 rintro⟨r1,r2,k⟩ ⟨h1,h2,h⟩ IH
 dsimp only at h1 h2 h
 cases r1 with
 |nil=>
  have hC:=drop_nil h1
  simp only[Fp]at h
  subst h
  repeat' (first
 |simp only[go_sem,hC,hE,hM,hY]
 |(with_reducible refine aB hQ ?_;exact bg))
 | cons a r1=>
  obtain⟨hE,g2,hC,g4⟩:=drop_cons h1
  cases r2 with
  |nil=>have:=List.drop_eq_nil_iff.1 h2;omega
  | cons b r2=>
   obtain⟨Zt,b2,QZ,_⟩:=drop_cons h2
   have cm:k<4611686018427387904:=by omega
   simp only[Fp]at h
   have w1:(true==true)=true:=rfl
   have w2:(false==false)=true:=rfl
   have w3:(true==false)=false:=rfl
   have w4:(false==true)=false:=rfl
   have v1:(true != true)=false:=rfl
   have v2:(false != false)=false:=rfl
   have v3:(true != false)=true:=rfl
   have v4:(false != true)=true:=rfl
   rcases Bool.eq_false_or_eq_true a.ref with ea|ea
   ·rcases Bool.eq_false_or_eq_true b.ref with eb | eb
    ·simp only [ea,eb,w1,w2,if_true]at h
     repeat' (first
 |simp only[go_sem,hC,hE,hM,hY,Zt,QZ,ea,eb,w1,w2,v1,v2]
 | (with_reducible refine aB hQ ?_;exact bg))
     refine eM 0 0 ?_ ?_ (IH (r1,r2,k+1) ⟨g2,b2,h⟩ (Nat.lt_succ_self _))
     ·(simp only[go_sem,hC,hE,hM,hY,aL cm];try exact cb)
     ·(simp only[go_sem,hC,hE,hM,hY,aL cm];try exact cb)
    ·simp only [ea,eb,w3,w4,Bool.false_eq_true,if_false]at h
     subst h
     repeat' (first
 |simp only[go_sem,hC,hE,hM,hY,Zt,QZ,ea,eb,w3,w4,v3,v4]
 | (with_reducible refine aB hQ ?_;exact bg))
   ·rcases Bool.eq_false_or_eq_true b.ref with eb | eb
    ·simp only [ea,eb,w3,w4,Bool.false_eq_true,if_false]at h
     subst h
     repeat' (first
 |simp only[go_sem,hC,hE,hM,hY,Zt,QZ,ea,eb,w3,w4,v3,v4]
 | (with_reducible refine aB hQ ?_;exact bg))
    ·simp only [ea,eb,w1,w2,if_true]at h
     repeat' (first
 |simp only[go_sem,hC,hE,hM,hY,Zt,QZ,ea,eb,w1,w2,v1,v2]
 |(with_reducible refine aB hQ ?_;exact bg))
     refine eM 0 0 ?_ ?_ (IH (r1,r2,k+1) ⟨g2,b2,h⟩ (Nat.lt_succ_self _))
     ·(simp only[go_sem,hC,hE,hM,hY,aL cm];try exact cb)
     ·(simp only[go_sem,hC,hE,hM,hY,aL cm];try exact cb)
theorem aeL {p:Pg} {v:Sm} (h:p.iX) (hv:v.nw) (s:St):az Tryz.prog vC [.agg (cR p), .agg (a8 v)] s (.bool (v.qD p)) s:=by
 refine az.pure ?_ (by simp[D.bH,D.ok,jX,mY]) rfl s
 obtain⟨sh,r7,rZ⟩:=h.procs
 have Av:v.args.length<1000000000:=by have:=Ar.ei v.args;have:=hv.2.2;omega
 generalize hR:v.qD p=R
 simp only[Sm.qD]at hR
 unfold S0
 have b0:(v.kind != 4) = !(v.kind==4):=rfl
 rcases Bool.eq_false_or_eq_true (v.kind==4)with b1|b1
 case inr=>
  rw[b1]at b0
  simp only[b1,Bool.false_and]at hR
  subst hR
  refine az.go yK rfl fun B Q hB hQ=>?_
  have⟨hC,hE,hM,hY⟩:=bC
  repeat' (first
 |simp only[go_sem,hC,hE,hM,hY,b0,Bool.not_false]
 |(with_reducible refine aB hQ ?_;exact bg))
 rw[b1]at b0
 simp only[b1,Bool.true_and,Pg.find]at hR
 refine az.go yK rfl fun B Q hB hQ=>?_
 have⟨hC,hE,hM,hY⟩:=bC
 repeat' (first
 |simp only[go_sem,hC,hE,hM,hY,b0,Bool.not_true]
 |(with_reducible refine aB hQ ?_;exact bg))
 refine dQ 2 0 (bd.ind (ι:=List Pc×Nat) (fun i=>p.procs.drop i.2=i.1∧(match iT v.proc i.1 with|none=>false|some q=>CH q.params v.args)=R) (fun i=>i.1.length)
  (fun i=> [(3, .ptr 1 0),(11, .slice .shared 5 (p.procs.map cH)),(12, .int .i64 (p.procs.length:Int)),(13, .int .i64 (i.2:Int))]) (fun i=>⟨[cR p,a8 v],[]⟩) ?_ (p.procs,0) ⟨rfl,hR⟩)
 clear hR
 rintro⟨rest,k⟩ ⟨h1,hR⟩ IH
 dsimp only at h1 hR
 cases rest with
 |nil=>
  have hC:=drop_nil h1
  simp only[iT]at hR
  subst hR
  repeat' (first
 |simp only[go_sem,hC,hE,hM,hY]
 |(with_reducible refine aB hQ ?_;exact bg))
 | cons a rest=>
  obtain⟨hE,g2,hC,g4⟩:=drop_cons h1
  have cm:k<4611686018427387904:=by omega
  have vX:=h.small (List.mem_of_getElem? hE)
  have Zm:=fun s=>aeK (l:=a.params) (m:=v.args) (by have:=vX.par;omega) Av s
  simp only[iT]at hR
  rcases Bool.eq_false_or_eq_true (a.name==v.proc)with c1|c1
  ·simp only [c1,if_true]at hR
   subst hR
   repeat' (first
 |simp only[go_sem,hC,hE,hM,hY,c1]
 |(with_reducible refine CU (Zm _) ?_)
 | (with_reducible refine aB hQ ?_;exact bg))
  ·simp only [c1,Bool.false_eq_true,if_false]at hR
   repeat' (first
 |simp only[go_sem,hC,hE,hM,hY,c1]
 | (with_reducible refine aB hQ ?_;exact bg))
   refine eM 2 0 ?_ ?_ (IH (rest,k+1) ⟨g2,hR⟩ (Nat.lt_succ_self _))
   ·(simp only[go_sem,hC,hE,hM,hY,aL cm];try exact cb)
   ·(simp only[go_sem,hC,hE,hM,hY,aL cm];try exact cb)
def Lf (p:Pg):List Sm→Option Sm
 | []=>none
 |v::l=>if v.kind==4 && !(v.qD p)then some v else Lf p l
def qq (c:Int):Option Sm→Int×Int
 |some v=>(c,v.id)
 |none=>(0,0)
def Pg.arity (p:Pg):Int×Int:=if p.scope.1==0 then qq 6 (Lf p p.pre)else(1,0)
theorem Pg.iX.pre {p:Pg} (h:p.iX) : ∀ v∈p.pre,v.nw:=fun v m=>by
 simp only[Pg.pre,List.mem_flatten,List.mem_map]at m
 obtain⟨l,⟨f,hf,rfl⟩,m⟩:=m
 exact h.said hf v m
theorem Lg {p:Pg} (h:p.iX) (s:St):az Tryz.prog qA [.agg (cR p)] s (.agg [.int .i64 p.arity.1, .int .i64 p.arity.2]) s:=by
 refine az.pure ?_ (by simp[D.bH,D.ok,jX]) rfl s
 obtain⟨sh,r7,rZ⟩:=h.procs
 have pP:=fun s=>vW h s
 have dr:=fun s=>Cy (p:=p) (by omega) s
 have hL:=(nH p).1
 have HH:=pw p
 generalize hR:p.arity=R
 simp only[Pg.arity]at hR
 unfold S0
 have b0:(p.scope.1 != 0) = !(p.scope.1==0):=rfl
 rcases Bool.eq_false_or_eq_true (p.scope.1==0)with b1|b1
 case inr=>
  rw[b1]at b0
  simp only[b1,Bool.false_eq_true,if_false]at hR
  subst hR
  refine az.go wO rfl fun B Q hB hQ=>?_
  have⟨hC,hE,hM,hY⟩:=bC
  repeat' (first
 |simp only[go_sem,hC,hE,hM,hY,b0,Bool.not_false]
 |(with_reducible refine CU (pP _) ?_)
 |(with_reducible refine aB hQ ?_;exact bg))
 rw[b1]at b0
 simp only[b1,if_true, ← hL]at hR
 refine az.go wO rfl fun B Q hB hQ=>?_
 have⟨hC,hE,hM,hY⟩:=bC
 repeat' (first
 |simp only[go_sem,hC,hE,hM,hY,b0,Bool.not_true,nW]
 |(with_reducible refine CU (pP _) ?_)
 |(with_reducible refine CU (dr _) ?_)
 |(with_reducible refine aB hQ ?_;exact bg))
 refine dQ 2 0 (bd.ind (ι:=List Im×Nat) (fun i=>p.bh.L.drop i.2=i.1∧qq 6 (Lf p (i.1.map Im.s))=R) (fun i=>i.1.length)
  (fun i=> [(1, .ptr 0 0),(2, .ptr 1 0),(14, .slice .shared 17 (p.bh.L.map dK)),(15, .int .i64 (p.bh.L.length:Int)),(16, .int .i64 (i.2:Int))]) (fun i=>⟨[cR p,[.int .i64 0, .int .i64 0]],[]⟩) ?_ (p.bh.L,0) ⟨rfl,hR⟩)
 clear hR
 rintro⟨rest,k⟩ ⟨h1,hR⟩ IH
 dsimp only at h1 hR
 cases rest with
 |nil=>
  have hC:=drop_nil h1
  simp only[List.map_nil,Lf,qq]at hR
  subst hR
  repeat' (first
 |simp only[go_sem,hC,hE,hM,hY]
 |(with_reducible refine aB hQ ?_;exact bg))
 | cons a rest=>
  obtain⟨hE,g2,hC,g4⟩:=drop_cons h1
  have cm:k<4611686018427387904:=by omega
  have Fo:a.s∈p.pre:=by rw[← hL];exact List.mem_map_of_mem (List.mem_of_getElem? hE)
  have hf1:=fun s=>aeL h (h.pre _ Fo) s
  simp only[List.map_cons,Lf]at hR
  rcases Bool.eq_false_or_eq_true (a.s.kind==4)with c1|c1
  ·rcases Bool.eq_false_or_eq_true (a.s.qD p)with c2 | c2
   ·simp only [c1,c2,Bool.not_true,Bool.and_false,Bool.false_eq_true,if_false]at hR
    repeat' (first
 |simp only[go_sem,hC,hE,hM,hY,c1,c2]
 |(with_reducible refine CU (hf1 _) ?_)
 | (with_reducible refine aB hQ ?_;exact bg))
    refine eM 2 0 ?_ ?_ (IH (rest,k+1) ⟨g2,hR⟩ (Nat.lt_succ_self _))
    ·(simp only[go_sem,hC,hE,hM,hY,aL cm];try exact cb)
    ·(simp only[go_sem,hC,hE,hM,hY,aL cm];try exact cb)
   ·simp only [c1,c2,Bool.not_false,Bool.and_true,if_true,qq]at hR
    subst hR
    repeat' (first
 |simp only[go_sem,hC,hE,hM,hY,c1,c2]
 |(with_reducible refine CU (hf1 _) ?_)
 | (with_reducible refine aB hQ ?_;exact bg))
  ·simp only [c1,Bool.false_and,Bool.false_eq_true,if_false]at hR
   repeat' (first
 |simp only[go_sem,hC,hE,hM,hY,c1]
 |(with_reducible refine CU (hf1 _) ?_)
 | (with_reducible refine aB hQ ?_;exact bg))
   refine eM 2 0 ?_ ?_ (IH (rest,k+1) ⟨g2,hR⟩ (Nat.lt_succ_self _))
   ·(simp only[go_sem,hC,hE,hM,hY,aL cm];try exact cb)
   ·(simp only[go_sem,hC,hE,hM,hY,aL cm];try exact cb)
theorem B0 {p:Pg} (h:(p.scope.1==0)=true):p.may=true:=by
 unfold Pg.scope at h
 split at h
 ·assumption
 ·cases h
def nz (out:List aF):List aF→aF→Bool→aF×Bool
 | [],c,a=>(c,a)
 |s::l,c,a=>if !(fq out s) && (!a ||bytesLess s c)then nz out l s true else nz out l c a
def TW (l out:List aF):List aF:=if(nz out l [] false).2 then out++ [(nz out l [] false).1]else out
def pK (l:List aF):Nat→List aF→List aF
 | 0,out=>out
 |n+1,out=>pK l n (TW l out)
def ky (l:List aF):List aF:=pK l l.length []
end Go.Abs
namespace Go.Proofs
open Go.Shelf
def Tryz.MM:Go.Shelf.Ren:=⟨fun| 190=>176| 125=>200| 258=>199| 128=>223| 129=>224| 302=>214| 303=>215| 304=>216| 305=>217| 306=>218| 307=>219| 308=>220| 309=>221| 310=>222| 333=>236| 329=>237| 330=>238| 334=>239| 335=>240| 336=>241| 344=>244|n=>n,fun| 31=>22| 9=>9| 3=>3| 46=>220| 0=>0| 51=>241| 53=>200| 4=>4| 183=>234| 182=>233| 131=>158| 5=>5| 218=>248| 222=>252| 228=>255| 229=>256|n=>n,fun|n=>n⟩
theorem Tryz.Nr:Go.Proofs.Lays.n190 Tryz.prog Tryz.MM:= {
 mixed:=by kernel_rfl
 f125:=Tryz.func200.trans (congrArg some (by kernel_rfl))
 f128:=Tryz.func223.trans (congrArg some (by kernel_rfl))
 f129:=Tryz.func224.trans (congrArg some (by kernel_rfl))
 f190:=Tryz.func176.trans (congrArg some (by kernel_rfl))
 f258:=Tryz.func199.trans (congrArg some (by kernel_rfl))
 f302:=Tryz.func214.trans (congrArg some (by kernel_rfl))
 f303:=Tryz.func215.trans (congrArg some (by kernel_rfl))
 f304:=Tryz.func216.trans (congrArg some (by kernel_rfl))
 f305:=Tryz.func217.trans (congrArg some (by kernel_rfl))
 f306:=Tryz.func218.trans (congrArg some (by kernel_rfl))
 f307:=Tryz.func219.trans (congrArg some (by kernel_rfl))
 f308:=Tryz.func220.trans (congrArg some (by kernel_rfl))
 f309:=Tryz.func221.trans (congrArg some (by kernel_rfl))
 f310:=Tryz.func222.trans (congrArg some (by kernel_rfl))
 f329:=Tryz.func237.trans (congrArg some (by kernel_rfl))
 f330:=Tryz.func238.trans (congrArg some (by kernel_rfl))
 f333:=Tryz.func236.trans (congrArg some (by kernel_rfl))
 f334:=Tryz.func239.trans (congrArg some (by kernel_rfl))
 f335:=Tryz.func240.trans (congrArg some (by kernel_rfl))
 f336:=Tryz.func241.trans (congrArg some (by kernel_rfl))
 f344:=Tryz.func244.trans (congrArg some (by kernel_rfl))
 t0:=Tryz.underlying0
 a0:=Tryz.isAgg0
 z0:=Tryz.sizeOf0
 v0:=Tryz.zeroValue0
 t3:=Tryz.underlying3
 a3:=Tryz.isAgg3
 z3:=Tryz.sizeOf3
 v3:=Tryz.zeroValue3
 t4:=Tryz.underlying4
 a4:=Tryz.isAgg4
 z4:=Tryz.sizeOf4
 v4:=Tryz.zeroValue4
 t5:=Tryz.underlying5
 a5:=Tryz.isAgg5
 z5:=Tryz.sizeOf5
 v5:=Tryz.zeroValue5
 t9:=Tryz.underlying9
 a9:=Tryz.isAgg9
 z9:=Tryz.sizeOf9
 v9:=Tryz.zeroValue9
 t31:=Tryz.underlying22
 a31:=Tryz.isAgg22
 z31:=Tryz.sizeOf22
 v31:=Tryz.zeroValue22
 t46:=Tryz.underlying220
 a46:=Tryz.isAgg220
 z46:=Tryz.sizeOf220
 v46:=Tryz.zeroValue220
 t51:=Tryz.underlying241
 a51:=Tryz.isAgg241
 z51:=Tryz.sizeOf241
 v51:=Tryz.zeroValue241
 t53:=Tryz.underlying200
 a53:=Tryz.isAgg200
 z53:=Tryz.sizeOf200
 v53:=Tryz.zeroValue200
 t131:=Tryz.underlying158
 a131:=Tryz.isAgg158
 z131:=Tryz.sizeOf158
 v131:=Tryz.zeroValue158
 t182:=Tryz.underlying233
 a182:=Tryz.isAgg233
 z182:=Tryz.sizeOf233
 v182:=Tryz.zeroValue233
 t183:=Tryz.underlying234
 a183:=Tryz.isAgg234
 z183:=Tryz.sizeOf234
 v183:=Tryz.zeroValue234
 t218:=Tryz.underlying248
 a218:=Tryz.isAgg248
 z218:=Tryz.sizeOf248
 v218:=Tryz.zeroValue248
 t222:=Tryz.underlying252
 a222:=Tryz.isAgg252
 z222:=Tryz.sizeOf252
 v222:=Tryz.zeroValue252
 t228:=Tryz.underlying255
 a228:=Tryz.isAgg255
 z228:=Tryz.sizeOf255
 v228:=Tryz.zeroValue255
 t229:=Tryz.underlying256
 a229:=Tryz.isAgg256
 z229:=Tryz.sizeOf256
 v229:=Tryz.zeroValue256}
open Go.Sort Go.RowKit in
theorem Tryz.slices_Sort_string (B1 off cap:Nat) (ss:List (List UInt8)) (w:World) (hH:Holds encStr w B1 off ss.toArray) (asU:B1<w.heap.size) (eg:ss.length<4611686018427387904) :
 Calls Tryz.prog 176 #[.slice (some ⟨B1,off,none⟩) ss.length cap] w fun e w'=>
  e = .returned (.tuple #[])∧∃ n os,w'=grow (putRow encStr (Sort.ahead w n) B1 off (ss.mergeSort fun x y=>decide (x≤y)).toArray) os:=Any.slices_Sort_string Tryz.Nr B1 off cap ss w hH asU eg
def Tryz.MN:Go.Shelf.Ren:=⟨fun| 194=>177|n=>n,fun| 31=>22| 9=>9| 3=>3| 4=>4| 0=>0|n=>n,fun|n=>n⟩
theorem Tryz.Ns:Go.Proofs.Lays.n194 Tryz.prog Tryz.MN:= {
 mixed:=by kernel_rfl
 f194:=Tryz.func177.trans (congrArg some (by kernel_rfl))
 t0:=Tryz.underlying0
 a0:=Tryz.isAgg0
 z0:=Tryz.sizeOf0
 v0:=Tryz.zeroValue0
 t3:=Tryz.underlying3
 a3:=Tryz.isAgg3
 z3:=Tryz.sizeOf3
 v3:=Tryz.zeroValue3
 t4:=Tryz.underlying4
 a4:=Tryz.isAgg4
 z4:=Tryz.sizeOf4
 v4:=Tryz.zeroValue4
 t9:=Tryz.underlying9
 a9:=Tryz.isAgg9
 z9:=Tryz.sizeOf9
 v9:=Tryz.zeroValue9
 t31:=Tryz.underlying22
 a31:=Tryz.isAgg22
 z31:=Tryz.sizeOf22
 v31:=Tryz.zeroValue22}
open Go.RowKit Go.Lib Go.Sort in
theorem Tryz.slices_Compact_string (B1 off cap:Nat) (zs:List (List UInt8)) (w:World) (hH:Holds encStr w B1 off zs.toArray) (eg:zs.length≤9223372036854775807) (ua:zs.length≤cap) :
 Calls Tryz.prog 177 #[.slice (some ⟨B1,off,none⟩) zs.length cap] w fun e w'=>e = .returned (.slice (some ⟨B1,off,none⟩) (Lib.compact zs).length cap)∧∃ q,w'=putRow encStr (Sort.ahead w q) B1 off (Lib.compact zs++List.replicate (zs.length - (Lib.compact zs).length) []).toArray:=Any.slices_Compact_string Tryz.Ns B1 off cap zs w hH eg ua
open Go.RowKit Go.Lib Go.Sort in
theorem Tryz.slices_Compact_string_empty (a:Option Addr) (cap:Nat) (w:World) :
 Calls Tryz.prog 177 #[.slice a 0 cap] w fun e w'=>e = .returned (.slice a 0 cap)∧w'=w:=Any.slices_Compact_string_empty Tryz.Ns a cap w
open Go.RowKit Go.Sort in
theorem Tryz.slices_Sort_string_none (p:Option Addr) (cap:Nat) (w:World) :
 Calls Tryz.prog 176 #[.slice p 0 cap] w fun e w'=>e = .returned (.tuple #[])∧w'=w:=Any.slices_Sort_string_none Tryz.Nr p cap w
end Go.Proofs
namespace Go.Abs
open Go.Proofs
section
variable {P:Program} {B:e7} {nt:Nat}
theorem aaZ {x:Operand} {t:Nat} (h:cX x=some (.s t)):x = .tmp t:=by
 unfold cX at h
 split at h
 ·cases h;rfl
 ·obtain⟨d,_,h⟩:=map_some h;cases h
 ·cases h
 ·cases h
theorem Q2 {ops:Array Oper} {o:Oper} {g g':Option (Nat×Bool)} {dst:Option Nat} {f:Nat} {xs:List X} (h:sN P ops o g=some (.call dst g' f xs)) :
 g'=g∧∃ args mF,o.op = .call ⟨.value (.func f),args,mF⟩∧enters P f=true∧x7 args.toList=some xs:=by
 unfold sN at h
 split at h
 ·rename_i f' args mF mE
  split at h
  ·rename_i he
   obtain⟨xs',h1,h2⟩:=map_some h
   cases h2
   exact⟨rfl,args,mF,mE,he,h1⟩
  ·cases h
 ·obtain⟨_,_,h⟩:=map_some h;cases h
 ·split at h
  ·cases h
  ·split at h<;>cases h
theorem TX {ops:Array Oper} {o:Oper} {tmps:Array Value} (hg:vj ops o.guard=some none):Region.wanted o (yielded ops tmps)=true:=by
 have:o.guard=none:=by
  cases G8:o.guard with
  |none=>rfl
  |some p=>
   obtain⟨j,b⟩:=p
   rw[G8]at hg
   unfold vj at hg
   simp only at hg
   split at hg<;>cases hg
 simp[Region.wanted,this]
theorem Sem.aeO {a k b f:Nat} {is:List AI} {Q:Exit→Tm→St→Prop} {tm:Tm} {s:St}
 (ah7 : ∀ act w,Holds B nt (tm.put (some a) (tm.get k)) s act w→Calls P f #[act.tmps.getD a Go.undef] w fun e w'=>∃ v,e = .returned v∧∃ bE s',Holds B nt bE s' (act.put (some b) v) w'∧iW P is (Q .normal) bE s') :
 Sem P B nt (.run (.op (some a) none (.mv (.s k)):: .call (some b) none f [.s a]::is)) Q tm s:=by
 intro c hc act w hh
 obtain⟨id,ops,rfl,hi⟩:=lC hc
 refine wp_region ?_
 have key : ∀ (l:List Nat) (ol:List Oper),l.map (ops[·]?)=ol.map some→rj P nt ops ol=some (.op (some a) none (.mv (.s k)):: .call (some b) none f [.s a]::is)→wpOps P ops (pX B nt Q) l act w:=by
  intro l ol hl xp
  match ol,l,hl with
  | [],_,_=>simp[rj]at xp
  |o0::ol,[],hl=>simp at hl
  | o0::ol,j0::l,hl=>
   simp only[List.map_cons,List.cons.injEq]at hl
   obtain⟨hj0,hl⟩:=hl
   unfold rj at xp
   split at xp
   ·rename_i i0 is0 h1 h2
    cases xp
    match ol,l,hl,h2 with
    | [],_,_,h2=>simp[rj]at h2
    |o1::ol,[],hl,_=>simp at hl
    | o1::ol,j1::l,hl,h2=>
     simp only[List.map_cons,List.cons.injEq]at hl
     obtain⟨hj1,hl⟩:=hl
     unfold rj at h2
     split at h2
     ·rename_i i1 is1 h3 h4
      cases h2
      obtain⟨M,e,r,ht,hn,hd⟩:=hh
      have Zu:=tC h1
      have Nt:=tC h3
      simp only[AI.dst]at Zu Nt
      refine xo (K':=fun bE s'=>bE=tm.put (some a) (tm.get k)∧s'=s) hj0 h1 r (B.laid.ext e) ht (by simp only[iW,guarded,aO,X.ev,and_self]) (fun d v s1 w1 M1 hk e1 r1 hv=>?_)
      obtain⟨rn,rfl⟩:=hk
      have hH:=Holds.put e ht hn hd (yl h1) e1 r1 hv
      simp only[AI.dst]at rn
      rw[← Zu]at hH ⊢
      rw[rn]at hH
      obtain⟨g,hg,_,hb⟩:=Bt h3
      obtain⟨rfl,args,mF,mE,zo,oI⟩:=Q2 hb
      simp only[wpOps,hj1,TX hg,if_true]
      left
      have WG:args.map (act.put (some a) v).eval = #[(act.put (some a) v).tmps.getD a Go.undef]:=by
       have:args.toList = [.tmp a]:=by
        match hA:args.toList with
        | []=>rw[hA]at oI;simp[x7]at oI
        | [x]=>
         rw[hA]at oI
         simp only[x7]at oI
         split at oI
         ·rename_i x' r' hx hr
          cases oI
          rw[aaZ hx]
         ·cases oI
        | x::y::z=>
         rw[hA]at oI
         simp only[x7]at oI
         split at oI
         ·rename_i x' r' hx hr
          cases oI
          split at hr
          ·cases hr
          ·cases hr
         ·cases oI
       have:args = #[.tmp a]:=by rw[← Array.toArray_toList (xs:=args),this]
       rw[this]
       simp only[List.map_toArray,List.map_cons,List.map_nil]
       rfl
      have hex:(execOp (act.put (some a) v).eval o1).run P w1 = .ok (.enter f #[(act.put (some a) v).tmps.getD a Go.undef]) w1:=by
       obtain⟨dst,op,type,pos,after,guard⟩:=o1
       simp only at mE
       subst mE
       rw[← WG]
       exact xj (act.put (some a) v).eval dst f args mF type pos after guard rfl zo w1
      unfold Oper.wp
      rw[hex,Oper.upon_enter]
      refine(ah7 _ _ hH).mono ?_
      rintro en w' ⟨v',rfl,bE,s',hH',hvc⟩
      rw[← Nt]
      exact Bo (Q:=Q) l ol _ hl h4 bE s' _ w' hvc hH'
     ·cases h2
   ·cases xp
 exact key _ _ (Bp ops) hi
theorem HI (hB:B.s = ⟨[],[]⟩) {tm:Tm} {s:St} {act:Act} {w:World} (h:Holds B nt tm s act w) {t:Nat} {l:List aF} (ht:s.aw[t]? = some (some l.length)) {k0:Nat} (hk0:tm.get k0 = .slice (.tok t) 1 (l.map encStr)) :
 (l = []∧∀ k,tm.get k = .slice (.tok t) 1 (l.map encStr)→(act.tmps.getD k Go.undef = .slice none 0 0∨∃ b q,act.tmps.getD k Go.undef = .slice (some ⟨b,q,none⟩) 0 0))∨
 ∃ (b cap:Nat) (vs:Array Value) (T:TypeId),(∀ k,tm.get k = .slice (.tok t) 1 (l.map encStr)→act.tmps.getD k Go.undef = .slice (some ⟨b,0,none⟩) l.length cap)∧l.length≤cap∧w.heap[b]? = some (.cells vs T (0,0))∧vs.size=cap∧B.w.heap.size≤b∧
  ∀ j (hj:j<l.length),vs[j]? = some (.string ⟨⟨l[j]⟩⟩):=by
 obtain⟨M,e,r,hr,_,_⟩:=h
 rcases r.tok t _ ht with ⟨h3,h4⟩|⟨b,cap,z,vs,T,h3,h4,h5,h6,h7⟩
 ·have hl:l = []:=List.eq_nil_of_length_eq_zero h4
  subst hl
  refine .inl ⟨rfl,fun k hk=>?_⟩
  have hv:=hr k
  rw[hk]at hv
  generalize act.tmps.getD k Go.undef=v at hv
  cases hv with
  |jo _ _ cap hc pR=>subst hc;exact .inl rfl
  |slice _ _ _ b q cap hl hs h1 h2 pR=>
   rcases(pR.2 _ ht).2 rfl with ⟨_,h0,_⟩|⟨b',_,kT⟩
   ·subst h0;exact .inr ⟨b,q,rfl⟩
   ·rw[h3]at kT;cases kT
 ·right
  have each : ∀ k,tm.get k = .slice (.tok t) 1 (l.map encStr)→z=1∧act.tmps.getD k Go.undef = .slice (some ⟨b,0,none⟩) l.length cap∧l.length≤cap∧∀ j (hj:j<l.length),∃ u,M.G b j=some u∧RD M s (.str l[j]) u:=by
   intro k hk
   have hv:=hr k
   rw[hk]at hv
   generalize act.tmps.getD k Go.undef=v at hv
   generalize kq:l.map encStr=rows at hv
   cases hv with
   |jo _ _ cap hc pR=>
    have hl:l = []:=by cases l<;>simp at kq;rfl
    subst hl
    rcases(pR.2 _ ht).2 rfl with ⟨h0,_⟩|⟨b',h0,_⟩
    ·rw[h3]at h0;cases h0
    ·cases h0
   | slice _ _ _ b2 q aAB hl hs h1 h2 pR=>
    subst kq
    rw[List.length_map]at hl pR
    rcases(pR.2 _ ht).2 rfl with ⟨h0,_⟩|⟨b',hb,kT⟩
    ·rw[h3]at h0;cases h0
    ·cases hb
     rw[h3]at kT
     cases kT
     refine⟨rfl,by rw[List.length_map],hl,fun j hj=>?_⟩
     have e1:(l.map encStr)[j]? = some [.str l[j]]:=by rw[List.getElem?_map,List.getElem?_eq_getElem hj];rfl
     obtain⟨u,hu⟩:=h1 j _ 0 _ e1 rfl
     refine⟨u,by simpa using hu,h2 j _ 0 _ u e1 rfl hu⟩
  obtain⟨rfl,_,ua,lZ⟩:=each k0 hk0
  have dr:B.w.heap.size≤b:=by
   rcases e.qF t b cap 1 ⟨_,ht⟩ h3 with ⟨⟨n,hn⟩,_⟩|h
   ·rw[hB]at hn;simp at hn
   ·exact h
  refine⟨b,cap,vs,T,fun k hk=>(each k hk).2.1,ua,h4,by simpa[zs]using h5,dr,fun j hj=>?_⟩
  obtain⟨u,hu,jy⟩:=lZ j hj
  have:=(r.comm _ _ _ hu).1
  rw[ji h4,jy.ln]at this
  exact this
theorem Lh (hB:B.s = ⟨[],[]⟩) {tm:Tm} {s:St} {act uy:Act} {w w':World} (h:Holds B nt tm s act w) {b cap:Nat} {vs:Array Value} {T:TypeId} (eg:vs.size=cap) (wS:B.w.heap.size≤b)
 (lV : ∀ q,q<B.w.heap.size→w'.heap[q]? = w.heap[q]?) (ey:w'.heap[b]? = some (.cells vs T (0,0))) (eH:w.heap.size≤w'.heap.size) (uE:w'.os=w.os) (EE:w'.tape=w.tape) (Vb:w'.output=w.output)
 {l:List aF} (hl:l.length≤cap) (lZ : ∀ j (hj:j<l.length),vs[j]? = some (.string ⟨⟨l[j]⟩⟩)) {k:Nat} (Q3:uy.tmps.getD k Go.undef = .slice (some ⟨b,0,none⟩) l.length cap) (hn:uy.tmps.size=nt) (hd:uy.defers = []) :
 Holds B nt [(k, .slice (.tok 0) 1 (l.map encStr))] ⟨[],[some l.length]⟩ uy w':=by
 obtain⟨M,e,r,hr,_,_⟩:=h
 let M':Map:=⟨fun q o=>if q=b then(if o<l.length then(l[o]?).map fun x=>Value.string ⟨⟨x⟩⟩else none)else B.M.G q o,B.M.loc,fun _=>some (b,cap,1)⟩
 have hGb : ∀ q o v,B.M.G q o=some v→q<B.w.heap.size∧w'.cell? ⟨q,o,none⟩=some v∧v.oneCell'=true:=by
  intro q o v hq
  obtain⟨h1,h2⟩:=r.comm q o v (e.le.G q o v hq)
  have hC:=B.Dk q o v hq
  refine⟨hC, ?_,h2⟩
  rw[← h1]
  simp[World.cell?,lV q hC]
 have kI : ∀ j (hj:j<l.length),w'.cell? ⟨b,j,none⟩=some (.string ⟨⟨l[j]⟩⟩):=fun j hj=>by rw[ji ey];exact lZ j hj
 have hE : ∀ (j:Nat) v,(if j<l.length then(l[j]?).map fun x=>Value.string ⟨⟨x⟩⟩else none)=some v→∃ hj:j<l.length,v = .string ⟨⟨l[j]⟩⟩:=by
  intro j v hv
  split at hv
  ·rename_i hj
   rw[List.getElem?_eq_getElem hj]at hv
   exact⟨hj,by simpa using hv.symm⟩
  ·cases hv
 refine⟨M',⟨⟨fun q o v hq=>?_,by simp[hB],fun o ho=> .refl _,by rw[hB];exact Nat.zero_le _,fun t n' ht _=>by rw[hB]at ht;exact absurd ht (Nat.not_lt_zero _)⟩,fun q hq _ _=>?_,fun o _ h2=>absurd h2 (Nat.not_lt_zero _),fun t q c z _ hb=>?_,fun q o fi=>?_,Nat.le_trans e.size eH,uE.trans e.os,EE.trans e.tape,Vb.trans e.output⟩,
  ⟨fun q o v hq=>?_,fun o ds ho=>by simp at ho,fun o ho=>absurd ho (Nat.not_lt_zero _),fun o o' ho=>absurd ho (Nat.not_lt_zero _),fun t n ht=>?_,fun t q c z o _ _ ho=>absurd ho (Nat.not_lt_zero _),fun t t' q c z c' z' vT lb _ _=>?_⟩,fun u=>?_,hn,hd⟩
 ·show(if q=b then _ else B.M.G q o)=some v
  rw[if_neg (by have:=(hGb q o v hq).1;omega)]
  exact hq
 ·rw [lV q hq]
  exact e.kept q hq (fun o ho=>by rw[hB]at ho;exact absurd ho (Nat.not_lt_zero _)) (fun t c z lb=>by rw[hB]at lb;obtain⟨n,AG⟩:=lb;simp at AG)
 ·cases hb;exact .inr wS
 ·by_cases hq:q=b
  ·subst hq;exact .inl wS
  ·exact absurd (show(if q=b then _ else B.M.G q o)=B.M.G q o from if_neg hq) fi
 ·have mC:(if q=b then(if o<l.length then(l[o]?).map fun x=>Value.string ⟨⟨x⟩⟩else none)else B.M.G q o)=some v:=hq
  by_cases hqb:q=b
  ·rw [if_pos hqb]at mC
   obtain⟨hj,rfl⟩:=hE o v mC
   rw[hqb]
   exact⟨kI o hj,rfl⟩
  ·rw [if_neg hqb]at mC
   exact(hGb q o v mC).2
 ·match t with
  | 0=>
   simp at ht
   subst ht
   refine .inr ⟨b,cap,1,vs,T,rfl,ey,by simp[zs,eg],hl,fun off ho=>?_,fun h=>by cases h⟩
   show(if b=b then(if off<l.length then _ else none)else B.M.G b off)=none
   rw[if_pos rfl,if_neg (by simp[zs]at ho;omega)]
  |t+1=>simp at ht
 ·obtain⟨n1,h1⟩:=vT
  obtain⟨n2,h2⟩:=lb
  have a1:=(List.getElem?_eq_some_iff.1 h1).1
  have a2:=(List.getElem?_eq_some_iff.1 h2).1
  simp at a1 a2
  omega
 ·simp only [Tm.get]
  split
  ·rename_i hku
   subst hku
   rw[Q3]
   have:=RD.slice (M:=M') (s:=⟨[],[some l.length]⟩) (.tok 0) 1 (l.map encStr) b 0 cap (by simpa using hl) (fun row hr=>by
    obtain⟨x,_,rfl⟩:=List.mem_map.1 hr;rfl) (fun i row j d e1 e2=>?_) (fun i row j d u e1 e2 eu=>?_) ⟨by simp,fun n AG=>by
    simp at AG
    subst AG
    exact⟨by simp,fun _=> .inr ⟨b,rfl,rfl⟩⟩⟩
   ·simpa using this
   ·rw [List.getElem?_map]at e1
    cases Aq:l[i]? with
    |none=>rw[Aq]at e1;cases e1
    |some x=>
     have qX:=(List.getElem?_eq_some_iff.1 Aq).1
     rw[Aq]at e1
     cases e1
     have hj:j=0:=by cases j with|zero=>rfl|succ j=>simp[encStr]at e2
     subst hj
     refine⟨.string ⟨⟨x⟩⟩, ?_⟩
     show(if b=b then(if 0+(i*1+0)<l.length then _ else none)else _)=_
     rw[if_pos rfl,if_pos (by omega)]
     simp[Aq]
   ·rw [List.getElem?_map]at e1
    cases Aq:l[i]? with
    |none=>rw[Aq]at e1;cases e1
    |some x=>
     have qX:=(List.getElem?_eq_some_iff.1 Aq).1
     rw[Aq]at e1
     cases e1
     have hj:j=0:=by cases j with|zero=>rfl|succ j=>simp[encStr]at e2
     subst hj
     have E5:(if b=b then(if 0+(i*1+0)<l.length then(l[0+(i*1+0)]?).map fun x=>Value.string ⟨⟨x⟩⟩else none)else B.M.G b (0+(i*1+0)))=some u:=eu
     rw[if_pos rfl,if_pos (by omega)]at E5
     simp[Aq]at E5
     subst E5
     simp[encStr]at e2
     subst e2
     exact .str x
  ·exact .junk _
theorem Nu (hB:B.s = ⟨[],[]⟩) {tm:Tm} {s:St} {act uy:Act} {w:World} (h:Holds B nt tm s act w) {k:Nat} (Q3:uy.tmps.getD k Go.undef = .slice none 0 0∨∃ b q,uy.tmps.getD k Go.undef = .slice (some ⟨b,q,none⟩) 0 0) (hn:uy.tmps.size=nt) (hd:uy.defers = []) :
 Holds B nt [(k, .slice (.tok 0) 1 (([] : List aF).map encStr))] ⟨[],[some 0]⟩ uy w:=by
 obtain⟨M,e,r,hr,_,_⟩:=h
 let M':Map:=⟨B.M.G,B.M.loc,fun _=>none⟩
 refine⟨M',⟨⟨fun q o v hq=>hq,by simp[hB],fun o ho=> .refl _,by rw[hB];exact Nat.zero_le _,fun t n' ht _=>by rw[hB]at ht;exact absurd ht (Nat.not_lt_zero _)⟩,fun q hq _ _=>?_,fun o _ h2=>absurd h2 (Nat.not_lt_zero _),fun t q c z _ hb=>(by cases hb),fun q o fi=>absurd rfl fi,e.size,e.os,e.tape,e.output⟩,
  ⟨fun q o v hq=>r.comm q o v (e.le.G q o v hq),fun o ds ho=>by simp at ho,fun o ho=>absurd ho (Nat.not_lt_zero _),fun o o' ho=>absurd ho (Nat.not_lt_zero _),fun t n ht=>?_,fun t q c z o _ _ ho=>absurd ho (Nat.not_lt_zero _),fun t t' q c z c' z' vT lb h1 _=>by cases h1⟩,fun u=>?_,hn,hd⟩
 ·exact e.kept q hq (fun o ho=>by rw[hB]at ho;exact absurd ho (Nat.not_lt_zero _)) (fun t c z lb=>by rw[hB]at lb;obtain⟨n,AG⟩:=lb;simp at AG)
 ·match t with
  | 0=>simp at ht;subst ht;exact .inl ⟨rfl,rfl⟩
  |t+1=>simp at ht
 ·simp only [Tm.get]
  split
  ·rename_i hku
   subst hku
   have pR : ∀ base,iP M' ⟨[],[some 0]⟩ (.tok 0) 1 0 base 0:=fun base=>⟨by simp,fun n AG=>by
    simp at AG
    subst AG
    exact⟨Nat.le_refl _,fun _=> .inl ⟨rfl,rfl,fun h=>by cases h⟩⟩⟩
   rcases Q3 with h|⟨b,q,h⟩
   ·rw[h];exact .jo _ _ 0 rfl (pR none)
   ·rw[h];exact .slice (.tok 0) 1 [] b q 0 (Nat.le_refl _) (by simp) (by simp) (by simp) (pR _)
  ·exact .junk _
theorem Li {α:Type} [Inhabited α] (enc:α→Value) (d:Array α) (c:Array Value) (j:Nat):(Sort.putCells enc 0 d c)[j]? = if j<d.size then(c[j]?).map fun _=>enc d[j]! else c[j]? :=by
 simp only[Sort.putCells,Array.getElem?_mapIdx]
 cases h:c[j]? with
 |none=>simp
 |some x=>by_cases hj:j<d.size<;>simp[hj]
theorem HJ {w:World} {b n cap:Nat} {vs:Array Value} {T:TypeId} (ey:w.heap[b]? = some (.cells vs T (0,0))) (eg:vs.size=cap) (l:List aF) (hl:l.length≤cap) (os:Array Obj) :
 (∀ q,q≠b→q<w.heap.size→(Sort.grow (Sort.putRow Go.Proofs.encStr (Sort.ahead w n) b 0 l.toArray) os).heap[q]? = w.heap[q]?)∧
 (Sort.grow (Sort.putRow Go.Proofs.encStr (Sort.ahead w n) b 0 l.toArray) os).heap[b]? = some (.cells (Sort.putCells Go.Proofs.encStr 0 l.toArray vs) T (0,0))∧w.heap.size≤(Sort.grow (Sort.putRow Go.Proofs.encStr (Sort.ahead w n) b 0 l.toArray) os).heap.size∧
 (Sort.putCells Go.Proofs.encStr 0 l.toArray vs).size=cap∧∀ j (hj:j<l.length),(Sort.putCells Go.Proofs.encStr 0 l.toArray vs)[j]? = some (.string ⟨⟨l[j]⟩⟩):=by
 have hb:b<w.heap.size:=(Array.getElem?_eq_some_iff.1 ey).1
 refine⟨fun q hq hC=>?_, ?_, ?_, ?_,fun j hj=>?_⟩
 ·simp only [Sort.grow,Sort.putRow,Sort.mapBlock,Sort.ahead]
  rw[Array.getElem?_append_left (by simpa using hC),Array.getElem?_modify]
  simp[Ne.symm hq]
 ·simp only [Sort.grow,Sort.putRow,Sort.mapBlock,Sort.ahead]
  rw[Array.getElem?_append_left (by simpa using hb),Array.getElem?_modify]
  simp[ey,Sort.onCells]
 ·simp[Sort.grow,Sort.putRow,Sort.mapBlock,Sort.ahead]
 ·simp[Sort.putCells,eg]
 ·rw [Li]
  have h1:j<l.toArray.size:=by simpa using hj
  have h2:vs[j]? = some vs[j]:=Array.getElem?_eq_getElem (by omega)
  rw[if_pos h1,h2]
  simp[hj]
def l8 (l:List aF):List aF:=l.mergeSort fun x y=>decide (x≤y)
theorem Lj {act:Act} {b:Nat} {v:Value} {u:Nat} (h:u≠b):(act.put (some b) v).tmps.getD u Go.undef=act.tmps.getD u Go.undef:=by
 simp only[Act.put,Array.getD_eq_getD_getElem?]
 rw[Array.getElem?_setIfInBounds_ne (fun e=>h e.symm)]
theorem HK {act:Act} {b:Nat} {v:Value} (h:b<act.tmps.size):(act.put (some b) v).tmps.getD b Go.undef=v:=by
 simp only[Act.put,Array.getD_eq_getD_getElem?]
 simp[h]
theorem Sem.sort (hB:B.s = ⟨[],[]⟩) {a k b t:Nat} {l:List aF} {is:List AI} {Q:Exit→Tm→St→Prop} {tm:Tm} {s:St} (hak:a≠k) (hbk:b≠k) (Zl:a≠b)
 (hk:tm.get k = .slice (.tok t) 1 (l.map encStr)) (ht:s.aw[t]? = some (some l.length)) (hl:l.length<4611686018427387904)
 (h:iW Tryz.prog is (Q .normal) [(k, .slice (.tok 0) 1 ((l8 l).map encStr))] ⟨[],[some l.length]⟩) :
 Sem Tryz.prog B nt (.run (.op (some a) none (.mv (.s k)):: .call (some b) none jD [.s a]::is)) Q tm s:=by
 refine Sem.aeO fun act w hh=>?_
 have Am:(tm.put (some a) (tm.get k)).get k = .slice (.tok t) 1 (l.map encStr):=by rw[Tm.lu,if_neg (by simpa using hak)];exact hk
 have Lk:(tm.put (some a) (tm.get k)).get a = .slice (.tok t) 1 (l.map encStr):=by rw[Tm.lu,if_pos rfl];exact hk
 have Fq:(l8 l).length=l.length:=List.length_mergeSort l
 have hn:(act.put (some b) (.tuple #[])).tmps.size=nt:=by obtain⟨_,_,_,_,h1,_⟩:=hh;simpa[Act.put]using h1
 have hd:(act.put (some b) (.tuple #[])).defers = []:=by obtain⟨_,_,_,_,_,h1⟩:=hh;simpa[Act.put]using h1
 have eg:(act.tmps).size=nt:=by obtain⟨_,_,_,_,h1,_⟩:=hh;exact h1
 rcases HI hB hh ht Lk with ⟨rfl,hv⟩|⟨b',cap,vs,T,hv,ua,ey,tw,wS,lZ⟩
 ·rw [show l8 [] = [] by simp [l8]]at h
  have call : ∀ p,act.tmps.getD a Go.undef = .slice p 0 0→Calls Tryz.prog jD #[act.tmps.getD a Go.undef] w fun e w'=>∃ v,e = .returned v∧∃ bE s',Holds B nt bE s' (act.put (some b) v) w'∧iW Tryz.prog is (Q .normal) bE s':=by
   intro p hp
   rw[hp]
   refine(Tryz.slices_Sort_string_none p 0 w).mono ?_
   rintro e w' ⟨rfl,rfl⟩
   refine⟨_,rfl,_,_,Nu hB hh (k:=k) ?_ hn hd,h⟩
   rw[Lj (Ne.symm hbk)]
   exact hv k Am
  rcases hv a Lk with h1|⟨b',q,h1⟩
  ·exact call _ h1
  ·exact call _ h1
 ·rw [hv a Lk]
  have hC:b'<w.heap.size:=(Array.getElem?_eq_some_iff.1 ey).1
  refine(Tryz.slices_Sort_string b' 0 cap l w (fun j hj=>?_) hC hl).mono ?_
  ·have TY:j<l.length:=by simpa using hj
   refine⟨?_,by simp[World.frozen?,ey]⟩
   rw[Nat.zero_add,ji ey,lZ j TY]
   simp[TY]
  ·rintro e w' ⟨rfl,n,os,rfl⟩
   obtain⟨p1,p2,p3,p4,p5⟩:=HJ (n:=n) ey tw (l8 l) (by omega) os
   have hH:=Lh hB hh (uy:=act.put (some b) (.tuple #[])) (l:=l8 l) (k:=k) p4 wS (fun q hq=>p1 q (by omega) (by obtain⟨M,e,_⟩:=hh;exact Nat.lt_of_lt_of_le hq e.size)) p2 p3 rfl rfl rfl (by omega) p5 (by rw[Lj (Ne.symm hbk),hv k Am,Fq]) hn hd
   rw[Fq]at hH
   exact⟨_,rfl,_,_,hH,h⟩
theorem MO (l:List aF):(Lib.compact l).length≤l.length:=by
 unfold Lib.compact Lib.compactUpTo
 rw[List.length_map]
 exact Nat.le_trans (List.length_filter_le _ _) (by simp)
theorem Sem.compact (hB:B.s = ⟨[],[]⟩) {a k b t:Nat} {l:List aF} {is:List AI} {Q:Exit→Tm→St→Prop} {tm:Tm} {s:St} (hbt:b<nt)
 (hk:tm.get k = .slice (.tok t) 1 (l.map encStr)) (ht:s.aw[t]? = some (some l.length)) (hl:l.length<4611686018427387904)
 (h:iW Tryz.prog is (Q .normal) [(b, .slice (.tok 0) 1 ((Lib.compact l).map encStr))] ⟨[],[some (Lib.compact l).length]⟩) :
 Sem Tryz.prog B nt (.run (.op (some a) none (.mv (.s k)):: .call (some b) none j7 [.s a]::is)) Q tm s:=by
 refine Sem.aeO fun act w hh=>?_
 have Lk:(tm.put (some a) (tm.get k)).get a = .slice (.tok t) 1 (l.map encStr):=by rw[Tm.lu,if_pos rfl];exact hk
 have eg:(act.tmps).size=nt:=by obtain⟨_,_,_,_,h1,_⟩:=hh;exact h1
 have hn : ∀ v,(act.put (some b) v).tmps.size=nt:=fun v=>by simpa[Act.put]using eg
 have hd : ∀ v,(act.put (some b) v).defers = []:=by obtain⟨_,_,_,_,_,h1⟩:=hh;intro v;simpa[Act.put]using h1
 rcases HI hB hh ht Lk with ⟨rfl,hv⟩|⟨b',cap,vs,T,hv,ua,ey,tw,wS,lZ⟩
 ·rw [show Lib.compact ([] : List aF) = []from rfl]at h
  have call : ∀ p,act.tmps.getD a Go.undef = .slice p 0 0→(p=none∨∃ b q,p=some ⟨b,q,none⟩)→Calls Tryz.prog j7 #[act.tmps.getD a Go.undef] w fun e w'=>∃ v,e = .returned v∧∃ bE s',Holds B nt bE s' (act.put (some b) v) w'∧iW Tryz.prog is (Q .normal) bE s':=by
   intro p hp hq
   rw[hp]
   refine(Tryz.slices_Compact_string_empty p 0 w).mono ?_
   rintro e w' ⟨rfl,rfl⟩
   refine⟨_,rfl,_,_,Nu hB hh (k:=b) ?_ (hn _) (hd _),h⟩
   rw[HK (by omega)]
   rcases hq with rfl|⟨x,y,rfl⟩
   ·exact .inl rfl
   ·exact .inr ⟨x,y,rfl⟩
  rcases hv a Lk with h1|⟨b',q,h1⟩
  ·exact call _ h1 (.inl rfl)
  ·exact call _ h1 (.inr ⟨b',q,rfl⟩)
 ·rw [hv a Lk]
  have nF:(Lib.compact l).length≤l.length:=MO l
  refine(Tryz.slices_Compact_string b' 0 cap l w (fun j hj=>?_) (by omega) ua).mono ?_
  ·have TY:j<l.length:=by simpa using hj
   refine⟨?_,by simp[World.frozen?,ey]⟩
   rw[Nat.zero_add,ji ey,lZ j TY]
   simp[TY]
  ·rintro e w' ⟨rfl,q,rfl⟩
   obtain⟨p1,p2,p3,p4,p5⟩:=HJ (n:=q) ey tw (Lib.compact l++List.replicate (l.length - (Lib.compact l).length) []) (by simp;omega) #[]
   rw[Sort.grow_empty]at p1 p2 p3
   have hH:=Lh hB hh (uy:=act.put (some b) (.slice (some ⟨b',0,none⟩) (Lib.compact l).length cap)) (l:=Lib.compact l) (k:=b) p4 wS (fun q hq=>p1 q (by omega) (by obtain⟨M,e,_⟩:=hh;exact Nat.lt_of_lt_of_le hq e.size)) p2 p3 rfl rfl rfl (by omega)
    (fun j hj=>by
     have:=p5 j (by simp;omega)
     rw[List.getElem_append_left hj]at this
     exact this) (HK (by omega)) (hn _) (hd _)
   exact⟨_,rfl,_,_,hH,h⟩
end
end Go.Abs
namespace Go.Abs
theorem Fs {a b:UInt8} : a<b↔a.toNat<b.toNat:=UInt8.lt_iff_toNat_lt
theorem yT : ∀ a:aF,bytesLess a a=false
 | []=>rfl
 |x::a=>by
  show Go.Op.bytesLess (x::a) (x::a)=false
  have h:=yT a
  have h:Go.Op.bytesLess a a=false:=h
  simp[Go.Op.bytesLess,h]
theorem yU : ∀ a b:aF,bytesLess a b=true∨a=b∨bytesLess b a=true
 | [],[]=> .inr (.inl rfl)
 | [],y::b=> .inl rfl
 |x::a,[]=> .inr (.inr rfl)
 | x::a,y::b=>by
  show Go.Op.bytesLess (x::a) (y::b)=true∨_∨Go.Op.bytesLess (y::b) (x::a)=true
  have h:Go.Op.bytesLess a b=true∨a=b∨Go.Op.bytesLess b a=true:=yU a b
  simp only[Go.Op.bytesLess,Bool.or_eq_true,Bool.and_eq_true,decide_eq_true_eq,beq_iff_eq,List.cons.injEq]
  by_cases e:x=y
  ·subst e
   rcases h with h|h|h
   ·exact .inl (.inr ⟨rfl,h⟩)
   ·exact .inr (.inl ⟨rfl,h⟩)
   ·exact .inr (.inr (.inr ⟨rfl,h⟩))
  ·have:x.toNat≠y.toNat:=fun h=>e (UInt8.toNat_inj.1 h)
   rcases Nat.lt_or_gt_of_ne this with h|h
   ·exact .inl (.inl (Fs.2 h))
   ·exact .inr (.inr (.inl (Fs.2 h)))
theorem Ft : ∀ a b c:aF,bytesLess a b=true→bytesLess b c=true→bytesLess a c=true
 |a,b,[],h1,h2=>by cases b<;>cases h2
 |a,[],z::c,h1,h2=>by cases a<;>cases h1
 | [],y::b,z::c,h1,h2=>rfl
 | x::a,y::b,z::c,h1,h2=>by
  have h1:Go.Op.bytesLess (x::a) (y::b)=true:=h1
  have h2:Go.Op.bytesLess (y::b) (z::c)=true:=h2
  show Go.Op.bytesLess (x::a) (z::c)=true
  simp only[Go.Op.bytesLess,Bool.or_eq_true,Bool.and_eq_true,decide_eq_true_eq,beq_iff_eq]at h1 h2 ⊢
  rcases h1 with e1|⟨i1,e1⟩
  ·rcases h2 with e2 | ⟨i2,e2⟩
   ·exact .inl (Fs.2 (Nat.lt_trans (Fs.1 e1) (Fs.1 e2)))
   ·exact .inl (i2 ▸ e1)
  ·rcases h2 with e2 | ⟨i2,e2⟩
   ·exact .inl (i1 ▸ e2)
   ·exact .inr ⟨i1.trans i2,Ft a b c e1 e2⟩
def B2 (l:List aF):Prop:=l.Pairwise fun a b=>bytesLess a b=true
theorem xM : ∀ {a b:List aF},B2 a→B2 b→(∀ x,x∈a↔x∈b)→a=b
 | [],[],_,_,_=>rfl
 | [],y::b,_,_,h=>absurd ((h y).2 List.mem_cons_self) (by simp)
 |x::a,[],_,_,h=>absurd ((h x).1 List.mem_cons_self) (by simp)
 | x::a,y::b,h1,h2,h=>by
  obtain⟨g1,g2⟩:=List.pairwise_cons.1 h1
  obtain⟨g3,g4⟩:=List.pairwise_cons.1 h2
  have e:x=y:=by
   rcases List.mem_cons.1 ((h x).1 List.mem_cons_self)with e|m
   ·exact e
   ·rcases List.mem_cons.1 ((h y).2 List.mem_cons_self)with e | m'
    ·exact e.symm
    ·have:=Ft _ _ _ (g3 x m) (g1 y m');rw[yT]at this;cases this
  subst e
  rw[xM g2 g4 fun z=>?_]
  constructor
  ·intro m
   rcases List.mem_cons.1 ((h z).1 (List.mem_cons_of_mem _ m))with e|m'
   ·subst e;have:=g1 z m;rw[yT]at this;cases this
   ·exact m'
  ·intro m
   rcases List.mem_cons.1 ((h z).2 (List.mem_cons_of_mem _ m))with e|m'
   ·subst e;have:=g3 z m;rw[yT]at this;cases this
   ·exact m'
theorem u4 (out:List aF) : ∀ (l:List aF) (c:aF) (a:Bool),
 let q:=nz out l c a
 (q.2=false↔a=false∧∀ x∈l,x∈out)∧(q.2=true→((a=true∧q.1=c)∨(q.1∈l∧q.1∉out))∧(a=true→bytesLess c q.1=false)∧∀ x∈l,x∉out→bytesLess x q.1=false)
 | [],c,a=>by
  simp only[nz]
  refine⟨by simp,fun h=>⟨.inl ⟨h,by trivial⟩,fun _=>yT c,fun x m=>(by cases m)⟩⟩
 | s::l,c,a=>by
  simp only[nz]
  by_cases h1:fq out s=true
  ·have m:=(jh _ _).1 h1
   simp only[h1,Bool.not_true,Bool.false_and,Bool.false_eq_true,if_false]
   obtain⟨k1,k2⟩:=u4 out l c a
   refine⟨k1.trans ⟨fun h=>⟨h.1,fun x hx=>?_⟩,fun h=>⟨h.1,fun x hx=>h.2 x (List.mem_cons_of_mem _ hx)⟩⟩,fun h=>?_⟩
   ·rcases List.mem_cons.1 hx with rfl | hx
    ·exact m
    ·exact h.2 x hx
   ·obtain⟨g1,g2,g3⟩:=k2 h
    refine⟨g1.imp_right fun h=>⟨List.mem_cons_of_mem _ h.1,h.2⟩,g2,fun x hx hn=>?_⟩
    rcases List.mem_cons.1 hx with rfl|hx
    ·exact absurd m hn
    ·exact g3 x hx hn
  ·have m:s∉out:=fun m=>h1 ((jh _ _).2 m)
   have sk:fq out s=false:=by simpa using h1
   by_cases h2:(!a ||bytesLess s c)=true
   ·simp only [sk,h2,Bool.not_false,Bool.and_self,if_true]
    obtain⟨k1,k2⟩:=u4 out l s true
    refine⟨⟨fun h=>absurd (k1.1 h).1 (by simp),fun h=>absurd (h.2 s List.mem_cons_self) m⟩,fun h=>?_⟩
    obtain⟨g1,g2,g3⟩:=k2 h
    have g4:=g2 rfl
    refine⟨.inr ?_,fun ha=>?_,fun x hx hn=>?_⟩
    ·rcases g1 with ⟨_,e⟩ | g1
     ·rw[e];exact⟨List.mem_cons_self,m⟩
     ·exact⟨List.mem_cons_of_mem _ g1.1,g1.2⟩
    ·have h3:bytesLess s c=true:=by simpa [ha]using h2
     cases hh:bytesLess c (nz out l s true).1
     ·rfl
     ·have:=Ft _ _ _ h3 hh;rw[g4]at this;cases this
    ·rcases List.mem_cons.1 hx with rfl | hx
     ·exact g4
     ·exact g3 x hx hn
   ·have uF:(!a || bytesLess s c)=false:=by simpa using h2
    have ha:a=true:=by cases a<;>simp_all
    have h3:bytesLess s c=false:=by cases a<;>simp_all
    simp only[sk,uF,Bool.not_false,Bool.and_false,Bool.false_eq_true,if_false]
    obtain⟨k1,k2⟩:=u4 out l c a
    refine⟨⟨fun h=>absurd (k1.1 h).1 (by simp[ha]),fun h=>absurd h.1 (by simp[ha])⟩,fun h=>?_⟩
    obtain⟨g1,g2,g3⟩:=k2 h
    refine⟨g1.imp_right fun h=>⟨List.mem_cons_of_mem _ h.1,h.2⟩,g2,fun x hx hn=>?_⟩
    rcases List.mem_cons.1 hx with rfl|hx
    ·cases hh:bytesLess x (nz out l c a).1
     ·rfl
     ·have g4:=g2 ha
      rcases yU x c with e|e|e
      ·rw[h3]at e;cases e
      ·subst e;rw[g4]at hh;cases hh
      ·have:=Ft _ _ _ e hh;rw[g4]at this;cases this
    ·exact g3 x hx hn
theorem xN (l:List aF) : ∀ (n:Nat) (out:List aF),B2 out→(∀ x∈out,x∈l)→(∀ x∈out,∀ y∈l,y∉out→bytesLess x y=true)→
 B2 (pK l n out)∧(∀ x∈pK l n out,x∈l)∧(∀ x∈out,x∈pK l n out)∧((∀ x∈l,x∈pK l n out)∨(pK l n out).length=out.length+n)
 | 0,out,h1,h2,h3=>⟨h1,h2,fun x m=>m, .inr rfl⟩
 | n+1,out,h1,h2,h3=>by
  simp only[pK,TW]
  obtain⟨k1,k2⟩:=u4 out l [] false
  cases hq:(nz out l [] false).2
  ·simp only [Bool.false_eq_true,if_false]
   obtain⟨g1,g2,g3,g4⟩:=xN l n out h1 h2 h3
   exact⟨g1,g2,g3, .inl fun x m=>g3 x ((k1.1 hq).2 x m)⟩
  ·simp only [if_true]
   obtain⟨g1,_,g3⟩:=k2 hq
   have g1:(nz out l [] false).1∈l∧(nz out l [] false).1∉out:=by
    rcases g1 with ⟨h,_⟩|g1
    ·cases h
    ·exact g1
   generalize (nz out l [] false).1=c at g1 g3
   obtain⟨r1,r2,r3,r4⟩:=xN l n (out++ [c])
    (by
     refine List.pairwise_append.2 ⟨h1,by simp,fun x hx y hy=>?_⟩
     have:y=c:=by simpa using hy
     subst this
     exact h3 x hx y g1.1 g1.2)
    (fun x hx=>by
     rcases List.mem_append.1 hx with hx|hx
     ·exact h2 x hx
     ·have:x=c:=by simpa using hx
      subst this;exact g1.1)
    (fun x hx y hy hn=>by
     have hyo:y∉out:=fun m=>hn (List.mem_append_left _ m)
     have hyc:y≠c:=fun e=>hn (List.mem_append_right _ (by simp[e]))
     rcases List.mem_append.1 hx with hx|hx
     ·exact h3 x hx y hy hyo
     ·have:x=c:=by simpa using hx
      subst this
      rcases yU x y with h|h|h
      ·exact h
      ·exact absurd h.symm hyc
      ·rw[g3 y hy hyo]at h;cases h)
   refine⟨r1,r2,fun x m=>r3 x (List.mem_append_left _ m),r4.imp_right fun h=>?_⟩
   rw[h];simp;omega
theorem w8 : ∀ (a l:List aF),a.Nodup→(∀ x∈a,x∈l)→a.length≤l.length
 | [],l,_,_=>Nat.zero_le _
 |x::a,l,h,hm=>by
  obtain⟨h1,h2⟩:=List.nodup_cons.1 h
  have m:=hm x List.mem_cons_self
  have:=w8 a (l.erase x) h2 fun y hy=>(List.mem_erase_of_ne (fun e=>h1 (by rw[← e];exact hy))).2 (hm y (List.mem_cons_of_mem _ hy))
  rw[List.length_erase_of_mem m]at this
  have:0<l.length:=List.length_pos_of_mem m
  simp only[List.length_cons];omega
theorem u5 {l:List aF} (h:B2 l):l.Nodup:=h.imp fun {a b} h e=>by subst e;rw[yT]at h;cases h
theorem l9 (l:List aF):B2 (ky l)∧∀ x,x∈ky l↔x∈l:=by
 obtain⟨h1,h2,h3,h4⟩:=xN l l.length [] List.Pairwise.nil (fun x m=>(by cases m)) (fun x m=>(by cases m))
 refine⟨h1,fun x=>⟨h2 x,fun m=>?_⟩⟩
 rcases h4 with h4|h4
 ·exact h4 x m
 ·refine Classical.byContradiction fun hn=> ?_
  have:=w8 (x::pK l l.length []) l (List.nodup_cons.2 ⟨hn,u5 h1⟩) fun y hy=>by
   rcases List.mem_cons.1 hy with rfl|hy
   ·exact m
   ·exact h2 y hy
  simp only[List.length_cons,h4,List.length_nil]at this
  omega
theorem MP (zs:List aF) (hs:zs.Pairwise fun a b=>bytesLess b a=false) : ∀ m,m≤zs.length→
 B2 (Lib.compactUpTo zs.toArray m)∧(∀ x,x∈Lib.compactUpTo zs.toArray m↔x∈zs.take m):=by
 intro m
 induction m with
 |zero=>intro _;exact⟨by simp[Lib.compactUpTo,B2],fun x=>by simp[Lib.compactUpTo]⟩
 | succ m ih=>
  intro hm
  obtain⟨h1,h2⟩:=ih (by omega)
  have hz:zs[m]? = some zs[m]:=List.getElem?_eq_getElem (by omega)
  have e1:zs.toArray[m]! = zs[m]:=by simp[hm,Nat.lt_of_succ_le hm]
  have et:zs.take (m+1)=zs.take m++ [zs[m]]:=by rw[List.take_add_one,hz];rfl
  rw[Lib.compactUpTo_succ,e1,et]
  by_cases hk:Lib.keeps zs.toArray m=true
  ·rw [if_pos hk]
   refine⟨List.pairwise_append.2 ⟨h1,by simp,fun x hx y hy=>?_⟩,fun x=>by rw[List.mem_append,List.mem_append,h2]⟩
   have hy:y=zs[m]:=by simpa using hy
   subst hy
   have hx:=(h2 x).1 hx
   simp only[Lib.keeps,decide_eq_true_eq]at hk
   rcases hk with rfl|hk
   ·simp at hx
   ·have ny:m - 1<zs.length:=by omega
    have e2:zs.toArray[m - 1]! = zs[m - 1]:=by simp[ny]
    rw[e1,e2]at hk
    have h0:0<m:=by
     cases m with
     |zero=>simp at hx
     |succ m=>omega
    have hle : ∀ i j (hi:i<zs.length) (hj:j<zs.length),i<j→bytesLess zs[j] zs[i] = false:=fun i j hi hj Yf=>List.pairwise_iff_getElem.1 hs i j hi hj Yf
    have g1:bytesLess zs[m] zs[m - 1] = false:=hle (m - 1) m ny (by omega) (by omega)
    have g2:bytesLess zs[m - 1] zs[m] = true:=by
     rcases yU zs[m - 1] zs[m]with h|h|h
     ·exact h
     ·exact absurd h.symm hk
     ·rw[g1]at h;cases h
    obtain⟨i,hi,rfl⟩:=List.mem_iff_getElem.1 hx
    rw[List.length_take]at hi
    rw[List.getElem_take]
    by_cases o4:i=m - 1
    ·subst o4;exact g2
    ·have g3:=hle i (m - 1) (by omega) ny (by omega)
     rcases yU zs[i] zs[m - 1]with h|h|h
     ·exact Ft _ _ _ h g2
     ·rw[h];exact g2
     ·rw[g3]at h;cases h
  ·rw [if_neg hk]
   simp only[List.append_nil]
   refine⟨h1,fun x=>?_⟩
   rw[h2]
   simp only[Lib.keeps,decide_eq_true_eq,not_or,ne_eq,Decidable.not_not]at hk
   obtain⟨k1,k2⟩:=hk
   have ny:m - 1<zs.length:=by omega
   have e2:zs.toArray[m - 1]! = zs[m - 1]:=by simp[ny]
   rw[e1,e2]at k2
   simp only[List.mem_append,List.mem_singleton]
   constructor
   ·exact .inl
   ·rintro(h | rfl)
    ·exact h
    ·rw [k2]
     exact List.mem_iff_getElem.2 ⟨m - 1,by rw[List.length_take];omega,by rw[List.getElem_take]⟩
theorem HL (l:List aF):(l8 l).Pairwise fun a b=>bytesLess b a=false:=by
 have h:=List.pairwise_mergeSort (le:=fun x y:aF=>decide (x≤y)) (fun a b c h1 h2=>?_) (fun a b=>?_) l
 ·refine h.imp fun {a b} h=> ?_
  rw[decide_eq_true_eq]at h
  show Go.Op.bytesLess b a=false
  rw[Go.Proofs.bytesLess_eq]
  simpa using h
 ·rw [decide_eq_true_eq]at h1 h2 ⊢
  exact List.le_trans h1 h2
 ·have:=List.le_total a b
  simpa using this
theorem B3 (l:List aF):Lib.compact (l8 l)=ky l:=by
 obtain⟨h1,h2⟩:=MP (l8 l) (HL l) (l8 l).length (Nat.le_refl _)
 obtain⟨h3,h4⟩:=l9 l
 refine xM h1 h3 fun x=>?_
 rw[h4]
 refine(h2 x).trans ?_
 rw[List.take_length]
 exact(List.mergeSort_perm _ _).mem_iff
set_option maxRecDepth 8000
open Go.Proofs
def lU:List Sm→List aF
 | []=> []
 |v::l=>if v.kind==4 then v.proc::lU l else lU l
theorem Dx : ∀ l:List Sm,(lU l).length≤l.length
 | []=>Nat.le_refl _
 |v::l=>by
  simp only[lU]
  have:=Dx l
  split<;>simp<;>omega
def Pc.calls (f:Pc):List aF:=ky (lU (Sm.dm f.body))
theorem B4 {name:aF} : ∀ {l:List Pc} {k:Nat} {f:Pc},iT name l=some f→∃ j,l[j]? = some f∧k7 (fun f:Pc=>f.name==name) (k:Int) l=((k+j:Nat):Int)
 | g::l,k,f,h=>by
  simp only[iT]at h
  cases e:(g.name==name)
  ·rw [e]at h
   simp only[Bool.false_eq_true,if_false]at h
   obtain⟨j,h1,h2⟩:=B4 (k:=k+1) h
   refine⟨j+1,by simpa using h1, ?_⟩
   simp only[k7,e,Bool.false_eq_true,if_false]
   rw[show((k:Int)+1)=((k+1:Nat):Int)from rfl,h2]
   congr 1;omega
  ·rw [e]at h
   simp only[if_true,Option.some.injEq]at h
   exact⟨0,by simpa using h,by simp[k7,e]⟩
theorem aa0 {p:Pg} (h:p.iX) {name:aF} {f:Pc} (hf:p.find name=some f) (s:St):az Tryz.prog uq [.dL (fw p) 0, .str name] s (.slice .shared 1 (f.calls.map encStr)) s:=by
 refine az.pure ?_ (by simp[D.bH,D.ok,uw]) (by simp only[D.ok,Tag.ok,eB];rfl) s
 obtain⟨sh,r7,rZ⟩:=h.procs
 obtain⟨j,hj,rz⟩:=B4 (k:=0) hf
 have rz:p.at name=((j:Nat):Int):=by unfold Pg.at;simpa using rz
 have yR:=fun s=>Fb (p:=p) (by omega) name s
 rw[rz]at yR
 obtain⟨it,pT,BX⟩:=WL hj (by omega)
 have aeJ:it.length≤900000:=by
  have e:=congrArg List.length pT
  obtain⟨a,b,e',_,_,e3,e4⟩:=(nH p).2 j f hj
  have e5:=pw p
  have e6:=congrArg List.length e3
  rw[e4]at e5
  simp only[List.length_map,List.length_append]at e e5 e6
  omega
 unfold S0
 obtain⟨fn,AJ,Dw⟩:=E1
 refine az.intro ⟨fn,AJ,Dw⟩ (Nat.le_of_ble_eq_true rfl) fun B hB=>?_
 generalize hQ:iz (⟨[],[]⟩:St).ah.length (⟨[],[]⟩:St).aw.length _ _ (⟨[],[]⟩:St)=Q
 have⟨hC,hE,hM,hY⟩:=bC
 refine Sem.iN ?_
 repeat' (first
 |simp only[go_sem,hC,hE,hM,hY]
 |(with_reducible refine aB hQ ?_;exact bg))
 refine Sem.iN ?_
 repeat' (first
 |simp only[go_sem,hC,hE,hM,hY]
 |(with_reducible refine aB hQ ?_;exact bg))
 refine Sem.iN ?_
 repeat' (first
 |simp only[go_sem,hC,hE,hM,hY]
 |(with_reducible refine CU (yR _) ?_)
 |(with_reducible refine CU (BX _) ?_)
 |(with_reducible refine aB hQ ?_;exact bg))
 refine bd.pY 5 1 rfl ?_
 simp only[go_sem,hC,hE,hM,hY]
 obtain⟨R,hR⟩ : ∃ R,R=lU (Sm.dm f.body):=⟨_,rfl⟩
 have hRl:R.length≤900000:=by rw[hR, ← pT];have:=Dx (it.map Im.s);rw[List.length_map]at this;omega
 refine dQ 0 1 (bd.ind (ι:=List Im×Nat×List aF×Nat) (fun i=>it.drop i.2.1=i.1∧i.2.2.1++lU (i.1.map Im.s)=R∧i.2.2.2=i.2.2.1.length) (fun i=>i.1.length)
  (fun i=> [(5, .slice (.tok 0) 1 (i.2.2.1.map encStr)),(12, .slice .shared 17 (it.map dK)),(13, .int .i64 (it.length:Int)),(14, .int .i64 (i.2.1:Int))]) (fun i=>⟨[],[some i.2.2.2]⟩) ?_ (it,0,[],0) ⟨rfl,by rw[hR,pT];rfl,rfl⟩)
 rintro⟨rest,k,out,n⟩ ⟨h1,h2,h3⟩ IH
 dsimp only at h1 h2 h3
 subst h3
 have jT:out.length≤900000:=by have:=congrArg List.length h2;rw[List.length_append]at this;omega
 cases rest with
 | cons a rest=>
  obtain⟨hE,g2,hC,g4⟩:=drop_cons h1
  have cm:k<4611686018427387904:=by omega
  have hM:(out.length+1)*17≤bu:=by unfold bu;omega
  simp only[List.map_cons,lU]at h2
  rcases Bool.eq_false_or_eq_true (a.s.kind==4)with c1|c1
  ·simp only [c1,if_true]at h2
   repeat' (first
 |simp only[go_sem,hC,hE,hM,hY,c1]
 | (with_reducible refine aB hQ ?_;exact bg))
   refine eM 0 1 ?_ ?_ (IH (rest,k+1,out++ [a.s.proc],out.length+1) ⟨g2,by rw[← h2];simp,by simp⟩ (Nat.lt_succ_self _))
   ·(simp only[go_sem,hC,hE,hM,hY,aL cm,List.map_append,List.map_cons,List.map_nil,encStr];try exact cb)
   ·(simp only[go_sem,hC,hE,hM,hY,aL cm,List.map_append,List.map_cons,List.map_nil,encStr];try exact cb)
  ·simp only [c1,Bool.false_eq_true,if_false]at h2
   repeat' (first
 |simp only[go_sem,hC,hE,hM,hY,c1]
 | (with_reducible refine aB hQ ?_;exact bg))
   refine eM 0 1 ?_ ?_ (IH (rest,k+1,out,_) ⟨g2,h2,rfl⟩ (Nat.lt_succ_self _))
   ·(simp only[go_sem,hC,hE,hM,hY,aL cm];try exact cb)
   ·(simp only[go_sem,hC,hE,hM,hY,aL cm];try exact cb)
 |nil=>
  have hC:=drop_nil h1
  simp only[List.map_nil,lU,List.append_nil]at h2
  subst h2
  have Fq:(l8 out).length=out.length:=List.length_mergeSort out
  repeat' (first
 |simp only[go_sem,hC,hE,hM,hY]
 |(with_reducible refine aB hQ ?_;exact bg))
  refine Sem.seq (Sem.sort (k:=5) (t:=0) (l:=out) hB (by decide) (by decide) (by decide) rfl rfl (by omega) ?_)
  show Sem _ _ _ _ _ _ _
  refine Sem.seq (Sem.compact (k:=5) (t:=0) (l:=l8 out) hB (by decide) rfl (by rw[Fq];rfl) (by rw[Fq];omega) ?_)
  rw[B3]
  have asX:f.calls=ky out:=by unfold Pc.calls;rw[hR]
  rw[asX]at hQ
  refine gE (ac:= .ret) (Q:=Q) (tm:= [(32, .slice (.tok 0) 1 ((ky out).map encStr)),(4, .slice (.tok 0) 1 ((ky out).map encStr))]) (s:=⟨[],[some (ky out).length]⟩) ?_
  repeat' (first
 |simp only[go_sem,hC,hE,hM,hY]
 |(with_reducible refine aB hQ ?_;exact bg))
theorem HM {name:aF} : ∀ {l:List Pc},name∈l.map (·.name)→∃ f,iT name l=some f
 | f::l,h=>by
  simp only[iT]
  cases e:(f.name==name)
  ·simp only [Bool.false_eq_true,if_false]
   refine HM ?_
   rcases List.mem_cons.1 h with h|h
   ·rw[h]at e;simp at e
   ·exact h
  ·exact⟨f,rfl⟩
theorem HN {p:Pg} {f:Pc} {procs:List aF} : ∀ {l:List Sm},BW p f procs l=none→∀ v∈l,v.known p f procs=true
 | v::l,h,w,m=>by
  simp only[BW]at h
  split at h
  ·rename_i e
   rcases List.mem_cons.1 m with rfl|m
   ·exact e
   ·exact HN h w m
  ·cases h
theorem HO {p:Pg} {procs:List aF} : ∀ {l:List Pc},((vV p procs l).1==0)=true→∀ f∈l,fD (p.globals++f.own)=false∧∀ v∈Sm.dm f.body,v.known p f procs=true
 | g::l,h,f,m=>by
  simp only[vV]at h
  split at h
  ·cases h
  ·rename_i e
   split at h
   ·cases h
   ·rename_i e2
    rcases List.mem_cons.1 m with rfl|m
    ·exact⟨by simpa using e,HN e2⟩
    ·exact HO h f m
theorem Eb {p:Pg} (h:(p.scope.1==0)=true):fD p.globals=false∧fD p.pn=false∧p.tS=false∧∀ f∈p.procs,fD (p.globals++f.own)=false∧∀ v∈Sm.dm f.body,v.known p f p.pn=true:=by
 unfold Pg.scope at h
 split at h
 ·split at h
  ·cases h
  ·rename_i e
   simp only[Bool.or_eq_true,not_or,Bool.not_eq_true]at e
   exact⟨e.1,e.2.1,e.2.2,HO h⟩
 ·cases h
theorem xO {x:aF} : ∀ {l:List Sm},x∈lU l↔∃ v∈l,v.kind=4∧v.proc=x
 | []=>by simp[lU]
 | v::l=>by
  simp only[lU]
  cases e:(v.kind==4)
  ·have:v.kind≠4:=by simpa using e
   simp[this,xO (l:=l)]
  ·have:v.kind=4:=by simpa using e
   simp only[if_true,List.mem_cons,xO (l:=l),exists_eq_or_imp,this,true_and]
   constructor
   ·rintro(h | h)
    ·exact .inl h.symm
    ·exact .inr h
   ·rintro(h | h)
    ·exact .inl h.symm
    ·exact .inr h
theorem T1 {f:Pc} {x:aF} : x∈f.calls↔∃ v∈Sm.dm f.body,v.kind=4∧v.proc=x:=by
 unfold Pc.calls;rw[(l9 _).2,xO]
theorem Dy {p:Pg} (h:(p.scope.1==0)=true) {f:Pc} (hf:f∈p.procs) {x:aF} (m:x∈f.calls) : ∃ g,p.find x=some g:=by
 obtain⟨v,hv,h4,rfl⟩:=T1.1 m
 have hk:=((Eb h).2.2.2 f hf).2 v hv
 simp only[Sm.known,h4,Bool.and_eq_true,Bool.or_eq_true]at hk
 rcases hk.2 with h|⟨_,h⟩
 ·simp at h
 ·exact HM ((jh _ _).1 h)
def Fu (p:Pg) (x:aF):List aF:=match p.find x with|some f=>f.calls|none=> []
def Ec (out:List aF):List aF→List aF
 | []=>out
 |x::l=>Ec (CC out x) l
def w9 (p:Pg):Nat→Nat→List aF→List aF
 | 0,_,out=>out
 |n+1,i,out=>match out[i]? with
  |some x=>w9 p n (i+1) (Ec out (Fu p x))
  |none=>out
def Pg.work (p:Pg) (name:aF):List aF:=w9 p (p.procs.length+1) 0 [name]
def Good (p:Pg) (out:List aF):Prop:=out.Nodup∧∀ x∈out,∃ f,p.find x=some f
theorem Good.len {p:Pg} {out:List aF} (h:Good p out):out.length≤p.procs.length:=by
 have:=w8 out p.pn h.1 fun x m=>by
  obtain⟨f,hf⟩:=h.2 x m
  obtain⟨h1,h2⟩:=sI hf
  rw[← h2];exact List.mem_map_of_mem h1
 simpa[Pg.pn]using this
theorem Good.spk {p:Pg} {out:List aF} (h:Good p out) {x:aF} (hx : ∃ f,p.find x=some f):Good p (CC out x):=by
 unfold CC
 split
 ·exact h
 ·rename_i e
  have:x∉out:=fun m=>e ((jh _ _).2 m)
  refine⟨List.nodup_append.2 ⟨h.1,by simp,fun a ha b hb e'=>?_⟩,fun y hy=>?_⟩
  ·have hbx:b=x:=by simpa using hb
   rw[e',hbx]at ha;exact this ha
  ·rcases List.mem_append.1 hy with hy | hy
   ·exact h.2 y hy
   ·have:y=x:=by simpa using hy
    subst this;exact hx
theorem Good.add {p:Pg} : ∀ {l out:List aF},Good p out→(∀ x∈l,∃ f,p.find x=some f)→Good p (Ec out l)
 | [],out,h,_=>h
 |x::l,out,h,hx=>Good.add (l:=l) (out:=CC out x) (Good.spk h (hx x List.mem_cons_self)) fun y m=>hx y (List.mem_cons_of_mem _ m)
def tgB:Bool→Tag
 |true=> .tok 0
 |false=> .full
def tkB:Bool→Nat→List (Option Nat)
 |true,n=> [some n]
 |false,_=> []
def zS:AI→AI
 | .op d g (.cD z k n ps)=> .op d g (.vh z k n ps)
 |a=>a
section
variable {P:Program}
theorem MQ {nt:Nat} {ops:Array Oper} {i:Nat} {o:Oper} {ai:AI} (hi:ops[i]? = some o) (hc:cI P nt ops o=some ai)
 {M:Map} {s:St} {w:World} {tm:Tm} {act:Act} (r:Rel M s w) (kM:Laid M s w) (ht:lW M s tm act.tmps) {K':Tm→St→Prop} (h:iW P [zS ai] K' tm s)
 {K:Act→World→Prop} {Q:Exit→Act→World→Prop}
 (hK : ∀ d v s1 w1 M1,K' (tm.put ai.dst d) s1→Ext M s w M1 s1 w1→Rel M1 s1 w1→RD M1 s1 d v→K (act.put o.dst v) w1):wpOp P ops Q i K act w:=by
 by_cases hb : ∃ d g z k n ps,ai = .op d g (.cD z k n ps)
 ·obtain⟨d0,g0,z,k,n,ps,rfl⟩:=hb
  obtain⟨g,hg,_,hb⟩:=Bt hc
  rw[tB hb]at hK
  simp only[wpOp,hi]
  have skip:K' (tm.put o.dst (.tuple [])) s→K (act.put o.dst Go.undef) w:=fun hk=>hK _ _ _ _ _ hk (Ext.refl M s w) r .undef
  have hd:=tB hb
  simp only[AI.dst]at hd
  subst hd
  have n8:Ey P o=some (.cD z k n ps)∧g0=g:=by
   unfold sN at hb
   split at hb
   ·split at hb
    ·obtain⟨xs,_,h⟩:=map_some hb;cases h
    ·cases hb
   ·obtain⟨xs,_,h⟩:=map_some hb;cases h
   ·split at hb
    ·cases hb
    ·split at hb
     ·rename_i n8
      simp only[Option.some.injEq,AI.op.injEq,true_and]at hb
      obtain⟨h1,h2⟩:=hb
      split at h2
      ·cases h2
      ·cases h2;exact⟨n8,h1.symm⟩
     ·rename_i ao fi n8
      simp only[Option.some.injEq,AI.op.injEq,true_and]at hb
      obtain⟨h1,h2⟩:=hb
      subst h2
      exact⟨n8,h1.symm⟩
     ·cases hb
  obtain⟨n8,rfl⟩:=n8
  simp only[zS,iW]at h
  rcases kr hg ht h with ⟨hw,hA⟩|⟨hw,hB⟩
  ·simp only [hw,if_true]
   left
   split at hA
   ·rename_i d s' qW
    obtain⟨v,w',M',dG,r',hv,e'⟩:=zn n8 r ht qW
    unfold Oper.wp
    rcases dG with dG|⟨dG,rfl⟩
    ·rw [dG,Oper.upon_value]
     exact hK _ _ _ _ _ hA e' r' hv
    ·rw [dG,Oper.upon_skip]
     exact hK _ _ _ _ _ hA e' r' hv
   ·exact hA.elim
  ·simp only [hw]
   exact skip hB
 ·have hs:zS ai=ai:=by
   unfold zS
   split
   ·rename_i d g z k n ps;exact absurd ⟨d,g,z,k,n,ps,rfl⟩ hb
   ·rfl
  rw[hs]at h
  exact xo hi hc r kM ht h hK
theorem aa1 {a:AI} {r:List AI} {K:Tm→St→Prop} {tm:Tm} {s:St} (h:iW P (a::r) K tm s):iW P [a] (iW P r K) tm s:=by
 cases a<;>exact h
theorem HP {B:e7} {nt:Nat} {ops:Array Oper} {Q:Exit→Tm→St→Prop} : ∀ (l:List Nat) (ol:List Oper) (is:List AI),l.map (ops[·]?)=ol.map some→rj P nt ops ol=some is→
 ∀ (tm:Tm) (s:St) (act:Act) (w:World),iW P (is.map zS) (Q .normal) tm s→Holds B nt tm s act w→wpOps P ops (pX B nt Q) l act w
 | [],[],is,_,hc,tm,s,act,w,h,hh=>by cases hc;exact⟨tm,s,h,hh⟩
 | [],_::_,_,hl,_,_,_,_,_,_,_=>by simp at hl
 |_::_,[],_,hl,_,_,_,_,_,_,_=>by simp at hl
 | i::l,o::ol,is,hl,hc,tm,s,act,w,h,hh=>by
  simp only[List.map_cons,List.cons.injEq]at hl
  obtain⟨hi,hl⟩:=hl
  unfold rj at hc
  split at hc
  ·rename_i ai Sd h1 h2
   cases hc
   obtain⟨M,e,r,ht,hn,hd⟩:=hh
   have qJ:=yl h1
   have hdd:=tC h1
   rw[List.map_cons]at h
   have key:=MQ (K:=fun act w=>wpOps P ops (pX B nt Q) l act w) (Q:=pX B nt Q) hi h1 r (B.laid.ext e) ht (aa1 h) (fun d v s1 w1 M1 hk e1 r1 hv=>
    HP (Q:=Q) l ol Sd hl h2 _ _ _ _ hk (hdd ▸ Holds.put e ht hn hd qJ e1 r1 hv))
   simpa only[wpOps,wpOp,hi]using key
  ·cases hc
theorem Sem.swap {B:e7} {nt:Nat} {is:List AI} {Q:Exit→Tm→St→Prop} {tm:Tm} {s:St} (h:gD P B nt (.run (is.map zS)) Q tm s):Sem P B nt (.run is) Q tm s:=by
 intro c hc act w hh
 obtain⟨id,ops,rfl,hi⟩:=lC hc
 refine wp_region ?_
 exact HP _ _ is (Bp ops) hi tm s act w (oh h) hh
end
end Go.Abs
namespace Go.Abs
set_option maxRecDepth 8000
open Go.Proofs
theorem Q4 {l:List aF} (h:l.Nodup):l8 l=ky l:=by
 refine xM ?_ (l9 l).1 fun x=>?_
 ·have h1:=HL l
  have h2:(l8 l).Nodup:=(List.mergeSort_perm l _).nodup_iff.2 h
  refine(List.pairwise_and_iff.2 ⟨h1,h2⟩).imp fun {a b} Zl=>?_
  rcases yU a b with e|e|e
  ·exact e
  ·exact absurd e Zl.2
  ·rw[Zl.1]at e;cases e
 ·rw[(l9 l).2];exact(List.mergeSort_perm l _).mem_iff
theorem B5 {p:Pg} (nI:(p.scope.1==0)=true) : ∀ (n i:Nat) (out:List aF),Good p out→Good p (w9 p n i out)
 | 0,i,out,h=>h
 | n+1,i,out,h=>by
  simp only[w9]
  split
  ·rename_i x hx
   obtain⟨g,hg⟩:=h.2 x (List.mem_of_getElem? hx)
   refine B5 nI n _ _ (h.add fun y m=>?_)
   unfold Fu at m
   rw[hg]at m
   exact Dy nI (sI hg).1 m
  ·exact h
theorem Ed {p:Pg} {name:aF} {f:Pc} (hf:p.find name=some f):Good p [name]:=
 ⟨by simp,fun x m=>by
  have:x=name:=by simpa using m
  subst this;exact⟨f,hf⟩⟩
theorem aa2 {p:Pg} (h:p.iX) (nI:(p.scope.1==0)=true) {name:aF} {f:Pc} (hf:p.find name=some f) (s:St):az Tryz.prog xA [.dL (fw p) 0, .str name] s (.slice .shared 1 ((ky (p.work name)).map encStr)) s:=by
 refine az.pure ?_ (by simp[D.bH,D.ok,uw]) (by simp only[D.ok,Tag.ok,eB];rfl) s
 obtain⟨sh,r7,rZ⟩:=h.procs
 obtain⟨R,hR⟩ : ∃ R,p.work name=R:=⟨_,rfl⟩
 have hgR:Good p R:=hR ▸ B5 nI _ _ _ (Ed hf)
 rw[hR, ← Q4 hgR.1]
 unfold Pg.work at hR
 have hg0:Good p [name]:=Ed hf
 have hRl:=hgR.len
 unfold S0
 obtain⟨fn,AJ,Dw⟩:=Iq
 refine az.intro ⟨fn,AJ,Dw⟩ (Nat.le_of_ble_eq_true rfl) fun B hB=>?_
 generalize hQ:iz (⟨[],[]⟩:St).ah.length (⟨[],[]⟩:St).aw.length _ _ (⟨[],[]⟩:St)=Q
 have⟨hC,hE,hM,hY⟩:=bC
 refine Sem.iN ?_
 repeat' (first
 |simp only[go_sem,hC,hE,hM,hY]
 |(with_reducible first|refine aX fun hc=>?_|refine aY fun hc=>?_|refine aZ (fun hc=>?_) fun hc=>?_)<;>(try simp only[hc,bs,↓reduceIte]at h)<;>try simp only[hc]
 |(with_reducible refine aB hQ ?_;exact ep)
 |(cases h;done))
 refine Sem.seq (Sem.swap ?_)
 simp only[List.map_cons,List.map_nil,zS]
 repeat' (first
 |simp only[go_sem,hC,hE,hM,hY]
 |(with_reducible first|refine aX fun hc=>?_|refine aY fun hc=>?_|refine aZ (fun hc=>?_) fun hc=>?_)<;>(try simp only[hc,bs,↓reduceIte]at h)<;>try simp only[hc]
 |(with_reducible refine aB hQ ?_;exact ep)
 |(cases h;done))
 refine Sem.iN ?_
 repeat' (first
 |simp only[go_sem,hC,hE,hM,hY]
 |(with_reducible first|refine aX fun hc=>?_|refine aY fun hc=>?_|refine aZ (fun hc=>?_) fun hc=>?_)<;>(try simp only[hc,bs,↓reduceIte]at h)<;>try simp only[hc]
 |(with_reducible refine aB hQ ?_;exact ep)
 |(cases h;done))
 refine dQ 0 1 (bd.ind (ι:=Nat×Nat×List aF×Nat) (fun i=>w9 p i.1 i.2.1 i.2.2.1=R∧Good p i.2.2.1∧i.1+i.2.1=p.procs.length+1∧i.2.2.2=i.2.2.1.length) (fun i=>i.1)
  (fun i=> [(0, .dL (fw p) 0),(5, .slice (.tok 0) 1 (i.2.2.1.map encStr)),(6, .int .i64 (i.2.1:Int))]) (fun i=>⟨[],[some i.2.2.2]⟩) ?_ (p.procs.length+1,0,[name],1) ⟨hR,hg0,rfl,rfl⟩)
 rintro⟨n,i,out,no⟩ ⟨h1,h2,h3,h4⟩ IH
 dsimp only at h1 h2 h3 h4
 subst h4
 have jT:=h2.len
 cases hx:out[i]? with
 | none=>
  have hC:decide ((i:Int)<(out.length:Int))=false:=by have:=List.getElem?_eq_none_iff.1 hx;simp;omega
  have:R=out:=by
   cases n with
   |zero=>simpa[w9]using h1.symm
   |succ n=>simp only[w9,hx]at h1;exact h1.symm
  subst this
  repeat' (first
 |simp only[go_sem,hC,hE,hM,hY]
 |(with_reducible first|refine aX fun hc=>?_|refine aY fun hc=>?_|refine aZ (fun hc=>?_) fun hc=>?_)<;>(try simp only[hc,bs,↓reduceIte]at h)<;>try simp only[hc]
 |(with_reducible refine aB hQ ?_;exact ep)
 |(cases h;done))
  refine Sem.seq (Sem.sort (k:=5) (t:=0) (l:=R) hB (by decide) (by decide) (by decide) rfl rfl (by omega) ?_)
  refine gE (ac:=ad2) (Q:=Q) (tm:= [(5, .slice (.tok 0) 1 ((l8 R).map encStr))]) (s:=⟨[],[some R.length]⟩) ?_
  repeat' (first
 |simp only[go_sem,hC,hE,hM,hY]
 |(with_reducible first|refine aX fun hc=>?_|refine aY fun hc=>?_|refine aZ (fun hc=>?_) fun hc=>?_)<;>(try simp only[hc,bs,↓reduceIte]at h)<;>try simp only[hc]
 |(with_reducible refine aB hQ ?_;exact ep)
 |(cases h;done))
 |some x=>
  have qX:=(List.getElem?_eq_some_iff.1 hx).1
  have hC:decide ((i:Int)<(out.length:Int))=true:=by simp;omega
  have o4:i<4611686018427387904:=by omega
  cases n with
  |zero=>omega
  |succ n=>
  simp only[w9,hx]at h1
  obtain⟨g,Ll⟩:=h2.2 x (List.mem_of_getElem? hx)
  have T2:=(sI Ll).1
  have Zv:=fun s=>aa0 h Ll s
  have hcn:Fu p x=g.calls:=by unfold Fu;rw[Ll]
  rw[hcn]at h1
  have hth : ∀ y∈g.calls,∃ f,p.find y=some f:=fun y m=>Dy nI T2 m
  have aAC:g.calls.length≤p.procs.length:=Good.len ⟨u5 (l9 _).1,hth⟩
  obtain⟨W,hW⟩ : ∃ W,Ec out g.calls=W:=⟨_,rfl⟩
  rw[hW]at h1
  repeat' (first
 |simp only[go_sem,hC,hE,hM,hY,hx]
 |(with_reducible refine CU (Zv _) ?_)
 |(with_reducible first|refine aX fun hc=>?_|refine aY fun hc=>?_|refine aZ (fun hc=>?_) fun hc=>?_)<;>(try simp only[hc,bs,↓reduceIte]at h)<;>try simp only[hc]
 |(with_reducible refine aB hQ ?_;(try cases h);simp only[aQ,aR,bn,bo,go_sem,hC,hE,hM,hY,hx];try exact bR)
 | (cases h;done))
  refine dQ 0 1 (bd.ind (ι:=List aF×Nat×List aF×Nat) (fun j=>g.calls.drop j.2.1=j.1∧Ec j.2.2.1 j.1=W∧Good p j.2.2.1∧j.2.2.2=j.2.2.1.length) (fun j=>j.1.length)
   (fun j=> [(0, .dL (fw p) 0),(5, .slice (.tok 0) 1 (j.2.2.1.map encStr)),(6, .int .i64 (i:Int)),(22, .slice .shared 1 (g.calls.map encStr)),(23, .int .i64 (g.calls.length:Int)),(24, .int .i64 (j.2.1:Int))]) (fun j=>⟨[],[some j.2.2.2]⟩) ?_ (g.calls,0,out,out.length) ⟨rfl,hW,h2,rfl⟩)
  clear hW
  rintro⟨rest,k,cQ,n'⟩ ⟨j1,j2,j3,j4⟩ Zr
  dsimp only at j1 j2 j3 j4
  subst j4
  have aAD:=j3.len
  cases rest with
  |nil=>
   have aeU:=drop_nil j1
   simp only[Ec]at j2
   subst j2
   repeat' (first
 |simp only[go_sem,hC,hE,hM,hY,aeU]
 |(with_reducible first|refine aX fun hc=>?_|refine aY fun hc=>?_|refine aZ (fun hc=>?_) fun hc=>?_)<;>(try simp only[hc,bs,↓reduceIte]at h)<;>try simp only[hc]
 |(with_reducible refine aB hQ ?_;(try cases h);simp only[aQ,aR,bn,bo,go_sem,hC,hE,hM,hY,aeU];try exact bR)
 | (cases h;done))
   refine eM 0 1 ?_ ?_ (IH (n,i+1,cQ,cQ.length) ⟨h1,j3,by dsimp only;omega,rfl⟩ (Nat.lt_succ_self _))
   ·(simp only[go_sem,hC,hE,hM,hY,aL o4];try exact cb)
   ·(simp only[go_sem,hC,hE,hM,hY,aL o4];try exact cb)
  | cons y rest=>
   obtain⟨py,Np,yS,jg4⟩:=drop_cons j1
   have tL:k<4611686018427387904:=by omega
   have hM:(cQ.length+1)*17≤bu:=by unfold bu;omega
   have HQ:=fun g s=>jJ (l:=cQ) (by omega) y g s
   have hy:=hth y (List.mem_of_getElem? py)
   have Dp:=j3.spk hy
   simp only[Ec]at j2
   rcases Bool.eq_false_or_eq_true (fq cQ y)with c1|c1
   ·simp only [CC,c1,if_true]at j2
    repeat' (first
 |simp only[go_sem,hC,hE,hM,hY,yS,py,c1]
 |(with_reducible refine CU (HQ _ _) ?_)
 |(with_reducible first|refine aX fun hc=>?_|refine aY fun hc=>?_|refine aZ (fun hc=>?_) fun hc=>?_)<;>(try simp only[hc,bs,↓reduceIte]at h)<;>try simp only[hc]
 |(with_reducible refine aB hQ ?_;(try cases h);simp only[aQ,aR,bn,bo,go_sem,hC,hE,hM,hY,yS,py,c1];try exact bR)
 | (cases h;done))
    refine eM 0 1 ?_ ?_ (Zr (rest,k+1,cQ,cQ.length) ⟨Np,j2,j3,rfl⟩ (Nat.lt_succ_self _))
    ·(simp only[go_sem,hC,hE,hM,hY,aL tL];try exact cb)
    ·(simp only[go_sem,hC,hE,hM,hY,aL tL];try exact cb)
   ·simp only [CC,c1,Bool.false_eq_true,if_false]at j2 Dp
    repeat' (first
 |simp only[go_sem,hC,hE,hM,hY,yS,py,c1]
 |(with_reducible refine CU (HQ _ _) ?_)
 |(with_reducible first|refine aX fun hc=>?_|refine aY fun hc=>?_|refine aZ (fun hc=>?_) fun hc=>?_)<;>(try simp only[hc,bs,↓reduceIte]at h)<;>try simp only[hc]
 |(with_reducible refine aB hQ ?_;(try cases h);simp only[aQ,aR,bn,bo,go_sem,hC,hE,hM,hY,yS,py,c1];try exact bR)
 | (cases h;done))
    refine eM 0 1 ?_ ?_ (Zr (rest,k+1,cQ++ [y],cQ.length+1) ⟨Np,j2,Dp,by simp⟩ (Nat.lt_succ_self _))
    ·(simp only[go_sem,hC,hE,hM,hY,aL tL,List.map_append,List.map_cons,List.map_nil,encStr];try exact cb)
    ·(simp only[go_sem,hC,hE,hM,hY,aL tL,List.map_append,List.map_cons,List.map_nil,encStr];try exact cb)
theorem Lm (name:aF) : ∀ l:List Pc,l.any (fun f=>f.name==name)=(iT name l).isSome
 | []=>rfl
 |f::l=>by
  simp only[List.any_cons,iT]
  cases e:(f.name==name)
  ·simp[Lm name l]
  ·simp
theorem W9 (name:aF) (f:Pc):az Tryz.prog oO ([.agg (cH f)]++ [.ptr 0 0]) ⟨[[.str name]],[]⟩ (.bool (f.name==name)) ⟨[[.str name]],[]⟩:=by
 show az Tryz.prog oO [.agg (cH f), .ptr 0 0] _ _ _
 refine az.go C5 rfl fun B Q hB hQ=>?_
 have⟨hC,hE,hM,hY⟩:=bC
 repeat' (first
 |simp only[go_sem,hC,hE,hM,hY]
 |(with_reducible refine aB hQ ?_;exact bg))
def Pg.zT (p:Pg) (name:aF):Option Pc:=if p.scope.1==0 then p.find name else none
theorem Xa {p:Pg} (h:p.iX) (name:aF) (s:St):az Tryz.prog uk [.agg (cR p), .str name] s (.bool (p.zT name).isSome) s:=by
 refine az.pure ?_ (by simp[D.bH,D.ok,jX]) rfl s
 obtain⟨sh,r7,rZ⟩:=h.procs
 have pP:=fun s=>vW h s
 have hi:=fun {s:St} {o:Nat} (ho:s.ah[o]? = some [.str name])=>BN (AT (l:=p.procs) (f:=oO) (row:= [.str name]) (b:=fun f:Pc=>f.name==name) (by omega) rfl (by with_unfolding_all rfl) (fun x _=>W9 name x)) rfl (wJ _) rfl ho
 have ic:=fun {s:St} {o:Nat} (ho:s.ah[o]? = some [.str name])=>(show az Tryz.prog gR [.slice .shared 5 (p.procs.map cH), .gi 197 [.ptr o 0]] s (.bool (p.procs.any fun f:Pc=>f.name==name)) s from hi ho)
 simp only[Lm]at ic
 unfold Pg.zT Pg.find
 unfold S0
 rcases Bool.eq_false_or_eq_true (p.scope.1==0)with b1|b1
 ·simp only [b1,if_true]
  refine az.go wR rfl fun B Q hB hQ=>?_
  have⟨hC,hE,hM,hY⟩:=bC
  repeat' (first
 |simp only[go_sem,hC,hE,hM,hY,b1]
 |(with_reducible refine CU (pP _) ?_)
 |(with_reducible refine CU (ic (by with_unfolding_all rfl)) ?_)
 |(with_reducible refine aB hQ ?_;exact bg))
 ·simp only [b1,Bool.false_eq_true,if_false,Option.isSome_none]
  refine az.go wR rfl fun B Q hB hQ=>?_
  have⟨hC,hE,hM,hY⟩:=bC
  repeat' (first
 |simp only[go_sem,hC,hE,hM,hY,b1]
 |(with_reducible refine CU (pP _) ?_)
 |(with_reducible refine CU (ic (by with_unfolding_all rfl)) ?_)
 |(with_reducible refine aB hQ ?_;exact bg))
def Pg.azr (p:Pg) (name:aF):List aF:=match p.zT name with|some f=>f.calls|none=> []
def Pg.asY (p:Pg) (name:aF):List aF:=match p.zT name with|some _=>ky (p.work name)|none=> []
theorem HR {p:Pg} {name:aF} {f:Pc} (h:p.zT name=some f):(p.scope.1==0)=true∧p.find name=some f:=by
 unfold Pg.zT at h
 split at h
 ·exact⟨by assumption,h⟩
 ·cases h
def ta (p:Pg) (out:List aF):List aF→List aF
 | []=>out
 |v::l=>ta p (if fq p.globals v then out++ [v]else out) l
def tc (p:Pg) (out:List aF):List Sm→List aF
 | []=>out
 |v::l=>tc p (ta p out v.said) l
def tT (p:Pg) (n:aF):List Sm:=match p.find n with|some f=>Sm.dm f.body|none=> []
def u6 (p:Pg) (out:List aF):List aF→List aF
 | []=>out
 |n::l=>u6 p (tc p out (tT p n)) l
theorem zU (p:Pg) : ∀ (l out:List aF),out.length≤(ta p out l).length∧(ta p out l).length≤out.length+l.length
 | [],out=>⟨Nat.le_refl _,Nat.le_refl _⟩
 |v::l,out=>by
  simp only[ta]
  have h:=zU p l (if fq p.globals v then out++ [v]else out)
  have h2:out.length≤(if fq p.globals v then out++ [v]else out).length∧(if fq p.globals v then out++ [v]else out).length≤out.length+1:=by split<;>simp
  simp only[List.length_cons]
  omega
def oQ:List Sm→Nat
 | []=>0
 |v::l=>v.said.length+oQ l
theorem B6 : ∀ a b:List Sm,oQ (a++b)=oQ a+oQ b
 | [],b=>by simp[oQ]
 |v::a,b=>by simp only[List.cons_append,oQ,B6 a b];omega
theorem aa3 (v:Sm):v.said.length≤1+v.x.size+2*Ar.br v.args:=by
 have : ∀ (l:List Ar) (out:List aF),(Ar.said out l).length≤out.length+2*Ar.br l:=by
  intro l
  induction l with
  |nil=>intro out;simp[Ar.said]
  |cons a l ih=>
   intro out
   simp only[Ar.said,Ar.br]
   refine Nat.le_trans (ih _) ?_
   have:=lj a.x
   have:1≤a.x.size:=by obtain⟨_,_,_,_⟩:=a.x;simp[Ex.size]
   simp only[List.length_append]
   split<;>simp<;>omega
 have h1:=this v.args (v.s9++v.x.names)
 have h2:=lj v.x
 have h4:v.s9.length≤1:=by unfold Sm.s9;split<;>simp
 simp only[List.length_append]at h1
 unfold Sm.said
 omega
mutual
theorem T3 : ∀ s:Sm,oQ s.pre≤2*s.size
 |⟨id,kind,labels,name,proc,x,has,args,bm,bc⟩=>by
  simp only[Sm.pre,oQ,B6,Sm.size]
  have h1:=aa3 ⟨id,kind,labels,name,proc,x,has,args,bm,bc⟩
  have h2:=u7 bm
  have h3:=u7 bc
  dsimp only at h1
  omega
theorem u7 : ∀ l:List Sm,oQ (Sm.dm l)≤2*Sm.br l
 | []=>by simp[Sm.dm,oQ,Sm.br]
 |s::l=>by
  simp only[Sm.dm,B6,Sm.br]
  have:=T3 s;have:=u7 l;omega
end
theorem zV (p:Pg) : ∀ (l:List Sm) (out:List aF),out.length≤(tc p out l).length∧(tc p out l).length≤out.length+oQ l
 | [],out=>⟨Nat.le_refl _,Nat.le_refl _⟩
 |v::l,out=>by
  simp only[tc,oQ]
  have h:=zV p l (ta p out v.said)
  have h2:=zU p v.said out
  omega
theorem zW {p:Pg} (h:p.iX) : ∀ (l out:List aF),out.length≤(u6 p out l).length∧(u6 p out l).length≤out.length+l.length*1800000
 | [],out=>⟨Nat.le_refl _,by simp[u6]⟩
 | n::l,out=>by
  simp only[u6]
  have h1:=zW h l (tc p out (tT p n))
  have h2:=zV p (tT p n) out
  have h3:oQ (tT p n)≤1800000:=by
   unfold tT
   split
   ·rename_i f hf
    have:=u7 f.body
    have h4:=Pc.dd (sI hf).1
    have h5:=h.procs.2.1
    simp only[Pc.size]at h4
    omega
   ·simp[oQ]
  simp only[List.length_cons]
  omega
theorem T4 {p:Pg} (h:p.may=true):p.procs.length≤16:=by
 unfold Pg.may at h
 split at h
 ·cases h
 ·rename_i c
  simp only[Bool.or_eq_true,decide_eq_true_eq,not_or,Int.not_lt,gt_iff_lt]at c
  have:=c.1.2
  omega
def Pg.sJ (p:Pg) (name:aF):List aF:=u6 p [] (ky (p.work name))
def Pg.qt (p:Pg) (name:aF):List aF:=match p.zT name with|some _=>ky (p.sJ name)|none=> []
theorem Ln {p:Pg} (nI:(p.scope.1==0)=true) {name:aF} {f:Pc} (hf:p.find name=some f):Good p (ky (p.work name)):=by
 have h:=B5 nI (p.procs.length+1) 0 [name] (Ed hf)
 refine⟨u5 (l9 _).1,fun x m=>h.2 x ?_⟩
 exact((l9 _).2 x).1 m
theorem T5 {p:Pg} (h:p.iX) (name:aF) (s:St):az Tryz.prog rM [.agg (cR p), .str name] s (.slice .shared 1 ((p.qt name).map encStr)) s:=by
 refine az.pure ?_ (by simp[D.bH,D.ok,jX]) (by simp only[D.ok,Tag.ok,eB];rfl) s
 have hk:=fun s=>Xa h name s
 have dr:=fun s=>Cy (p:=p) (by have:=h.procs;omega) s
 unfold Pg.qt
 unfold S0
 cases Xb:p.zT name with
 |none=>
  simp only[Xb,Option.isSome_none]at hk
  simp only[List.map_nil]
  refine az.go uK rfl fun B Q hB hQ=>?_
  have⟨hC,hE,hM,hY⟩:=bC
  repeat' (first
 |simp only[go_sem,hC,hE,hM,hY]
 |(with_reducible refine CU (hk _) ?_)
 |(with_reducible refine aB hQ ?_;exact bg))
 |some f=>
 obtain⟨nI,hf⟩:=HR Xb
 simp only[Xb,Option.isSome_some]at hk
 dsimp only
 obtain⟨sh,r7,rZ⟩:=h.procs
 have hN:=Ln nI hf
 obtain⟨N,hNe⟩ : ∃ N,ky (p.work name)=N:=⟨_,rfl⟩
 rw[hNe]at hN
 have hNl:=hN.len
 obtain⟨R,hR⟩ : ∃ R,p.sJ name=R:=⟨_,rfl⟩
 rw[hR]
 unfold Pg.sJ at hR
 rw[hNe]at hR
 have hRl:R.length≤28800000:=by
  have:=(zW h N []).2
  rw[hR]at this
  have h4:=T4 (B0 nI)
  have h3:N.length*1800000≤16*1800000:=Nat.mul_le_mul_right _ (by omega)
  simp only[List.length_nil]at this
  omega
 have Zv:=fun s=>aa2 h nI hf s
 simp only[hNe]at Zv
 obtain⟨fn,AJ,Dw⟩:=uK
 refine az.intro ⟨fn,AJ,Dw⟩ (Nat.le_of_ble_eq_true rfl) fun B hB=>?_
 generalize hQ:iz (⟨[],[]⟩:St).ah.length (⟨[],[]⟩:St).aw.length _ _ (⟨[],[]⟩:St)=Q
 have⟨hC,hE,hM,hY⟩:=bC
 refine Sem.iN ?_
 repeat' (first
 |simp only[go_sem,hC,hE,hM,hY]
 |(with_reducible refine aB hQ ?_;exact bg))
 refine Sem.iN ?_
 repeat' (first
 |simp only[go_sem,hC,hE,hM,hY]
 |(with_reducible refine CU (hk _) ?_)
 |(with_reducible refine aB hQ ?_;exact bg))
 refine Sem.iN ?_
 repeat' (first
 |simp only[go_sem,hC,hE,hM,hY]
 |(with_reducible refine CU (dr _) ?_)
 |(with_reducible refine aB hQ ?_;exact bg))
 refine Sem.iN ?_
 repeat' (first
 |simp only[go_sem,hC,hE,hM,hY]
 |(with_reducible refine aB hQ ?_;exact bg))
 refine Sem.iN ?_
 repeat' (first
 |simp only[go_sem,hC,hE,hM,hY]
 |(with_reducible refine CU (Zv _) ?_)
 |(with_reducible refine aB hQ ?_;exact bg))
 refine bd.pY 6 1 rfl ?_
 simp only[go_sem,hC,hE,hM,hY]
 refine dQ 1 1 (bd.ind (ι:=List aF×Nat×List aF×Nat) (fun i=>N.drop i.2.1=i.1∧u6 p i.2.2.1 i.1=R∧i.2.2.1.length≤R.length∧i.2.2.2=i.2.2.1.length) (fun i=>i.1.length)
  (fun i=> [(2, .ptr 0 0),(5, .dL (fw p) 0),(6, .slice (.tok 0) 1 (i.2.2.1.map encStr)),(21, .slice .shared 1 (N.map encStr)),(22, .int .i64 (N.length:Int)),(23, .int .i64 (i.2.1:Int))]) (fun i=>⟨[cR p],[some i.2.2.2]⟩) ?_ (N,0,[],0) ⟨rfl,hR,Nat.zero_le _,rfl⟩)
 rintro⟨rest,k,out,no⟩ ⟨h1,h2,h3,h4⟩ IH
 dsimp only at h1 h2 h3 h4
 subst h4
 cases rest with
 |nil=>
  have hC:=drop_nil h1
  simp only[u6]at h2
  subst h2
  have Fq:(l8 out).length=out.length:=List.length_mergeSort out
  repeat' (first
 |simp only[go_sem,hC,hE,hM,hY]
 |(with_reducible refine aB hQ ?_;exact bg))
  refine Sem.seq (Sem.sort (k:=6) (t:=0) (l:=out) hB (by decide) (by decide) (by decide) rfl rfl (by omega) ?_)
  refine Sem.seq (Sem.compact (k:=6) (t:=0) (l:=l8 out) hB (by decide) rfl (by rw[Fq];rfl) (by rw[Fq];omega) ?_)
  rw[B3]
  refine gE (ac:= .ret) (Q:=Q) (tm:= [(59, .slice (.tok 0) 1 ((ky out).map encStr)),(4, .slice (.tok 0) 1 ((ky out).map encStr))]) (s:=⟨[],[some (ky out).length]⟩) ?_
  repeat' (first
 |simp only[go_sem,hC,hE,hM,hY]
 |(with_reducible refine aB hQ ?_;exact bg))
 | cons x rest=>
  obtain⟨hE,g2,hC,g4⟩:=drop_cons h1
  have cm:k<4611686018427387904:=by omega
  obtain⟨g,Ll⟩:=hN.2 x (List.mem_of_getElem? hE)
  have T2:=(sI Ll).1
  have hbd:tT p x=Sm.dm g.body:=by unfold tT;rw[Ll]
  simp only[u6,hbd]at h2
  obtain⟨j,hj,rz⟩:=B4 (k:=0) Ll
  have rz:p.at x=((j:Nat):Int):=by unfold Pg.at;simpa using rz
  have yR:=fun s=>Fb (p:=p) (by omega) x s
  simp only[rz]at yR
  obtain⟨it,pT,BX⟩:=WL hj (by omega)
  have aeJ:it.length≤900000:=by
   have e:=congrArg List.length pT
   obtain⟨a,b,e',_,_,e3,e4⟩:=(nH p).2 j g hj
   have e5:=pw p
   have e6:=congrArg List.length e3
   rw[e4]at e5
   simp only[List.length_map,List.length_append]at e e5 e6
   omega
  rw[← pT]at h2
  repeat' (first
 |simp only[go_sem,hC,hE,hM,hY,hE]
 |(with_reducible refine CU (yR _) ?_)
 |(with_reducible refine CU (BX _) ?_)
 | (with_reducible refine aB hQ ?_;exact bg))
  obtain⟨W,hW⟩ : ∃ W,tc p out (it.map Im.s)=W:=⟨_,rfl⟩
  rw[hW]at h2
  have hWR:W.length≤R.length:=by have:=(zW h rest W).1;rw[h2]at this;exact this
  have TV:out.length≤W.length:=by have:=(zV p (it.map Im.s) out).1;rw[hW]at this;exact this
  refine dQ 1 1 (bd.ind (ι:=List Im×Nat×List aF×Nat) (fun i=>it.drop i.2.1=i.1∧tc p i.2.2.1 (i.1.map Im.s)=W∧i.2.2.1.length≤W.length∧i.2.2.2=i.2.2.1.length) (fun i=>i.1.length)
   (fun i=> [(2, .ptr 0 0),(5, .dL (fw p) 0),(6, .slice (.tok 0) 1 (i.2.2.1.map encStr)),(21, .slice .shared 1 (N.map encStr)),(22, .int .i64 (N.length:Int)),(23, .int .i64 (k:Int)),(31, .slice .shared 17 (it.map dK)),(32, .int .i64 (it.length:Int)),(33, .int .i64 (i.2.1:Int))]) (fun i=>⟨[cR p],[some i.2.2.2]⟩) ?_ (it,0,out,out.length) ⟨rfl,hW,TV,rfl⟩)
  rintro⟨xa,k2,Ee,no⟩ ⟨j1,j2,j3,j4⟩ TG
  dsimp only at j1 j2 j3 j4
  subst j4
  cases xa with
  |nil=>
   have Xc:=drop_nil j1
   simp only[List.map_nil,tc]at j2
   subst j2
   repeat' (first
 |simp only[go_sem,hC,hE,hM,hY,Xc]
 | (with_reducible refine aB hQ ?_;exact bg))
   refine eM 1 1 ?_ ?_ (IH (rest,k+1,Ee,Ee.length) ⟨g2,h2,hWR,rfl⟩ (Nat.lt_succ_self _))
   ·(simp only[go_sem,hC,hE,hM,hY,aL cm];try exact cb)
   ·(simp only[go_sem,hC,hE,hM,hY,aL cm];try exact cb)
  |cons y xa=>
   obtain⟨py,Np,yS,jg4⟩:=drop_cons j1
   have tL:k2<4611686018427387904:=by omega
   have hym:y.s∈Sm.dm g.body:=by rw[← pT];exact List.mem_map_of_mem (List.mem_of_getElem? py)
   have sj:=h.said T2 _ hym
   have Zm:=fun s=>BR sj s
   have Fq:=K8 _ sj
   simp only[List.map_cons,tc]at j2
   repeat' (first
 |simp only[go_sem,hC,hE,hM,hY,yS,py]
 |(with_reducible refine CU (Zm _) ?_)
 | (with_reducible refine aB hQ ?_;exact bg))
   obtain⟨V,hV⟩ : ∃ V,ta p Ee y.s.said=V:=⟨_,rfl⟩
   rw[hV]at j2
   have hVW:V.length≤W.length:=by have:=(zV p (xa.map Im.s) V).1;rw[j2]at this;exact this
   have hoV:Ee.length≤V.length:=by have:=(zU p y.s.said Ee).1;rw[hV]at this;exact this
   refine dQ 1 1 (bd.ind (ι:=List aF×Nat×List aF×Nat) (fun i=>y.s.said.drop i.2.1=i.1∧ta p i.2.2.1 i.1=V∧i.2.2.1.length≤V.length∧i.2.2.2=i.2.2.1.length) (fun i=>i.1.length)
    (fun i=> [(2, .ptr 0 0),(5, .dL (fw p) 0),(6, .slice (.tok 0) 1 (i.2.2.1.map encStr)),(21, .slice .shared 1 (N.map encStr)),(22, .int .i64 (N.length:Int)),(23, .int .i64 (k:Int)),(31, .slice .shared 17 (it.map dK)),(32, .int .i64 (it.length:Int)),(33, .int .i64 (k2:Int)),(39, .slice .shared 1 (y.s.said.map encStr)),(40, .int .i64 (y.s.said.length:Int)),(41, .int .i64 (i.2.1:Int))]) (fun i=>⟨[cR p],[some i.2.2.2]⟩) ?_ (y.s.said,0,Ee,Ee.length) ⟨rfl,hV,hoV,rfl⟩)
   rintro⟨Fv,k3,zX,no⟩ ⟨l1,l2,l3,l4⟩ IH3
   dsimp only at l1 l2 l3 l4
   subst l4
   cases Fv with
   |nil=>
    have asZ:=drop_nil l1
    simp only[ta]at l2
    subst l2
    repeat' (first
 |simp only[go_sem,hC,hE,hM,hY,asZ]
 | (with_reducible refine aB hQ ?_;exact bg))
    refine eM 1 1 ?_ ?_ (TG (xa,k2+1,zX,zX.length) ⟨Np,j2,hVW,rfl⟩ (Nat.lt_succ_self _))
    ·(simp only[go_sem,hC,hE,hM,hY,aL tL];try exact cb)
    ·(simp only[go_sem,hC,hE,hM,hY,aL tL];try exact cb)
   | cons z Fv=>
    obtain⟨aeW,lg2,llt,lg4⟩:=drop_cons l1
    have HS:k3<4611686018427387904:=by omega
    have HQ:=fun g s=>jJ (l:=p.globals) (by omega) z g s
    simp only[ta]at l2
    rcases Bool.eq_false_or_eq_true (fq p.globals z)with c1|c1
    ·simp only [c1,if_true]at l2
     have hM:(zX.length+1)*17≤bu:=by unfold bu;omega
     have hoo:(zX++ [z]).length≤V.length:=by have:=(zU p Fv (zX++ [z])).1;rw[l2]at this;exact this
     repeat' (first
 |simp only[go_sem,hC,hE,hM,hY,llt,aeW,c1]
 |(with_reducible refine CU (HQ _ _) ?_)
 | (with_reducible refine aB hQ ?_;exact bg))
     refine eM 1 1 ?_ ?_ (IH3 (Fv,k3+1,zX++ [z],zX.length+1) ⟨lg2,l2,hoo,by simp⟩ (Nat.lt_succ_self _))
     ·(simp only[go_sem,hC,hE,hM,hY,aL HS,List.map_append,List.map_cons,List.map_nil,encStr];try exact cb)
     ·(simp only[go_sem,hC,hE,hM,hY,aL HS,List.map_append,List.map_cons,List.map_nil,encStr];try exact cb)
    ·simp only [c1,Bool.false_eq_true,if_false]at l2
     repeat' (first
 |simp only[go_sem,hC,hE,hM,hY,llt,aeW,c1]
 |(with_reducible refine CU (HQ _ _) ?_)
 |(with_reducible refine aB hQ ?_;exact bg))
     refine eM 1 1 ?_ ?_ (IH3 (Fv,k3+1,zX,zX.length) ⟨lg2,l2,l3,rfl⟩ (Nat.lt_succ_self _))
     ·(simp only[go_sem,hC,hE,hM,hY,aL HS];try exact cb)
     ·(simp only[go_sem,hC,hE,hM,hY,aL HS];try exact cb)
mutual
def Sm.its (deep dD:Int) (bc:Bool):Sm→List It
 |⟨id,kind,labels,name,proc,x,has,args,bm,e⟩=>⟨⟨id,kind,labels,name,proc,x,has,args,bm,e⟩,deep,dD,bc⟩::(Sm.Xd (deep+1) id false bm++Sm.Xd (deep+1) id true e)
def Sm.Xd (deep dD:Int) (bc:Bool):List Sm→List It
 | []=> []
 |s::l=>s.its deep dD bc++Sm.Xd deep dD bc l
end
def gn (l:List Sm) (none:Int):Int:=match l with| []=>none|t::_=>t.id
mutual
def Sm.vY (proc up next loop:Int):Sm→List Im
 |⟨id,kind,labels,name,pc,x,has,args,bm,bc⟩=>⟨⟨id,kind,labels,name,pc,x,has,args,bm,bc⟩,proc,up,next,loop⟩::
  (Sm.jY proc id (if kind==6 then id else next) (if kind==6 then id else loop) bm++Sm.jY proc id (if kind==6 then id else next) (if kind==6 then id else loop) bc)
def Sm.jY (proc up next loop:Int):List Sm→List Im
 | []=> []
 |s::l=>s.vY proc up (gn l next) loop++Sm.jY proc up next loop l
end
def oG (n:Nat) (l:List Sm):Prop:=∀ (i:Nat) (v:Sm),l[i]? = some v→v.id=((n+i+1:Nat):Int)
theorem oG.head {n:Nat} {v:Sm} {l:List Sm} (h:oG n (v::l)):v.id=((n+1:Nat):Int):=h 0 v rfl
theorem oG.tail {n:Nat} {v:Sm} {l:List Sm} (h:oG n (v::l)):oG (n+1) l:=fun i w hw=>by
 rw[h (i+1) w (by simpa using hw)];congr 1;omega
theorem oG.left {n:Nat} {a b:List Sm} (h:oG n (a++b)):oG n a:=fun i w hw=>h i w (by rw[List.getElem?_append_left (List.getElem?_eq_some_iff.1 hw).1];exact hw)
theorem oG.right {n:Nat} {a b:List Sm} (h:oG n (a++b)):oG (n+a.length) b:=fun i w hw=>by
 rw[h (a.length+i) w (by rw[List.getElem?_append_right (by omega)];simpa using hw)];congr 1;omega
theorem Xe (s:Sm):s.pre=s::(Sm.dm s.bm++Sm.dm s.bc):=Sm.qo s
mutual
theorem Nv : ∀ s:Sm,s.jA=s.pre.length
 |⟨id,kind,labels,name,proc,x,has,args,bm,bc⟩=>by
  simp only[Sm.jA,Sm.pre,List.length_cons,List.length_append,zY bm,zY bc];omega
theorem zY : ∀ l:List Sm,Sm.ja l=(Sm.dm l).length
 | []=>rfl
 |s::l=>by simp only[Sm.ja,Sm.dm,List.length_append,Nv s,zY l]
end
mutual
theorem Zw (proc up next loop:Int) : ∀ s:Sm,(s.vY proc up next loop).map Im.s=s.pre
 |⟨id,kind,labels,name,pc,x,has,args,bm,bc⟩=>by
  simp only[Sm.vY,Sm.pre,List.map_cons,List.map_append,r8 _ _ _ _ bm,r8 _ _ _ _ bc]
theorem r8 (proc up next loop:Int) : ∀ l:List Sm,(Sm.jY proc up next loop l).map Im.s=Sm.dm l
 | []=>rfl
 |s::l=>by simp only[Sm.jY,Sm.dm,List.map_append,Zw _ _ _ _ s,r8 _ _ _ _ l]
end
theorem aa4 (proc up next loop:Int) (s:Sm):(s.vY proc up next loop).length=s.pre.length:=by rw[← Zw proc up next loop s,List.length_map]
theorem Ef (proc up next loop:Int) (l:List Sm):(Sm.jY proc up next loop l).length=(Sm.dm l).length:=by rw[← r8 proc up next loop l,List.length_map]
mutual
theorem aa5 (proc up next loop:Int) (out:List Im) : ∀ s:Sm,oG out.length s.pre→Im.one proc up next loop out s=out++s.vY proc up next loop
 | ⟨id,kind,labels,name,pc,x,has,args,bm,bc⟩,h=>by
  simp only[Sm.pre]at h
  have h0:id=((out.length+1:Nat):Int):=h.head
  have h1:=h.tail.left
  have h2:=h.tail.right
  have e0:((out.length:Int)+1)=id:=by rw[h0];rfl
  simp only[Im.one,Sm.vY,e0]
  rw[vZ proc id _ _ (out++ [_]) bm (by rw[List.length_append];exact h1)]
  rw[vZ proc id _ _ _ bc (by
   rw[List.length_append,List.length_append,Ef];exact h2)]
  simp
theorem vZ (proc up next loop:Int) (out:List Im) : ∀ l:List Sm,oG out.length (Sm.dm l)→Im.rows proc up next loop out l=out++Sm.jY proc up next loop l
 | [],h=>by simp[Im.rows,Sm.jY]
 | s::l,h=>by
  simp only[Sm.dm]at h
  have e:(if l.length=0 then next else(out.length:Int)+1+(s.jA:Int))=gn l next:=by
   cases l with
   |nil=>rfl
   |cons t l=>
    have h2:=h.right
    simp only[Sm.dm]at h2
    rw[Xe t]at h2
    simp only[List.length_cons,gn]
    rw[if_neg (by omega),h2.head,Nv]
    omega
  simp only[Im.rows,Sm.jY,e]
  rw[aa5 proc up _ loop out s h.left,vZ proc up next loop _ l (by rw[List.length_append,aa4];exact h.right)]
  simp
end
def qc (n:Nat):List Pc→List Im
 | []=> []
 |f::l=>Sm.jY n 0 (-1) 0 f.body++qc (n+1) l
theorem T7 : ∀ (l:List Pc) (n:Nat) (h:Sh),oG h.L.length ((l.map fun f=>Sm.dm f.body).flatten)→(Sh.go n h l).L=h.L++qc n l
 | [],n,h,_=>by simp[Sh.go,qc]
 | f::l,n,h,hi=>by
  simp only[List.map_cons,List.flatten_cons]at hi
  simp only[Sh.go,qc]
  have e:=vZ (n:Int) 0 (-1) 0 h.L f.body hi.left
  rw[T7 l (n+1) _ (by
   show oG (Im.rows (n:Int) 0 (-1) 0 h.L f.body).length _
   rw[e,List.length_append,Ef];exact hi.right)]
  show Im.rows (n:Int) 0 (-1) 0 h.L f.body++_=_
  rw[e];simp
theorem Nw {p:Pg} (h:p.may=true):oG 0 p.pre:=fun i v hv=>by rw[Lc h hv];congr 1;omega
theorem T8 {p:Pg} (h:p.may=true):p.bh.L=qc 0 p.procs:=by
 have:=T7 p.procs 0 ⟨[],[],[]⟩ (Nw h)
 simpa[Pg.bh]using this
def T9 (l:List It):Nat→Int→Int
 | 0,_=>0
 |n+1,dD=>if dD==0 then 0 else match l[n]? with
  |none=>0
  |some x=>if x.s.id != dD then T9 l n dD else if x.s.kind==6 then dD else T9 l n x.dD
def Up (L:List It) (k:Nat) (its:List It) (vY:List Im):Prop:=∀ (i:Nat) (a:It) (b:Im),its[i]? = some a→vY[i]? = some b→a.s=b.s∧a.dD=b.up∧T9 L (k+i) a.dD=b.loop
def iU (seen:List aF):List aF→List aF×Bool
 | []=>(seen,true)
 |n::l=>if fq seen n then(seen,false)else iU (seen++ [n]) l
theorem B7 : ∀ (l seen:List aF),iU seen l=(if qp seen l then((iU seen l).1,false)else(seen++l,true))
 | [],seen=>by simp[iU,qp]
 | n::l,seen=>by
  simp only[iU,qp]
  split
  ·rfl
  ·rw [B7 l (seen++ [n])]
   split
   ·rfl
   ·simp
theorem Nx : ∀ (a b seen:List aF),qp seen (a++b)=(qp seen a ||qp (seen++a) b)
 | [],b,seen=>by simp[qp]
 |x::a,b,seen=>by
  simp only[List.cons_append,qp]
  split
  ·rfl
  ·rw[Nx a b (seen++ [x])];simp
theorem HT : ∀ (l seen:List aF),seen.length≤(iU seen l).1.length∧(iU seen l).1.length≤seen.length+l.length
 | [],seen=>by simp[iU]
 |n::l,seen=>by
  simp only[iU]
  split
  ·simp
  ·have:=HT l (seen++ [n]);simp at this ⊢;omega
def qE (zZ:List aF) (v:Sm) (loop:Int):Bool:=if v.kind==7 ||v.kind==8 then loop != 0 else if v.kind==10 then fq zZ v.name else true
def td (zZ fin seen:List aF):List (Sm×Int)→Option Int
 | []=>if(iU seen fin).2 then none else some 0
 |(v,lp)::l=>if(iU seen v.labels).2 then(if qE zZ v lp then td zZ fin (iU seen v.labels).1 l else some v.id)else some v.id
def iB:List Sm→List aF
 | []=> []
 |v::l=>v.labels++iB l
def Pc.labels (f:Pc):List aF:=iB (Sm.dm f.body)++f.fin
def Im.pair (m:Im):Sm×Int:=(m.s,m.loop)
def Pc.xb (f:Pc):List (Sm×Int):=(Sm.jY 0 0 (-1) 0 f.body).map Im.pair
def tf:List Pc→Option Int
 | []=>none
 |f::l=>match td f.labels f.fin [] f.xb with
  |some id=>some id
  |none=>tf l
def yV (c:Int):Option Int→Int×Int
 |some id=>(c,id)
 |none=>(0,0)
def Pg.jump (p:Pg):Int×Int:=if p.scope.1==0 then yV 7 (tf p.procs)else(1,0)
mutual
theorem Xf (proc up next u9 Ua next' loop:Int) : ∀ s:Sm,(s.vY proc up next loop).map Im.pair=(s.vY u9 Ua next' loop).map Im.pair
 |⟨id,kind,labels,name,pc,x,has,args,bm,bc⟩=>by
  simp only[Sm.vY,List.map_cons,List.map_append,Im.pair]
  rw[xc proc id _ u9 id (if kind==6 then id else next') _ bm,xc proc id _ u9 id (if kind==6 then id else next') _ bc]
theorem xc (proc up next u9 Ua next' loop:Int) : ∀ l:List Sm,(Sm.jY proc up next loop l).map Im.pair=(Sm.jY u9 Ua next' loop l).map Im.pair
 | []=>rfl
 |s::l=>by
  simp only[Sm.jY,List.map_append]
  rw[Xf proc up _ u9 Ua (gn l next') loop s,xc proc up next u9 Ua next' loop l]
end
theorem Lo (n:Int) (f:Pc):(Sm.jY n 0 (-1) 0 f.body).map Im.pair=f.xb:=xc _ _ _ _ _ _ _ _
theorem aa6 (f:Pc):f.xb.map Prod.fst=Sm.dm f.body:=by
 unfold Pc.xb
 rw[List.map_map, ← r8 0 0 (-1) 0 f.body]
 rfl
def Ny (l:List It):Nat→Int→Int
 | 0,_=>0
 |n+1,id=>match l[n]? with
  |none=>0
  |some x=>if x.s.id != id then Ny l n id else if T9 l n x.dD != 0 then T9 l n x.dD else Ny l n id
theorem Nz : ∀ (l:List Pc) (n:Nat) (h:Sh),h.lo.length=n→h.hi.length=n→oG h.L.length ((l.map fun f=>Sm.dm f.body).flatten)→
 ∃ lo hi,Sh.go n h l = ⟨h.L++qc n l,h.lo++lo,h.hi++hi⟩∧lo.length=l.length∧hi.length=l.length∧
  ∀ (i:Nat) (f:Pc),l[i]? = some f→∃ a e:List Im,lo[i]? = some (((h.L++a).length:Int)+1)∧hi[i]? = some (((h.L++a++Sm.jY ((n+i:Nat):Int) 0 (-1) 0 f.body).length:Int)+1)∧qc n l=a++Sm.jY ((n+i:Nat):Int) 0 (-1) 0 f.body++e
 | [],n,h,hl,hh,_=>⟨[],[],by simp[Sh.go,qc],rfl,rfl,fun i f h=>by simp at h⟩
 | f::l,n,h,hl,hh,hi=>by
  simp only[List.map_cons,List.flatten_cons]at hi
  simp only[Sh.go,qc]
  have e1:=vZ (n:Int) 0 (-1) 0 h.L f.body hi.left
  obtain⟨lo,ic,h2,h3,h4,h5⟩:=Nz l (n+1) ⟨Im.rows (n:Int) 0 (-1) 0 h.L f.body,h.lo++ [(h.L.length:Int)+1],h.hi++ [((Im.rows (n:Int) 0 (-1) 0 h.L f.body).length:Int)+1]⟩ (by simp[hl]) (by simp[hh]) (by
   show oG (Im.rows (n:Int) 0 (-1) 0 h.L f.body).length _
   rw[e1,List.length_append,Ef];exact hi.right)
  refine⟨((h.L.length:Int)+1)::lo,(((Im.rows (n:Int) 0 (-1) 0 h.L f.body).length:Int)+1)::ic, ?_,by simp[h3],by simp[h4],fun i g ic=>?_⟩
  ·rw[h2,e1];simp
  ·cases i with
   |zero=>
    simp only[List.getElem?_cons_zero,Option.some.injEq]at ic
    subst ic
    exact⟨[],qc (n+1) l,by simp,by rw[e1];simp,by simp⟩
   |succ i=>
    simp only[List.getElem?_cons_succ]at ic
    obtain⟨a,e,g1,g2,g3⟩:=h5 i g ic
    have en:n+1+i=n+(i+1):=by omega
    rw[en]at g2 g3
    refine⟨Sm.jY n 0 (-1) 0 f.body++a,e, ?_, ?_,by rw[g3];simp⟩
    ·rw[List.getElem?_cons_succ,g1,e1];simp
    ·rw[List.getElem?_cons_succ,g2,e1];simp
theorem aeY {p:Pg} (hb:p.may=true) {i:Nat} {f:Pc} (hf:p.procs[i]? = some f) (hs:Pc.br p.procs<1000000000) (s:St) :
 az Tryz.prog gQ [.dL (fw p) 0, .int .i64 (i:Int)] s (.slice .shared 17 ((Sm.jY (i:Int) 0 (-1) 0 f.body).map dK)) s:=by
 obtain⟨lo,hi,h1,h2,h3,h4⟩:=Nz p.procs 0 ⟨[],[],[]⟩ rfl rfl (Nw hb)
 obtain⟨a,e,g1,g2,g3⟩:=h4 i f hf
 simp only[Nat.zero_add,List.nil_append]at g1 g2 g3 h1
 refine aeu hs (a:=a) (e:=e) ?_ ?_ ?_ s
 ·show(Sh.go 0 ⟨[],[],[]⟩ p.procs).lo[i]? = _
  rw[h1];exact g1
 ·show(Sh.go 0 ⟨[],[],[]⟩ p.procs).hi[i]? = _
  rw[h1];exact g2
 ·show(Sh.go 0 ⟨[],[],[]⟩ p.procs).L=_
  rw[h1];exact g3
theorem az.as0 {P:Program} {f:FuncId} {pre post:List D} {rows lH:List (List D)} {z z' k k':Nat} {b:Bool} (h:az P f (pre++ .slice (.tok 0) z rows::post) ⟨[],[some k]⟩ (.tuple [.slice (.tok 0) z' lH, .bool b]) ⟨[],[some k']⟩)
 (hp:D.bH 0 0 pre=true) (ha:D.bH 0 0 post=true) (hw:D.gW 0 0 rows=true) (SI:D.gW 0 0 lH=true)
 {s:St} {t:Nat} (ht:s.aw[t]? = some (some k)):az P f (pre++ .slice (.tok t) z rows::post) s (.tuple [.slice (.tok t) z' lH, .bool b]) ⟨s.ah,s.aw.set t (some k')⟩:=by
 refine bP.frame [] [t] h (by simp) (by simp) (by simp) (by simpa using (List.getElem?_eq_some_iff.1 ht).1) rfl (fun i o' ds e1 e2=>by simp at e1) rfl (fun i t' e1=>?_)
  ?_ ?_ ?_
 ·cases i with
  |zero=>simp at e1;subst e1;simp[ht]
  |succ i=>simp at e1
 ·have h1:=e8 [] [t] _ hp
  have h2:=e8 [] [t] _ ha
  rw[fM]at h1 h2
  simp[fM,D.db,Tag.db,h1,h2,ig _ _ _ hw]
 ·have h1:=gF (n':=0) (m':=1) (Nat.le_refl 0) (Nat.zero_le 1) _ hp
  have h2:=gF (n':=0) (m':=1) (Nat.le_refl 0) (Nat.zero_le 1) _ ha
  rw[ym]at h1 h2 ⊢
  simp only[List.length_nil,List.length_cons,List.all_append,h1,Bool.true_and,List.all_cons,h2,Bool.and_true,D.ok,Tag.ok,lD (Nat.zero_le 0) (Nat.zero_le 1) _ hw]
  rfl
 ·rintro _ _ ⟨rfl,rfl⟩
  refine⟨by simp[D.back,D.db,D.eT,Tag.db,kj,ig _ _ _ SI], ?_⟩
  simp[St.back,kB]
theorem aeZ {seen l:List aF} (hl:seen.length+l.length<1000000000):az Tryz.prog qj [.slice (.tok 0) 1 (seen.map encStr), .slice .shared 1 (l.map encStr)] ⟨[],[some seen.length]⟩
 (.tuple [.slice (.tok 0) 1 ((iU seen l).1.map encStr), .bool (iU seen l).2]) ⟨[],[some (iU seen l).1.length]⟩:=by
 generalize hR:iU seen l=R
 refine az.go Iw rfl fun B Q hB hQ=>?_
 have⟨hC,hE,hM,hY⟩:=bC
 repeat' (first
 |simp only[go_sem,hC,hE,hM,hY]
 |(with_reducible refine aB hQ ?_;exact bg))
 refine dQ 0 1 (bd.ind (ι:=List aF×Nat×List aF×Nat) (fun i=>l.drop i.2.1=i.1∧iU i.2.2.1 i.1=R∧i.2.2.2=i.2.2.1.length∧i.2.2.1.length+i.1.length<1000000000) (fun i=>i.1.length)
  (fun i=> [(0, .slice (.tok 0) 1 (i.2.2.1.map encStr)),(8, .slice .shared 1 (l.map encStr)),(9, .int .i64 (l.length:Int)),(10, .int .i64 (i.2.1:Int))]) (fun i=>⟨[],[some i.2.2.2]⟩) ?_ (l,0,seen,seen.length) ⟨rfl,hR,rfl,hl⟩)
 clear hR
 rintro⟨rest,k,out,n⟩ ⟨h1,h2,h3,h4⟩ IH
 dsimp only at h1 h2 h3 h4
 subst h3
 cases rest with
 |nil=>
  have hC:=drop_nil h1
  simp only[iU]at h2
  subst h2
  repeat' (first
 |simp only[go_sem,hC,hE,hM,hY]
 |(with_reducible refine aB hQ ?_;exact bg))
 | cons x rest=>
  obtain⟨hE,g2,hC,g4⟩:=drop_cons h1
  have cm:k<4611686018427387904:=by omega
  simp only[List.length_cons]at h4
  have hM:(out.length+1)*17≤bu:=by unfold bu;omega
  have HQ:=fun g s=>jJ (l:=out) (by omega) x g s
  simp only[iU]at h2
  rcases Bool.eq_false_or_eq_true (fq out x)with c1|c1
  ·simp only [c1,if_true]at h2
   subst h2
   repeat' (first
 |simp only[go_sem,hC,hE,hM,hY,c1]
 |(with_reducible refine CU (HQ _ _) ?_)
 | (with_reducible refine aB hQ ?_;exact bg))
  ·simp only [c1,Bool.false_eq_true,if_false]at h2
   repeat' (first
 |simp only[go_sem,hC,hE,hM,hY,c1]
 |(with_reducible refine CU (HQ _ _) ?_)
 | (with_reducible refine aB hQ ?_;exact bg))
   refine eM 0 1 ?_ ?_ (IH (rest,k+1,out++ [x],out.length+1) ⟨g2,h2,by simp,by simp;omega⟩ (Nat.lt_succ_self _))
   ·(simp only[go_sem,hC,hE,hM,hY,aL cm,List.map_append,List.map_cons,List.map_nil,encStr];try exact cb)
   ·(simp only[go_sem,hC,hE,hM,hY,aL cm,List.map_append,List.map_cons,List.map_nil,encStr];try exact cb)
theorem Ub {seen l:List aF} (hl:seen.length+l.length<1000000000) {s:St} {t:Nat} (ht:s.aw[t]? = some (some seen.length)):az Tryz.prog qj [.slice (.tok t) 1 (seen.map encStr), .slice .shared 1 (l.map encStr)] s
 (.tuple [.slice (.tok t) 1 ((iU seen l).1.map encStr), .bool (iU seen l).2]) ⟨s.ah,s.aw.set t (some (iU seen l).1.length)⟩:=
 (aeZ hl).as0 (pre:= []) (post:= [_]) rfl (by simp[D.bH,D.ok,Tag.ok,eB]) (eB _) (eB _) ht
theorem Xg (x:Im):(dK x)[2]? = some (.slice .shared 1 (x.s.labels.map encStr)):=nd rfl
theorem Uc (x:Im):(dK x)[3]? = some (.str x.s.name):=nd rfl
attribute [go_sem] Xg Uc
def k9 (fin:List aF) (label:aF):List Sm→Int×Bool
 | []=>if fq fin label then(-1,true)else(0,false)
 |v::l=>if fq v.labels label then(v.id,true)else k9 fin label l
theorem B8 (fin:List aF) (label:aF) : ∀ l:List Sm,(k9 fin label l).2=fq (iB l++fin) label
 | []=>by simp only[k9,iB,List.nil_append];split<;>simp_all
 | v::l=>by
  simp only[k9,iB,List.append_assoc]
  have h:=B8 fin label l
  rw[Bool.eq_iff_iff,jh]at h
  split
  ·rename_i c
   exact((jh _ _).2 (List.mem_append.2 (.inl ((jh _ _).1 c)))).symm
  ·rename_i c
   have:label∉v.labels:=fun m=>c ((jh _ _).2 m)
   rw[Bool.eq_iff_iff,h,jh]
   exact⟨fun m=>List.mem_append.2 (.inr m),fun m=>(List.mem_append.1 m).resolve_left this⟩
theorem Lp {p:Pg} {v:Sm} (ho:p.iX) {f:Pc} (hf:f∈p.procs) (hv:v∈Sm.dm f.body):v.labels.length≤900000:=by
 have key : ∀ n:Nat,(∀ s:Sm,s.pre.length≤n→∀ v∈s.pre,v.labels.length≤s.size)∧(∀ l:List Sm,(Sm.dm l).length≤n→∀ v∈Sm.dm l,v.labels.length≤Sm.br l):=by
  intro n
  induction n with
  |zero=>
   refine⟨fun s h=>by rw[Sm.qo]at h;simp at h,fun l h v m=>?_⟩
   have:=List.eq_nil_of_length_eq_zero (Nat.le_zero.1 h)
   rw[this]at m;cases m
  | succ n ih=>
   have h1 : ∀ s:Sm,s.pre.length≤n+1→∀ v∈s.pre,v.labels.length≤s.size:=by
    intro s h v m
    rw[Sm.qo]at h m
    simp only[List.length_cons,List.length_append]at h
    obtain⟨id,kind,labels,name,proc,x,has,args,bm,bc⟩:=s
    simp only[Sm.size]
    rcases List.mem_cons.1 m with rfl|m
    ·dsimp only;omega
    ·rcases List.mem_append.1 m with m | m
     ·have:=ih.2 bm (by dsimp only at h;omega) v m;omega
     ·have:=ih.2 bc (by dsimp only at h;omega) v m;omega
   refine⟨h1,fun l=>?_⟩
   induction l with
   |nil=>intro _ v m;cases m
   |cons s l Tk=>
    intro h v m
    simp only[Sm.dm,List.length_append]at h
    simp only[Sm.dm]at m
    simp only[Sm.br]
    rcases List.mem_append.1 m with m|m
    ·have:=h1 s (by omega) v m;omega
    ·have:=Tk (by omega) v m;omega
 have h1:=(key (Sm.dm f.body).length).2 f.body (Nat.le_refl _) v hv
 have h2:=Pc.dd hf
 have h3:=ho.procs.2.1
 simp only[Pc.size]at h2
 omega
theorem HU {p:Pg} (ho:p.iX) {f:Pc} (hf:f∈p.procs):f.fin.length≤900000:=by
 have h2:=Pc.dd hf
 have h3:=ho.procs.2.1
 simp only[Pc.size]at h2
 omega
theorem Fw {p:Pg} (ho:p.iX) {f:Pc} (hf:f∈p.procs):(Sm.dm f.body).length≤900000:=by
 rw[← zY]
 have:=nG f.body
 have h2:=Pc.dd hf
 have h3:=ho.procs.2.1
 simp only[Pc.size]at h2
 omega
theorem ae0 {p:Pg} (ho:p.iX) (hb:p.may=true) {i:Nat} {f:Pc} (hf:p.procs[i]? = some f) (label:aF) (s:St) :
 az Tryz.prog oM [.dL (fw p) 0, .int .i64 (i:Int), .str label] s (.tuple [.int .i64 (k9 f.fin label (Sm.dm f.body)).1, .bool (k9 f.fin label (Sm.dm f.body)).2]) s:=by
 refine az.pure ?_ (by simp[D.bH,D.ok,uw]) rfl s
 obtain⟨sh,r7,rZ⟩:=ho.procs
 have AH:=List.mem_of_getElem? hf
 have BX:=fun s=>aeY hb hf (by omega) s
 have qb:=r8 (i:Int) 0 (-1) 0 f.body
 have Lq:=Fw ho AH
 have v7:=HU ho AH
 have Dw:=fun s=>rY (l:=f.fin) (by omega) label s
 have qX:i<p.procs.length:=(List.getElem?_eq_some_iff.1 hf).1
 generalize hI:Sm.jY (i:Int) 0 (-1) 0 f.body=I at *
 have hIl:I.length≤900000:=by rw[← qb,List.length_map]at Lq;exact Lq
 obtain⟨R,hR⟩ : ∃ R,k9 f.fin label (Sm.dm f.body)=R:=⟨_,rfl⟩
 rw[hR]
 rw[← qb]at hR
 unfold S0
 refine az.go C6 rfl fun B Q hB hQ=>?_
 have⟨hC,hE,hM,hY⟩:=bC
 repeat' (first
 |simp only[go_sem,hC,hE,hM,hY]
 |(with_reducible refine CU (BX _) ?_)
 |(with_reducible refine aB hQ ?_;exact bg))
 refine dQ 0 0 (bd.ind (ι:=List Im×Nat) (fun j=>I.drop j.2=j.1∧k9 f.fin label (j.1.map Im.s)=R) (fun j=>j.1.length)
  (fun j=> [(0, .dL (fw p) 0),(1, .int .i64 (i:Int)),(2, .str label),(12, .slice .shared 17 (I.map dK)),(13, .int .i64 (I.length:Int)),(14, .int .i64 (j.2:Int))]) (fun j=>⟨[],[]⟩) ?_ (I,0) ⟨rfl,hR⟩)
 clear hR
 rintro⟨rest,k⟩ ⟨h1,h2⟩ IH
 dsimp only at h1 h2
 cases rest with
 | nil=>
  have hC:=drop_nil h1
  simp only[List.map_nil,k9]at h2
  rcases Bool.eq_false_or_eq_true (fq f.fin label)with c1|c1
  ·simp only [c1,if_true]at h2
   subst h2
   repeat' (first
 |simp only[go_sem,hC,hE,hM,hY,nW,hf,c1]
 |(with_reducible refine CU (Dw _) ?_)
 | (with_reducible refine aB hQ ?_;exact bg))
  ·simp only [c1,Bool.false_eq_true,if_false]at h2
   subst h2
   repeat' (first
 |simp only[go_sem,hC,hE,hM,hY,nW,hf,c1]
 |(with_reducible refine CU (Dw _) ?_)
 |(with_reducible refine aB hQ ?_;exact bg))
 | cons a rest=>
  obtain⟨hE,g2,hC,g4⟩:=drop_cons h1
  have cm:k<4611686018427387904:=by omega
  have Fo:a.s∈Sm.dm f.body:=by rw[← qb];exact List.mem_map_of_mem (List.mem_of_getElem? hE)
  have nF:=fun s=>rY (l:=a.s.labels) (by have:=Lp ho AH Fo;omega) label s
  simp only[List.map_cons,k9]at h2
  rcases Bool.eq_false_or_eq_true (fq a.s.labels label)with c1|c1
  ·simp only [c1,if_true]at h2
   subst h2
   repeat' (first
 |simp only[go_sem,hC,hE,hM,hY,c1]
 |(with_reducible refine CU (nF _) ?_)
 | (with_reducible refine aB hQ ?_;exact bg))
  ·simp only [c1,Bool.false_eq_true,if_false]at h2
   repeat' (first
 |simp only[go_sem,hC,hE,hM,hY,c1]
 |(with_reducible refine CU (nF _) ?_)
 | (with_reducible refine aB hQ ?_;exact bg))
   refine eM 0 0 ?_ ?_ (IH (rest,k+1) ⟨g2,h2⟩ (Nat.lt_succ_self _))
   ·(simp only[go_sem,hC,hE,hM,hY,aL cm];try exact cb)
   ·(simp only[go_sem,hC,hE,hM,hY,aL cm];try exact cb)
theorem aa7 {p:Pg} (ho:p.iX) (hb:p.may=true) {i:Nat} {f:Pc} (hf:p.procs[i]? = some f) (m:Im) (hm:m.proc=(i:Int)) (s:St) :
 az Tryz.prog vD [.dL (fw p) 0, .agg (dK m)] s (.bool (qE f.labels m.s m.loop)) s:=by
 refine az.pure ?_ (by simp[D.bH,D.ok,uw,QR]) rfl s
 have rz:=fun s=>ae0 ho hb hf m.s.name s
 have ae1:=B8 f.fin m.s.name (Sm.dm f.body)
 rw[← hm]at rz
 obtain⟨A,hA⟩ : ∃ A,k9 f.fin m.s.name (Sm.dm f.body)=A:=⟨_,rfl⟩
 rw[hA]at rz ae1
 obtain⟨R,hR⟩ : ∃ R,qE f.labels m.s m.loop=R:=⟨_,rfl⟩
 rw[hR]
 unfold qE Pc.labels at hR
 unfold S0
 rcases Bool.eq_false_or_eq_true (m.s.kind==7)with c1|c1
 ·simp only [c1,Bool.true_or,if_true]at hR
  subst hR
  refine az.go pF rfl fun B Q hB hQ=>?_
  have⟨hC,hE,hM,hY⟩:=bC
  repeat' (first
 |simp only[go_sem,hC,hE,hM,hY,c1]
 |(with_reducible refine aB hQ ?_;exact bg))
 rcases Bool.eq_false_or_eq_true (m.s.kind==8)with c2|c2
 ·simp only [c1,c2,Bool.or_true,if_true]at hR
  subst hR
  refine az.go pF rfl fun B Q hB hQ=>?_
  have⟨hC,hE,hM,hY⟩:=bC
  repeat' (first
 |simp only[go_sem,hC,hE,hM,hY,c1,c2]
 |(with_reducible refine aB hQ ?_;exact bg))
 rcases Bool.eq_false_or_eq_true (m.s.kind==10)with c3|c3
 ·simp only [c1,c2,c3,Bool.or_self,Bool.false_eq_true,if_false,if_true, ← ae1]at hR
  subst hR
  refine az.go pF rfl fun B Q hB hQ=>?_
  have⟨hC,hE,hM,hY⟩:=bC
  repeat' (first
 |simp only[go_sem,hC,hE,hM,hY,c1,c2,c3]
 |(with_reducible refine CU (rz _) ?_)
 |(with_reducible refine aB hQ ?_;exact bg))
 ·simp only [c1,c2,c3,Bool.or_self,Bool.false_eq_true,if_false]at hR
  subst hR
  refine az.go pF rfl fun B Q hB hQ=>?_
  have⟨hC,hE,hM,hY⟩:=bC
  repeat' (first
 |simp only[go_sem,hC,hE,hM,hY,c1,c2,c3]
 |(with_reducible refine aB hQ ?_;exact bg))
end Go.Abs
namespace Go.Abs
set_option maxRecDepth 8000
open Go.Proofs
theorem aa8 {p:Pg} (h:p.iX) (nI:(p.scope.1==0)=true) (s:St):az Tryz.prog rL [.agg (cR p)] s (.dL (fw p) 0) s:=by
 refine az.pure ?_ (by simp[D.bH,D.ok,jX]) (by simp[D.ok,uw]) s
 obtain⟨sh,r7,rZ⟩:=h.procs
 have pP:=fun s=>vW h s
 have dr:=fun s=>Cy (p:=p) (by omega) s
 have b0:(p.scope.1 != 0) = !(p.scope.1==0):=rfl
 rw[nI]at b0
 unfold S0
 refine az.go yL rfl fun B Q hB hQ=>?_
 have⟨hC,hE,hM,hY⟩:=bC
 repeat' (first
 |simp only[go_sem,hC,hE,hM,hY,b0,Bool.not_true]
 |(with_reducible refine CU (pP _) ?_)
 |(with_reducible refine CU (dr _) ?_)
 |(with_reducible refine aB hQ ?_;exact bg))
theorem aa9 {p:Pg} (h:p.iX) (nI:(p.scope.1==0)=false) (s:St):az Tryz.prog rL [.agg (cR p)] s .ek s:=by
 refine az.pure ?_ (by simp[D.bH,D.ok,jX]) rfl s
 have pP:=fun s=>vW h s
 have b0:(p.scope.1 != 0) = !(p.scope.1==0):=rfl
 rw[nI]at b0
 unfold S0
 refine az.go yL rfl fun B Q hB hQ=>?_
 have⟨hC,hE,hM,hY⟩:=bC
 repeat' (first
 |simp only[go_sem,hC,hE,hM,hY,b0,Bool.not_false]
 |(with_reducible refine CU (pP _) ?_)
 |(with_reducible refine aB hQ ?_;exact bg))
mutual
theorem Xh {pr up next loop:Int} : ∀ (s:Sm) (m:Im),m∈s.vY pr up next loop→m.proc=pr
 | ⟨id,kind,labels,name,pc,x,has,args,bm,bc⟩,m,h=>by
  simp only[Sm.vY]at h
  rcases List.mem_cons.1 h with rfl|h
  ·rfl
  ·rcases List.mem_append.1 h with h | h
   ·exact xd bm m h
   ·exact xd bc m h
theorem xd {pr up next loop:Int} : ∀ (l:List Sm) (m:Im),m∈Sm.jY pr up next loop l→m.proc=pr
 |s::l,m,h=>by
  simp only[Sm.jY]at h
  rcases List.mem_append.1 h with h|h
  ·exact Xh s m h
  ·exact xd l m h
end
theorem xP : ∀ a b:List Sm,iB (a++b)=iB a++iB b
 | [],b=>rfl
 |v::a,b=>by simp only[List.cons_append,iB,xP a b,List.append_assoc]
mutual
theorem MR : ∀ s:Sm,(iB s.pre).length≤s.size
 |⟨id,kind,labels,name,pc,x,has,args,bm,bc⟩=>by
  have:=r9 bm;have:=r9 bc
  simp only[Sm.pre,iB,xP,List.length_append,Sm.size];omega
theorem r9 : ∀ l:List Sm,(iB (Sm.dm l)).length≤Sm.br l
 | []=>Nat.le_refl _
 |s::l=>by
  have:=MR s;have:=r9 l
  simp only[Sm.dm,xP,List.length_append,Sm.br];omega
end
theorem Ud (seen l:List aF):(iU seen l).1.length≤seen.length+l.length:=(HT l seen).2
theorem Xi {p:Pg} (h:p.iX) (s:St):az Tryz.prog vA [.agg (cR p)] s (.agg [.int .i64 p.jump.1, .int .i64 p.jump.2]) s:=by
 refine az.pure ?_ (by simp[D.bH,D.ok,jX]) rfl s
 obtain⟨sh,r7,rZ⟩:=h.procs
 obtain⟨R,hR⟩ : ∃ R,p.jump=R:=⟨_,rfl⟩
 rw[hR]
 unfold Pg.jump at hR
 unfold S0
 rcases Bool.eq_false_or_eq_true (p.scope.1==0)with nI|nI
 case inr=>
  have hs:=fun s=>aa9 h nI s
  simp only[nI,Bool.false_eq_true,if_false]at hR
  subst hR
  refine az.go yu rfl fun B Q hB hQ=>?_
  have⟨hC,hE,hM,hY⟩:=bC
  repeat' (first
 |simp only[go_sem,hC,hE,hM,hY]
 |(with_reducible refine CU (hs _) ?_)
 |(with_reducible refine aB hQ ?_;exact bg))
 have hs:=fun s=>aa8 h nI s
 have hb:=B0 nI
 simp only[nI,if_true]at hR
 refine az.go yu rfl fun B Q hB hQ=>?_
 have⟨hC,hE,hM,hY⟩:=bC
 repeat' (first
 |simp only[go_sem,hC,hE,hM,hY]
 |(with_reducible refine CU (hs _) ?_)
 |(with_reducible refine aB hQ ?_;exact bg))
 refine dQ 2 0 (bd.ind (ι:=List Pc×Nat) (fun i=>p.procs.drop i.2=i.1∧yV 7 (tf i.1)=R) (fun i=>i.1.length)
  (fun i=> [(1, .ptr 0 0),(2, .ptr 1 0),(3, .dL (fw p) 0),(16, .slice .shared 5 (p.procs.map cH)),(17, .int .i64 (p.procs.length:Int)),(18, .int .i64 (i.2:Int))]) (fun i=>⟨[cR p,[.int .i64 0, .int .i64 0]],[]⟩) ?_ (p.procs,0) ⟨rfl,hR⟩)
 clear hR
 rintro⟨rest,k⟩ ⟨h1,hR⟩ IH
 dsimp only at h1 hR
 cases rest with
 |nil=>
  have hC:=drop_nil h1
  simp only[tf,yV]at hR
  subst hR
  repeat' (first
 |simp only[go_sem,hC,hE,hM,hY]
 |(with_reducible refine aB hQ ?_;exact bg))
 | cons f rest=>
  obtain⟨hE,g2,hC,g4⟩:=drop_cons h1
  have cm:k<4611686018427387904:=by omega
  have AH:=List.mem_of_getElem? hE
  have BX:=fun s=>aeY hb hE (by omega) s
  have qb:=r8 (k:Int) 0 (-1) 0 f.body
  have yR:=Lo (k:Int) f
  have QQ:=fun m=>xd (pr:=(k:Int)) (up:=0) (next:= -1) (loop:=0) f.body m
  have Lq:=Fw h AH
  have v7:=HU h AH
  have ae2:(iB (Sm.dm f.body)).length≤900000:=by
   have h1:=r9 f.body
   have h2:=Pc.dd AH
   simp only[Pc.size]at h2
   omega
  rw[← qb]at ae2
  generalize hI:Sm.jY (k:Int) 0 (-1) 0 f.body=I at *
  have hIl:I.length≤900000:=by rw[← qb,List.length_map]at Lq;exact Lq
  simp only[tf, ← yR]at hR
  obtain⟨J,hJ⟩ : ∃ J,td f.labels f.fin [] (I.map Im.pair)=J:=⟨_,rfl⟩
  rw[hJ]at hR
  have hld:=fun(m:Im) (hm:m∈I) s=>aa7 h hb hE m (QQ m hm) s
  repeat' (first
 |simp only[go_sem,hC,hE,hM,hY]
 |(with_reducible refine CU (BX _) ?_)
 | (with_reducible refine aB hQ ?_;exact bg))
  refine bd.pY 6 1 rfl ?_
  simp only[go_sem,hC,hE,hM,hY]
  refine dQ 3 1 (bd.ind (ι:=List Im×Nat×List aF×Nat) (fun i=>I.drop i.2.1=i.1∧td f.labels f.fin i.2.2.1 (i.1.map Im.pair)=J∧i.2.2.2=i.2.2.1.length∧i.2.2.1.length+(iB (i.1.map Im.s)).length≤900000) (fun i=>i.1.length)
   (fun i=> [(1, .ptr 0 0),(2, .ptr 1 0),(3, .dL (fw p) 0),(5, .ptr 2 0),(6, .slice (.tok 0) 1 (i.2.2.1.map encStr)),(16, .slice .shared 5 (p.procs.map cH)),(17, .int .i64 (p.procs.length:Int)),(18, .int .i64 (k:Int)),
    (25, .slice .shared 17 (I.map dK)),(26, .int .i64 (I.length:Int)),(27, .int .i64 (i.2.1:Int))]) (fun i=>⟨[cR p,[.int .i64 0, .int .i64 0],cH f],[some i.2.2.2]⟩) ?_ (I,0,[],0) ⟨rfl,hJ,rfl,by simpa using ae2⟩)
  clear hJ
  rintro⟨xa,k2,seen,n2⟩ ⟨j1,j2,j3,j4⟩ TG
  dsimp only at j1 j2 j3 j4
  subst j3
  cases xa with
  | nil=>
   have Q5:=drop_nil j1
   simp only[List.map_nil,td]at j2
   simp only[List.map_nil,iB,List.length_nil,Nat.add_zero]at j4
   have HV:=fun {s:St} {t:Nat} (ht:s.aw[t]? = some (some seen.length))=>Ub (seen:=seen) (l:=f.fin) (by omega) ht
   obtain⟨P1,hP1⟩ : ∃ P1,iU seen f.fin=P1:=⟨_,rfl⟩
   rw[hP1]at j2 HV
   rcases Bool.eq_false_or_eq_true P1.2 with c1|c1
   ·simp only [c1,if_true]at j2
    subst j2
    simp only at hR
    repeat' (first
 |simp only[go_sem,hC,hE,hM,hY,Q5,c1,Bool.not_true]
 |(with_reducible refine CU (HV (by with_unfolding_all rfl)) ?_)
 | (with_reducible refine aB hQ ?_;exact bg))
    refine eM 2 0 ?_ ?_ (IH (rest,k+1) ⟨g2,hR⟩ (Nat.lt_succ_self _))
    ·(simp only[go_sem,hC,hE,hM,hY,aL cm];try exact cb)
    ·(simp only[go_sem,hC,hE,hM,hY,aL cm];try exact cb)
   ·simp only [c1,Bool.false_eq_true,if_false]at j2
    subst j2
    simp only[yV]at hR
    subst hR
    repeat' (first
 |simp only[go_sem,hC,hE,hM,hY,Q5,c1,Bool.not_false]
 |(with_reducible refine CU (HV (by with_unfolding_all rfl)) ?_)
 | (with_reducible refine aB hQ ?_;exact bg))
  | cons m xa=>
   obtain⟨py,j5,yS,j6⟩:=drop_cons j1
   have tL:k2<4611686018427387904:=by omega
   have NA:=List.mem_of_getElem? py
   have Zs:=fun s=>hld m NA s
   simp only[List.map_cons,Im.pair,td]at j2
   simp only[List.map_cons,iB,List.length_append]at j4
   have HV:=fun {s:St} {t:Nat} (ht:s.aw[t]? = some (some seen.length))=>Ub (seen:=seen) (l:=m.s.labels) (by omega) ht
   have Yu:=Ud seen m.s.labels
   obtain⟨P1,hP1⟩ : ∃ P1,iU seen m.s.labels=P1:=⟨_,rfl⟩
   rw[hP1]at j2 HV Yu
   rcases Bool.eq_false_or_eq_true P1.2 with c1|c1
   ·rcases Bool.eq_false_or_eq_true (qE f.labels m.s m.loop)with c2 | c2
    ·simp only [c1,c2,if_true]at j2
     repeat' (first
 |simp only[go_sem,hC,hE,hM,hY,py,yS,c1,c2,Bool.not_true]
 |(with_reducible refine CU (HV (by with_unfolding_all rfl)) ?_)
 |(with_reducible refine CU (Zs _) ?_)
 | (with_reducible refine aB hQ ?_;exact bg))
     refine eM 3 1 ?_ ?_ (TG (xa,k2+1,P1.1,P1.1.length) ⟨j5,j2,rfl,by dsimp only;omega⟩ (Nat.lt_succ_self _))
     ·(simp only[go_sem,hC,hE,hM,hY,aL tL];try exact cb)
     ·(simp only[go_sem,hC,hE,hM,hY,aL tL];try exact cb)
    ·simp only [c1,c2,if_true,Bool.false_eq_true,if_false]at j2
     subst j2
     simp only[yV]at hR
     subst hR
     repeat' (first
 |simp only[go_sem,hC,hE,hM,hY,py,yS,c1,c2,Bool.not_true,Bool.not_false]
 |(with_reducible refine CU (HV (by with_unfolding_all rfl)) ?_)
 |(with_reducible refine CU (Zs _) ?_)
 | (with_reducible refine aB hQ ?_;exact bg))
   ·simp only [c1,Bool.false_eq_true,if_false]at j2
    subst j2
    simp only[yV]at hR
    subst hR
    repeat' (first
 |simp only[go_sem,hC,hE,hM,hY,py,yS,c1,Bool.not_false]
 |(with_reducible refine CU (HV (by with_unfolding_all rfl)) ?_)
 |(with_reducible refine CU (Zs _) ?_)
 |(with_reducible refine aB hQ ?_;exact bg))
theorem Xj (x:It):(j8 x)[2]? = some (.slice .shared 1 (x.s.labels.map encStr)):=nd rfl
theorem Ue (x:It):(j8 x)[14]? = some (.int .i64 x.dD):=nd rfl
attribute [go_sem] Xj Ue
end Go.Abs
namespace Go.Abs
def Dz (a b t:aF):aF:=if t==a then b else if t==b then a else t
mutual
def Ex.swap (a b:aF):Ex→Ex
 |⟨op,n,name,kids⟩=>⟨op,n,Dz a b name,Ex.z6 a b kids⟩
def Ex.z6 (a b:aF):List Ex→List Ex
 | []=> []
 |x::l=>x.swap a b::Ex.z6 a b l
end
def Ar.swap (a b:aF) (x:Ar):Ar:=⟨x.ref,Dz a b x.name,x.x.swap a b⟩
mutual
def Sm.swap (a b:aF):Sm→Sm
 |⟨id,kind,labels,name,proc,x,has,args,bm,bc⟩=>⟨id,kind,labels.map (Dz a b),Dz a b name,Dz a b proc,x.swap a b,has,args.map (Ar.swap a b),Sm.z6 a b bm,Sm.z6 a b bc⟩
def Sm.z6 (a b:aF):List Sm→List Sm
 | []=> []
 |s::l=>s.swap a b::Sm.z6 a b l
end
def Pm.swap (a b:aF) (x:Pm):Pm:=⟨Dz a b x.name,x.ref⟩
def Pc.swap (a b:aF) (f:Pc):Pc:=⟨Dz a b f.name,f.params.map (Pm.swap a b),f.vars.map (Dz a b),Sm.z6 a b f.body,f.fin.map (Dz a b)⟩
def Pg.swap (a b:aF) (p:Pg):Pg:=⟨p.globals.map (Dz a b),p.procs.map (Pc.swap a b)⟩
def It.swap (a b:aF) (i:It):It:=⟨i.s.swap a b,i.deep,i.dD,i.bc⟩
def Zx:List Sm→List aF
 | []=> []
 |v::l=>v.said++Zx l
def ah9 (p:Pg):List aF→List aF
 | []=> []
 |n::l=>Zx (tT p n)++ah9 p l
set_option maxRecDepth 8000
open Go.Proofs
def pL (nm:aF) (T:List aF) (seen:List aF):List Ar→Bool
 | []=>true
 |a::l=>if a.ref then(if fq seen a.name ||(a.name==nm ||fq T a.name)then false else pL nm T (seen++ [a.name]) l)else pL nm T seen l
def apM (T:List aF) (seen:List aF):List Ar→Bool
 | []=>true
 |a::l=>if a.ref then(if fq seen a.name ||fq T a.name then false else apM T (seen++ [a.name]) l)else apM T seen l
def Sm.as2 (v:Sm):List aF:=if v.name != []then [v.name]else []
theorem Xk {v:Sm} (Av:v.args.length<1000000000) {T:List aF} (hT:T.length<4611686018427387904) (s:St) :
 az Tryz.prog sA [.agg (a8 v), .slice .shared 1 (T.map encStr)] s (.bool (pL v.name T [] v.args)) s:=by
 refine az.pure ?_ (by simp[D.bH,D.ok,mY,Tag.ok,eB]) rfl s
 generalize hR:pL v.name T [] v.args=R
 have Zy:=fun x s=>rY hT x s
 unfold S0
 refine az.go D3 rfl fun B Q hB hQ=>?_
 have⟨hC,hE,hM,hY⟩:=bC
 repeat' (first
 |simp only[go_sem,hC,hE,hM,hY]
 |(with_reducible refine aB hQ ?_;exact bg))
 refine bd.pY 5 1 rfl ?_
 simp only[go_sem,hC,hE,hM,hY]
 refine dQ 1 1 (bd.ind (ι:=List Ar×Nat×List aF×Nat) (fun i=>v.args.drop i.2.1=i.1∧pL v.name T i.2.2.1 i.1=R∧i.2.2.1.length≤i.2.1∧i.2.2.2=i.2.2.1.length) (fun i=>i.1.length)
  (fun i=> [(1, .slice .shared 1 (T.map encStr)),(2, .ptr 0 0),(5, .slice (.tok 0) 1 (i.2.2.1.map encStr)),(9, .slice .shared 6 (v.args.map eC)),(10, .int .i64 (v.args.length:Int)),(11, .int .i64 (i.2.1:Int))]) (fun i=>⟨[a8 v],[some i.2.2.2]⟩) ?_ (v.args,0,[],0) ⟨rfl,hR,Nat.le_refl _,rfl⟩)
 clear hR
 rintro⟨rest,k,seen,n'⟩ ⟨h1,h2,h3,h4⟩ IH
 dsimp only at h1 h2 h3 h4
 subst h4
 cases rest with
 |nil=>
  have hC:=drop_nil h1
  simp only[pL]at h2
  subst h2
  repeat' (first
 |simp only[go_sem,hC,hE,hM,hY]
 |(with_reducible refine aB hQ ?_;exact bg))
 | cons a rest=>
  obtain⟨hE,g2,hC,g4⟩:=drop_cons h1
  have cm:k<4611686018427387904:=by omega
  have hM:(seen.length+1)*17≤bu:=by unfold bu;omega
  have qV:=fun g s=>jJ (l:=seen) (by omega) a.name g s
  simp only[pL]at h2
  rcases Bool.eq_false_or_eq_true a.ref with c1|c1
  case inr=>
   simp only[c1,Bool.false_eq_true,if_false]at h2
   repeat' (first
 |simp only[go_sem,hC,hE,hM,hY,c1,Bool.not_false]
 | (with_reducible refine aB hQ ?_;exact bg))
   refine eM 1 1 ?_ ?_ (IH (rest,k+1,seen,_) ⟨g2,h2,by dsimp only;omega,rfl⟩ (Nat.lt_succ_self _))
   ·(simp only[go_sem,hC,hE,hM,hY,aL cm];try exact cb)
   ·(simp only[go_sem,hC,hE,hM,hY,aL cm];try exact cb)
  simp only[c1,if_true]at h2
  rcases Bool.eq_false_or_eq_true (fq seen a.name)with c2|c2
  ·simp only [c2,Bool.true_or,if_true]at h2
   subst h2
   repeat' (first
 |simp only[go_sem,hC,hE,hM,hY,c1,c2,Bool.not_true]
 |(with_reducible refine CU (qV _ _) ?_)
 |(with_reducible refine CU (Zy _ _) ?_)
 | (with_reducible refine aB hQ ?_;exact bg))
  rcases Bool.eq_false_or_eq_true (a.name==v.name)with c3|c3
  ·simp only [c2,c3,Bool.false_or,Bool.true_or,if_true]at h2
   subst h2
   repeat' (first
 |simp only[go_sem,hC,hE,hM,hY,c1,c2,c3,Bool.not_true]
 |(with_reducible refine CU (qV _ _) ?_)
 |(with_reducible refine CU (Zy _ _) ?_)
 | (with_reducible refine aB hQ ?_;exact bg))
  rcases Bool.eq_false_or_eq_true (fq T a.name)with c4|c4
  ·simp only [c2,c3,c4,Bool.false_or,if_true]at h2
   subst h2
   repeat' (first
 |simp only[go_sem,hC,hE,hM,hY,c1,c2,c3,c4,Bool.not_true]
 |(with_reducible refine CU (qV _ _) ?_)
 |(with_reducible refine CU (Zy _ _) ?_)
 | (with_reducible refine aB hQ ?_;exact bg))
  ·simp only [c2,c3,c4,Bool.false_or,Bool.false_eq_true,if_false]at h2
   repeat' (first
 |simp only[go_sem,hC,hE,hM,hY,c1,c2,c3,c4,Bool.not_true]
 |(with_reducible refine CU (qV _ _) ?_)
 |(with_reducible refine CU (Zy _ _) ?_)
 | (with_reducible refine aB hQ ?_;exact bg))
   refine eM 1 1 ?_ ?_ (IH (rest,k+1,seen++ [a.name],seen.length+1) ⟨g2,h2,by simp;omega,by simp⟩ (Nat.lt_succ_self _))
   ·(simp only[go_sem,hC,hE,hM,hY,aL cm,List.map_append,List.map_cons,List.map_nil,encStr];try exact cb)
   ·(simp only[go_sem,hC,hE,hM,hY,aL cm,List.map_append,List.map_cons,List.map_nil,encStr];try exact cb)
def nA (p:Pg):List Pc→List D
 | []=> []
 |f::l=> .str f.name:: .slice .shared 1 ((p.qt f.name).map encStr)::nA p l
theorem Uf (p:Pg) : ∀ l,D.bH 0 0 (nA p l)=true
 | []=>rfl
 |f::l=>by simp only[nA,D.bH,D.ok,Tag.ok,eB,Uf p l];rfl
theorem abb (n m:Nat) (p:Pg) (l:List Pc):D.gw n m (nA p l)=nA p l:=ij n m _ (Uf p l)
attribute [go_sem] abb
theorem Lr (p:Pg) : ∀ l m,nA p (l++m)=nA p l++nA p m
 | [],m=>rfl
 |f::l,m=>by simp only[List.cons_append,nA,Lr p l m]
theorem Ls {p:Pg} {nm:aF} {d:D} : ∀ {l:List Pc},nm∉l.map (·.name)→xg nm d (nA p l)=some (nA p l++ [.str nm,d])
 | [],_=>rfl
 |f::l,h=>by
  simp only[List.map_cons,List.mem_cons,not_or]at h
  have:(f.name==nm)=false:=by simpa using fun e=>h.1 e.symm
  simp only[nA,xg,this,Bool.false_eq_true,if_false,Ls h.2,List.cons_append]
theorem Lt {p:Pg} {nm:aF} {z:D} : ∀ {l:List Pc} {f:Pc},iT nm l=some f→zc nm z (nA p l)=some (.slice .shared 1 ((p.qt nm).map encStr))
 | g::l,f,h=>by
  simp only[iT]at h
  simp only[nA,zc]
  split at h
  ·rename_i e
   rw[if_pos e,eq_of_beq e]
  ·rename_i e
   rw[if_neg e]
   exact Lt h
theorem abd (l:List aF) : ∀ (s:List aF),qp s l=false→∀ a x b,l=a++x::b→x∉s++a:=by
 induction l with
 |nil=>intro s _ a x b e;cases a<;>cases e
 | cons y l ih=>
  intro s h a x b e
  simp only[qp]at h
  split at h
  ·cases h
  ·rename_i hy
   cases a with
   |nil=>cases e;simpa[← jh]using hy
   |cons z a=>
    cases e
    have:=ih (s++ [y]) h a x b rfl
    simpa using this
end Go.Abs
namespace Go.Abs
set_option maxRecDepth 8000
open Go.Proofs
theorem Lu {p:Pg} (h:(p.arity.1==0)=true):(p.scope.1==0)=true∧∀ v∈p.pre,(v.kind==4)=true→v.qD p=true:=by
 unfold Pg.arity at h
 split at h
 ·rename_i e
  refine⟨e,fun v hv hk=>?_⟩
  have : ∀ l:List Sm,((qq 6 (Lf p l)).1==0)=true→∀ v∈l,(v.kind==4)=true→v.qD p=true:=by
   intro l
   induction l with
   |nil=>intro _ v m;cases m
   | cons a l ih=>
    intro h v m hk
    simp only[Lf]at h
    split at h
    ·cases h
    ·rename_i c
     rcases List.mem_cons.1 m with rfl|m
     ·simpa[hk]using c
     ·exact ih h v m hk
  exact this _ h v hv hk
 ·cases h
theorem HW {p:Pg} {v:Sm} (h:v.qD p=true) : ∃ f,p.find v.proc=some f:=by
 unfold Sm.qD at h
 cases e:p.find v.proc with
 |some f=>exact⟨f,rfl⟩
 |none=>rw[e]at h;simp at h
theorem Lv : ∀ {l:List It} {n:Nat} {i:It},It.fl n l=true→i∈l→i.s.one=true
 | j::l,n,i,h,m=>by
  simp only[It.fl]at h
  split at h
  ·cases h
  ·rename_i c
   simp only[Bool.or_eq_true,not_or,Bool.not_eq_true',Bool.not_eq_false]at c
   rcases List.mem_cons.1 m with rfl|m
   ·exact c.2
   ·exact Lv h m
theorem abe {p:Pg} (h:p.may=true) : ∀ v∈p.pre,v.one=true:=fun v m=>by
 rw[← (Lb h).2,List.mem_map]at m
 obtain⟨i,hi,rfl⟩:=m
 exact Lv (GH h).2 hi
def Sm.yW (p:Pg) (v:Sm):Bool:=pL v.name (p.qt v.proc) [] v.args
def Lw (p:Pg):List Sm→Option Sm
 | []=>none
 |v::l=>if v.kind==4 && !(v.yW p)then some v else Lw p l
def Pg.alias (p:Pg):Int×Int:=if p.arity.1==0 then qq 8 (Lw p p.pre)else(1,0)
theorem Lx {p:Pg} (h:p.iX) (nm:aF):(p.qt nm).length<4611686018427387904:=by
 unfold Pg.qt
 cases hs:p.zT nm with
 |none=>dsimp only;decide
 |some f=>
  obtain⟨nI,hf⟩:=HR hs
  have h1:=(Ln nI hf).len
  have h2:=h.procs
  have h3:=(zW h (ky (p.work nm)) []).2
  have h4:(ky (p.work nm)).length*1800000≤900000*1800000:=Nat.mul_le_mul_right _ (by omega)
  have h5:(ky (p.sJ nm)).length≤(p.sJ nm).length:=w8 _ _ (u5 (l9 _).1) fun x m=>((l9 _).2 x).1 m
  dsimp only
  unfold Pg.sJ at *
  simp only[List.length_nil]at h3
  omega
theorem Q7 {v:Sm} (hv:v.nw):v.args.length<1000000000:=by have:=Ar.ei v.args;have:=hv.2.2;omega
theorem Ug {p:Pg} (h:p.iX) (s:St):az Tryz.prog uh [.agg (cR p)] s (.agg [.int .i64 p.alias.1, .int .i64 p.alias.2]) s:=by
 refine az.pure ?_ (by simp[D.bH,D.ok,jX]) rfl s
 obtain⟨sh,r7,rZ⟩:=h.procs
 have pP:=fun s=>Lg h s
 have dr:=fun s=>Cy (p:=p) (by omega) s
 have hL:=(nH p).1
 have HH:=pw p
 generalize hR:p.alias=R
 simp only[Pg.alias]at hR
 unfold S0
 have b0:(p.arity.1 != 0) = !(p.arity.1==0):=rfl
 rcases Bool.eq_false_or_eq_true (p.arity.1==0)with b1|b1
 case inr=>
  rw[b1]at b0
  simp only[b1,Bool.false_eq_true,if_false]at hR
  subst hR
  refine az.go wP rfl fun B Q hB hQ=>?_
  have⟨hC,hE,hM,hY⟩:=bC
  repeat' (first
 |simp only[go_sem,hC,hE,hM,hY,b0,Bool.not_false]
 |(with_reducible refine CU (pP _) ?_)
 |(with_reducible refine aB hQ ?_;exact bg))
 rw[b1]at b0
 obtain⟨nI,jr⟩:=Lu b1
 have htw:=(Eb nI).2.1
 simp only[b1,if_true, ← hL]at hR
 refine az.go wP rfl fun B Q hB hQ=>?_
 have⟨hC,hE,hM,hY⟩:=bC
 repeat' (first
 |simp only[go_sem,hC,hE,hM,hY,b0,Bool.not_true]
 |(with_reducible refine CU (pP _) ?_)
 |(with_reducible refine aB hQ ?_;exact bg))
 refine eM 3 0 ?_ ?_ (bd.ind (ι:=List Pc×Nat×List Pc) (fun i=>p.procs.drop i.2.1=i.1∧p.procs=i.2.2++i.1) (fun i=>i.1.length)
  (fun i=> [(1, .ptr 0 0),(2, .ptr 1 0),(3, .fS 2),(15, .slice .shared 5 (p.procs.map cH)),(16, .int .i64 (p.procs.length:Int)),(17, .int .i64 (i.2.1:Int))]) (fun i=>⟨[cR p,[.int .i64 0, .int .i64 0],nA p i.2.2],[]⟩) ?_ (p.procs,0,[]) ⟨rfl,rfl⟩)
 ·(simp only[go_sem,hC,hE,hM,hY,nA];try exact cb)
 ·(simp only[go_sem,hC,hE,hM,hY,nA];try exact cb)
 rintro⟨rest,k,done⟩ ⟨h1,h2⟩ IH
 dsimp only at h1 h2
 cases rest with
 | cons a rest=>
  obtain⟨hE,g2,hC,g4⟩:=drop_cons h1
  have cm:k<4611686018427387904:=by omega
  have yf:=fun s=>T5 h a.name s
  have hnm:a.name∉done.map (·.name):=by
   have:=abd _ [] htw (done.map (·.name)) a.name (rest.map (·.name)) (by simp[Pg.pn,h2])
   simpa using this
  have hmp:xg a.name (.slice .shared 1 ((p.qt a.name).map encStr)) (nA p done)=some (nA p (done++ [a])):=by
   rw[Ls hnm,Lr];rfl
  repeat' (first
 |simp only[go_sem,hC,hE,hM,hY,hmp]
 |(with_reducible refine CU (yf _) ?_)
 |(with_reducible refine aB hQ ?_;exact bg))
  refine eM 3 0 ?_ ?_ (IH (rest,k+1,done++ [a]) ⟨g2,by rw[h2];simp⟩ (Nat.lt_succ_self _))
  ·(simp only[go_sem,hC,hE,hM,hY,aL cm];try exact cb)
  ·(simp only[go_sem,hC,hE,hM,hY,aL cm];try exact cb)
 |nil=>
  have hC:=drop_nil h1
  rw[List.append_nil]at h2
  subst h2
  repeat' (first
 |simp only[go_sem,hC,hE,hM,hY,nW]
 |(with_reducible refine CU (dr _) ?_)
 | (with_reducible refine aB hQ ?_;exact bg))
  refine dQ 3 0 (bd.ind (ι:=List Im×Nat) (fun i=>p.bh.L.drop i.2=i.1∧qq 8 (Lw p (i.1.map Im.s))=R) (fun i=>i.1.length)
   (fun i=> [(1, .ptr 0 0),(2, .ptr 1 0),(3, .fS 2),(33, .slice .shared 17 (p.bh.L.map dK)),(34, .int .i64 (p.bh.L.length:Int)),(35, .int .i64 (i.2:Int))]) (fun i=>⟨[cR p,[.int .i64 0, .int .i64 0],nA p p.procs],[]⟩) ?_ (p.bh.L,0) ⟨rfl,hR⟩)
  clear hR
  rintro⟨rest,k⟩ ⟨h1,hR⟩ IH
  dsimp only at h1 hR
  cases rest with
  |nil=>
   have hC:=drop_nil h1
   simp only[List.map_nil,Lw,qq]at hR
   subst hR
   repeat' (first
 |simp only[go_sem,hC,hE,hM,hY]
 | (with_reducible refine aB hQ ?_;exact bg))
  | cons a rest=>
   obtain⟨hE,g2,hC,g4⟩:=drop_cons h1
   have cm:k<4611686018427387904:=by omega
   have Fo:a.s∈p.pre:=by rw[← hL];exact List.mem_map_of_mem (List.mem_of_getElem? hE)
   have Ak:=fun s=>Xk (Q7 (h.pre _ Fo)) (Lx h a.s.proc) s
   simp only[List.map_cons,Lw,Sm.yW]at hR
   rcases Bool.eq_false_or_eq_true (a.s.kind==4)with c1|c1
   ·obtain⟨f,hf⟩:=HW (jr _ Fo c1)
    have hmg:=fun z=>Lt (p:=p) (z:=z) hf
    rcases Bool.eq_false_or_eq_true (pL a.s.name (p.qt a.s.proc) [] a.s.args)with c2|c2
    ·simp only [c1,c2,Bool.not_true,Bool.and_false,Bool.false_eq_true,if_false]at hR
     repeat' (first
 |simp only[go_sem,hC,hE,hM,hY,c1,c2,hmg]
 |(with_reducible refine CU (Ak _) ?_)
 | (with_reducible refine aB hQ ?_;exact bg))
     refine eM 3 0 ?_ ?_ (IH (rest,k+1) ⟨g2,hR⟩ (Nat.lt_succ_self _))
     ·(simp only[go_sem,hC,hE,hM,hY,aL cm];try exact cb)
     ·(simp only[go_sem,hC,hE,hM,hY,aL cm];try exact cb)
    ·simp only [c1,c2,Bool.not_false,Bool.and_true,if_true,qq]at hR
     subst hR
     repeat' (first
 |simp only[go_sem,hC,hE,hM,hY,c1,c2,hmg]
 |(with_reducible refine CU (Ak _) ?_)
 | (with_reducible refine aB hQ ?_;exact bg))
   ·simp only [c1,Bool.false_and,Bool.false_eq_true,if_false]at hR
    repeat' (first
 |simp only[go_sem,hC,hE,hM,hY,c1]
 |(with_reducible refine CU (Ak _) ?_)
 | (with_reducible refine aB hQ ?_;exact bg))
    refine eM 3 0 ?_ ?_ (IH (rest,k+1) ⟨g2,hR⟩ (Nat.lt_succ_self _))
    ·(simp only[go_sem,hC,hE,hM,hY,aL cm];try exact cb)
    ·(simp only[go_sem,hC,hE,hM,hY,aL cm];try exact cb)
def Sm.ae6 (p:Pg) (v:Sm):Bool:=v.qD p && apM (p.qt v.proc) v.as2 v.args
def apF (p:Pg):List Sm→Option Sm
 | []=>none
 |v::l=>if v.kind==4 && !(v.ae6 p)then some v else apF p l
theorem abf {n:Nat} {l:List aF} {gG:Int} {r:Rd} {p:List aF×Rd} (h:Rd.names n l gG r=some p) :
 az Tryz.prog jC [.ptr 0 0, .slice (.tok 0) 1 (l.map encStr), .int .i64 gG] ⟨[cJ r],[some l.length]⟩ (.slice (.tok 0) 1 (p.1.map encStr)) ⟨[cJ p.2],[some p.1.length]⟩:=by
 refine az.go xH rfl fun B Q hB hQ=>?_
 have⟨hC,hE,hM,hY⟩:=bC
 repeat' (first
 |simp only[go_sem,hC,hE,hM,hY]
 |(with_reducible first|refine aX fun hc=>?_|refine aY fun hc=>?_|refine aZ (fun hc=>?_) fun hc=>?_)<;>(try simp only[hc,bs,↓reduceIte]at h)<;>try simp only[hc]
 |(with_reducible refine aB hQ ?_;exact bg))
 refine dQ 1 1 (bd.ind (ι:=Nat×List aF×Rd×Nat) (fun i=>Rd.names i.1 i.2.1 gG i.2.2.1=some p∧i.2.2.2=i.2.1.length) (fun i=>i.1)
  (fun i=> [(0, .ptr 0 0),(1, .slice (.tok 0) 1 (i.2.1.map encStr)),(2, .int .i64 gG)]) (fun i=>⟨[cJ i.2.2.1],[some i.2.2.2]⟩) ?_ (n,l,r,l.length) ⟨h,rfl⟩)
 rintro⟨n,l,r,k⟩ ⟨h,hk⟩ IH
 dsimp only at hk;subst hk
 cases n with
 |zero=>simp only[Rd.names]at h;cases h
 |succ n=>
  simp only[Rd.names]at h
  repeat' (first
 |simp only[go_sem,hC,hE,hM,hY]
 |(rw[Option.bind_eq_some_iff]at h;obtain⟨_,h1,h⟩:=h;first|(with_reducible refine CU (yN h1 (by with_unfolding_all rfl)) ?_)|(obtain⟨hM,pM⟩:=pb h1;subst pM;simp only[go_sem,hC,hE,hM,hY])|(with_reducible refine CU (tK h1 (by with_unfolding_all rfl)) ?_)|(with_reducible refine CU (qn h1 (by with_unfolding_all rfl)) ?_))
 |(with_reducible refine CU (kV (by with_unfolding_all rfl)) ?_)
 |(with_reducible first|refine aX fun hc=>?_|refine aY fun hc=>?_|refine aZ (fun hc=>?_) fun hc=>?_)<;>(try simp only[hc,bs,↓reduceIte]at h)<;>try simp only[hc]
 |(with_reducible refine aB hQ ?_;exact ep))
  refine dQ 1 1 (IH (n,_,_,l.length+1) ⟨h,by simp⟩ (Nat.lt_succ_self _))
theorem NB {n:Nat} {l:List aF} {gG:Int} {r:Rd} {p:List aF×Rd} (h:Rd.names n l gG r=some p) {s:St} {o t:Nat} (ho:s.ah[o]? = some (cJ r)) (ht:s.aw[t]? = some (some l.length)) :
 az Tryz.prog jC [.ptr o 0, .slice (.tok t) 1 (l.map encStr), .int .i64 gG] s (.slice (.tok t) 1 (p.1.map encStr)) ⟨s.ah.set o (cJ p.2),s.aw.set t (some p.1.length)⟩:=
 (abf h).agY rfl (fJ r) (fJ p.2) (eB l) (eB p.1) ho ht
theorem Ly {n:Nat} {r:Rd} {p:List aF×Rd} (h:Rd.labels n [] r=some p) {s:St} {o:Nat} (ho:s.ah[o]? = some (cJ r)) :
 az Tryz.prog nh [.ptr o 0] s (.slice .shared 1 (p.1.map encStr)) ⟨s.ah.set o (cJ p.2),s.aw⟩:=by
 refine az.kN ?_ rfl (fJ r) (fJ p.2) (by simp[D.ok,eB,Tag.ok]) ho
 refine az.go wq rfl fun B Q hB hQ=>?_
 have⟨hC,hE,hM,hY⟩:=bC
 repeat' (first
 |simp only[go_sem,hC,hE,hM,hY]
 |(with_reducible first|refine aX fun hc=>?_|refine aY fun hc=>?_|refine aZ (fun hc=>?_) fun hc=>?_)<;>(try simp only[hc,bs,↓reduceIte]at h)<;>try simp only[hc]
 |(with_reducible refine aB hQ ?_;exact bg))
 refine bd.pY 3 1 rfl ?_
 simp only[go_sem,hC,hE,hM,hY]
 refine dQ 1 1 (bd.ind (ι:=Nat×List aF×Rd×Nat) (fun i=>Rd.labels i.1 i.2.1 i.2.2.1=some p∧i.2.2.2=i.2.1.length) (fun i=>i.1)
  (fun i=> [(0, .ptr 0 0),(3, .slice (.tok 0) 1 (i.2.1.map encStr))]) (fun i=>⟨[cJ i.2.2.1],[some i.2.2.2]⟩) ?_ (n,[],r,0) ⟨h,rfl⟩)
 rintro⟨n,l,r,k⟩ ⟨h,hk⟩ IH
 dsimp only at hk;subst hk
 cases n with
 |zero=>simp only[Rd.labels]at h;cases h
 |succ n=>
  simp only[Rd.labels,Rd.ahead]at h
  repeat' (first
 |simp only[go_sem,hC,hE,hM,hY]
 |(rw[Option.bind_eq_some_iff]at h;obtain⟨_,h1,h⟩:=h;first|(with_reducible refine CU (pk h1 (by with_unfolding_all rfl)) ?_;have hC:=sG h1)|(obtain⟨hM,pM⟩:=pb h1;subst pM;simp only[go_sem,hC,hE,hM,hY])|(obtain⟨Q5,hE⟩:=Bx h1;simp only[go_sem,hE,hC,hE,hM,hY]))
 |(with_reducible refine CU (kV (by with_unfolding_all rfl)) ?_)
 |(with_reducible first|refine aX fun hc=>?_|refine aY fun hc=>?_|refine aZ (fun hc=>?_) fun hc=>?_)<;>(try simp only[hc,bs,↓reduceIte]at h)<;>try simp only[hc]
 |(with_reducible refine aB hQ ?_;exact ep))
  refine dQ 1 1 (IH (n,_,_,l.length+1) ⟨h,by simp⟩ (Nat.lt_succ_self _))
end Go.Abs
