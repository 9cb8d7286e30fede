/-
  What is proved here: part 3 of the road to the claim (TMay1, TMay2, RefMay3, RefMay4, TMay3, TMay4, MayFine, MayEq, Nm1, Nm2, Nm3, MayEq2, Tree1, Tree2, Sc1, Sc2, Sc3, ScP, Sc4, Rng, FineM, Sc5, Ar1, Ar2, Ar3, Srt1, Shelf, SortR, SrtP, Tc1, Tc2, Tc3, Bsl, Tc4, Tc5, Tc6, FlP, JmpP, Jm1, Jm2, Jm3, Rj1, Swap0, Swap2p, ToP, Al1, Al2, Al3, Prs3).
  No conditions.
-/
import Derived.Test.YtpjadlleefgcpabGreatRnM2
import Derived.Shelf.Small.Bits
import Derived.Shelf.Strconv.Itoa0
import Derived.Shelf.Sort.Plain
import Derived.Shelf.Slices.Turned
import Derived.Ground.Names2Prog
import Derived.Shelf.Slices.Clone
import Derived.Shelf.Slices.CompactS
import Derived.Shelf.Slices.Cells
import Derived.Shelf.Slices.In.SortNone
import Derived.Ground.SlgnProg
import Derived.Shelf.SlicesE.Clone
import Derived.Test.YtpjadlleefgcpabGreatProg
import Derived.Sort.Walk0

set_option linter.unusedSimpArgs false
set_option linter.unusedVariables false
namespace Go.Abs
set_option maxRecDepth 8000
open Go.Proofs
theorem Ht {r:aF} : u3 r=true↔lP r=r.length:=by
 induction r with
 |nil=>simp[u3,lP]
 |cons c r ih=>
  simp only[u3,lP]
  cases h1:rW c<;>cases h2:pT c<;>simp[ih]
theorem BO (t:aF) (hl:t.length<4611686018427387904) (s:St):az Tryz.prog nT [.str t] s (.bool (isName t)) s:=by
 refine az.pure ?_ rfl rfl s
 have hr:=fun s=>Zh (pos:=0) hl s
 simp only[List.drop_zero,Nat.zero_add]at hr
 unfold S0
 cases t with
 |nil=>
  have z:decide (((0:Nat):Int)<1)=true:=rfl
  have z':decide ((0:Int)<1)=true:=rfl
  have e:isName [] = false:=rfl
  rw[e]
  refine az.go np rfl fun B Q hB hQ=>?_
  have⟨hC,hE,hM,hY⟩:=bC
  repeat' (first
 |simp only[go_sem,hC,hE,hM,hY,z,z']
 |(with_reducible refine aB hQ ?_;exact bd))
 | cons c r=>
  have l1:decide (((r.length+1:Nat):Int)<1)=false:=by simp;omega
  generalize h:isName (c::r)=p
  simp only[isName]at h
  cases hL:rW c
  ·simp only [hL,Bool.not_false,Bool.or_true, ↓reduceIte]at h
   subst h
   by_cases c8:decide (((r.length+1:Nat):Int) > 8)=true
   ·refine az.go np rfl fun B Q hB hQ=> ?_
    have⟨hC,hE,hM,hY⟩:=bC
    repeat' (first
 |simp only[go_sem,hC,hE,hM,hY,l1,c8]
 | (with_reducible refine aB hQ ?_;exact bd))
   ·have c8:decide (((r.length+1:Nat):Int) > 8)=false:=by simpa using c8
    refine az.go np rfl fun B Q hB hQ=>?_
    have⟨hC,hE,hM,hY⟩:=bC
    repeat' (first
 |simp only[go_sem,hC,hE,hM,hY,l1,c8,hL]
 |(with_reducible refine CU (iG _ _) ?_)
 | (with_reducible refine aB hQ ?_;exact bd))
  ·simp only [hL,Bool.not_true,Bool.or_false]at h
   by_cases c8:decide (((r.length+1:Nat):Int) > 8)=true
   ·simp only [c8, ↓reduceIte]at h
    subst h
    refine az.go np rfl fun B Q hB hQ=>?_
    have⟨hC,hE,hM,hY⟩:=bC
    repeat' (first
 |simp only[go_sem,hC,hE,hM,hY,l1,c8]
 | (with_reducible refine aB hQ ?_;exact bd))
   ·have c8:decide (((r.length+1:Nat):Int) > 8)=false:=by simpa using c8
    simp only[c8,Bool.false_eq_true,↓reduceIte]at h
    have dG:lP (c::r)=lP r+1:=by simp[lP,hL]
    cases hn:u3 r
    ·simp only [hn,Bool.false_eq_true, ↓reduceIte]at h
     have:lP r≠r.length:=fun e=>by rw[Ht.2 e]at hn;cases hn
     have e:(((lP (c::r):Nat):Int)==((r.length+1:Nat):Int))=false:=by rw[dG];simp;omega
     subst h
     refine az.go np rfl fun B Q hB hQ=>?_
     have⟨hC,hE,hM,hY⟩:=bC
     repeat' (first
 |simp only[go_sem,hC,hE,hM,hY,l1,c8,hL,e]
 |(with_reducible refine CU (iG _ _) ?_)
 |(with_reducible refine CU (hr _) ?_)
 | (with_reducible refine aB hQ ?_;exact bd))
    ·simp only [hn, ↓reduceIte]at h
     have:=Ht.1 hn
     have e:(((lP (c::r):Nat):Int)==((r.length+1:Nat):Int))=true:=by rw[dG];simp;omega
     subst h
     refine az.go np rfl fun B Q hB hQ=>?_
     have⟨hC,hE,hM,hY⟩:=bC
     repeat' (first
 |simp only[go_sem,hC,hE,hM,hY,l1,c8,hL,e]
 |(with_reducible refine CU (iG _ _) ?_)
 |(with_reducible refine CU (hr _) ?_)
 |(with_reducible refine CU (vT _ _) ?_)
 |(with_reducible refine aB hQ ?_;exact bd))
theorem Nj (op:Int) (s:St):az Tryz.prog xB [.int .i64 op] s (.int .i64 (lF op)) s:=by
 refine az.pure ?_ rfl rfl s
 unfold S0
 generalize h:lF op=p
 unfold lF at h
 refine az.go Ik rfl fun B Q hB hQ=>?_
 have⟨hC,hE,hM,hY⟩:=bC
 repeat' (first
 |simp only[go_sem,hC,hE,hM,hY]
 |(with_reducible first|refine aX fun hc=>?_|refine aY fun hc=>?_|refine aZ (fun hc=>?_) fun hc=>?_)<;>(try simp only[hc,bs,↓reduceIte]at h)<;>try simp only[hc]
 |(with_reducible refine aB hQ ?_;exact er))
theorem zO {l:List aF} (hl:l.length<4611686018427387904) (hs : ∀ t∈l,t.length<4611686018427387904) (s:St):az Tryz.prog ng [.slice .shared 1 (l.map encStr)] s (.bool (eo l)) s:=by
 refine az.pure ?_ (by simp[D.bH,D.ok,eB,Tag.ok]) rfl s
 unfold S0
 generalize h:eo l=p
 refine az.go Gi rfl fun B Q hB hQ=>?_
 have⟨hC,hE,hM,hY⟩:=bC
 repeat' (first
 |simp only[go_sem,hC,hE,hM,hY]
 |(with_reducible first|refine aX fun hc=>?_|refine aY fun hc=>?_|refine aZ (fun hc=>?_) fun hc=>?_)<;>(try simp only[hc,bs,↓reduceIte]at h)<;>try simp only[hc]
 |(with_reducible refine aB hQ ?_;exact er))
 refine dQ 0 0 (bg.ind (ι:=List aF×Nat) (fun i=>l.drop i.2=i.1∧eo i.1=p) (fun i=>i.1.length)
  (fun i=> [(5, .slice .shared 1 (l.map encStr)),(6, .int .i64 (l.length:Int)),(7, .int .i64 (i.2:Int))]) (fun i=>⟨[],[]⟩) ?_ (l,0) ⟨rfl,h⟩)
 rintro⟨rest,k⟩ ⟨h1,h⟩ IH
 dsimp only at h1 h
 cases rest with
 |nil=>
  have hC:=drop_nil h1
  simp only[eo]at h
  repeat' (first
 |simp only[go_sem,hC,hE,hM,hY]
 |(with_reducible first|refine aX fun hc=>?_|refine aY fun hc=>?_|refine aZ (fun hc=>?_) fun hc=>?_)<;>(try simp only[hc,bs,↓reduceIte]at h)<;>try simp only[hc]
 |(with_reducible refine aB hQ ?_;exact er))
 |cons t rest=>
  obtain⟨hE,g2,hC,g4⟩:=drop_cons h1
  have hM:k<4611686018427387904:=by omega
  have hn:=BO t (hs t (List.mem_of_getElem? hE))
  simp only[eo]at h
  repeat' (first
 |simp only[go_sem,hC,hE,hM,hY]
 |(with_reducible refine CU (hn _) ?_)
 |(with_reducible first|refine aX fun hc=>?_|refine aY fun hc=>?_|refine aZ (fun hc=>?_) fun hc=>?_)<;>(try simp only[hc,bs,↓reduceIte]at h)<;>try simp only[hc]
 |(with_reducible refine aB hQ ?_;exact er))
  refine dQ 0 0 (IH (rest,k+1) ⟨g2,h⟩ (Nat.lt_succ_self _))
mutual
def Ex.dp (left:Int):Ex→Bool
 |⟨op,n,name,kids⟩=>
  if decide (left<1) ||(kids.length:Int) != lF op then false
  else if op==1 then decide (n≥0) && name == []
  else if op==2 then n==0 && isName name
  else if n != 0 || !(name == [])then false
  else Ex.BP (left - 1) kids
def Ex.BP (left:Int):List Ex→Bool
 | []=>true
 |x::l=>if !(Ex.dp left x)then false else Ex.BP left l
end
theorem aaS : ∀ (m:Nat) (x:Ex),x.size≤m→x.size<4611686018427387904→x.texts→∀ left:Int,0≤left→left≤100→∀ s:St,az Tryz.prog qh [.agg (bI x), .int .i64 left] s (.bool (x.dp left)) s:=by
 intro m
 induction m with
 |zero=>rintro⟨op,v,name,kids⟩ h;simp only[Ex.size]at h;omega
 | succ m ih=>
  rintro⟨op,v,name,kids⟩ h hx ht left h0 WR s
  refine az.pure ?_ (by simp[D.bH,D.ok,gS]) rfl s
  have hlen:kids.length<4611686018427387904:=by simp only[Ex.size]at hx;have:=Ex.ei kids;omega
  have hn:=BO name ht.1
  generalize hp:Ex.dp left ⟨op,v,name,kids⟩=p
  simp only[Ex.dp]at hp
  unfold S0
  by_cases vV:left<1
  ·have d1:decide (left<1)=true:=by simpa using vV
   simp only[d1,Bool.true_or,↓reduceIte]at hp
   subst hp
   refine az.go Ay rfl fun B Q hB hQ=>?_
   have⟨hC,hE,hM,hY⟩:=bC
   repeat' (first
 |simp only[go_sem,hC,hE,hM,hY,d1]
 |(with_reducible refine CU (Nj _ _) ?_)
 |(with_reducible refine CU (hn _) ?_)
 | (with_reducible refine aB hQ ?_;exact bd))
  ·have d1:decide (left<1)=false:=by simpa using vV
   have w1:IntKind.wrap .i64 (left - 1)=left - 1:=dP (by omega) (by omega)
   have hk : ∀ y∈kids,∀ s,az Tryz.prog qh [.agg (bI y), .int .i64 (left - 1)] s (.bool (y.dp (left - 1))) s:=fun y hy s=>
    ih y (by simp only[Ex.size]at h;have:=Ex.dd hy;omega) (by simp only[Ex.size]at hx;have:=Ex.dd hy;omega) (Ex.Hq ht hy) (left - 1) (by omega) (by omega) s
   simp only[d1,Bool.false_or]at hp
   have h:=hp
   clear hp
   refine az.go Ay rfl fun B Q hB hQ=>?_
   have⟨hC,hE,hM,hY⟩:=bC
   repeat' (first
 |simp only[go_sem,hC,hE,hM,hY,d1]
 |(with_reducible refine CU (Nj _ _) ?_)
 |(with_reducible refine CU (hn _) ?_)
 |(with_reducible first|refine aX fun hc=>?_|refine aY fun hc=>?_|refine aZ (fun hc=>?_) fun hc=>?_)<;>(try simp only[hc,bs,↓reduceIte]at h)<;>try simp only[hc]
 | (with_reducible refine aB hQ ?_;(try cases h);simp only [aQ,aS,bn,bo,go_sem,hC,hE,hM,hY,d1];repeat' (first | exact Ok.out | with_reducible refine eL ?_ ?_ | (simp;done))))
   all_goals
    refine dQ 1 0 (bg.ind (ι:=List Ex×Nat) (fun i=>kids.drop i.2=i.1∧Ex.BP (left - 1) i.1=p) (fun i=>i.1.length)
     (fun i=> [(1, .int .i64 left),(49, .slice .shared 4 (kids.map bI)),(50, .int .i64 (kids.length:Int)),(51, .int .i64 (i.2:Int))]) (fun i=>⟨[bI ⟨op,v,name,kids⟩],[]⟩) ?_ (kids,0) ⟨rfl,h⟩)
    rintro⟨rest,k⟩ ⟨h1,h⟩ IH
    dsimp only at h1 h
    cases rest with
    |nil=>
     have hC:=drop_nil h1
     simp only[Ex.BP]at h
     repeat' (first
 |simp only[go_sem,hC,hE,hM,hY]
 |(with_reducible first|refine aX fun hc=>?_|refine aY fun hc=>?_|refine aZ (fun hc=>?_) fun hc=>?_)<;>(try simp only[hc,bs,↓reduceIte]at h)<;>try simp only[hc]
 |(with_reducible refine aB hQ ?_;exact er)
 | (cases h;done))
    |cons y rest=>
     obtain⟨hE,g2,hC,g4⟩:=drop_cons h1
     have hy:=hk y (List.mem_of_getElem? hE)
     have hM:k<4611686018427387904:=by omega
     simp only[Ex.BP]at h
     repeat' (first
 |simp only[go_sem,hC,hE,hM,hY,w1]
 |(with_reducible refine CU (hy _) ?_)
 |(with_reducible first|refine aX fun hc=>?_|refine aY fun hc=>?_|refine aZ (fun hc=>?_) fun hc=>?_)<;>(try simp only[hc,bs,↓reduceIte]at h)<;>try simp only[hc]
 |(with_reducible refine aB hQ ?_;(try cases h);simp only[aQ,aS,bn,bo,go_sem,hC,hE,hM,hY,w1];try exact bR))
     refine dQ 1 0 (IH (rest,k+1) ⟨g2,h⟩ (Nat.lt_succ_self _))
set_option maxRecDepth 8000
open Go.Proofs
theorem zP {x:Ex} (hx:x.size<4611686018427387904) (ht:x.texts) (s:St):az Tryz.prog nc [.agg (bI x)] s (.bool (x.dp 20)) s:=by
 refine az.pure ?_ (by simp[D.bH,D.ok,gS]) rfl s
 have hd:=fun s=>aaS _ x (Nat.le_refl _) hx ht 20 (by omega) (by omega) s
 unfold S0
 refine az.go D4 rfl fun B Q hB hQ=>?_
 have⟨hC,hE,hM,hY⟩:=bC
 repeat' (first
 |simp only[go_sem,hC,hE,hM,hY]
 |(with_reducible refine CU (hd _) ?_)
 |(with_reducible refine aB hQ ?_;exact bd))
theorem aaT (x:Ex) (s:St):az Tryz.prog xD [.agg (bI x)] s (.bool x.none) s:=by
 refine az.pure ?_ (by simp[D.bH,D.ok,gS]) rfl s
 unfold S0
 generalize h:Ex.none x=p
 unfold Ex.none at h
 refine az.go Iq rfl fun B Q hB hQ=>?_
 have⟨hC,hE,hM,hY⟩:=bC
 repeat' (first
 |simp only[go_sem,hC,hE,hM,hY]
 |(with_reducible first|refine aX fun hc=>?_|refine aY fun hc=>?_|refine aZ (fun hc=>?_) fun hc=>?_)<;>(try simp only[hc,bs,↓reduceIte]at h)<;>try simp only[hc]
 |(with_reducible refine aB hQ ?_;exact er))
def tN (t:aF) (is:Bool):Bool:=(is && isName t) ||(!is && t == [])
theorem D8 (t:aF) (is:Bool) (hl:t.length<4611686018427387904) (s:St):az Tryz.prog ph [.str t, .bool is] s (.bool (tN t is)) s:=by
 refine az.pure ?_ rfl rfl s
 have hn:=BO t hl
 unfold S0
 generalize h:tN t is=p
 unfold tN at h
 refine az.go Gp rfl fun B Q hB hQ=>?_
 have⟨hC,hE,hM,hY⟩:=bC
 repeat' (first
 |simp only[go_sem,hC,hE,hM,hY]
 |(with_reducible refine CU (hn _) ?_)
 |(with_reducible first|refine aX fun hc=>?_|refine aY fun hc=>?_|refine aZ (fun hc=>?_) fun hc=>?_)<;>(try simp only[hc,bs,↓reduceIte]at h)<;>try simp only[hc]
 |(with_reducible refine aB hQ ?_;exact er))
def vW (x:Ex) (is:Bool):Bool:=(is && x.dp 20) ||(!is && x.none)
theorem Nk {x:Ex} (is:Bool) (hx:x.size<4611686018427387904) (ht:x.texts) (s:St):az Tryz.prog rO [.agg (bI x), .bool is] s (.bool (vW x is)) s:=by
 refine az.pure ?_ (by simp[D.bH,D.ok,gS]) rfl s
 have hm:=zP hx ht
 unfold S0
 generalize h:vW x is=p
 unfold vW at h
 refine az.go Gq rfl fun B Q hB hQ=>?_
 have⟨hC,hE,hM,hY⟩:=bC
 repeat' (first
 |simp only[go_sem,hC,hE,hM,hY]
 |(with_reducible refine CU (hm _) ?_)
 |(with_reducible refine CU (aaT _ _) ?_)
 |(with_reducible first|refine aX fun hc=>?_|refine aY fun hc=>?_|refine aZ (fun hc=>?_) fun hc=>?_)<;>(try simp only[hc,bs,↓reduceIte]at h)<;>try simp only[hc]
 |(with_reducible refine aB hQ ?_;exact er))
def pK:List Ar→Bool
 | []=>true
 |a::l=>if !(tN a.name a.ref) || !(vW a.x !a.ref)then false else pK l
theorem WS {l:List Ar} (hl:l.length<4611686018427387904) (hs : ∀ a∈l,a.x.size<4611686018427387904∧a.x.texts∧a.name.length<4611686018427387904) (s:St) :
 az Tryz.prog um [.slice .shared 6 (l.map eC)] s (.bool (pK l)) s:=by
 refine az.pure ?_ (by simp[D.bH,D.ok,IG,Tag.ok]) rfl s
 unfold S0
 generalize h:pK l=p
 refine az.go E1 rfl fun B Q hB hQ=>?_
 have⟨hC,hE,hM,hY⟩:=bC
 repeat' (first
 |simp only[go_sem,hC,hE,hM,hY]
 |(with_reducible first|refine aX fun hc=>?_|refine aY fun hc=>?_|refine aZ (fun hc=>?_) fun hc=>?_)<;>(try simp only[hc,bs,↓reduceIte]at h)<;>try simp only[hc]
 |(with_reducible refine aB hQ ?_;exact er))
 refine dQ 0 0 (bg.ind (ι:=List Ar×Nat) (fun i=>l.drop i.2=i.1∧pK i.1=p) (fun i=>i.1.length)
  (fun i=> [(5, .slice .shared 6 (l.map eC)),(6, .int .i64 (l.length:Int)),(7, .int .i64 (i.2:Int))]) (fun i=>⟨[],[]⟩) ?_ (l,0) ⟨rfl,h⟩)
 rintro⟨rest,k⟩ ⟨h1,h⟩ IH
 dsimp only at h1 h
 cases rest with
 |nil=>
  have hC:=drop_nil h1
  simp only[pK]at h
  repeat' (first
 |simp only[go_sem,hC,hE,hM,hY]
 |(with_reducible first|refine aX fun hc=>?_|refine aY fun hc=>?_|refine aZ (fun hc=>?_) fun hc=>?_)<;>(try simp only[hc,bs,↓reduceIte]at h)<;>try simp only[hc]
 |(with_reducible refine aB hQ ?_;exact er))
 |cons a rest=>
  obtain⟨hE,g2,hC,g4⟩:=drop_cons h1
  have hM:k<4611686018427387904:=by omega
  obtain⟨a1,a2,a3⟩:=hs a (List.mem_of_getElem? hE)
  have hn:=fun b s=>D8 a.name b a3 s
  have hw:=fun b s=>Nk b a1 a2 s
  simp only[pK]at h
  repeat' (first
 |simp only[go_sem,hC,hE,hM,hY]
 |(with_reducible refine CU (hn _ _) ?_)
 |(with_reducible refine CU (hw _ _) ?_)
 |(with_reducible first|refine aX fun hc=>?_|refine aY fun hc=>?_|refine aZ (fun hc=>?_) fun hc=>?_)<;>(try simp only[hc,bs,↓reduceIte]at h)<;>try simp only[hc]
 |(with_reducible refine aB hQ ?_;exact er))
  refine dQ 0 0 (IH (rest,k+1) ⟨g2,h⟩ (Nat.lt_succ_self _))
def Sm.flags (s:Sm):Option (Bool×Bool×Bool×Bool×Bool×Bool):=
 if s.kind==1 then some (true,false,true,s.has,false,false)
 else if s.kind==2 ||s.kind==10 then some (true,false,false,s.has,false,false)
 else if s.kind==3 then some (false,false,true,s.has,false,false)
 else if s.kind==4 then some (!(s.name == []),true,false,s.has,false,false)
 else if s.kind==5 then some (false,false,true,s.has,true,true)
 else if s.kind==6 then some (false,false,true,s.has,true,false)
 else if s.kind==9 then some (false,false,s.has,false,false,false)
 else if s.kind==7 ||s.kind==8 then some (false,false,false,s.has,false,false)
 else none
def Sm.Jl (s:Sm) (nm pr x:Bool):Bool:=if !(tN s.name nm) || !(tN s.proc pr) || !(vW s.x x)then false else pK s.args
def Sm.Jm (s:Sm) (f:Bool×Bool×Bool×Bool×Bool×Bool):Bool:=
 if f.2.2.2.1 ||(!f.2.2.2.2.1 && decide ((s.bm.length:Int) > 0)) ||(!f.2.2.2.2.2 && decide ((s.bc.length:Int) > 0)) ||(!(s.kind==4) && decide ((s.args.length:Int) > 0))then false
 else s.Jl f.1 f.2.1 f.2.2.1
def Sm.fields (s:Sm):Bool:=match s.flags with
 |none=>false
 |some f=>s.Jm f
section
variable {v:Sm} {B:e7} {Q:Exit→Tm→St→Prop} {p:Bool}
theorem WT {nm pr x:Bool} (hf:v.nq) (hB:B.s = ⟨[],[]⟩) (hQ:iz 0 0 [(2,none)] (.bool p) ⟨[],[]⟩=Q) (h:v.Jl nm pr x=p) :
 Sem Tryz.prog B 93 ad7 Q [(1, .ptr 0 0),(3, .bool nm),(4, .bool pr),(5, .bool x)] ⟨[a8 v],[]⟩:=by
 have h1:=fun b s=>D8 v.name b hf.name s
 have h2:=fun b s=>D8 v.proc b hf.proc s
 have h3:=fun b s=>Nk b hf.x hf.xt s
 have h4:=fun s=>WS hf.aez hf.arg s
 unfold Sm.Jl at h
 have⟨hC,hE,hM,hY⟩:=bC
 refine gD ?_
 repeat' (first
 |simp only[go_sem,hC,hE,hM,hY]
 |(with_reducible refine CU (h1 _ _) ?_)
 |(with_reducible refine CU (h2 _ _) ?_)
 |(with_reducible refine CU (h3 _ _) ?_)
 |(with_reducible refine CU (h4 _) ?_)
 |(with_reducible first|refine aX fun hc=>?_|refine aY fun hc=>?_|refine aZ (fun hc=>?_) fun hc=>?_)<;>(try simp only[hc,bs,↓reduceIte]at h)<;>try simp only[hc]
 |(with_reducible refine aB hQ ?_;exact er))
theorem WU {nm pr x has th ot ar:Bool} (hf:v.nq) (hB:B.s = ⟨[],[]⟩) (hQ:iz 0 0 [(2,none)] (.bool p) ⟨[],[]⟩=Q) (e:(v.kind==4)=ar) (h:v.Jm (nm,pr,x,has,th,ot)=p) :
 Sem Tryz.prog B 93 ad8 Q [(1, .ptr 0 0),(3, .bool nm),(4, .bool pr),(5, .bool x),(6, .bool has),(7, .bool th),(8, .bool ot),(9, .bool ar)] ⟨[a8 v],[]⟩:=by
 simp only[Sm.Jm,e]at h
 have⟨hC,hE,hM,hY⟩:=bC
 refine Sem.iM ?_
 repeat' (first
 |simp only[go_sem,hC,hE,hM,hY]
 |(with_reducible first|refine aX fun hc=>?_|refine aY fun hc=>?_|refine aZ (fun hc=>?_) fun hc=>?_)<;>(try simp only[hc,bs,↓reduceIte]at h)<;>try simp only[hc]
 |(with_reducible refine aB hQ ?_;(try cases h);simp only[aQ,aS,bn,bo,go_sem,hC,hE,hM,hY];repeat' (first|exact Ok.out|with_reducible refine eL ?_ ?_|(simp;done))))
 all_goals
  refine Sem.re _ _ 1 0 (by rw[hB];exact mI rfl) (by rw[hB];exact mI rfl) ?_ ?_ (WT hf hB hQ h)
  ·(simp only[go_sem,hC,hE,hM,hY];repeat' (first|exact Ok.out|with_reducible refine eL ?_ ?_))
  ·(simp only[go_sem,hC,hE,hM,hY];repeat' (first|exact Ok.out|with_reducible refine eL ?_ ?_))
theorem WV {ar:Bool} (hf:v.nq) (hB:B.s = ⟨[],[]⟩) (hQ:iz 0 0 [(2,none)] (.bool p) ⟨[],[]⟩=Q) (e:(v.kind==4)=ar) (h:v.fields=p) :
 Sem Tryz.prog B 93 Wz Q [(1, .ptr 0 0),(3, .bool false),(4, .bool false),(5, .bool false),(6, .bool v.has),(7, .bool false),(8, .bool false),(9, .bool ar)] ⟨[a8 v],[]⟩:=by
 simp only[Sm.fields,Sm.flags]at h
 have⟨hC,hE,hM,hY⟩:=bC
 refine Sem.iM ?_
 repeat' (first
 |simp only[go_sem,hC,hE,hM,hY]
 |(with_reducible first|refine aX fun hc=>?_|refine aY fun hc=>?_|refine aZ (fun hc=>?_) fun hc=>?_)<;>(try simp only[hc,bs,↓reduceIte]at h)<;>try simp only[hc]
 |(with_reducible refine aB hQ ?_;(try cases h);simp only[aQ,aS,bn,bo,go_sem,hC,hE,hM,hY];repeat' (first|exact Ok.out|with_reducible refine eL ?_ ?_|(simp;done))))
 all_goals
  refine Sem.re _ _ 1 0 (by rw[hB];exact mI rfl) (by rw[hB];exact mI rfl) ?_ ?_ (WU hf hB hQ e h)
  ·(simp only[go_sem,hC,hE,hM,hY];repeat' (first|exact Ok.out|with_reducible refine eL ?_ ?_))
  ·(simp only[go_sem,hC,hE,hM,hY];repeat' (first|exact Ok.out|with_reducible refine eL ?_ ?_))
end
theorem WW {v:Sm} (hf:v.nq) (s:St):az Tryz.prog ui [.agg (a8 v)] s (.bool v.fields) s:=by
 refine az.pure ?_ (by simp[D.bH,D.ok,mZ]) rfl s
 unfold S0
 refine az.goS E0 rfl fun B Q hB hQ=>?_
 have⟨hC,hE,hM,hY⟩:=bC
 refine Sem.seq (b:=aea) (gD ?_)
 repeat' (first
 |simp only[go_sem,hC,hE,hM,hY]
 |(with_reducible refine aB hQ ?_;exact bd))
 refine Sem.seq (b:=ad9) (gD ?_)
 repeat' (first
 |simp only[go_sem,hC,hE,hM,hY]
 |(with_reducible refine aB hQ ?_;exact bd))
 refine Sem.seq (b:=Wz) (gD ?_)
 repeat' (first
 |simp only[go_sem,hC,hE,hM,hY]
 |(with_reducible refine aB hQ ?_;exact bd))
 refine Sem.re _ _ 1 0 (by rw[hB];exact mI rfl) (by rw[hB];exact mI rfl) ?_ ?_ (WV hf hB hQ rfl rfl)
 ·(simp only[go_sem,hC,hE,hM,hY];repeat' (first|exact Ok.out|with_reducible refine eL ?_ ?_))
 ·(simp only[go_sem,hC,hE,hM,hY];repeat' (first|exact Ok.out|with_reducible refine eL ?_ ?_))
end Go.Abs
namespace Go.Abs
set_option maxRecDepth 8000
open Go.Proofs
def j8 (i:It):List D:= [.int .i64 i.s.id, .int .i64 i.s.kind, .slice .shared 1 (i.s.labels.map encStr), .str i.s.name, .str i.s.proc,
 .int .i64 i.s.x.op, .int .i64 i.s.x.n, .str i.s.x.name, .slice .shared 4 (i.s.x.kids.map bI), .bool i.s.has, .slice .shared 6 (i.s.args.map eC), .slice .shared 13 (i.s.bm.map a8), .slice .shared 13 (i.s.bc.map a8), .int .i64 i.deep, .int .i64 i.dD, .bool i.bc]
theorem aeH (i:It):D.bH 0 0 (j8 i)=true:=by simp[j8,D.bH,D.ok,Tag.ok,eB,YH,IG,oM]
theorem ah5 (n m:Nat) (l:List It):D.kJ n m (l.map j8)=l.map j8:=lQ aeH n m l
theorem ah6 (n m:Nat) (i:It):D.gw n m (j8 i)=j8 i:=ic n m _ (aeH i)
theorem ah7 (x:It):(j8 x).length=16:=nd rfl
theorem aeI (x:It):List.take 13 (j8 x)=a8 x.s:=by simp only[j8,dR];rfl
theorem WX (x:It):(j8 x)[0]? = some (.int .i64 x.s.id):=nd rfl
theorem TG (x:It):(j8 x)[13]? = some (.int .i64 x.deep):=nd rfl
attribute [go_sem] ah5 ah6 ah7 aeI WX TG
abbrev ay8 (N:Nat):Prop:=∀ (l:List Sm) (deep dD:Int) (bc:Bool) (out:List It),Sm.br l<N→0≤deep→deep≤13→out.length≤201→∀ {s:St} {t:Nat},s.aw[t]? = some (some out.length)→
 az Tryz.prog MC [.slice .shared 13 (l.map a8), .int .i64 deep, .int .i64 dD, .bool bc, .slice (.tok t) 16 (out.map j8)] s (.slice (.tok t) 16 ((fO deep dD bc out l).map j8)) ⟨s.ah,s.aw.set t (some (fO deep dD bc out l).length)⟩
end Go.Abs
namespace Go.Abs
set_option maxRecDepth 8000
open Go.Proofs
structure Pg.nq (p:Pg):Prop where
 sz:p.size<4611686018427387000
 ux : ∀ t∈p.globals,t.length<4611686018427387904
 pI : ∀ f∈p.procs,f.name.length<4611686018427387904∧(∀ t∈f.vars,t.length<4611686018427387904)∧(∀ t∈f.fin,t.length<4611686018427387904)∧∀ a∈f.params,a.name.length<4611686018427387904
 items : ∀ i∈p.all,i.s.nq
def gate (nest:Int) (len n:Nat) (r:Bool×Nat):Bool×Nat:=if decide (nest > 12) && decide ((len:Int) > 0)then(false,n)else r
mutual
def Sm.qa (nest:Int) (n:Nat):Sm→Bool×Nat
 |⟨id,kind,labels,name,proc,x,has,args,bm,bc⟩=>
  if decide (((n+1:Nat):Int) > 200) ||id != ((n+1:Nat):Int) || !(eo labels) || !(Sm.fields ⟨id,kind,labels,name,proc,x,has,args,bm,bc⟩)then(false,n+1)
  else if !(gate (nest+1) bm.length (n+1) (Sm.ff (nest+1) (n+1) bm)).1 then(false,(gate (nest+1) bm.length (n+1) (Sm.ff (nest+1) (n+1) bm)).2)
  else gate (nest+1) bc.length (gate (nest+1) bm.length (n+1) (Sm.ff (nest+1) (n+1) bm)).2 (Sm.ff (nest+1) (gate (nest+1) bm.length (n+1) (Sm.ff (nest+1) (n+1) bm)).2 bc)
def Sm.ff (nest:Int) (n:Nat):List Sm→Bool×Nat
 | []=>(true,n)
 |s::l=>if !(Sm.qa nest n s).1 then(false,(Sm.qa nest n s).2)else Sm.ff nest (Sm.qa nest n s).2 l
end
def Sm.gA (nest:Int) (n:Nat) (l:List Sm):Bool×Nat:=gate nest l.length n (Sm.ff nest n l)
theorem Gz (nest:Int) (n:Nat) (s:Sm):Sm.qa nest n s =
 if decide (((n+1:Nat):Int) > 200) ||s.id != ((n+1:Nat):Int) || !(eo s.labels) || !(s.fields)then(false,n+1)
 else if !(Sm.gA (nest+1) (n+1) s.bm).1 then(false,(Sm.gA (nest+1) (n+1) s.bm).2)
 else Sm.gA (nest+1) (Sm.gA (nest+1) (n+1) s.bm).2 s.bc:=by
 cases s;simp only[Sm.qa,Sm.gA];rfl
mutual
def Sm.zQ:Sm→Prop
 |⟨id,kind,labels,name,proc,x,has,args,bm,bc⟩=>Sm.nq ⟨id,kind,labels,name,proc,x,has,args,bm,bc⟩∧Sm.nr bm∧Sm.nr bc
def Sm.nr:List Sm→Prop
 | []=>True
 |s::l=>s.zQ∧Sm.nr l
end
theorem KZ (s:Sm):s.zQ↔s.nq∧Sm.nr s.bm∧Sm.nr s.bc:=by cases s;simp only[Sm.zQ]
theorem Fe {s:Sm} : ∀ {l:List Sm},Sm.nr l→s∈l→s.zQ
 |y::l,h,m=>by
  simp only[Sm.nr]at h
  rcases List.mem_cons.1 m with rfl|m
  ·exact h.1
  ·exact Fe h.2 m
mutual
theorem aaU (nest:Int) (n:Nat) : ∀ s:Sm,n≤201→(Sm.qa nest n s).2≤202∧((Sm.qa nest n s).1=true→(Sm.qa nest n s).2≤200)
 | ⟨id,kind,labels,name,proc,x,has,args,bm,bc⟩,hn=>by
  simp only[Sm.qa]
  split
  ·exact⟨by dsimp only;omega,fun h=>by cases h⟩
  rename_i hc
  simp only[Bool.or_eq_true,decide_eq_true_eq,not_or]at hc
  have AH:n+1≤200:=by omega
  have g1 : ∀ (nest:Int) (l:List Sm) (m:Nat),m≤200→(Sm.ff nest m l).2≤202∧((Sm.ff nest m l).1=true→(Sm.ff nest m l).2≤200)→
   (gate nest l.length m (Sm.ff nest m l)).2≤202∧((gate nest l.length m (Sm.ff nest m l)).1=true→(gate nest l.length m (Sm.ff nest m l)).2≤200):=by
   intro nest l m hm h
   unfold gate
   split
   ·exact⟨by dsimp only;omega,fun h=>by cases h⟩
   ·exact h
  have h1:=g1 (nest+1) bm (n+1) AH (CC (nest+1) (n+1) bm AH)
  split
  ·exact⟨h1.1,fun h=>by cases h⟩
  rename_i JF
  have h2:=h1.2 (by simpa using JF)
  exact g1 (nest+1) bc _ h2 (CC (nest+1) _ bc h2)
theorem CC (nest:Int) (n:Nat) : ∀ l:List Sm,n≤200→(Sm.ff nest n l).2≤202∧((Sm.ff nest n l).1=true→(Sm.ff nest n l).2≤200)
 | [],hn=>by simp only[Sm.ff];exact⟨by omega,fun _=>hn⟩
 |s::l,hn=>by
  simp only[Sm.ff]
  have h1:=aaU nest n s (by omega)
  split
  ·exact⟨h1.1,fun h=>by cases h⟩
  rename_i hc
  exact CC nest _ l (h1.2 (by simpa using hc))
end
theorem GC {nest:Int} {n:Nat} {l:List Sm} (hn:n≤200):(Sm.gA nest n l).2≤202∧((Sm.gA nest n l).1=true→(Sm.gA nest n l).2≤200):=by
 unfold Sm.gA gate
 split
 ·exact⟨by dsimp only;omega,fun h=>by cases h⟩
 ·exact CC nest n l hn
theorem aaV : ∀ (m:Nat) (l:List Sm),Sm.br l≤m→Sm.br l<4611686018427387000→Sm.nr l→∀ (nest:Int) (n:Nat),0≤nest→nest≤13→n≤200→
 az Tryz.prog kD [.ptr 0 0, .slice .shared 13 (l.map a8), .int .i64 nest] ⟨[[.int .i64 n]],[]⟩ (.bool (Sm.gA nest n l).1) ⟨[[.int .i64 (Sm.gA nest n l).2]],[]⟩:=by
 intro m
 induction m with
 | zero=>
  intro l h hs hf nest n h0 h13 hn
  cases l with
  |nil=>
   have d1:decide ((0:Int) > 0)=false:=rfl
   have e:Sm.gA nest n [] = (true,n):=by simp[Sm.gA,gate,Sm.ff]
   have z:decide ((0:Int)<0)=false:=rfl
   rw[e]
   refine az.go rT rfl fun B Q hB hQ=>?_
   have⟨hC,hE,hM,hY⟩:=bC
   repeat' (first
 |simp only[go_sem,hC,hE,hM,hY,d1,z]
 |(with_reducible refine bg.kv ?_)
 |(with_reducible first|refine aX fun hc=>?_|refine aY fun hc=>?_|refine aZ (fun hc=>?_) fun hc=>?_)<;>(try simp only[hc,bs,↓reduceIte]at h)<;>try simp only[hc]
 |(with_reducible refine aB hQ ?_;exact bd))
  |cons s l=>simp only[Sm.br]at h;omega
 |succ m ih=>
  intro l h hs hf nest n h0 h13 hn
  generalize hR:Sm.gA nest n l=R
  have hlen:=Sm.ei l
  unfold Sm.gA gate at hR
  have h:=hR
  refine az.go rT rfl fun B Q hB hQ=>?_
  have⟨hC,hE,hM,hY⟩:=bC
  repeat' (first
 |simp only[go_sem,hC,hE,hM,hY]
 |(with_reducible first|refine aX fun hc=>?_|refine aY fun hc=>?_|refine aZ (fun hc=>?_) fun hc=>?_)<;>(try simp only[hc,bs,↓reduceIte]at h)<;>try simp only[hc]
 | (with_reducible refine aB hQ ?_;(try cases h);simp only [aQ,aS,bn,bo,go_sem,hC,hE,hM,hY];repeat' (first | exact Ok.out | with_reducible refine eL ?_ ?_ | (simp;done))))
  all_goals
   have ah8:l≠ []→nest≤12:=by
    intro fi
    have:l.length≠0:=by simpa using fi
    simp_all<;>omega
   refine dQ 1 0 (bg.ind (ι:=List Sm×Nat×Nat) (fun i=>l.drop i.2.1=i.1∧Sm.ff nest i.2.2 i.1=R∧i.2.2≤200) (fun i=>i.1.length)
    (fun i=> [(0, .ptr 0 0),(2, .int .i64 nest),(16, .slice .shared 13 (l.map a8)),(17, .int .i64 (l.length:Int)),(18, .int .i64 (i.2.1:Int))]) (fun i=>⟨[[.int .i64 (i.2.2:Int)]],[]⟩) ?_ (l,0,n) ⟨rfl,h,hn⟩)
   rintro⟨rest,k,j⟩ ⟨h1,h,hj⟩ IH
   dsimp only at h1 h hj
   cases rest with
   |nil=>
    have hC:=drop_nil h1
    simp only[Sm.ff]at h
    repeat' (first
 |simp only[go_sem,hC,hE,hM,hY]
 |(with_reducible first|refine aX fun hc=>?_|refine aY fun hc=>?_|refine aZ (fun hc=>?_) fun hc=>?_)<;>(try simp only[hc,bs,↓reduceIte]at h)<;>try simp only[hc]
 | (with_reducible refine aB hQ ?_;exact er))
   | cons s rest=>
    obtain⟨hE,g2,hC,g4⟩:=drop_cons h1
    have hM:k<4611686018427387904:=by omega
    have iL:=List.mem_of_getElem? hE
    have eg:=Sm.dd iL
    have aAF:=ah8 (by rintro rfl;simp at iL)
    obtain⟨JK,hft,hfe⟩:=(KZ s).1 (Fe hf iL)
    have acJ:Sm.br s.bm<s.size∧Sm.br s.bc<s.size:=by cases s;simp only[Sm.size];omega
    have w1:IntKind.wrap .i64 ((j:Int)+1)=((j+1:Nat):Int):=by rw[dP]<;>omega
    have w2:IntKind.wrap .i64 (nest+1)=nest+1:=dP (by omega) (by omega)
    have c1:=fun s=>zO JK.aey JK.Tx s
    have c2:=fun s=>WW JK s
    simp only[Sm.ff,Gz]at h
    by_cases TH:j+1≤200
    ·have r1:=GC (nest:=nest+1) (l:=s.bm) TH
     have c3:=fun s' ho=>(ih s.bm (by omega) (by omega) hft (nest+1) (j+1) (by omega) (by omega) TH).kL (s:=s') (o:=0) (by simp[D.bH,D.ok,oM,Tag.ok]) rfl rfl rfl ho
     by_cases wV:(Sm.gA (nest+1) (j+1) s.bm).1=true
     ·have c4:=fun s' ho=>(ih s.bc (by omega) (by omega) hfe (nest+1) _ (by omega) (by omega) (r1.2 wV)).kL (s:=s') (o:=0) (by simp [D.bH,D.ok,oM,Tag.ok]) rfl rfl rfl ho
      have r2:=GC (nest:=nest+1) (l:=s.bc) (r1.2 wV)
      simp only[wV]at c3
      simp only[wV,Bool.not_true,Bool.false_eq_true,↓reduceIte]at h
      repeat' (first
 |simp only[go_sem,hC,hE,hM,hY,w1,w2,wV]
 |(with_reducible refine CU (c1 _) ?_)
 |(with_reducible refine CU (c2 _) ?_)
 |(with_reducible refine CU (c3 _ rfl) ?_)
 |(with_reducible refine CU (c4 _ rfl) ?_)
 |(with_reducible first|refine aX fun hc=>?_|refine aY fun hc=>?_|refine aZ (fun hc=>?_) fun hc=>?_)<;>(try simp only[hc,bs,↓reduceIte]at h)<;>try simp only[hc]
 |(with_reducible refine aB hQ ?_;(try cases h);simp only[aQ,aS,bn,bo,go_sem,hC,hE,hM,hY,w1,w2,wV];try exact bR))
      refine dQ 1 0 (IH (rest,k+1,(Sm.gA (nest+1) (Sm.gA (nest+1) (j+1) s.bm).2 s.bc).2) ⟨g2,h,r2.2 (by assumption)⟩ (Nat.lt_succ_self _))
     ·have wV:(Sm.gA (nest+1) (j+1) s.bm).1=false:=by simpa using wV
      simp only[wV]at c3
      simp only[wV,Bool.not_false,↓reduceIte]at h
      repeat' (first
 |simp only[go_sem,hC,hE,hM,hY,w1,w2,wV]
 |(with_reducible refine CU (c1 _) ?_)
 |(with_reducible refine CU (c2 _) ?_)
 |(with_reducible refine CU (c3 _ rfl) ?_)
 |(with_reducible first|refine aX fun hc=>?_|refine aY fun hc=>?_|refine aZ (fun hc=>?_) fun hc=>?_)<;>(try simp only[hc,bs,↓reduceIte]at h)<;>try simp only[hc]
 | (with_reducible refine aB hQ ?_;(try cases h);simp only [aQ,aS,bn,bo,go_sem,hC,hE,hM,hY,w1,w2,wV];try exact bR))
    ·have d1:decide (((j+1:Nat):Int) > 200)=true:=by simp;omega
     simp only[d1,Bool.true_or,Bool.not_false,↓reduceIte]at h
     repeat' (first
 |simp only[go_sem,hC,hE,hM,hY,w1,w2,d1]
 |(with_reducible refine CU (c1 _) ?_)
 |(with_reducible refine CU (c2 _) ?_)
 |(with_reducible first|refine aX fun hc=>?_|refine aY fun hc=>?_|refine aZ (fun hc=>?_) fun hc=>?_)<;>(try simp only[hc,bs,↓reduceIte]at h)<;>try simp only[hc]
 |(with_reducible refine aB hQ ?_;(try cases h);simp only[aQ,aS,bn,bo,go_sem,hC,hE,hM,hY,w1,w2,d1];try exact bR))
def Pc.ff (n:Nat):List Pc→Bool
 | []=>true
 |f::l=>
  if decide ((f.params.length:Int) > 8) ||decide ((f.vars.length:Int) > 16) || !(isName f.name) || !(eo f.vars) || !(eo f.fin)then false
  else if !(Pm.fl f.params)then false
  else if !(Sm.gA 1 n f.body).1 then false
  else Pc.ff (Sm.gA 1 n f.body).2 l
def Pg.GD (p:Pg):Bool:=
 if decide ((p.globals.length:Int) > 16) ||decide ((p.procs.length:Int) > 16) || !(eo p.globals)then false
 else Pc.ff 0 p.procs
structure Pg.QU (p:Pg):Prop where
 sz:p.size<4611686018427387000
 ux : ∀ t∈p.globals,t.length<4611686018427387904
 pI : ∀ f∈p.procs,f.name.length<4611686018427387904∧(∀ t∈f.vars,t.length<4611686018427387904)∧(∀ t∈f.fin,t.length<4611686018427387904)∧∀ a∈f.params,a.name.length<4611686018427387904
 body : ∀ f∈p.procs,Sm.nr f.body
theorem K0 {p:Pg} (hf:p.QU) (s:St):az Tryz.prog rI [.agg (cR p)] s (.bool p.GD) s:=by
 refine az.pure ?_ (by simp only[D.bH,D.ok,jT];rfl) rfl s
 obtain⟨eg,rZ,aeJ,Cp⟩:=hf
 have r7:Pc.br p.procs<4611686018427387000:=by simp only[Pg.size]at eg;omega
 have ah9:p.globals.length<4611686018427387904:=by simp only[Pg.size]at eg;omega
 have aAf:p.procs.length<4611686018427387904:=by have:=Pc.ei p.procs;omega
 have hg:=fun s=>zO ah9 rZ s
 unfold S0
 generalize h:p.GD=R
 unfold Pg.GD at h
 refine az.go KF rfl fun B Q hB hQ=>?_
 have⟨hC,hE,hM,hY⟩:=bC
 repeat' (first
 |simp only[go_sem,hC,hE,hM,hY]
 |(with_reducible refine CU (hg _) ?_)
 |(with_reducible first|refine aX fun hc=>?_|refine aY fun hc=>?_|refine aZ (fun hc=>?_) fun hc=>?_)<;>(try simp only[hc,bs,↓reduceIte]at h)<;>try simp only[hc]
 |(with_reducible refine aB hQ ?_;exact er))
 refine dQ 2 0 (bg.ind (ι:=List Pc×Nat×Nat) (fun i=>p.procs.drop i.2.1=i.1∧Pc.ff i.2.2 i.1=R∧i.2.2≤200) (fun i=>i.1.length)
  (fun i=> [(1, .ptr 0 0),(3, .ptr 1 0),(27, .slice .shared 5 (p.procs.map cH)),(28, .int .i64 (p.procs.length:Int)),(29, .int .i64 (i.2.1:Int))]) (fun i=>⟨[cR p,[.int .i64 (i.2.2:Int)]],[]⟩) ?_ (p.procs,0,0) ⟨rfl,h,Nat.zero_le _⟩)
 rintro⟨rest,k,n⟩ ⟨h1,h,hn⟩ IH
 dsimp only at h1 h hn
 cases rest with
 |nil=>
  have hC:=drop_nil h1
  simp only[Pc.ff]at h
  repeat' (first
 |simp only[go_sem,hC,hE,hM,hY]
 |(with_reducible first|refine aX fun hc=>?_|refine aY fun hc=>?_|refine aZ (fun hc=>?_) fun hc=>?_)<;>(try simp only[hc,bs,↓reduceIte]at h)<;>try simp only[hc]
 |(with_reducible refine aB hQ ?_;exact er))
 |cons f rest=>
  obtain⟨hE,g2,hC,g4⟩:=drop_cons h1
  have cj:k<4611686018427387904:=by omega
  have iL:=List.mem_of_getElem? hE
  have AJ:=Pc.dd iL
  simp only[Pc.size]at AJ
  obtain⟨AL,hfv,hff,hfp⟩:=aeJ f iL
  have hnm:=BO f.name AL
  have hv:=fun s=>zO (by omega) hfv s
  have he:=fun s=>zO (by omega) hff s
  have hb:=fun s' o ho=>(aaV _ f.body (Nat.le_refl _) (by omega) (Cp f iL) 1 n (by omega) (by omega) hn).kL (s:=s') (o:=o) (by simp[D.bH,D.ok,oM,Tag.ok]) rfl rfl rfl ho
  have hle:=GC (nest:=1) (l:=f.body) hn
  simp only[Pc.ff]at h
  repeat' (first
 |simp only[go_sem,hC,hE,hM,hY]
 |(with_reducible refine CU (hnm _) ?_)
 |(with_reducible refine CU (hv _) ?_)
 |(with_reducible refine CU (he _) ?_)
 |(with_reducible first|refine aX fun hc=>?_|refine aY fun hc=>?_|refine aZ (fun hc=>?_) fun hc=>?_)<;>(try simp only[hc,bs,↓reduceIte]at h)<;>try simp only[hc]
 |(with_reducible refine aB hQ ?_;exact er)
 | (cases h;done))
  refine dQ 3 0 (bg.ind (ι:=List Pm×Nat) (fun i=>f.params.drop i.2=i.1∧(if !(Pm.fl i.1)then false else if !(Sm.gA 1 n f.body).1 then false else Pc.ff (Sm.gA 1 n f.body).2 rest)=R) (fun i=>i.1.length)
   (fun i=> [(1, .ptr 0 0),(3, .ptr 1 0),(5, .ptr 2 0),(27, .slice .shared 5 (p.procs.map cH)),(28, .int .i64 (p.procs.length:Int)),(29, .int .i64 (k:Int)),(62, .slice .shared 2 (f.params.map gM)),(63, .int .i64 (f.params.length:Int)),(64, .int .i64 (i.2:Int))]) (fun i=>⟨[cR p,[.int .i64 (n:Int)],cH f],[]⟩) ?_ (f.params,0) ⟨rfl,h⟩)
  rintro⟨QV,j⟩ ⟨j1,h⟩ TI
  dsimp only at j1 h
  cases QV with
  |nil=>
   have hC:=drop_nil j1
   simp only[Pm.fl,Bool.not_true,Bool.false_eq_true,↓reduceIte]at h
   repeat' (first
 |simp only[go_sem,hC,hE,hM,hY]
 |(with_reducible refine CU (hb _ _ rfl) ?_)
 |(with_reducible first|refine aX fun hc=>?_|refine aY fun hc=>?_|refine aZ (fun hc=>?_) fun hc=>?_)<;>(try simp only[hc,bs,↓reduceIte]at h)<;>try simp only[hc]
 |(with_reducible refine aB hQ ?_;exact er)
 | (cases h;done))
   refine eS 2 0 ?_ ?_ (IH (rest,k+1,(Sm.gA 1 n f.body).2) ⟨g2,h,hle.2 (by assumption)⟩ (Nat.lt_succ_self _))
   ·(simp only[go_sem,hC,hE,hM,hY,aL cj];try exact cr)
   ·(simp only[go_sem,hC,hE,hM,hY,aL cj];try exact cr)
  |cons a QV=>
   obtain⟨hE,b2,hC,b4⟩:=drop_cons j1
   have TH:j<4611686018427387904:=by omega
   have ha:=BO a.name (hfp a (List.mem_of_getElem? hE))
   simp only[Pm.fl]at h
   repeat' (first
 |simp only[go_sem,hC,hE,hM,hY]
 |(with_reducible refine CU (ha _) ?_)
 |(with_reducible first|refine aX fun hc=>?_|refine aY fun hc=>?_|refine aZ (fun hc=>?_) fun hc=>?_)<;>(try simp only[hc,bs,↓reduceIte]at h)<;>try simp only[hc]
 |(with_reducible refine aB hQ ?_;exact er)
 | (cases h;done))
   refine eS 3 0 ?_ ?_ (TI (QV,j+1) ⟨b2,h⟩ (Nat.lt_succ_self _))
   ·(simp only[go_sem,hC,hE,hM,hY,aL TH];try exact cr)
   ·(simp only[go_sem,hC,hE,hM,hY,aL TH];try exact cr)
theorem zR {s:aF} (h:isName s=true):s.length≤8:=by
 cases s with
 |nil=>simp
 | cons c r=>
  simp only[isName]at h
  split at h
  ·cases h
  ·rename_i hc
   simp only[Bool.or_eq_true,decide_eq_true_eq,not_or]at hc
   simp only[List.length_cons];omega
theorem py {t:aF} : ∀ {l:List aF},eo l=true→t∈l→isName t=true
 | s::l,h,m=>by
  simp only[eo]at h
  cases hs:isName s
  ·simp[hs]at h
  ·simp [hs]at h
   rcases List.mem_cons.1 m with rfl|m
   ·exact hs
   ·exact py h m
theorem K1 {a:Ar} : ∀ {l:List Ar},Ar.fl l=true→a∈l→a.may=true
 | s::l,h,m=>by
  simp only[Ar.fl]at h
  cases hs:s.may
  ·simp[hs]at h
  ·simp [hs]at h
   rcases List.mem_cons.1 m with rfl|m
   ·exact hs
   ·exact K1 h m
theorem Hu {a:Pm} : ∀ {l:List Pm},Pm.fl l=true→a∈l→isName a.name=true
 | s::l,h,m=>by
  simp only[Pm.fl]at h
  cases hs:isName s.name
  ·simp[hs]at h
  ·simp [hs]at h
   rcases List.mem_cons.1 m with rfl|m
   ·exact hs
   ·exact Hu h m
mutual
theorem Ff : ∀ x:Ex,x.form=true→x.texts
 | ⟨op,n,name,kids⟩,h=>by
  simp only[Ex.form]at h
  split at h
  ·cases h
  ·rename_i hc
   refine⟨?_,Dv kids h⟩
   simp only[Bool.or_eq_true,Bool.and_eq_true,Bool.not_eq_true',not_or,not_and,Bool.not_eq_false]at hc
   cases hn:(name == [])
   ·have:=zR (hc.2 hn);omega
   ·simp at hn;subst hn;simp
theorem Dv : ∀ l:List Ex,Ex.pH l=true→Ex.yO l
 | [],_=>trivial
 | x::l,h=>by
  simp only[Ex.pH]at h
  cases hx:x.form
  ·simp[hx]at h
  ·simp [hx]at h
   exact⟨Ff x hx,Dv l h⟩
end
theorem Hv {x:Ex} (h:x.may=true):x.texts:=by
 unfold Ex.may at h
 simp only[Bool.and_eq_true]at h
 exact Ff x h.2
theorem Fg {x:Ex} (h:x.none=true):x.texts:=by
 obtain⟨op,n,name,kids⟩:=x
 simp[Ex.none]at h
 obtain⟨⟨_,h1⟩,h2⟩:=h
 subst h1 h2
 exact⟨by simp,trivial⟩
mutual
theorem TJ {deep dD:Int} {bc:Bool} {out:List It} {i:It} : ∀ s:Sm,i∈kx deep dD bc out s→i∈out∨i.s.size≤s.size
 | ⟨id,kind,labels,name,proc,x,has,args,bm,e⟩,h=>by
  simp only[kx]at h
  have key:i∈out++ [(⟨⟨id,kind,labels,name,proc,x,has,args,bm,e⟩,deep,dD,bc⟩:It)]→i∈out∨i.s.size≤(⟨id,kind,labels,name,proc,x,has,args,bm,e⟩:Sm).size:=by
   intro h
   rcases List.mem_append.1 h with h|h
   ·exact .inl h
   ·simp at h;subst h;exact .inr (Nat.le_refl _)
  split at h
  ·rcases wW e h with h | h
   ·rcases wW bm h with h | h
    ·exact key h
    ·right;simp only[Sm.size];omega
   ·right;simp only[Sm.size];omega
  ·exact key h
theorem wW {deep dD:Int} {bc:Bool} {out:List It} {i:It} : ∀ l:List Sm,i∈fO deep dD bc out l→i∈out∨i.s.size<Sm.br l
 | [],h=>by simp only[fO]at h;exact .inl h
 | s::l,h=>by
  simp only[fO]at h
  split at h
  ·rcases wW l h with h | h
   ·rcases TJ s h with h | h
    ·exact .inl h
    ·right;simp only[Sm.br];omega
   ·right;simp only[Sm.br];omega
  ·exact .inl h
end
theorem K3 {i:It} : ∀ (l:List Pc) (out:List It),i∈allM out l→i∈out∨i.s.size<Pc.br l
 | [],out,h=>by simp only[allM]at h;exact .inl h
 | f::l,out,h=>by
  have key:i∈out++f.flat→i∈out∨i.s.size<Pc.br (f::l):=by
   intro h
   rcases List.mem_append.1 h with h|h
   ·exact .inl h
   ·rcases wW _ h with h | h
    ·simp at h
    ·right;simp only[Pc.br,Pc.size];omega
  simp only[allM]at h
  split at h
  ·exact key h
  ·rcases K3 l _ h with h | h
   ·exact key h
   ·right;simp only[Pc.br];omega
theorem Fh {i:It} : ∀ (l:List It) (n:Nat),It.fl n l=true→i∈l→i.s.one=true
 | s::l,n,h,m=>by
  simp only[It.fl]at h
  split at h
  ·cases h
  ·rename_i hc
   simp only[Bool.or_eq_true,Bool.not_eq_true',not_or,Bool.not_eq_false]at hc
   rcases List.mem_cons.1 m with rfl|m
   ·exact hc.2
   ·exact Fh l (n+1) h m
theorem K4 {s:Sm} (h:s.one=true) (hs:s.size<4611686018427387000):s.nq:=by
 unfold Sm.one at h
 split at h
 ·cases h
 split at h
 ·cases h
 split at h
 ·cases h
 split at h
 ·cases h
 rename_i c1 c2 c3 c4
 simp only[Bool.or_eq_true,Bool.and_eq_true,Bool.not_eq_true',not_or,not_and,Bool.not_eq_false,decide_eq_true_eq]at c1 c2 c3 c4
 obtain⟨⟨⟨⟨⟨_,_⟩,asS⟩,cx⟩,cn⟩,_⟩:=c1
 obtain⟨c21,c22⟩:=c2
 obtain⟨⟨c31,c32⟩,c33⟩:=c3
 have nm : ∀ {t:aF},isName t=true→t.length<4611686018427387904:=fun h=>by have:=zR h;omega
 have eg:1+s.labels.length+s.x.size+Ar.br s.args≤s.size:=by cases s;simp only[Sm.size];omega
 have Aw:=Ar.ei s.args
 refine⟨fun t ht=>nm (py asS ht),by omega, ?_, ?_,by omega, ?_,by omega,fun a ha=>?_⟩
 ·cases hn:s.hasName
  ·cases he:(s.name == [])
   ·exact nm (c22 ⟨hn,he⟩).2
   ·simp at he;rw[he];simp
  ·exact nm (c21 hn)
 ·cases nF:s.tJ
  ·rw [nF]at c31
   have:s.proc = []:=by simpa using c31
   rw[this];simp
  ·exact nm (c32 nF)
 ·cases hx:s.BK
  ·exact Fg (cn hx)
  ·exact Hv (cx hx)
 ·have hm:=K1 c4 ha
  have Zo:=Ar.dd ha
  unfold Ar.may at hm
  split at hm
  ·simp only [Bool.and_eq_true]at hm
   exact⟨by omega,Fg hm.2,nm hm.1⟩
  ·simp only [Bool.and_eq_true,beq_iff_eq]at hm
   exact⟨by omega,Hv hm.2,by rw[hm.1];simp⟩
theorem Hw {f:Pc} : ∀ {l:List Pc},Pc.pI l=true→f∈l→isName f.name=true∧eo f.vars=true∧eo f.fin=true∧Pm.fl f.params=true
 |s::l,h,m=>by
  simp only[Pc.pI]at h
  split at h
  ·cases h
  split at h
  ·cases h
  rename_i c1 c2
  simp only[Bool.or_eq_true,Bool.not_eq_true',not_or,Bool.not_eq_false]at c1 c2
  rcases List.mem_cons.1 m with rfl|m
  ·exact⟨c1.1.1.1.1,c1.1.2,c1.2,c2⟩
  ·exact Hw h m
theorem WY {p:Pg} (h:p.may=true) (hs:p.size<4611686018427387000):p.nq:=by
 unfold Pg.may at h
 split at h
 ·cases h
 split at h
 ·cases h
 split at h
 ·cases h
 rename_i c1 c2 c3
 simp only[Bool.or_eq_true,Bool.not_eq_true',not_or,Bool.not_eq_false]at c1 c2
 have nm : ∀ {t:aF},isName t=true→t.length<4611686018427387904:=fun h=>by have:=zR h;omega
 refine⟨hs,fun t ht=>nm (py c1.2 ht),fun f hf=>?_,fun i hi=>?_⟩
 ·obtain⟨a,b,c,d⟩:=Hw c2 hf
  exact⟨nm a,fun t ht=>nm (py b ht),fun t ht=>nm (py c ht),fun t ht=>nm (Hu d ht)⟩
 ·refine K4 (Fh _ _ h hi) ?_
  rcases K3 _ _ hi with h1|h1
  ·simp at h1
  ·simp only[Pg.size]at hs;omega
theorem TK {t:aF} (h:isName t=true):t≠ []:=by rintro rfl;cases h
theorem WZ (op n:Int) (name:aF) (kids:List Ex):Ex.form ⟨op,n,name,kids⟩=true↔
 lF op=(kids.length:Int)∧(op=1∨n=0)∧0≤n∧(op=2↔name≠ [])∧(name = []∨isName name=true)∧Ex.pH kids=true:=by
 simp only[Ex.form]
 split
 ·rename_i h
  simp only[Bool.or_eq_true,Bool.and_eq_true,bne_iff_ne,ne_eq,decide_eq_true_eq,Bool.not_eq_true']at h
  refine⟨fun h=>(Bool.false_ne_true h).elim,fun⟨h1,h2,h3,h4,h5,_⟩=>?_⟩
  exfalso
  rcases h with (((h|h)|h)|h)|h
  ·exact h h1
  ·rcases h2 with h2 | h2
   ·exact h.1 h2
   ·exact h.2 h2
  ·omega
  ·by_cases h2:op=2<;>cases name<;>simp_all
  ·rcases h5 with h5 | h5
   ·subst h5;simp at h
   ·rw[h5]at h;simp at h
 ·rename_i h
  simp only[Bool.or_eq_true,Bool.and_eq_true,bne_iff_ne,ne_eq,decide_eq_true_eq,Bool.not_eq_true',not_or,not_and,Decidable.not_not,Bool.not_eq_false]at h
  obtain⟨⟨⟨⟨h1,h2⟩,h3⟩,h4⟩,h5⟩:=h
  refine⟨fun h=>⟨h1, ?_,by omega, ?_, ?_,h⟩,fun h=>h.2.2.2.2.2⟩
  ·by_cases h:op=1
   ·exact .inl h
   ·exact .inr (h2 h)
  ·by_cases h2:op=2<;>cases name<;>simp_all
  ·cases name with
   |nil=>exact .inl rfl
   |cons c r=>exact .inr (h5 rfl)
theorem K5 (op n:Int) (name:aF) (kids:List Ex) (k:Int):Ex.dp k ⟨op,n,name,kids⟩=true↔
 1≤k∧(kids.length:Int)=lF op∧(if op=1 then 0≤n∧name = []else if op=2 then n=0∧isName name=true else n=0∧name = []∧Ex.BP (k - 1) kids=true):=by
 simp only[Ex.dp]
 split
 ·rename_i h
  simp only[Bool.or_eq_true,decide_eq_true_eq,bne_iff_ne,ne_eq]at h
  refine⟨fun h=>(Bool.false_ne_true h).elim,fun⟨h1,h2,_⟩=>?_⟩
  rcases h with h|h
  ·omega
  ·exact(h h2).elim
 rename_i h
 simp only[Bool.or_eq_true,decide_eq_true_eq,bne_iff_ne,ne_eq,not_or,Decidable.not_not]at h
 have h1:1≤k:=by omega
 simp only[h1,h.2,true_and]
 by_cases o1:op=1
 ·subst o1
  cases name<;>simp
 ·have o1' : ¬ (op==1)=true:=by simpa using o1
  rw[if_neg o1',if_neg o1]
  by_cases o2:op=2
  ·subst o2;simp
  ·have o2' : ¬ (op==2)=true:=by simpa using o2
   rw[if_neg o2',if_neg o2]
   by_cases hn:n=0
   ·subst hn
    cases name<;>simp
   ·simp[hn]
mutual
theorem Zp : ∀ (x:Ex) (k:Int),0≤k→(x.dp k=true↔(x.depth:Int)≤k∧x.form=true)
 | ⟨op,n,name,kids⟩,k,hk=>by
  rw[K5,WZ]
  have hd:Ex.depth ⟨op,n,name,kids⟩=Ex.gN kids+1:=by simp only[Ex.depth]
  rw[hd]
  by_cases h1:1≤k
  ·have ih:=TL kids (k - 1) (by omega)
   by_cases o1:op=1
   ·subst o1
    have ha:lF 1=0:=rfl
    rw[ha,if_pos rfl]
    constructor
    ·rintro⟨_,h2,h3,h4⟩
     have:kids = []:=List.eq_nil_of_length_eq_zero (by omega)
     subst this;subst h4
     simp[Ex.gN,Ex.pH,h3];omega
    ·rintro⟨h2,h3,_,h4,h5,_⟩
     refine⟨h1,h3.symm,h4, ?_⟩
     cases name
     ·rfl
     ·simp at h5
   ·rw [if_neg o1]
    by_cases o2:op=2
    ·subst o2
     have ha:lF 2=0:=rfl
     rw[ha,if_pos rfl]
     constructor
     ·rintro⟨_,h2,h3,h4⟩
      have:kids = []:=List.eq_nil_of_length_eq_zero (by omega)
      subst this;subst h3
      have:=TK h4
      simp[Ex.gN,Ex.pH,h4,this];omega
     ·rintro⟨h2,h3,h4,_,h5,h6,_⟩
      refine⟨h1,h3.symm,h4.resolve_left o1, ?_⟩
      exact h6.resolve_left (h5.1 rfl)
    ·rw [if_neg o2,ih]
     constructor
     ·rintro⟨_,h2,h3,h4,h5,h6⟩
      subst h3;subst h4
      exact⟨by omega,h2.symm, .inr rfl,Int.le_refl _,by simp[o2], .inl rfl,h6⟩
     ·rintro⟨h2,h3,h4,_,h5,h6,h7⟩
      refine⟨h1,h3.symm,h4.resolve_left o1, ?_,by omega,h7⟩
      exact Decidable.byContradiction fun h=>o2 (h5.2 h)
  ·constructor
   ·rintro⟨h,_⟩;exact(h1 h).elim
   ·rintro⟨h,_⟩;omega
theorem TL : ∀ (l:List Ex) (k:Int),0≤k→(Ex.BP k l=true↔(Ex.gN l:Int)≤k∧Ex.pH l=true)
 | [],k,hk=>by simp[Ex.BP,Ex.gN,Ex.pH,hk]
 | x::l,k,hk=>by
  have h1:=Zp x k hk
  have h2:=TL l k hk
  have hd:Ex.gN (x::l)=max x.depth (Ex.gN l):=by simp only[Ex.gN]
  rw[hd]
  simp only[Ex.BP,Ex.pH]
  cases hx:Ex.dp k x
  ·simp only [Bool.not_false, ↓reduceIte,Bool.false_eq_true,false_iff,not_and]
   intro h3
   have : ¬ ((x.depth:Int)≤k∧x.form=true):=by rw[← h1,hx];simp
   have hf:x.form=false:=by
    cases hf:x.form
    ·rfl
    ·exact(this ⟨by omega,hf⟩).elim
   simp[hf]
  ·have:=h1.1 hx
   simp only[Bool.not_true,Bool.false_eq_true,↓reduceIte,this.2,h2]
   have h3:=this.1
   refine and_congr_left fun _=>?_
   omega
end
theorem Fi (x:Ex):x.dp 20=x.may:=by
 rw[Bool.eq_iff_iff,Zp x 20 (by omega)]
 unfold Ex.may
 simp only[Bool.and_eq_true,decide_eq_true_eq]
 refine and_congr_left fun _=>?_
 omega
theorem Hx (x:Ex) (b:Bool):vW x b=if b then x.may else x.none:=by
 unfold vW
 rw[Fi]
 cases b<;>simp
theorem Hy (t:aF) (b:Bool):tN t b=if b then isName t else t == []:=by
 unfold tN
 cases b<;>simp
theorem Dw : ∀ l:List Ar,pK l=Ar.fl l
 | []=>rfl
 |a::l=>by
  simp only[pK,Ar.fl,Ar.may,Hx,Hy,Dw l]
  grind
theorem acY {α:Type} (l:List α):((l.length:Int)==0) = !(decide ((l.length:Int) > 0)):=by
 cases l with
 |nil=>rfl
 |cons a l=>
  have h1:(((a::l).length:Int)==0)=false:=by simp only[List.length_cons,beq_eq_false_iff_ne];omega
  have h2:decide (((a::l).length:Int) > 0)=true:=by simp only[List.length_cons,decide_eq_true_eq];omega
  rw[h1,h2];rfl
theorem Fj (s:Sm):s.one=(eo s.labels && s.fields):=by
 have hk:s.kind=1∨s.kind=2∨s.kind=3∨s.kind=4∨s.kind=5∨s.kind=6∨s.kind=7∨s.kind=8∨s.kind=9∨s.kind=10∨s.kind<1∨s.kind > 10:=by omega
 unfold Sm.one Sm.fields Sm.flags Sm.BK Sm.hasName Sm.tJ
 have p1:isName [] = false:=rfl
 rcases hk with h|h|h|h|h|h|h|h|h|h|h|h
 all_goals
  simp only[h,acY,Dw,Hx,Hy,Sm.Jm,Sm.Jl]
  grind
mutual
def Ex.mC (out:List aF):Ex→List aF
 |⟨op,_,name,kids⟩=>Ex.lK (if op==2 && !(fq out name)then out++ [name]else out) kids
def Ex.lK (out:List aF):List Ex→List aF
 | []=>out
 |x::l=>Ex.lK (Ex.mC out x) l
end
def Ex.names (x:Ex):List aF:=if x.may then x.mC []else []
mutual
theorem sH (out:List aF) : ∀ x:Ex,(Ex.mC out x).length≤out.length+x.size
 |⟨op,n,name,kids⟩=>by
  simp only[Ex.mC,Ex.size]
  have h:=Hz (if op==2 && !(fq out name)then out++ [name]else out) kids
  refine Nat.le_trans h ?_
  split<;>simp<;>omega
theorem Hz (out:List aF) : ∀ l:List Ex,(Ex.lK out l).length≤out.length+Ex.br l
 | []=>by simp[Ex.lK,Ex.br]
 |x::l=>by
  simp only[Ex.lK,Ex.br]
  have h1:=sH out x
  have h2:=Hz (Ex.mC out x) l
  omega
end
def CD (out:List aF) (x:aF):List aF:=if fq out x then out else out++ [x]
def aia (x:aF):List aF→Bool
 | []=>false
 |s::l=>if s==x then true else aia x l
abbrev TN (N:Nat):Prop:=∀ (x:Ex),x.size≤N→∀ out:List aF,out.length+x.size≤1000000000→∀ {s:St} {t:Nat},s.aw[t]? = some (some out.length)→
 az Tryz.prog iQ [.agg (bI x), .slice (.tok t) 1 (out.map encStr)] s (.slice (.tok t) 1 ((x.mC out).map encStr)) ⟨s.ah,s.aw.set t (some (x.mC out).length)⟩
theorem aeM {N:Nat} (ih:TN N) {op m:Int} {name:aF} {kids:List Ex} (h:Ex.size ⟨op,m,name,kids⟩≤N+1) {out:List aF} (ho:out.length+Ex.size ⟨op,m,name,kids⟩≤1000000000) :
 az Tryz.prog iQ [.agg (bI ⟨op,m,name,kids⟩), .slice (.tok 0) 1 (out.map encStr)] ⟨[],[some out.length]⟩ (.slice (.tok 0) 1 ((Ex.mC out ⟨op,m,name,kids⟩).map encStr)) ⟨[],[some (Ex.mC out ⟨op,m,name,kids⟩).length]⟩:=by
 obtain⟨R,hG⟩ : ∃ R,Ex.mC out ⟨op,m,name,kids⟩=R:=⟨_,rfl⟩
 rw[hG]
 simp only[Ex.mC]at hG
 simp only[Ex.size]at h ho
 have hlen:kids.length<1000000000:=by have:=Ex.ei kids;omega
 have hk : ∀ y∈kids,∀ out:List aF,out.length+y.size≤1000000000→∀ {s:St} {t:Nat},s.aw[t]? = some (some out.length)→
  az Tryz.prog iQ [.agg (bI y), .slice (.tok t) 1 (out.map encStr)] s (.slice (.tok t) 1 ((y.mC out).map encStr)) ⟨s.ah,s.aw.set t (some (y.mC out).length)⟩:=fun y hy out ho=>
  ih y (by have:=Ex.dd hy;omega) out ho
 refine az.go rU rfl fun B Q hB hQ=>?_
 have⟨hC,hE,hM,hY⟩:=bC
 have hM:(out.length+1)*17≤bx:=by unfold bx;omega
 rcases Bool.eq_false_or_eq_true (op==2)with b1|b1
 ·rcases Bool.eq_false_or_eq_true (fq out name)with b2 | b2
  ·simp only [b1,b2,Bool.not_true,Bool.and_false,Bool.false_eq_true,if_false]at hG
   repeat' (first
 |simp only[go_sem,hC,hE,hM,hY,b1,b2]
 |(with_reducible refine CU (jF (l:=out) (by omega) name _ _) ?_)
 | (with_reducible refine aB hQ ?_;exact bd))
   refine dQ 1 1 (bg.ind (ι:=List Ex×Nat×List aF×Nat) (fun i=>kids.drop i.2.1=i.1∧Ex.lK i.2.2.1 i.1=R∧i.2.2.1.length+Ex.br i.1≤1000000000∧i.2.2.2=i.2.2.1.length) (fun i=>i.1.length)
    (fun i=> [(1, .slice (.tok 0) 1 (i.2.2.1.map encStr)),(2, .ptr 0 0),(23, .slice .shared 4 (kids.map bI)),(24, .int .i64 (kids.length:Int)),(25, .int .i64 (i.2.1:Int))]) (fun i=>⟨[bI ⟨op,m,name,kids⟩],[some i.2.2.2]⟩) ?_ (kids,0,out,out.length) ⟨rfl,hG,by simp;omega,by simp⟩)
   rintro⟨rest,k,cO,n'⟩ ⟨h1,h2,h3,h4⟩ IH
   dsimp only at h1 h2 h3 h4
   subst h4
   cases rest with
   |nil=>
    have hC:=drop_nil h1
    simp only[Ex.lK]at h2
    subst h2
    repeat' (first
 |simp only[go_sem,hC,hE,hM,hY]
 | (with_reducible refine aB hQ ?_;exact bd))
   |cons y rest=>
    obtain⟨hE,g2,hC,g4⟩:=drop_cons h1
    have cj:k<4611686018427387904:=by omega
    simp only[Ex.lK]at h2
    simp only[Ex.br]at h3
    have hy:=fun {s:St} {t:Nat} (ht:s.aw[t]? = some (some cO.length))=>hk y (List.mem_of_getElem? hE) cO (by omega) ht
    have hl:=sH cO y
    repeat' (first
 |simp only[go_sem,hC,hE,hM,hY]
 |(with_reducible refine CU (hy (by with_unfolding_all rfl)) ?_)
 | (with_reducible refine aB hQ ?_;exact bd))
    refine eS 1 1 ?_ ?_ (IH (rest,k+1,_,_) ⟨g2,h2,by dsimp only;omega,rfl⟩ (Nat.lt_succ_self _))
    ·(simp only[go_sem,hC,hE,hM,hY,aL cj];try exact cr)
    ·(simp only[go_sem,hC,hE,hM,hY,aL cj];try exact cr)
  ·simp only [b1,b2,Bool.not_false,Bool.and_true,if_true]at hG
   repeat' (first
 |simp only[go_sem,hC,hE,hM,hY,b1,b2]
 |(with_reducible refine CU (jF (l:=out) (by omega) name _ _) ?_)
 | (with_reducible refine aB hQ ?_;exact bd))
   refine eS 1 1 ?_ ?_ (bg.ind (ι:=List Ex×Nat×List aF×Nat) (fun i=>kids.drop i.2.1=i.1∧Ex.lK i.2.2.1 i.1=R∧i.2.2.1.length+Ex.br i.1≤1000000000∧i.2.2.2=i.2.2.1.length) (fun i=>i.1.length)
    (fun i=> [(1, .slice (.tok 0) 1 (i.2.2.1.map encStr)),(2, .ptr 0 0),(23, .slice .shared 4 (kids.map bI)),(24, .int .i64 (kids.length:Int)),(25, .int .i64 (i.2.1:Int))]) (fun i=>⟨[bI ⟨op,m,name,kids⟩],[some i.2.2.2]⟩) ?_ (kids,0,(out++ [name]),(out.length+1)) ⟨rfl,hG,by simp;omega,by simp⟩)
   ·(simp only[go_sem,hC,hE,hM,hY,List.map_append,List.map_cons,List.map_nil,List.length_append,List.length_cons,List.length_nil,encStr];try exact cr)
   ·(simp only[go_sem,hC,hE,hM,hY,List.map_append,List.map_cons,List.map_nil,List.length_append,List.length_cons,List.length_nil,encStr];try exact cr)
   rintro⟨rest,k,cO,n'⟩ ⟨h1,h2,h3,h4⟩ IH
   dsimp only at h1 h2 h3 h4
   subst h4
   cases rest with
   |nil=>
    have hC:=drop_nil h1
    simp only[Ex.lK]at h2
    subst h2
    repeat' (first
 |simp only[go_sem,hC,hE,hM,hY]
 | (with_reducible refine aB hQ ?_;exact bd))
   |cons y rest=>
    obtain⟨hE,g2,hC,g4⟩:=drop_cons h1
    have cj:k<4611686018427387904:=by omega
    simp only[Ex.lK]at h2
    simp only[Ex.br]at h3
    have hy:=fun {s:St} {t:Nat} (ht:s.aw[t]? = some (some cO.length))=>hk y (List.mem_of_getElem? hE) cO (by omega) ht
    have hl:=sH cO y
    repeat' (first
 |simp only[go_sem,hC,hE,hM,hY]
 |(with_reducible refine CU (hy (by with_unfolding_all rfl)) ?_)
 | (with_reducible refine aB hQ ?_;exact bd))
    refine eS 1 1 ?_ ?_ (IH (rest,k+1,_,_) ⟨g2,h2,by dsimp only;omega,rfl⟩ (Nat.lt_succ_self _))
    ·(simp only[go_sem,hC,hE,hM,hY,aL cj];try exact cr)
    ·(simp only[go_sem,hC,hE,hM,hY,aL cj];try exact cr)
 ·simp only [b1,Bool.false_and,Bool.false_eq_true,if_false]at hG
  repeat' (first
 |simp only[go_sem,hC,hE,hM,hY,b1]
 | (with_reducible refine aB hQ ?_;exact bd))
  refine dQ 1 1 (bg.ind (ι:=List Ex×Nat×List aF×Nat) (fun i=>kids.drop i.2.1=i.1∧Ex.lK i.2.2.1 i.1=R∧i.2.2.1.length+Ex.br i.1≤1000000000∧i.2.2.2=i.2.2.1.length) (fun i=>i.1.length)
   (fun i=> [(1, .slice (.tok 0) 1 (i.2.2.1.map encStr)),(2, .ptr 0 0),(23, .slice .shared 4 (kids.map bI)),(24, .int .i64 (kids.length:Int)),(25, .int .i64 (i.2.1:Int))]) (fun i=>⟨[bI ⟨op,m,name,kids⟩],[some i.2.2.2]⟩) ?_ (kids,0,out,out.length) ⟨rfl,hG,by simp;omega,by simp⟩)
  rintro⟨rest,k,cO,n'⟩ ⟨h1,h2,h3,h4⟩ IH
  dsimp only at h1 h2 h3 h4
  subst h4
  cases rest with
  |nil=>
   have hC:=drop_nil h1
   simp only[Ex.lK]at h2
   subst h2
   repeat' (first
 |simp only[go_sem,hC,hE,hM,hY]
 | (with_reducible refine aB hQ ?_;exact bd))
  |cons y rest=>
   obtain⟨hE,g2,hC,g4⟩:=drop_cons h1
   have cj:k<4611686018427387904:=by omega
   simp only[Ex.lK]at h2
   simp only[Ex.br]at h3
   have hy:=fun {s:St} {t:Nat} (ht:s.aw[t]? = some (some cO.length))=>hk y (List.mem_of_getElem? hE) cO (by omega) ht
   have hl:=sH cO y
   repeat' (first
 |simp only[go_sem,hC,hE,hM,hY]
 |(with_reducible refine CU (hy (by with_unfolding_all rfl)) ?_)
 | (with_reducible refine aB hQ ?_;exact bd))
   refine eS 1 1 ?_ ?_ (IH (rest,k+1,_,_) ⟨g2,h2,by dsimp only;omega,rfl⟩ (Nat.lt_succ_self _))
   ·(simp only[go_sem,hC,hE,hM,hY,aL cj];try exact cr)
   ·(simp only[go_sem,hC,hE,hM,hY,aL cj];try exact cr)
theorem W0 : ∀ N,TN N:=by
 intro N
 induction N with
 |zero=>rintro⟨op,m,name,kids⟩ h;simp only[Ex.size]at h;omega
 |succ N ih=>
  rintro⟨op,m,name,kids⟩ h out ho s t ht
  exact(aeM ih h ho).akF (pre:= [_]) (post:= []) (by simp only[D.bH,D.ok,gS];rfl) rfl (eB out) (eB _) ht
abbrev atu (N:Nat):Prop:=∀ (x:Ex),x.size≤N→∀ out:List aF,out.length+x.size≤1000000000→∀ {s:St} {t:Nat},s.aw[t]? = some (some out.length)→
 az Tryz.prog MD [.agg (bI x), .slice (.tok t) 1 (out.map encStr)] s (.slice (.tok t) 1 ((x.mC out).map encStr)) ⟨s.ah,s.aw.set t (some (x.mC out).length)⟩
theorem TO {op m:Int} {name:aF} {kids:List Ex} (h:Ex.form ⟨op,m,name,kids⟩=true) (h2:(op==2)=true):kids = []:=by
 have e:op=2:=by simpa using h2
 subst e
 simp only[Ex.form]at h
 split at h
 ·cases h
 ·rename_i hh
  simp only[Bool.or_eq_true,not_or,bne_iff_ne,ne_eq,Decidable.not_not]at hh
  have:=hh.1.1.1.1
  have e:lF 2=0:=rfl
  rw[e]at this
  exact List.length_eq_zero_iff.1 (by omega)
theorem W1 {op m:Int} {name:aF} {kids:List Ex} (hf:(op==2)=true→kids = []) (ho:Ex.size ⟨op,m,name,kids⟩≤1000000000) (s:St) :
 az Tryz.prog iQ [.agg (bI ⟨op,m,name,kids⟩), .slice .full 0 []] s (.slice .shared 1 ((Ex.mC [] ⟨op,m,name,kids⟩).map encStr)) s:=by
 refine az.pure ?_ (by simp only[D.bH,D.ok,gS];rfl) (by simp only[D.ok,Tag.ok,eB];rfl) s
 obtain⟨R,hG⟩ : ∃ R,Ex.mC [] ⟨op,m,name,kids⟩=R:=⟨_,rfl⟩
 rw[hG]
 simp only[Ex.mC]at hG
 simp only[Ex.size]at ho
 have hlen:kids.length<1000000000:=by have:=Ex.ei kids;omega
 have hk : ∀ y∈kids,∀ out:List aF,out.length+y.size≤1000000000→∀ {s:St} {t:Nat},s.aw[t]? = some (some out.length)→
  az Tryz.prog iQ [.agg (bI y), .slice (.tok t) 1 (out.map encStr)] s (.slice (.tok t) 1 ((y.mC out).map encStr)) ⟨s.ah,s.aw.set t (some (y.mC out).length)⟩:=fun y hy out ho=>
  W0 y.size y (Nat.le_refl _) out ho
 unfold S0
 rcases Bool.eq_false_or_eq_true (op==2)with b1|b1
 ·have hk0:=hf b1
  subst hk0
  have e:fq [] name=false:=rfl
  simp only[b1,e,Bool.not_false,Bool.and_true,if_true,Ex.lK,List.nil_append]at hG
  subst hG
  refine az.go rU rfl fun B Q hB hQ=>?_
  have⟨hC,hE,hM,hY⟩:=bC
  have hM:17≤bx:=by unfold bx;omega
  repeat' (first
 |simp only[go_sem,hC,hE,hM,hY,b1,List.map_nil,List.map_cons,List.length_nil,encStr,Int.natCast_zero,Int.lt_irrefl,decide_false]
 |(with_reducible refine CU (KY name _ _ _) ?_)
 |(with_reducible refine bg.kv ?_)
 |(with_reducible refine aB hQ ?_;exact bd))
 ·simp only [b1,Bool.false_and,Bool.false_eq_true,if_false]at hG
  refine az.go rU rfl fun B Q hB hQ=>?_
  have⟨hC,hE,hM,hY⟩:=bC
  repeat' (first
 |simp only[go_sem,hC,hE,hM,hY,b1]
 | (with_reducible refine aB hQ ?_;exact bd))
  refine bg.pZ 1 1 rfl ?_
  simp only[go_sem,hC,hE,hM,hY]
  refine dQ 1 1 (bg.ind (ι:=List Ex×Nat×List aF×Nat) (fun i=>kids.drop i.2.1=i.1∧Ex.lK i.2.2.1 i.1=R∧i.2.2.1.length+Ex.br i.1≤1000000000∧i.2.2.2=i.2.2.1.length) (fun i=>i.1.length)
   (fun i=> [(1, .slice (.tok 0) 1 (i.2.2.1.map encStr)),(2, .ptr 0 0),(23, .slice .shared 4 (kids.map bI)),(24, .int .i64 (kids.length:Int)),(25, .int .i64 (i.2.1:Int))]) (fun i=>⟨[bI ⟨op,m,name,kids⟩],[some i.2.2.2]⟩) ?_ (kids,0,[],0) ⟨rfl,hG,by simp;omega,by simp⟩)
  rintro⟨rest,k,cO,n'⟩ ⟨h1,h2,h3,h4⟩ IH
  dsimp only at h1 h2 h3 h4
  subst h4
  cases rest with
  |nil=>
   have hC:=drop_nil h1
   simp only[Ex.lK]at h2
   subst h2
   repeat' (first
 |simp only[go_sem,hC,hE,hM,hY]
 | (with_reducible refine aB hQ ?_;exact bd))
  |cons y rest=>
   obtain⟨hE,g2,hC,g4⟩:=drop_cons h1
   have cj:k<4611686018427387904:=by omega
   simp only[Ex.lK]at h2
   simp only[Ex.br]at h3
   have hy:=fun {s:St} {t:Nat} (ht:s.aw[t]? = some (some cO.length))=>hk y (List.mem_of_getElem? hE) cO (by omega) ht
   have hl:=sH cO y
   repeat' (first
 |simp only[go_sem,hC,hE,hM,hY]
 |(with_reducible refine CU (hy (by with_unfolding_all rfl)) ?_)
 | (with_reducible refine aB hQ ?_;exact bd))
   refine eS 1 1 ?_ ?_ (IH (rest,k+1,_,_) ⟨g2,h2,by dsimp only;omega,rfl⟩ (Nat.lt_succ_self _))
   ·(simp only[go_sem,hC,hE,hM,hY,aL cj];try exact cr)
   ·(simp only[go_sem,hC,hE,hM,hY,aL cj];try exact cr)
theorem nu {x:Ex} (hx:x.size≤1000000000) (ht:x.texts) (s:St):az Tryz.prog rP [.agg (bI x)] s (.slice .shared 1 (x.names.map encStr)) s:=by
 refine az.pure ?_ (by simp only[D.bH,D.ok,gS];rfl) (by simp only[D.ok,Tag.ok,eB];rfl) s
 have hm:=fun s=>zP (x:=x) (by omega) ht s
 simp only[Fi]at hm
 unfold Ex.names
 unfold S0
 cases hb:x.may
 ·simp only [hb]at hm
  simp only[Bool.false_eq_true,if_false,List.map_nil]
  refine az.go yE rfl fun B Q hB hQ=>?_
  have⟨hC,hE,hM,hY⟩:=bC
  repeat' (first
 |simp only[go_sem,hC,hE,hM,hY]
 |(with_reducible refine CU (hm _) ?_)
 |(with_reducible refine aB hQ ?_;exact bd))
 ·simp only [hb]at hm
  simp only[if_true]
  have hg : ∀ s,az Tryz.prog iQ [.agg (bI x), .slice .full 0 []] s (.slice .shared 1 ((x.mC []).map encStr)) s:=by
   intro s
   obtain⟨op,m,name,kids⟩:=x
   exact W1 (fun h2=>TO (by simp only[Ex.may,Bool.and_eq_true]at hb;exact hb.2) h2) hx s
  refine az.go yE rfl fun B Q hB hQ=>?_
  have⟨hC,hE,hM,hY⟩:=bC
  repeat' (first
 |simp only[go_sem,hC,hE,hM,hY]
 |(with_reducible refine CU (hm _) ?_)
 |(with_reducible refine CU (hg _) ?_)
 |(with_reducible refine aB hQ ?_;exact bd))
def Ar.said (out:List aF):List Ar→List aF
 | []=>out
 |a::l=>Ar.said ((if a.ref then out++ [a.name]else out)++a.x.names) l
def Sm.ta (v:Sm):List aF:=if v.kind != 10 && v.name != []then [v.name]else []
def Sm.said (v:Sm):List aF:=Ar.said (v.ta++v.x.names) v.args
theorem lh (x:Ex):x.names.length≤x.size:=by
 unfold Ex.names
 split
 ·simpa using sH [] x
 ·exact Nat.zero_le _
def Ar.yO:List Ar→Prop
 | []=>True
 |a::l=>a.x.texts∧Ar.yO l
def Sm.nw (v:Sm):Prop:=v.x.texts∧(∀ a∈v.args,a.x.texts)∧v.x.size+Ar.br v.args<1000000
theorem kP {l nx:List aF} {n:Nat} (hn:n=l.length) (h:l.length+nx.length≤1000000000) {g:Tag} (o:List (List D)) :
 gn 1 16 (.slice (.tok 0) 1 (l.map encStr)) (.slice g 1 (nx.map encStr)) ⟨o,[some n]⟩=some (.slice (.tok 0) 1 ((l++nx).map encStr),⟨o,[some (l++nx).length]⟩):=by
 subst hn
 have:=pb (size:=1) (bytes:=16) (t:=0) (rows:=l.map encStr) (new:=nx.map encStr) (g:=g) (s:=⟨o,[some l.length]⟩) (by simp only[List.length_map];unfold bx;omega) (by simp)
 rw[this]
 simp
theorem BR {v:Sm} (hv:v.nw) (s:St):az Tryz.prog rN [.agg (a8 v)] s (.slice .shared 1 (v.said.map encStr)) s:=by
 refine az.pure ?_ (by simp only[D.bH,D.ok,mZ];rfl) (by simp only[D.ok,Tag.ok,eB];rfl) s
 obtain⟨BS,tO,eg⟩:=hv
 obtain⟨R,hG⟩ : ∃ R,v.said=R:=⟨_,rfl⟩
 rw[hG]
 simp only[Sm.said]at hG
 have hlen:v.args.length<1000000000:=by have:=Ar.ei v.args;omega
 have hx:=fun s=>nu (x:=v.x) (by omega) BS s
 have Nl:=lh v.x
 unfold S0
 refine az.go Gm rfl fun B Q hB hQ=>?_
 have⟨hC,hE,hM,hY⟩:=bC
 have hM:17≤bx:=by unfold bx;omega
 by_cases hb:(v.kind != 10 && v.name != [])=true
 ·simp only [Sm.ta,hb,if_true]at hG
  rw[Bool.and_eq_true]at hb
  obtain⟨b1,b2⟩:=hb
  have eR:=kP (l:= [v.name]) (nx:=v.x.names) (n:=1) rfl (by simp;omega) (g:= .shared)
  simp only[List.map_append,List.map_cons,List.map_nil,encStr]at eR
  have b3:(v.name == [])=false:=by simpa using b2
  repeat' (first
 |simp only[go_sem,hC,hE,hM,hY,b1,b2,b3,eR]
 |(with_reducible refine CU (hx _) ?_)
 | (with_reducible refine aB hQ ?_;exact bd))
  refine eS 1 1 ?_ ?_ (bg.ind (ι:=List Ar×Nat×List aF×Nat) (fun i=>v.args.drop i.2.1=i.1∧Ar.said i.2.2.1 i.1=R∧i.2.2.1.length+Ar.br i.1≤2000000∧i.2.2.2=i.2.2.1.length) (fun i=>i.1.length)
   (fun i=> [(3, .slice (.tok 0) 1 (i.2.2.1.map encStr)),(1, .ptr 0 0),(25, .slice .shared 6 (v.args.map eC)),(26, .int .i64 (v.args.length:Int)),(27, .int .i64 (i.2.1:Int))]) (fun i=>⟨[a8 v],[some i.2.2.2]⟩) ?_ (v.args,0,([v.name]++v.x.names),(v.x.names.length+1)) ⟨rfl,hG,by simp at Nl ⊢;omega,by simp⟩)
  ·(simp only[go_sem,hC,hE,hM,hY,List.map_append,List.map_cons,List.map_nil,encStr];try exact cr)
  ·(simp only[go_sem,hC,hE,hM,hY,List.map_append,List.map_cons,List.map_nil,encStr];try exact cr)
  rintro⟨rest,k,out,n'⟩ ⟨h1,h2,h3,h4⟩ IH
  dsimp only at h1 h2 h3 h4
  subst h4
  cases rest with
  |nil=>
   have hC:=drop_nil h1
   simp only[Ar.said]at h2
   subst h2
   repeat' (first
 |simp only[go_sem,hC,hE,hM,hY]
 | (with_reducible refine aB hQ ?_;exact bd))
  | cons a rest=>
   obtain⟨hE,g2,hC,g4⟩:=drop_cons h1
   have cj:k<4611686018427387904:=by omega
   simp only[Ar.said]at h2
   simp only[Ar.br]at h3
   have wX:=fun s=>nu (x:=a.x) (by have:=Ar.dd (List.mem_of_getElem? hE);omega) (tO a (List.mem_of_getElem? hE)) s
   have hl:=lh a.x
   have hM:(out.length+1)*17≤bx:=by unfold bx;omega
   rcases Bool.eq_false_or_eq_true a.ref with b1|b1
   ·simp only [b1,if_true]at h2
    have eR:=kP (l:=out++ [a.name]) (nx:=a.x.names) (n:=out.length+1) (by simp) (by simp;omega) (g:= .shared)
    simp only[List.map_append,List.map_cons,List.map_nil,encStr]at eR
    repeat' (first
 |simp only[go_sem,hC,hE,hM,hY,b1,eR]
 |(with_reducible refine CU (wX _) ?_)
 | (with_reducible refine aB hQ ?_;exact bd))
    refine eS 1 1 ?_ ?_ (IH (rest,k+1,out++ [a.name]++a.x.names,_) ⟨g2,h2,by simp;omega,by simp<;>omega⟩ (Nat.lt_succ_self _))
    ·(simp only[go_sem,hC,hE,hM,hY,aL cj,List.map_append,List.map_cons,List.map_nil,encStr];try exact cr)
    ·(simp only[go_sem,hC,hE,hM,hY,aL cj,List.map_append,List.map_cons,List.map_nil,encStr];try exact cr)
   ·simp only [b1,Bool.false_eq_true,if_false]at h2
    have eR:=kP (l:=out) (nx:=a.x.names) rfl (by omega) (g:= .shared)
    repeat' (first
 |simp only[go_sem,hC,hE,hM,hY,b1,eR]
 |(with_reducible refine CU (wX _) ?_)
 | (with_reducible refine aB hQ ?_;exact bd))
    refine eS 1 1 ?_ ?_ (IH (rest,k+1,out++a.x.names,_) ⟨g2,h2,by simp;omega,by simp<;>omega⟩ (Nat.lt_succ_self _))
    ·(simp only[go_sem,hC,hE,hM,hY,aL cj];try exact cr)
    ·(simp only[go_sem,hC,hE,hM,hY,aL cj];try exact cr)
 ·simp only [Sm.ta,hb,Bool.false_eq_true,if_false,List.nil_append]at hG
  have si:(v.kind != 10 && v.name != [])=false:=by simpa using hb
  obtain⟨nx,hnx⟩ : ∃ nx,nx=v.x.names:=⟨_,rfl⟩
  rw[← hnx]at hG Nl
  simp only[← hnx]at hx
  by_cases JU:nx = []
  ·subst JU
   simp only[List.map_nil]at hx
   have eR : ∀ o:List (List D),gn 1 16 (.slice .full 0 []) (.slice .shared 1 []) ⟨o,[]⟩=some (.slice .full 0 [],⟨o,[]⟩):=fun o=>by simp[gn,bx]
   have HB:(v.kind != 10)=false∨(v.kind != 10)=true∧(v.name != [])=false:=by
    cases h1:(v.kind != 10)
    ·exact .inl rfl
    ·rw[h1]at si;exact .inr ⟨rfl,by simpa using si⟩
   rcases HB with b1|⟨b1,b2⟩
   ·rcases Bool.eq_false_or_eq_true (v.name != [])with b2 | b2
    all_goals
     have b3:(v.name == []) = !(v.name != []):=by simp only[bne,Bool.not_not]
     rw[b2]at b3
     repeat' (first
 |simp only[go_sem,hC,hE,hM,hY,b1,b2,b3,Bool.not_true,Bool.not_false,eR]
 |(with_reducible refine CU (hx _) ?_)
 | (with_reducible refine aB hQ ?_;simp only [aQ,aS,bn,bo,go_sem,hC,hE,hM,hY];repeat' (first | exact Ok.out | with_reducible refine eL ?_ ?_ | (simp;done))))
    all_goals
     refine bg.pZ 3 1 rfl ?_
     simp only[go_sem,hC,hE,hM,hY]
     refine dQ 1 1 (bg.ind (ι:=List Ar×Nat×List aF×Nat) (fun i=>v.args.drop i.2.1=i.1∧Ar.said i.2.2.1 i.1=R∧i.2.2.1.length+Ar.br i.1≤2000000∧i.2.2.2=i.2.2.1.length) (fun i=>i.1.length)
      (fun i=> [(3, .slice (.tok 0) 1 (i.2.2.1.map encStr)),(1, .ptr 0 0),(25, .slice .shared 6 (v.args.map eC)),(26, .int .i64 (v.args.length:Int)),(27, .int .i64 (i.2.1:Int))]) (fun i=>⟨[a8 v],[some i.2.2.2]⟩) ?_ (v.args,0,[],0) ⟨rfl,hG,by simp at Nl ⊢;omega,by simp⟩)
     rintro⟨rest,k,out,n'⟩ ⟨h1,h2,h3,h4⟩ IH
     dsimp only at h1 h2 h3 h4
     subst h4
     cases rest with
     |nil=>
      have hC:=drop_nil h1
      simp only[Ar.said]at h2
      subst h2
      repeat' (first
 |simp only[go_sem,hC,hE,hM,hY]
 |(with_reducible refine aB hQ ?_;exact bd))
     | cons a rest=>
      obtain⟨hE,g2,hC,g4⟩:=drop_cons h1
      have cj:k<4611686018427387904:=by omega
      simp only[Ar.said]at h2
      simp only[Ar.br]at h3
      have wX:=fun s=>nu (x:=a.x) (by have:=Ar.dd (List.mem_of_getElem? hE);omega) (tO a (List.mem_of_getElem? hE)) s
      have hl:=lh a.x
      have hM:(out.length+1)*17≤bx:=by unfold bx;omega
      rcases Bool.eq_false_or_eq_true a.ref with b1|b1
      ·simp only [b1,if_true]at h2
       have eR:=kP (l:=out++ [a.name]) (nx:=a.x.names) (n:=out.length+1) (by simp) (by simp;omega) (g:= .shared)
       simp only[List.map_append,List.map_cons,List.map_nil,encStr]at eR
       repeat' (first
 |simp only[go_sem,hC,hE,hM,hY,b1,eR]
 |(with_reducible refine CU (wX _) ?_)
 |(with_reducible refine aB hQ ?_;exact bd))
       refine eS 1 1 ?_ ?_ (IH (rest,k+1,out++ [a.name]++a.x.names,_) ⟨g2,h2,by simp;omega,by simp<;>omega⟩ (Nat.lt_succ_self _))
       ·(simp only[go_sem,hC,hE,hM,hY,aL cj,List.map_append,List.map_cons,List.map_nil,encStr];try exact cr)
       ·(simp only[go_sem,hC,hE,hM,hY,aL cj,List.map_append,List.map_cons,List.map_nil,encStr];try exact cr)
      ·simp only [b1,Bool.false_eq_true,if_false]at h2
       have eR:=kP (l:=out) (nx:=a.x.names) rfl (by omega) (g:= .shared)
       repeat' (first
 |simp only[go_sem,hC,hE,hM,hY,b1,eR]
 |(with_reducible refine CU (wX _) ?_)
 | (with_reducible refine aB hQ ?_;exact bd))
       refine eS 1 1 ?_ ?_ (IH (rest,k+1,out++a.x.names,_) ⟨g2,h2,by simp;omega,by simp<;>omega⟩ (Nat.lt_succ_self _))
       ·(simp only[go_sem,hC,hE,hM,hY,aL cj];try exact cr)
       ·(simp only[go_sem,hC,hE,hM,hY,aL cj];try exact cr)
   ·have b3:(v.name == [])=true:=by simpa using b2
    repeat' (first
 |simp only[go_sem,hC,hE,hM,hY,b1,b2,b3,eR]
 |(with_reducible refine CU (hx _) ?_)
 | (with_reducible refine aB hQ ?_;exact bd))
    refine bg.pZ 3 1 rfl ?_
    simp only[go_sem,hC,hE,hM,hY]
    refine dQ 1 1 (bg.ind (ι:=List Ar×Nat×List aF×Nat) (fun i=>v.args.drop i.2.1=i.1∧Ar.said i.2.2.1 i.1=R∧i.2.2.1.length+Ar.br i.1≤2000000∧i.2.2.2=i.2.2.1.length) (fun i=>i.1.length)
     (fun i=> [(3, .slice (.tok 0) 1 (i.2.2.1.map encStr)),(1, .ptr 0 0),(25, .slice .shared 6 (v.args.map eC)),(26, .int .i64 (v.args.length:Int)),(27, .int .i64 (i.2.1:Int))]) (fun i=>⟨[a8 v],[some i.2.2.2]⟩) ?_ (v.args,0,[],0) ⟨rfl,hG,by simp at Nl ⊢;omega,by simp⟩)
    rintro⟨rest,k,out,n'⟩ ⟨h1,h2,h3,h4⟩ IH
    dsimp only at h1 h2 h3 h4
    subst h4
    cases rest with
    |nil=>
     have hC:=drop_nil h1
     simp only[Ar.said]at h2
     subst h2
     repeat' (first
 |simp only[go_sem,hC,hE,hM,hY]
 | (with_reducible refine aB hQ ?_;exact bd))
    | cons a rest=>
     obtain⟨hE,g2,hC,g4⟩:=drop_cons h1
     have cj:k<4611686018427387904:=by omega
     simp only[Ar.said]at h2
     simp only[Ar.br]at h3
     have wX:=fun s=>nu (x:=a.x) (by have:=Ar.dd (List.mem_of_getElem? hE);omega) (tO a (List.mem_of_getElem? hE)) s
     have hl:=lh a.x
     have hM:(out.length+1)*17≤bx:=by unfold bx;omega
     rcases Bool.eq_false_or_eq_true a.ref with b1|b1
     ·simp only [b1,if_true]at h2
      have eR:=kP (l:=out++ [a.name]) (nx:=a.x.names) (n:=out.length+1) (by simp) (by simp;omega) (g:= .shared)
      simp only[List.map_append,List.map_cons,List.map_nil,encStr]at eR
      repeat' (first
 |simp only[go_sem,hC,hE,hM,hY,b1,eR]
 |(with_reducible refine CU (wX _) ?_)
 |(with_reducible refine aB hQ ?_;exact bd))
      refine eS 1 1 ?_ ?_ (IH (rest,k+1,out++ [a.name]++a.x.names,_) ⟨g2,h2,by simp;omega,by simp<;>omega⟩ (Nat.lt_succ_self _))
      ·(simp only[go_sem,hC,hE,hM,hY,aL cj,List.map_append,List.map_cons,List.map_nil,encStr];try exact cr)
      ·(simp only[go_sem,hC,hE,hM,hY,aL cj,List.map_append,List.map_cons,List.map_nil,encStr];try exact cr)
     ·simp only [b1,Bool.false_eq_true,if_false]at h2
      have eR:=kP (l:=out) (nx:=a.x.names) rfl (by omega) (g:= .shared)
      repeat' (first
 |simp only[go_sem,hC,hE,hM,hY,b1,eR]
 |(with_reducible refine CU (wX _) ?_)
 | (with_reducible refine aB hQ ?_;exact bd))
      refine eS 1 1 ?_ ?_ (IH (rest,k+1,out++a.x.names,_) ⟨g2,h2,by simp;omega,by simp<;>omega⟩ (Nat.lt_succ_self _))
      ·(simp only[go_sem,hC,hE,hM,hY,aL cj];try exact cr)
      ·(simp only[go_sem,hC,hE,hM,hY,aL cj];try exact cr)
  ·have eR : ∀ o:List (List D),gn 1 16 (.slice .full 0 []) (.slice .shared 1 (nx.map encStr)) ⟨o,[]⟩=some (.slice (.tok 0) 1 (nx.map encStr),⟨o,[some nx.length]⟩):=fun o=>by
    have:nx.length*17≤bx:=by unfold bx;omega
    cases nx with
    |nil=>exact absurd rfl JU
    |cons a r=>simp only[List.length_cons]at this;simp[gn,this]
   have HB:(v.kind != 10)=false∨(v.kind != 10)=true∧(v.name != [])=false:=by
    cases h1:(v.kind != 10)
    ·exact .inl rfl
    ·rw[h1]at si;exact .inr ⟨rfl,by simpa using si⟩
   rcases HB with b1|⟨b1,b2⟩
   ·rcases Bool.eq_false_or_eq_true (v.name != [])with b2 | b2
    all_goals
     have b3:(v.name == []) = !(v.name != []):=by simp only[bne,Bool.not_not]
     rw[b2]at b3
     repeat' (first
 |simp only[go_sem,hC,hE,hM,hY,b1,b2,b3,Bool.not_true,Bool.not_false,eR]
 |(with_reducible refine CU (hx _) ?_)
 | (with_reducible refine aB hQ ?_;simp only [aQ,aS,bn,bo,go_sem,hC,hE,hM,hY];repeat' (first | exact Ok.out | with_reducible refine eL ?_ ?_ | (simp;done))))
    all_goals
     refine dQ 1 1 (bg.ind (ι:=List Ar×Nat×List aF×Nat) (fun i=>v.args.drop i.2.1=i.1∧Ar.said i.2.2.1 i.1=R∧i.2.2.1.length+Ar.br i.1≤2000000∧i.2.2.2=i.2.2.1.length) (fun i=>i.1.length)
      (fun i=> [(3, .slice (.tok 0) 1 (i.2.2.1.map encStr)),(1, .ptr 0 0),(25, .slice .shared 6 (v.args.map eC)),(26, .int .i64 (v.args.length:Int)),(27, .int .i64 (i.2.1:Int))]) (fun i=>⟨[a8 v],[some i.2.2.2]⟩) ?_ (v.args,0,nx,_) ⟨rfl,hG,by simp at Nl ⊢;omega,by simp⟩)
     rintro⟨rest,k,out,n'⟩ ⟨h1,h2,h3,h4⟩ IH
     dsimp only at h1 h2 h3 h4
     subst h4
     cases rest with
     |nil=>
      have hC:=drop_nil h1
      simp only[Ar.said]at h2
      subst h2
      repeat' (first
 |simp only[go_sem,hC,hE,hM,hY]
 |(with_reducible refine aB hQ ?_;exact bd))
     | cons a rest=>
      obtain⟨hE,g2,hC,g4⟩:=drop_cons h1
      have cj:k<4611686018427387904:=by omega
      simp only[Ar.said]at h2
      simp only[Ar.br]at h3
      have wX:=fun s=>nu (x:=a.x) (by have:=Ar.dd (List.mem_of_getElem? hE);omega) (tO a (List.mem_of_getElem? hE)) s
      have hl:=lh a.x
      have hM:(out.length+1)*17≤bx:=by unfold bx;omega
      rcases Bool.eq_false_or_eq_true a.ref with b1|b1
      ·simp only [b1,if_true]at h2
       have eR:=kP (l:=out++ [a.name]) (nx:=a.x.names) (n:=out.length+1) (by simp) (by simp;omega) (g:= .shared)
       simp only[List.map_append,List.map_cons,List.map_nil,encStr]at eR
       repeat' (first
 |simp only[go_sem,hC,hE,hM,hY,b1,eR]
 |(with_reducible refine CU (wX _) ?_)
 |(with_reducible refine aB hQ ?_;exact bd))
       refine eS 1 1 ?_ ?_ (IH (rest,k+1,out++ [a.name]++a.x.names,_) ⟨g2,h2,by simp;omega,by simp<;>omega⟩ (Nat.lt_succ_self _))
       ·(simp only[go_sem,hC,hE,hM,hY,aL cj,List.map_append,List.map_cons,List.map_nil,encStr];try exact cr)
       ·(simp only[go_sem,hC,hE,hM,hY,aL cj,List.map_append,List.map_cons,List.map_nil,encStr];try exact cr)
      ·simp only [b1,Bool.false_eq_true,if_false]at h2
       have eR:=kP (l:=out) (nx:=a.x.names) rfl (by omega) (g:= .shared)
       repeat' (first
 |simp only[go_sem,hC,hE,hM,hY,b1,eR]
 |(with_reducible refine CU (wX _) ?_)
 | (with_reducible refine aB hQ ?_;exact bd))
       refine eS 1 1 ?_ ?_ (IH (rest,k+1,out++a.x.names,_) ⟨g2,h2,by simp;omega,by simp<;>omega⟩ (Nat.lt_succ_self _))
       ·(simp only[go_sem,hC,hE,hM,hY,aL cj];try exact cr)
       ·(simp only[go_sem,hC,hE,hM,hY,aL cj];try exact cr)
   ·have b3:(v.name == [])=true:=by simpa using b2
    repeat' (first
 |simp only[go_sem,hC,hE,hM,hY,b1,b2,b3,eR]
 |(with_reducible refine CU (hx _) ?_)
 | (with_reducible refine aB hQ ?_;exact bd))
    refine dQ 1 1 (bg.ind (ι:=List Ar×Nat×List aF×Nat) (fun i=>v.args.drop i.2.1=i.1∧Ar.said i.2.2.1 i.1=R∧i.2.2.1.length+Ar.br i.1≤2000000∧i.2.2.2=i.2.2.1.length) (fun i=>i.1.length)
     (fun i=> [(3, .slice (.tok 0) 1 (i.2.2.1.map encStr)),(1, .ptr 0 0),(25, .slice .shared 6 (v.args.map eC)),(26, .int .i64 (v.args.length:Int)),(27, .int .i64 (i.2.1:Int))]) (fun i=>⟨[a8 v],[some i.2.2.2]⟩) ?_ (v.args,0,nx,_) ⟨rfl,hG,by simp at Nl ⊢;omega,by simp⟩)
    rintro⟨rest,k,out,n'⟩ ⟨h1,h2,h3,h4⟩ IH
    dsimp only at h1 h2 h3 h4
    subst h4
    cases rest with
    |nil=>
     have hC:=drop_nil h1
     simp only[Ar.said]at h2
     subst h2
     repeat' (first
 |simp only[go_sem,hC,hE,hM,hY]
 | (with_reducible refine aB hQ ?_;exact bd))
    | cons a rest=>
     obtain⟨hE,g2,hC,g4⟩:=drop_cons h1
     have cj:k<4611686018427387904:=by omega
     simp only[Ar.said]at h2
     simp only[Ar.br]at h3
     have wX:=fun s=>nu (x:=a.x) (by have:=Ar.dd (List.mem_of_getElem? hE);omega) (tO a (List.mem_of_getElem? hE)) s
     have hl:=lh a.x
     have hM:(out.length+1)*17≤bx:=by unfold bx;omega
     rcases Bool.eq_false_or_eq_true a.ref with b1|b1
     ·simp only [b1,if_true]at h2
      have eR:=kP (l:=out++ [a.name]) (nx:=a.x.names) (n:=out.length+1) (by simp) (by simp;omega) (g:= .shared)
      simp only[List.map_append,List.map_cons,List.map_nil,encStr]at eR
      repeat' (first
 |simp only[go_sem,hC,hE,hM,hY,b1,eR]
 |(with_reducible refine CU (wX _) ?_)
 |(with_reducible refine aB hQ ?_;exact bd))
      refine eS 1 1 ?_ ?_ (IH (rest,k+1,out++ [a.name]++a.x.names,_) ⟨g2,h2,by simp;omega,by simp<;>omega⟩ (Nat.lt_succ_self _))
      ·(simp only[go_sem,hC,hE,hM,hY,aL cj,List.map_append,List.map_cons,List.map_nil,encStr];try exact cr)
      ·(simp only[go_sem,hC,hE,hM,hY,aL cj,List.map_append,List.map_cons,List.map_nil,encStr];try exact cr)
     ·simp only [b1,Bool.false_eq_true,if_false]at h2
      have eR:=kP (l:=out) (nx:=a.x.names) rfl (by omega) (g:= .shared)
      repeat' (first
 |simp only[go_sem,hC,hE,hM,hY,b1,eR]
 |(with_reducible refine CU (wX _) ?_)
 |(with_reducible refine aB hQ ?_;exact bd))
      refine eS 1 1 ?_ ?_ (IH (rest,k+1,out++a.x.names,_) ⟨g2,h2,by simp;omega,by simp<;>omega⟩ (Nat.lt_succ_self _))
      ·(simp only[go_sem,hC,hE,hM,hY,aL cj];try exact cr)
      ·(simp only[go_sem,hC,hE,hM,hY,aL cj];try exact cr)
theorem k7 : ∀ (a b:List It) (n:Nat),It.fl n (a++b)=(It.fl n a && It.fl (n+a.length) b)
 | [],b,n=>by simp[It.fl]
 |i::a,b,n=>by
  simp only[List.cons_append,It.fl,k7 a b (n+1),List.length_cons]
  have:n+1+a.length=n+(a.length+1):=by omega
  rw[this]
  split<;>simp
theorem Fk (n:Nat) (i:It):It.fl n [i] = true↔i.s.id=((n+1:Nat):Int)∧i.deep≤12∧i.s.one=true:=by
 simp only[It.fl]
 split
 ·rename_i h
  simp only[Bool.or_eq_true,bne_iff_ne,ne_eq,decide_eq_true_eq,Bool.not_eq_true']at h
  refine⟨fun h=>(Bool.false_ne_true h).elim,fun⟨h1,h2,h3⟩=>?_⟩
  rcases h with (h|h)|h
  ·exact(h h1).elim
  ·omega
  ·rw[h]at h3;cases h3
 ·rename_i h
  simp only[Bool.or_eq_true,bne_iff_ne,ne_eq,decide_eq_true_eq,Bool.not_eq_true',not_or,Decidable.not_not,Bool.not_eq_false]at h
  exact⟨fun _=>⟨h.1.1,by omega,h.2⟩,fun _=>rfl⟩
mutual
theorem BT (deep dD:Int) (bc:Bool) : ∀ (s:Sm) (out:List It),∃ new,kx deep dD bc out s=out++(⟨s,deep,dD,bc⟩::new)
 | ⟨id,kind,labels,name,proc,x,has,args,bm,e⟩,out=>by
  simp only[kx]
  split
  ·obtain⟨n1,h1⟩:=q7 (deep+1) id false bm (out++ [⟨⟨id,kind,labels,name,proc,x,has,args,bm,e⟩,deep,dD,bc⟩])
   obtain⟨n2,h2⟩:=q7 (deep+1) id true e (fO (deep+1) id false (out++ [⟨⟨id,kind,labels,name,proc,x,has,args,bm,e⟩,deep,dD,bc⟩]) bm)
   rw[h2,h1]
   exact⟨n1++n2,by simp⟩
  ·exact⟨[],rfl⟩
theorem q7 (deep dD:Int) (bc:Bool) : ∀ (l:List Sm) (out:List It),∃ new,fO deep dD bc out l=out++new
 | [],out=>⟨[],by simp[fO]⟩
 | s::l,out=>by
  simp only[fO]
  split
  ·obtain⟨n1,h1⟩:=BT deep dD bc s out
   obtain⟨n2,h2⟩:=q7 deep dD bc l (kx deep dD bc out s)
   rw[h2,h1]
   exact⟨⟨s,deep,dD,bc⟩::n1++n2,by simp⟩
  ·exact⟨[],by simp⟩
end
theorem HA {nest:Int} {n:Nat} {s:Sm} (h:(Sm.qa nest n s).1=true) :
 n+1≤200∧s.id=((n+1:Nat):Int)∧s.one=true∧(Sm.gA (nest+1) (n+1) s.bm).1=true∧(Sm.gA (nest+1) (Sm.gA (nest+1) (n+1) s.bm).2 s.bc).1=true∧
 (Sm.qa nest n s).2=(Sm.gA (nest+1) (Sm.gA (nest+1) (n+1) s.bm).2 s.bc).2:=by
 rw[Gz]at h ⊢
 split at h
 ·cases h
 rename_i h1
 simp only[Bool.or_eq_true,bne_iff_ne,ne_eq,decide_eq_true_eq,Bool.not_eq_true',not_or,Decidable.not_not,Bool.not_eq_false]at h1
 split at h
 ·cases h
 rename_i h2
 have uF:(Sm.gA (nest+1) (n+1) s.bm).1=true:=by simpa using h2
 refine⟨by omega,h1.1.1.2, ?_,uF,h, ?_⟩
 ·rw[Fj,h1.1.2,h1.2];rfl
 ·rw[if_neg (by simp only[Bool.or_eq_true,bne_iff_ne,ne_eq,decide_eq_true_eq,Bool.not_eq_true',not_or,Decidable.not_not,Bool.not_eq_false];exact h1),if_neg h2]
theorem tP {nest:Int} {n:Nat} {l:List Sm} (h:(Sm.gA nest n l).1=true):(l = []∨nest≤12)∧Sm.gA nest n l=Sm.ff nest n l:=by
 unfold Sm.gA gate at *
 split at h
 ·cases h
 ·rename_i hc
  rw[if_neg hc]
  refine⟨?_,rfl⟩
  simp only[Bool.and_eq_true,decide_eq_true_eq,not_and]at hc
  cases l with
  |nil=>exact .inl rfl
  |cons s l=>right;simp only[List.length_cons]at hc;omega
mutual
theorem TP : ∀ (s:Sm) (nest dD:Int) (bc:Bool) (n:Nat) (out:List It),nest≤12→out.length≤n→n≤200→(Sm.qa nest n s).1=true→
 ∃ new,kx nest dD bc out s=out++new∧It.fl n new=true∧n+new.length=(Sm.qa nest n s).2∧(Sm.qa nest n s).2≤200
 | ⟨id,kind,labels,name,proc,x,has,args,bm,e⟩,nest,dD,bc,n,out,TQ,ho,hn,h=>by
  obtain⟨h1,h2,h3,h4,h5,h6⟩:=HA h
  dsimp only at h2 h4 h5 h6
  rw[h6]
  obtain⟨g1,e1⟩:=tP h4
  rw[e1]at h4 h5 ⊢
  obtain⟨g2,e2⟩:=tP h5
  rw[e2]at h5 ⊢
  have pU:It.fl n [(⟨⟨id,kind,labels,name,proc,x,has,args,bm,e⟩,nest,dD,bc⟩:It)] = true:=(Fk _ _).2 ⟨h2,TQ,h3⟩
  obtain⟨n1,k1,k2,k3,k4⟩:=wY bm (nest+1) id false (n+1) (out++ [⟨⟨id,kind,labels,name,proc,x,has,args,bm,e⟩,nest,dD,bc⟩]) g1 (by simp;omega) h1 h4
  obtain⟨n2,j1,j2,j3,j4⟩:=wY e (nest+1) id true _ (out++ [⟨⟨id,kind,labels,name,proc,x,has,args,bm,e⟩,nest,dD,bc⟩]++n1) g2 (by simp;omega) k4 h5
  simp only[kx]
  rw[if_pos (by simpa using TQ),k1,j1]
  refine⟨⟨⟨id,kind,labels,name,proc,x,has,args,bm,e⟩,nest,dD,bc⟩::(n1++n2),by simp, ?_, ?_,j4⟩
  ·have:(⟨⟨id,kind,labels,name,proc,x,has,args,bm,e⟩,nest,dD,bc⟩:It)::(n1++n2) = [⟨⟨id,kind,labels,name,proc,x,has,args,bm,e⟩,nest,dD,bc⟩]++n1++n2:=by simp
   rw[this,k7,k7,pU,Bool.true_and]
   have e3:n+([(⟨⟨id,kind,labels,name,proc,x,has,args,bm,e⟩,nest,dD,bc⟩:It)]++n1).length=(Sm.ff (nest+1) (n+1) bm).2:=by simp;omega
   rw[e3,j2]
   have e4:n + [(⟨⟨id,kind,labels,name,proc,x,has,args,bm,e⟩,nest,dD,bc⟩:It)].length=n+1:=rfl
   rw[e4,k2];rfl
  ·simp only[List.length_cons,List.length_append];omega
theorem wY : ∀ (l:List Sm) (nest dD:Int) (bc:Bool) (n:Nat) (out:List It),(l = []∨nest≤12)→out.length≤n→n≤200→(Sm.ff nest n l).1=true→
 ∃ new,fO nest dD bc out l=out++new∧It.fl n new=true∧n+new.length=(Sm.ff nest n l).2∧(Sm.ff nest n l).2≤200
 | [],nest,dD,bc,n,out,TQ,ho,hn,h=>⟨[],by simp[fO],rfl,by simp[Sm.ff],by simpa[Sm.ff]using hn⟩
 |s::l,nest,dD,bc,n,out,TQ,ho,hn,h=>by
  have aeO:nest≤12:=TQ.resolve_left (by simp)
  simp only[Sm.ff]at h ⊢
  split at h
  ·cases h
  rename_i hc
  rw[if_neg hc]
  obtain⟨n1,k1,k2,k3,k4⟩:=TP s nest dD bc n out aeO ho hn (by simpa using hc)
  obtain⟨n2,j1,j2,j3,j4⟩:=wY l nest dD bc _ (out++n1) (.inr aeO) (by simp;omega) k4 h
  simp only[fO]
  rw[if_pos (by simp only[decide_eq_true_eq];omega),k1,j1]
  refine⟨n1++n2,by simp, ?_,by simp;omega,j4⟩
  rw[k7,k2,k3,j2];rfl
end
mutual
theorem TR : ∀ (s:Sm) (nest dD:Int) (bc:Bool) (n:Nat) (out new:List It),kx nest dD bc out s=out++new→It.fl n new=true→out.length≤n→n+new.length≤200→
 Sm.qa nest n s=(true,n+new.length)∧nest≤12
 | ⟨id,kind,labels,name,proc,x,has,args,bm,e⟩,nest,dD,bc,n,out,new,jf,hm,ho,hn=>by
  obtain⟨n0,h0⟩:=BT nest dD bc ⟨id,kind,labels,name,proc,x,has,args,bm,e⟩ out
  have e0:new = ⟨⟨id,kind,labels,name,proc,x,has,args,bm,e⟩,nest,dD,bc⟩::n0:=List.append_cancel_left (jf.symm.trans h0)
  subst e0
  have aib:(⟨⟨id,kind,labels,name,proc,x,has,args,bm,e⟩,nest,dD,bc⟩:It)::n0 = [⟨⟨id,kind,labels,name,proc,x,has,args,bm,e⟩,nest,dD,bc⟩]++n0:=rfl
  rw[aib,k7,Bool.and_eq_true]at hm
  obtain⟨ny,jG⟩:=hm
  obtain⟨c1,c2,c3⟩:=(Fk _ _).1 ny
  dsimp only at c1 c2 c3
  simp only[List.length_cons]at hn ⊢
  have W2:fO (nest+1) id true (fO (nest+1) id false (out++ [⟨⟨id,kind,labels,name,proc,x,has,args,bm,e⟩,nest,dD,bc⟩]) bm) e=out++([⟨⟨id,kind,labels,name,proc,x,has,args,bm,e⟩,nest,dD,bc⟩]++n0):=by
   simp only[kx]at jf
   rw[if_pos (by simpa using c2)]at jf
   exact jf
  obtain⟨n1,g1⟩:=q7 (nest+1) id false bm (out++ [⟨⟨id,kind,labels,name,proc,x,has,args,bm,e⟩,nest,dD,bc⟩])
  obtain⟨n2,g2⟩:=q7 (nest+1) id true e (fO (nest+1) id false (out++ [⟨⟨id,kind,labels,name,proc,x,has,args,bm,e⟩,nest,dD,bc⟩]) bm)
  have en:n0=n1++n2:=by
   rw[g2,g1]at W2
   simp only[List.append_assoc,List.append_cancel_left_eq]at W2
   exact W2.symm
  subst en
  have W3:It.fl (n+1) (n1++n2)=true:=jG
  rw[k7,Bool.and_eq_true]at W3
  simp only[List.length_append]at hn ⊢
  obtain⟨r1,r2⟩:=wZ bm (nest+1) id false (n+1) _ n1 g1 W3.1 (by simp;omega) (by omega)
  obtain⟨q1,q2⟩:=wZ e (nest+1) id true (n+1+n1.length) _ n2 g2 W3.2 (by rw[g1];simp;omega) (by omega)
  refine⟨?_,c2⟩
  have gg : ∀ {l:List Sm} {m:Nat} {r:Bool×Nat},Sm.ff (nest+1) m l=r→(l = []∨nest+1≤12)→Sm.gA (nest+1) m l=r:=by
   intro l m r h1 h2
   unfold Sm.gA gate
   rw[if_neg]
   ·exact h1
   ·simp only [Bool.and_eq_true,decide_eq_true_eq,not_and]
    rcases h2 with h2|h2
    ·subst h2;simp
    ·omega
  have t1:=gg r1 r2
  have t2:=gg q1 q2
  rw[Gz]
  dsimp only
  rw[t1]
  dsimp only
  rw[t2]
  rw[Fj,Bool.and_eq_true]at c3
  rw[if_neg]
  ·simp;omega
  ·simp only [Bool.or_eq_true,bne_iff_ne,ne_eq,decide_eq_true_eq,Bool.not_eq_true',not_or,Decidable.not_not,Bool.not_eq_false]
   exact⟨⟨⟨by omega,c1⟩,c3.1⟩,c3.2⟩
theorem wZ : ∀ (l:List Sm) (nest dD:Int) (bc:Bool) (n:Nat) (out new:List It),fO nest dD bc out l=out++new→It.fl n new=true→out.length≤n→n+new.length≤200→
 Sm.ff nest n l=(true,n+new.length)∧(l = []∨nest≤12)
 | [],nest,dD,bc,n,out,new,jf,hm,ho,hn=>by
  simp only[fO]at jf
  have:new = []:=by simpa using jf
  subst this
  exact⟨by simp[Sm.ff], .inl rfl⟩
 | s::l,nest,dD,bc,n,out,new,jf,hm,ho,hn=>by
  simp only[fO]at jf
  rw[if_pos (by simp only[decide_eq_true_eq];omega)]at jf
  obtain⟨n1,g1⟩:=BT nest dD bc s out
  obtain⟨n2,g2⟩:=q7 nest dD bc l (kx nest dD bc out s)
  have en:new=(⟨s,nest,dD,bc⟩::n1)++n2:=by
   rw[g2,g1,List.append_assoc,List.append_cancel_left_eq]at jf
   exact jf.symm
  subst en
  rw[k7,Bool.and_eq_true]at hm
  rw[List.length_append]at hn ⊢
  obtain⟨r1,r2⟩:=TR s nest dD bc n out _ g1 hm.1 ho (by omega)
  obtain⟨q1,q2⟩:=wZ l nest dD bc (n+(⟨s,nest,dD,bc⟩::n1:List It).length) _ n2 g2 hm.2 (by rw[g1,List.length_append];omega) (by omega)
  refine⟨?_, .inr r2⟩
  simp only[Sm.ff,r1,Bool.not_true,Bool.false_eq_true,↓reduceIte,q1]
  congr 1;omega
end
theorem BU : ∀ (l:List Pc) (out:List It),out.length≤200→(Pc.ff out.length l=true↔Pc.pI l=true∧∃ new,allM out l=out++new∧(out++new).length≤200∧It.fl out.length new=true)
 | [],out,ho=>by simp[Pc.ff,Pc.pI,allM,It.fl];exact ho
 | f::l,out,ho=>by
  have qb : ∀ (l:List Pc) (out:List It),∃ new,allM out l=out++new:=by
   intro l
   induction l with
   |nil=>intro out;exact⟨[],by simp[allM]⟩
   | cons f l ih=>
    intro out
    simp only[allM]
    split
    ·exact⟨_,rfl⟩
    ·obtain⟨n1,h1⟩:=ih (out++f.flat)
     exact⟨f.flat++n1,by rw[h1,List.append_assoc]⟩
  simp only[Pc.ff,Pc.pI]
  have aic:(decide ((f.params.length:Int) > 8) ||decide ((f.vars.length:Int) > 16) || !(isName f.name) || !(eo f.vars) || !(eo f.fin))=(!(isName f.name) ||decide ((f.params.length:Int) > 8) ||decide ((f.vars.length:Int) > 16) || !(eo f.vars) || !(eo f.fin)):=by
   cases isName f.name<;>simp
  rw[aic]
  split
  ·simp
  split
  ·simp
  have hg:Sm.gA 1 out.length f.body=Sm.ff 1 out.length f.body:=by unfold Sm.gA gate;rw[if_neg (by simp)]
  rw[hg]
  constructor
  ·intro h
   split at h
   ·cases h
   rename_i hc
   obtain⟨n1,k1,k2,k3,k4⟩:=wY f.body 1 0 false out.length [] (.inr (by omega)) (by simp) ho (by simpa using hc)
   have jf:f.flat=n1:=by unfold Pc.flat;rw[k1];rfl
   rw[← k3, ← List.length_append]at h
   obtain⟨hh,n2,j1,j2,j3⟩:=(BU l (out++n1) (by rw[List.length_append];omega)).1 h
   refine⟨hh,n1++n2, ?_,by simpa using j2, ?_⟩
   ·simp only [allM,jf]
    rw[if_neg (by simp only[List.length_append,decide_eq_true_eq];omega),j1,List.append_assoc]
   ·rw[k7,k2, ← List.length_append,j3];rfl
  ·rintro⟨hh,new,j1,j2,j3⟩
   simp only[allM]at j1
   split at j1
   ·rename_i hc
    have:new=f.flat:=(List.append_cancel_left j1).symm
    subst this
    simp only[decide_eq_true_eq]at hc
    omega
   rename_i hc
   simp only[decide_eq_true_eq]at hc
   obtain⟨n2,g2⟩:=qb l (out++f.flat)
   have en:new=f.flat++n2:=by
    rw[g2,List.append_assoc]at j1
    exact(List.append_cancel_left j1).symm
   subst en
   rw[k7,Bool.and_eq_true]at j3
   rw[List.length_append,List.length_append]at j2
   obtain⟨r1,_⟩:=wZ f.body 1 0 false out.length [] f.flat (by unfold Pc.flat;rfl) j3.1 (by simp) (by omega)
   rw[r1]
   simp only[Bool.not_true,Bool.false_eq_true,↓reduceIte]
   rw[← List.length_append]
   exact(BU l (out++f.flat) (by rw[List.length_append];omega)).2 ⟨hh,n2,g2,by simp;omega,by rw[List.length_append];exact j3.2⟩
theorem CF (p:Pg):p.GD=p.may:=by
 have h:=BU p.procs [] (by simp)
 unfold Pg.GD Pg.may
 split
 ·rfl
 ·have e:Pc.ff 0 p.procs=(if !(Pc.pI p.procs)then false else if decide ((p.all.length:Int) > 200)then false else It.fl 0 p.all):=by
   rw[Bool.eq_iff_iff]
   have h':Pc.ff 0 p.procs=true↔_:=h
   rw[h']
   have ha:p.all=allM [] p.procs:=rfl
   constructor
   ·rintro⟨h1,new,h2,h3,h4⟩
    rw[ha,h2,h1]
    simp only[List.nil_append]at h3 ⊢
    simp only[Bool.not_true,Bool.false_eq_true,↓reduceIte]
    rw[if_neg (by simp only[decide_eq_true_eq];omega)]
    exact h4
   ·intro h1
    cases hh:Pc.pI p.procs
    ·rw[hh]at h1;simp at h1
    ·rw [hh]at h1
     simp only[Bool.not_true,Bool.false_eq_true,↓reduceIte]at h1
     split at h1
     ·cases h1
     ·rename_i hc
      simp only[decide_eq_true_eq]at hc
      exact⟨rfl,p.all,by rw[ha];rfl,by simp;omega,h1⟩
  exact e
theorem Fl {size bytes z:Nat} {g:Tag} {rows:List (List D)} {s:St} (h:rows.length*(bytes+1)≤bx) (hr:rows≠ []) :
 gn size bytes (.slice .full z []) (.slice g size rows) s=some (.slice (.tok s.aw.length) size rows,⟨s.ah,s.aw++ [some rows.length]⟩):=by
 cases rows with
 |nil=>exact absurd rfl hr
 |cons r l=>simp only[gn];simp at h ⊢;exact h
theorem w7 {l:List aF} (hl:l.length<1073741824) (g:Tag) (s:St):az Tryz.prog fe [.slice g 1 (l.map encStr)] s (.slice .shared 1 (l.map encStr)) s:=by
 refine bP.ox (.cons (Wk.shared _ _ _) .nil) (az.pure ?_ (by simp[D.bH,D.ok,Tag.ok,eB]) (by simp[D.ok,Tag.ok,eB]) s)
 unfold S0
 refine az.go lO rfl fun B Q hB hQ=>?_
 have⟨hC,hE,hM,hY⟩:=bC
 cases l with
 |nil=>
  repeat' (first
 |simp only[go_sem,hC,hE,hM,hY]
 |(with_reducible refine aB hQ ?_;exact bd))
  refine DT (fun _=>?_) ?_
  ·repeat' (first
 |simp only[go_sem,hC,hE,hM,hY,gn,true_or,Nat.zero_le]
 |(with_reducible refine aB hQ ?_;exact bd))
  ·repeat' (first
 |simp only[go_sem,hC,hE,hM,hY,gn,true_or,Nat.zero_le]
 |(with_reducible refine aB hQ ?_;exact bd))
 |cons x l=>
  have e:((x::l).map encStr).length*(16+1)≤bx:=by simp only[List.length_map,bx];omega
  have e2:=fun s=>Fl (size:=1) (z:=1) (g:= .shared) (s:=s) e (by simp)
  simp only[List.map_cons,encStr]at e2
  repeat' (first
 |simp only[go_sem,hC,hE,hM,hY,e2]
 |(with_reducible refine aB hQ ?_;exact bd))
theorem W4 {l:List Pm} (hl:l.length<1073741824) (g:Tag) (s:St):az Tryz.prog lD [.slice g 2 (l.map gM)] s (.slice .shared 2 (l.map gM)) s:=by
 refine bP.ox (.cons (Wk.shared _ _ _) .nil) (az.pure ?_ (by simp[D.bH,D.ok,Tag.ok,Qg]) (by simp[D.ok,Tag.ok,Qg]) s)
 unfold S0
 refine az.go uu rfl fun B Q hB hQ=>?_
 have⟨hC,hE,hM,hY⟩:=bC
 cases l with
 |nil=>
  repeat' (first
 |simp only[go_sem,hC,hE,hM,hY]
 |(with_reducible refine aB hQ ?_;exact bd))
  refine DT (fun _=>?_) ?_
  ·repeat' (first
 |simp only[go_sem,hC,hE,hM,hY,gn,true_or,Nat.zero_le]
 |(with_reducible refine aB hQ ?_;exact bd))
  ·repeat' (first
 |simp only[go_sem,hC,hE,hM,hY,gn,true_or,Nat.zero_le]
 |(with_reducible refine aB hQ ?_;exact bd))
 |cons x l=>
  have e:((x::l).map gM).length*(24+1)≤bx:=by simp only[List.length_map,bx];omega
  have e2:=fun s=>Fl (size:=2) (z:=2) (g:= .shared) (s:=s) e (by simp)
  simp only[List.map_cons,encStr]at e2
  repeat' (first
 |simp only[go_sem,hC,hE,hM,hY,e2]
 |(with_reducible refine aB hQ ?_;exact bd))
theorem aeP : ∀ n,n<1073741824→∀ x:Ex,x.size≤n→az Tryz.prog my [.agg (bI x)] S0 (.agg (bI x)) S0:=by
 intro n
 induction n with
 |zero=>rintro _ ⟨op,m,name,kids⟩ h;simp only[Ex.size]at h;omega
 |succ n ihn=>
 rintro hn ⟨op,m,name,kids⟩ hx
 have hk : ∀ y∈kids,∀ s,az Tryz.prog my [.agg (bI y)] s (.agg (bI y)) s:=fun y hy s=>
  (ihn (by omega) y (by simp only[Ex.size]at hx;have:=Ex.dd hy;omega)).pure (by simp[D.bH,D.ok,gS]) (by simp[D.ok,gS]) s
 have hlen:kids.length<1073741824:=by simp only[Ex.size]at hx;have:=Ex.ei kids;omega
 unfold S0
 refine az.go Ij rfl fun B Q hB hQ=>?_
 have⟨hC,hE,hM,hY⟩:=bC
 repeat' (first
 |simp only[go_sem,hC,hE,hM,hY]
 |(with_reducible refine aB hQ ?_;exact bd))
 refine bg.qL 0 3 4 rfl rfl ?_
 simp only[go_sem,hC,hE,hM,hY]
 refine dQ 2 1 (bg.ind (ι:=List Ex×Nat×List Ex) (fun i=>kids.drop i.2.1=i.1∧i.2.1=i.2.2.length∧i.2.2++i.1=kids) (fun i=>i.1.length)
  (fun i=> [(1, .ptr 0 0),(2, .ptr 1 0),(9, .slice .shared 4 (kids.map bI)),(10, .int .i64 (kids.length:Int)),(11, .int .i64 (i.2.1:Int))])
  (fun i=>⟨[[.int .i64 op, .int .i64 m, .str name, .slice (.tok 0) 4 (i.2.2.map bI)],bI qg],[some i.2.1]⟩) ?_ (kids,0,[]) ⟨rfl,rfl,rfl⟩)
 rintro⟨rest,k,acc⟩ ⟨h1,h2,h3⟩ IH
 dsimp only at h1 h2 h3
 subst h2
 cases rest with
 |nil=>
  have hC:=drop_nil h1
  rw[List.append_nil]at h3
  subst h3
  repeat' (first
 |simp only[go_sem,hC,hE,hM,hY]
 |(with_reducible refine aB hQ ?_;exact bd))
 |cons y rest=>
  obtain⟨hE,g2,hC,g4⟩:=drop_cons h1
  have hM:acc.length<4611686018427387904:=by omega
  have fL:(acc.length+1)*57≤bx:=by simp only[bx];omega
  have hy:=hk y (List.mem_of_getElem? hE)
  repeat' (first
 |simp only[go_sem,hC,hE,hM,hY,fL]
 |(with_reducible refine CU (hy _) ?_)
 |(with_reducible refine aB hQ ?_;exact bd))
  refine dQ 2 1 (IH (rest,acc.length+1,acc++ [y]) ⟨g2,by simp,by simp only[List.append_assoc,List.cons_append,List.nil_append];exact h3⟩ (Nat.lt_succ_self _))
theorem TS {x:Ex} (h:x.size<1073741824) (s:St):az Tryz.prog my [.agg (bI x)] s (.agg (bI x)) s:=
 (aeP x.size h x (Nat.le_refl _)).pure (by simp[D.bH,D.ok,gS]) (by simp[D.ok,gS]) s
abbrev Zq (b:Bool) (N:Nat):Prop:=∀ l:List Sm,Sm.br l<N→∀ n:Nat,n+Sm.br l<1073741824→∀ s:St,
 az Tryz.prog kN [.slice .shared 13 (l.map a8), .int .i64 (n:Int), .bool b] s (.tuple [.slice .shared 13 ((Sm.ie b n l).1.map a8), .int .i64 ((Sm.ie b n l).2:Int)]) s
theorem W5 {N:Nat} (ih:Zq true N) (l:List Sm) (hl:Sm.br l<N+1) (n:Nat) (hn:n+Sm.br l<1073741824) :
 az Tryz.prog kN [.slice .shared 13 (l.map a8), .int .i64 (n:Int), .bool true] S0 (.tuple [.slice .shared 13 ((Sm.ie true n l).1.map a8), .int .i64 ((Sm.ie true n l).2:Int)]) S0:=by
 unfold S0
 refine az.go EZ rfl fun B Q hB hQ=>?_
 have⟨hC,hE,hM,hY⟩:=bC
 repeat' (first
 |simp only[go_sem,hC,hE,hM,hY]
 |(with_reducible refine aB hQ ?_;exact bd))
 have hlen:l.length<1073741824:=by have:=Sm.ei l;omega
 refine bg.pZ 8 13 rfl ?_
 simp only[go_sem,hC,hE,hM,hY]
 refine dQ 0 1 (bg.ind (ι:=List Sm×Nat×List Sm×Nat) (fun i=>l.drop i.2.1=i.1∧i.2.1=i.2.2.1.length∧Sm.ie true n l=(i.2.2.1++(Sm.ie true i.2.2.2 i.1).1,(Sm.ie true i.2.2.2 i.1).2)∧i.2.2.2+Sm.br i.1≤n+Sm.br l) (fun i=>i.1.length)
  (fun i=> [(1, .int .i64 (i.2.2.2:Int)),(2, .bool true),(8, .slice (.tok 0) 13 (i.2.2.1.map a8)),(14, .slice .shared 13 (l.map a8)),(15, .int .i64 (l.length:Int)),(16, .int .i64 (i.2.1:Int))])
  (fun i=>⟨[],[some i.2.1]⟩) ?_ (l,0,[],n) ⟨rfl,rfl,rfl,Nat.le_refl _⟩)
 rintro⟨rest,k,acc,m⟩ ⟨h1,h2,h3,h4⟩ IH
 dsimp only at h1 h2 h3 h4
 subst h2
 cases rest with
 |nil=>
  have hC:=drop_nil h1
  simp only[Sm.ie,List.append_nil]at h3
  rw[h3]at hQ
  repeat' (first
 |simp only[go_sem,hC,hE,hM,hY]
 |(with_reducible refine aB hQ ?_;exact bd))
 |cons y rest=>
  obtain⟨hE,g2,hC,g4⟩:=drop_cons h1
  simp only[Sm.br]at h4 hl
  have hm:m<4611686018427387904:=by omega
  have hk:acc.length<4611686018427387904:=by omega
  have eg:y.size≤N:=by have:=Sm.dd (List.mem_of_getElem? hE);omega
  obtain⟨id,kind,labels,name,proc,x,has,args,bm,bc⟩:=y
  simp only[Sm.size]at eg h4
  have fL:(acc.length+1)*209≤bx:=by simp only[bx];omega
  have hx:=fun s=>TS (x:=x) (by omega) s
  simp only[jz]at hx
  have nF:=fun g s=>w7 (l:=labels) (by omega) g s
  have Aw:=Ar.ei args
  repeat' (first
 |simp only[go_sem,hC,hE,hM,hY,aL hm]
 |(with_reducible refine CU (nF _ _) ?_)
 |(with_reducible refine CU (hx _) ?_)
 | (with_reducible refine aB hQ ?_;exact bd))
  refine bg.qL 1 10 6 rfl rfl ?_
  simp only[go_sem,hC,hE,hM,hY]
  refine dQ 2 2 (bg.ind (ι:=List Ar×Nat×List Ar) (fun i=>args.drop i.2.1=i.1∧i.2.1=i.2.2.length∧i.2.2++i.1=args) (fun i=>i.1.length)
   (fun i=> [(1, .int .i64 ((m+1:Nat):Int)),(2, .bool true),(8, .slice (.tok 0) 13 (acc.map a8)),(10, .ptr 0 0),(11, .ptr 1 0),(14, .slice .shared 13 (l.map a8)),(15, .int .i64 (l.length:Int)),(16, .int .i64 (acc.length:Int)),
    (36, .slice .shared 6 (args.map eC)),(37, .int .i64 (args.length:Int)),(38, .int .i64 (i.2.1:Int))])
   (fun i=>⟨[a8 ⟨id,kind,labels,name,proc,x,has,args,bm,bc⟩,[.int .i64 ((m+1:Nat):Int), .int .i64 kind, .slice .shared 1 (labels.map encStr), .str name, .str proc, .int .i64 x.op, .int .i64 x.n, .str x.name, .slice .shared 4 (x.kids.map bI), .bool has, .slice (.tok 1) 6 (i.2.2.map eC), .slice .shared 13 (bm.map a8), .slice .shared 13 (bc.map a8)]],[some acc.length,some i.2.1]⟩) ?_ (args,0,[]) ⟨rfl,rfl,rfl⟩)
  rintro⟨QX,ka,GF⟩ ⟨j1,j2,j3⟩ IHa
  dsimp only at j1 j2 j3
  subst j2
  cases QX with
  |nil=>
   have hC:=drop_nil j1
   rw[List.append_nil]at j3
   subst j3
   have b1:=Sm.vh true (m+1) bm
   have b2:=Sm.vh true (Sm.ie true (m+1) bm).2 bc
   have c1:=ih bm (by omega) (m+1) (by omega)
   have c2:=ih bc (by omega) (Sm.ie true (m+1) bm).2 (by omega)
   repeat' (first
 |simp only[go_sem,hC,hE,hM,hY,fL]
 |(with_reducible refine CU (c1 _) ?_)
 |(with_reducible refine CU (c2 _) ?_)
 | (with_reducible refine aB hQ ?_;exact bd))
   refine eS 0 1 ?_ ?_ (IH (rest,acc.length+1,acc++ [(Sm.num true m ⟨id,kind,labels,name,proc,x,has,GF,bm,bc⟩).1],(Sm.num true m ⟨id,kind,labels,name,proc,x,has,GF,bm,bc⟩).2) ⟨g2,by simp,by rw[h3];simp[Sm.ie],by simp only[Sm.num];omega⟩ (Nat.lt_succ_self _))
   ·(simp only[go_sem,hC,hE,hM,hY,aL hk,Sm.num];try exact cr)
   ·(simp only[go_sem,hC,hE,hM,hY,aL hk,Sm.num];try exact cr)
  |cons a QX=>
   obtain⟨hE,g2,hC,g4⟩:=drop_cons j1
   have ha:a.x.size<1073741824:=by have:=Ar.dd (List.mem_of_getElem? hE);omega
   have Hd:GF.length<4611686018427387904:=by omega
   have aeQ:(GF.length+1)*81≤bx:=by simp only[bx];omega
   have hxa:=fun s=>TS ha s
   simp only[jz]at hxa
   obtain⟨asU,aid,ax⟩:=a
   repeat' (first
 |simp only[go_sem,hC,hE,hM,hY,aeQ]
 |(with_reducible refine CU (hxa _) ?_)
 | (with_reducible refine aB hQ ?_;exact bd))
   refine eS 2 2 ?_ ?_ (IHa (QX,GF.length+1,GF++ [⟨asU,aid,ax⟩]) ⟨g2,by simp,by simp only[List.append_assoc,List.cons_append,List.nil_append];exact j3⟩ (Nat.lt_succ_self _))
   ·(simp only[go_sem,hC,hE,hM,hY,aL Hd];try exact cr)
   ·(simp only[go_sem,hC,hE,hM,hY,aL Hd];try exact cr)
theorem aaW : ∀ N,Zq true N:=by
 intro N
 induction N with
 |zero=>intro l hl;exact absurd hl (Nat.not_lt_zero _)
 |succ N ih=>
  intro l hl n hn s
  exact(W5 ih l hl n hn).pure (by simp[D.bH,D.ok,Tag.ok,oM]) (by simp[D.bH,D.ok,Tag.ok,oM]) s
theorem aie {l:List Sm} {n:Nat} (h:n+Sm.br l<1073741824) (s:St) :
 az Tryz.prog kN [.slice .shared 13 (l.map a8), .int .i64 (n:Int), .bool true] s (.tuple [.slice .shared 13 ((Sm.ie true n l).1.map a8), .int .i64 ((Sm.ie true n l).2:Int)]) s:=
 aaW _ l (Nat.lt_succ_self _) n h s
theorem W6 {p:Pg} (hp:p.size<1073741824):az Tryz.prog qz [.agg (cR p)] S0 (.agg (cR p.number)) S0:=by
 obtain⟨globals,procs⟩:=p
 simp only[Pg.size]at hp
 have hlen:procs.length<1073741824:=by have:=Pc.ei procs;omega
 have hcg:=fun g s=>w7 (l:=globals) (by omega) g s
 unfold S0
 refine az.go EX rfl fun B Q hB hQ=>?_
 have⟨hC,hE,hM,hY⟩:=bC
 repeat' (first
 |simp only[go_sem,hC,hE,hM,hY]
 |(with_reducible refine CU (hcg _ _) ?_)
 |(with_reducible first|refine aX fun hc=>?_|refine aY fun hc=>?_|refine aZ (fun hc=>?_) fun hc=>?_)<;>(try simp only[hc,bs,↓reduceIte]at h)<;>try simp only[hc]
 |(with_reducible refine aB hQ ?_;exact bd))
 refine bg.qL 2 1 5 rfl rfl ?_
 simp only[go_sem,hC,hE,hM,hY]
 refine dQ 3 1 (bg.ind (ι:=List Pc×Nat×List Pc×Nat) (fun i=>procs.drop i.2.1=i.1∧i.2.1=i.2.2.1.length∧Pc.ie 0 procs=i.2.2.1++Pc.ie i.2.2.2 i.1∧i.2.2.2+Pc.br i.1≤Pc.br procs) (fun i=>i.1.length)
  (fun i=> [(2, .ptr 1 0),(3, .int .i64 (i.2.2.2:Int)),(4, .ptr 2 0),(13, .slice .shared 5 (procs.map cH)),(14, .int .i64 (procs.length:Int)),(15, .int .i64 (i.2.1:Int))])
  (fun i=>⟨[cR ⟨globals,procs⟩,cR Yz,[.slice .shared 1 (globals.map encStr), .slice (.tok 0) 5 (i.2.2.1.map cH)]],[some i.2.1]⟩) ?_ (procs,0,[],0) ⟨rfl,rfl,rfl,by dsimp only;omega⟩)
 rintro⟨rest,k,acc,m⟩ ⟨h1,h2,h3,h4⟩ IH
 dsimp only at h1 h2 h3 h4
 subst h2
 cases rest with
 |nil=>
  have hC:=drop_nil h1
  simp only[Pc.ie,List.append_nil]at h3
  subst h3
  repeat' (first
 |simp only[go_sem,hC,hE,hM,hY,Pg.number]
 |(with_reducible first|refine aX fun hc=>?_|refine aY fun hc=>?_|refine aZ (fun hc=>?_) fun hc=>?_)<;>(try simp only[hc,bs,↓reduceIte]at h)<;>try simp only[hc]
 |(with_reducible refine aB hQ ?_;simp only[aQ,aS,bn,bo,go_sem,hC,hE,hM,hY,Pg.number];try exact bR))
 |cons y rest=>
  obtain⟨hE,g2,hC,g4⟩:=drop_cons h1
  simp only[Pc.br]at h4
  have eg:=Pc.dd (List.mem_of_getElem? hE)
  obtain⟨name,params,vars,body,fin⟩:=y
  simp only[Pc.size]at eg h4
  have hk:acc.length<4611686018427387904:=by omega
  have fL:(acc.length+1)*113≤bx:=by simp only[bx];omega
  have c1:=fun g s=>W4 (l:=params) (by omega) g s
  have c2:=fun g s=>w7 (l:=vars) (by omega) g s
  have c3:=fun g s=>w7 (l:=fin) (by omega) g s
  have c4:=fun s=>aie (l:=body) (n:=m) (by omega) s
  have b1:=Sm.vh true m body
  repeat' (first
 |simp only[go_sem,hC,hE,hM,hY,fL]
 |(with_reducible refine CU (c1 _ _) ?_)
 |(with_reducible refine CU (c2 _ _) ?_)
 |(with_reducible refine CU (c3 _ _) ?_)
 |(with_reducible refine CU (c4 _) ?_)
 |(with_reducible refine aB hQ ?_;exact bd))
  refine eS 3 1 ?_ ?_ (IH (rest,acc.length+1,acc++ [⟨name,params,vars,(Sm.ie true m body).1,fin⟩],(Sm.ie true m body).2) ⟨g2,by simp,by rw[h3];simp[Pc.ie],by dsimp only;omega⟩ (Nat.lt_succ_self _))
  ·(simp only[go_sem,hC,hE,hM,hY,aL hk];try exact cr)
  ·(simp only[go_sem,hC,hE,hM,hY,aL hk];try exact cr)
theorem W7 {p q:Pg} (h:p.Gd=some q) (s:St):az Tryz.prog qz [.agg (cR p)] s (.agg (cR q)) s:=by
 unfold Pg.Gd at h
 split at h
 ·cases h;exact(W6 ‹_›).pure (by simp[D.bH,D.ok,jT]) (by simp[D.ok,jT]) s
 ·cases h
def asV (x:aF):List aF→Bool
 | []=>false
 |s::l=>if x==s then true else asV x l
def qp (pre:List aF):List aF→Bool
 | []=>false
 |s::l=>if fq pre s then true else qp (pre++ [s]) l
def fD (l:List aF):Bool:=qp [] l
theorem TT {l:List aF} {k:Nat} {a:aF} (h:l[k]? = some a):l.take (k+1)=l.take k++ [a]:=by rw[List.take_add_one,h];rfl
theorem Ea {l:List aF} (hl:l.length<4611686018427387904) (g:Tag) (s:St):az Tryz.prog oe [.slice g 1 (l.map encStr)] s (.bool (fD l)) s:=by
 refine az.Zm (d':= .slice .shared 1 (l.map encStr)) ?_ (Wk.shared _ _ _)
 refine az.pure ?_ (by simp[D.bH,D.ok,Tag.ok,eB]) rfl s
 generalize h:fD l=p
 simp only[fD]at h
 unfold S0
 refine az.go E4 rfl fun B Q hB hQ=>?_
 have⟨hC,hE,hM,hY⟩:=bC
 repeat' (first
 |simp only[go_sem,hC,hE,hM,hY]
 |(with_reducible first|refine aX fun hc=>?_|refine aY fun hc=>?_|refine aZ (fun hc=>?_) fun hc=>?_)<;>(try simp only[hc,bs,↓reduceIte]at h)<;>try simp only[hc]
 |(with_reducible refine aB hQ ?_;exact er))
 refine dQ 0 0 (bg.ind (ι:=List aF×Nat) (fun i=>l.drop i.2=i.1∧qp (l.take i.2) i.1=p) (fun i=>i.1.length)
  (fun i=> [(0, .slice .shared 1 (l.map encStr)),(5, .slice .shared 1 (l.map encStr)),(6, .int .i64 (l.length:Int)),(7, .int .i64 (i.2:Int))]) (fun i=>⟨[],[]⟩) ?_ (l,0) ⟨rfl,h⟩)
 rintro⟨rest,k⟩ ⟨h1,h⟩ IH
 dsimp only at h1 h
 cases rest with
 |nil=>
  have hC:=drop_nil h1
  simp only[qp]at h
  repeat' (first
 |simp only[go_sem,hC,hE,hM,hY]
 |(with_reducible first|refine aX fun hc=>?_|refine aY fun hc=>?_|refine aZ (fun hc=>?_) fun hc=>?_)<;>(try simp only[hc,bs,↓reduceIte]at h)<;>try simp only[hc]
 |(with_reducible refine aB hQ ?_;exact er))
 |cons a rest=>
  obtain⟨hE,g2,hC,g4⟩:=drop_cons h1
  have cj:k<4611686018427387904:=by omega
  simp only[qp]at h
  have hc:=jF (l:=l.take k) (by rw[List.length_take];omega) a
  have e1:List.drop 0 (List.take k (l.map encStr))=(l.take k).map encStr:=by simp[List.map_take]
  have c1:((0:Int)≤(k:Int))=True:=by simp
  have c2:((k:Int)≤(l.length:Int))=True:=by simp only[eq_iff_iff,iff_true];omega
  have e2:List.take k (l.map encStr)=(l.take k).map encStr:=by simp[List.map_take]
  repeat' (first
 |simp only[go_sem,hC,hE,hM,hY,e1,e2,c1,c2,or_true,true_and,and_self,ite_self,Int.toNat_natCast,List.drop_zero]
 |(with_reducible refine CU (hc _ _) ?_)
 |(with_reducible first|refine aX fun hc=>?_|refine aY fun hc=>?_|refine aZ (fun hc=>?_) fun hc=>?_)<;>(try simp only[hc,bs,↓reduceIte]at h)<;>try simp only[hc]
 |(with_reducible refine aB hQ ?_;(try cases h);simp only[aQ,aS,bn,bo,go_sem,hC,hE,hM,hY,e1,e2,c1,c2,or_true,true_and,and_self,ite_self,Int.toNat_natCast,List.drop_zero];try exact bR))
  refine eS 0 0 ?_ ?_ (IH (rest,k+1) ⟨g2,by dsimp only;rw[TT (by assumption)];exact h⟩ (Nat.lt_succ_self _))
  ·(simp only[go_sem,hC,hE,hM,hY,aL cj];try exact cr)
  ·(simp only[go_sem,hC,hE,hM,hY,aL cj];try exact cr)
def w8 (vars globals:List aF) (name:aF):List Pm→Int
 | []=>if fq vars name then 4 else if fq globals name then 1 else 0
 |a::l=>if a.name==name then(if a.ref then 3 else 2)else w8 vars globals name l
def Pc.ly (p:Pg) (f:Pc) (name:aF):Int:=w8 f.vars p.globals name f.params
theorem K6 {p:Pg} {f:Pc} (hp:f.params.length<1000000000) (hv:f.vars.length<1000000000) (hg:p.globals.length<1000000000) (name:aF) (s:St):az Tryz.prog vH [.agg (cR p), .agg (cH f), .str name] s (.int .i64 (f.ly p name)) s:=by
 refine az.pure ?_ (by simp[D.bH,D.ok,jT,xv]) rfl s
 have sk:=jF (l:=f.vars) (by omega) name
 have uF:=jF (l:=p.globals) (by omega) name
 generalize h:f.ly p name=q
 simp only[Pc.ly]at h
 unfold S0
 refine az.go Gn rfl fun B Q hB hQ=>?_
 have⟨hC,hE,hM,hY⟩:=bC
 repeat' (first
 |simp only[go_sem,hC,hE,hM,hY]
 |(with_reducible refine aB hQ ?_;exact bd))
 refine dQ 2 0 (bg.ind (ι:=List Pm×Nat) (fun i=>f.params.drop i.2=i.1∧w8 f.vars p.globals name i.1=q) (fun i=>i.1.length)
  (fun i=> [(2, .str name),(3, .ptr 0 0),(4, .ptr 1 0),(10, .slice .shared 2 (f.params.map gM)),(11, .int .i64 (f.params.length:Int)),(12, .int .i64 (i.2:Int))]) (fun i=>⟨[cR p,cH f],[]⟩) ?_ (f.params,0) ⟨rfl,h⟩)
 rintro⟨rest,k⟩ ⟨h1,h⟩ IH
 dsimp only at h1 h
 cases rest with
 | nil=>
  have hC:=drop_nil h1
  simp only[w8]at h
  rcases Bool.eq_false_or_eq_true (fq f.vars name)with b1|b1
  ·simp only [b1,if_true]at h
   subst h
   repeat' (first
 |simp only[go_sem,hC,hE,hM,hY,b1]
 |(with_reducible refine CU (sk _ _) ?_)
 |(with_reducible refine CU (uF _ _) ?_)
 | (with_reducible refine aB hQ ?_;exact bd))
  ·simp only [b1,Bool.false_eq_true,if_false]at h
   rcases Bool.eq_false_or_eq_true (fq p.globals name)with b2|b2
   ·simp only [b2,if_true]at h
    subst h
    repeat' (first
 |simp only[go_sem,hC,hE,hM,hY,b1,b2]
 |(with_reducible refine CU (sk _ _) ?_)
 |(with_reducible refine CU (uF _ _) ?_)
 | (with_reducible refine aB hQ ?_;exact bd))
   ·simp only [b2,Bool.false_eq_true,if_false]at h
    subst h
    repeat' (first
 |simp only[go_sem,hC,hE,hM,hY,b1,b2]
 |(with_reducible refine CU (sk _ _) ?_)
 |(with_reducible refine CU (uF _ _) ?_)
 |(with_reducible refine aB hQ ?_;exact bd))
 | cons a rest=>
  obtain⟨hE,g2,hC,g4⟩:=drop_cons h1
  have cj:k<4611686018427387904:=by omega
  simp only[w8]at h
  rcases Bool.eq_false_or_eq_true (a.name==name)with b1|b1
  ·simp only [b1,if_true]at h
   rcases Bool.eq_false_or_eq_true a.ref with b2|b2
   ·simp only [b2,if_true]at h
    subst h
    repeat' (first
 |simp only[go_sem,hC,hE,hM,hY,b1,b2]
 | (with_reducible refine aB hQ ?_;exact bd))
   ·simp only [b2,Bool.false_eq_true,if_false]at h
    subst h
    repeat' (first
 |simp only[go_sem,hC,hE,hM,hY,b1,b2]
 | (with_reducible refine aB hQ ?_;exact bd))
  ·simp only [b1,Bool.false_eq_true,if_false]at h
   repeat' (first
 |simp only[go_sem,hC,hE,hM,hY,b1]
 | (with_reducible refine aB hQ ?_;exact bd))
   refine eS 2 0 ?_ ?_ (IH (rest,k+1) ⟨g2,h⟩ (Nat.lt_succ_self _))
   ·(simp only[go_sem,hC,hE,hM,hY,aL cj];try exact cr)
   ·(simp only[go_sem,hC,hE,hM,hY,aL cj];try exact cr)
def iS (name:aF):List Pc→Option Pc
 | []=>none
 |f::l=>if f.name==name then some f else iS name l
def Pg.find (p:Pg) (name:aF):Option Pc:=iS name p.procs
def pc0:Pc:=⟨[],[],[],[],[]⟩
def atv (r:Option Pc):D:= .tuple [.agg (cH (r.getD pc0)), .bool r.isSome]
def Pc.tQ (f:Pc):List aF:=f.params.map (·.name)
def Pc.own (f:Pc):List aF:=f.tQ++f.vars
theorem Zr {f:Pc} (hp:f.params.length<1000000) (hv:f.vars.length<1000000) (s:St):az Tryz.prog s6 [.agg (cH f)] s (.slice .shared 1 (f.own.map encStr)) s:=by
 refine az.pure ?_ (by simp[D.bH,D.ok,xv]) (by simp only[D.ok,Tag.ok,eB];rfl) s
 generalize hR:f.own=R
 simp only[Pc.own]at hR
 unfold S0
 refine az.go Ih rfl fun B Q hB hQ=>?_
 have⟨hC,hE,hM,hY⟩:=bC
 repeat' (first
 |simp only[go_sem,hC,hE,hM,hY]
 |(with_reducible refine aB hQ ?_;exact bd))
 refine bg.pZ 3 1 rfl ?_
 simp only[go_sem,hC,hE,hM,hY]
 refine dQ 1 1 (bg.ind (ι:=List Pm×Nat×List aF×Nat) (fun i=>f.params.drop i.2.1=i.1∧i.2.2.1++i.1.map (·.name)=f.tQ∧i.2.2.2=i.2.2.1.length) (fun i=>i.1.length)
  (fun i=> [(1, .ptr 0 0),(3, .slice (.tok 0) 1 (i.2.2.1.map encStr)),(7, .slice .shared 2 (f.params.map gM)),(8, .int .i64 (f.params.length:Int)),(9, .int .i64 (i.2.1:Int))]) (fun i=>⟨[cH f],[some i.2.2.2]⟩) ?_ (f.params,0,[],0) ⟨rfl,rfl,rfl⟩)
 rintro⟨rest,k,out,n⟩ ⟨h1,h2,h3⟩ IH
 dsimp only at h1 h2 h3
 subst h3
 have hlo:out.length+rest.length<1000000:=by
  have:=congrArg List.length h2
  simp only[List.length_append,List.length_map,Pc.tQ]at this
  omega
 cases rest with
 |nil=>
  have hC:=drop_nil h1
  simp only[List.map_nil,List.append_nil]at h2
  subst hR
  rw[← h2]at hQ
  have eR:=kP (l:=out) (nx:=f.vars) rfl (by omega) (g:= .shared)
  repeat' (first
 |simp only[go_sem,hC,hE,hM,hY,eR]
 |(with_reducible refine aB hQ ?_;exact bd))
 |cons a rest=>
  obtain⟨hE,g2,hC,g4⟩:=drop_cons h1
  have cj:k<4611686018427387904:=by omega
  have hM:(out.length+1)*17≤bx:=by unfold bx;omega
  repeat' (first
 |simp only[go_sem,hC,hE,hM,hY]
 |(with_reducible refine aB hQ ?_;exact bd))
  refine eS 1 1 ?_ ?_ (IH (rest,k+1,out++ [a.name],out.length+1) ⟨g2,by rw[← h2];simp,by simp⟩ (Nat.lt_succ_self _))
  ·(simp only[go_sem,hC,hE,hM,hY,aL cj,List.map_append,List.map_cons,List.map_nil,encStr];try exact cr)
  ·(simp only[go_sem,hC,hE,hM,hY,aL cj,List.map_append,List.map_cons,List.map_nil,encStr];try exact cr)
def l6:aF:= [109,97,105,110]
def Sm.known (p:Pg) (f:Pc) (procs:List aF) (v:Sm):Bool:=
 !(v.said.any fun n=>f.ly p n==0) && (v.kind != 4 ||(v.proc != l6 && fq procs v.proc))
structure Pc.Small (p:Pg) (f:Pc):Prop where
 par:f.params.length<1000000
 vars:f.vars.length<1000000
 ux:p.globals.length<1000000
def CG (p:Pg) (f:Pc):List aF→Bool
 | []=>true
 |n::l=>if f.ly p n==0 then false else CG p f l
theorem HC (p:Pg) (f:Pc) : ∀ l,CG p f l = !(l.any fun n=>f.ly p n==0)
 | []=>rfl
 |n::l=>by
  simp only[CG,List.any_cons,HC p f l]
  cases (f.ly p n==0)<;>simp
theorem K7 (v:Sm) (h:v.nw):v.said.length<3000000:=by
 have : ∀ (l:List Ar) (out:List aF),(Ar.said out l).length≤out.length+2*Ar.br l:=by
  intro l
  induction l with
  |nil=>intro out;simp[Ar.said]
  |cons a l ih=>
   intro out
   simp only[Ar.said,Ar.br]
   refine Nat.le_trans (ih _) ?_
   have:=lh a.x
   have:1≤a.x.size:=by obtain⟨_,_,_,_⟩:=a.x;simp[Ex.size]
   simp only[List.length_append]
   split<;>simp<;>omega
 have h1:=this v.args (v.ta++v.x.names)
 have h2:=lh v.x
 have h3:=h.2.2
 have h4:v.ta.length≤1:=by unfold Sm.ta;split<;>simp
 simp only[List.length_append]at h1
 unfold Sm.said
 omega
theorem aaX {p:Pg} {f:Pc} {procs:List aF} {v:Sm} (hs:f.Small p) (yT:procs.length<1000000) (hv:v.nw) (s:St):az Tryz.prog qB [.agg (cR p), .agg (cH f), .slice .shared 1 (procs.map encStr), .agg (a8 v)] s (.bool (v.known p f procs)) s:=by
 refine az.pure ?_ (by simp[D.bH,D.ok,jT,xv,mZ,Tag.ok,eB]) rfl s
 have hn:=fun s=>BR hv s
 have hk:=fun n s=>K6 (p:=p) (f:=f) (by have:=hs.par;omega) (by have:=hs.vars;omega) (by have:=hs.ux;omega) n s
 have aeR:=jF (l:=procs) (by omega) v.proc
 have hl:=K7 v hv
 generalize h:v.known p f procs=q
 simp only[Sm.known, ← HC]at h
 unfold S0
 refine az.go E5 rfl fun B Q hB hQ=>?_
 have⟨hC,hE,hM,hY⟩:=bC
 repeat' (first
 |simp only[go_sem,hC,hE,hM,hY]
 |(with_reducible refine CU (hn _) ?_)
 |(with_reducible refine aB hQ ?_;exact bd))
 refine dQ 3 0 (bg.ind (ι:=List aF×Nat) (fun i=>v.said.drop i.2=i.1∧(CG p f i.1 && (v.kind != 4 ||(v.proc != l6 && fq procs v.proc)))=q) (fun i=>i.1.length)
  (fun i=> [(2, .slice .shared 1 (procs.map encStr)),(4, .ptr 0 0),(5, .ptr 1 0),(7, .ptr 2 0),(12, .slice .shared 1 (v.said.map encStr)),(13, .int .i64 (v.said.length:Int)),(14, .int .i64 (i.2:Int))]) (fun i=>⟨[cR p,cH f,a8 v],[]⟩) ?_ (v.said,0) ⟨rfl,h⟩)
 rintro⟨rest,k⟩ ⟨h1,h⟩ IH
 dsimp only at h1 h
 cases rest with
 | nil=>
  have hC:=drop_nil h1
  simp only[CG,Bool.true_and]at h
  rcases Bool.eq_false_or_eq_true (v.kind != 4)with b1|b1
  ·simp only [b1,Bool.true_or]at h
   subst h
   repeat' (first
 |simp only[go_sem,hC,hE,hM,hY,b1]
 | (with_reducible refine aB hQ ?_;exact bd))
  ·simp only [b1,Bool.false_or]at h
   rcases Bool.eq_false_or_eq_true (v.proc != l6)with b2|b2
   ·simp only [b2,Bool.true_and]at h
    unfold l6 at b2
    have b3:(v.proc == [109,97,105,110]) = !(v.proc != [109,97,105,110]):=by simp only[bne,Bool.not_not]
    rw[b2]at b3
    simp only[Bool.not_true,Bool.not_false]at b3
    subst h
    repeat' (first
 |simp only[go_sem,hC,hE,hM,hY,b1,b2,b3]
 |(with_reducible refine CU (aeR _ _) ?_)
 | (with_reducible refine aB hQ ?_;exact bd))
   ·simp only [b2,Bool.false_and]at h
    unfold l6 at b2
    have b3:(v.proc == [109,97,105,110]) = !(v.proc != [109,97,105,110]):=by simp only[bne,Bool.not_not]
    rw[b2]at b3
    simp only[Bool.not_true,Bool.not_false]at b3
    subst h
    repeat' (first
 |simp only[go_sem,hC,hE,hM,hY,b1,b2,b3]
 |(with_reducible refine CU (aeR _ _) ?_)
 |(with_reducible refine aB hQ ?_;exact bd))
 | cons a rest=>
  obtain⟨hE,g2,hC,g4⟩:=drop_cons h1
  have cj:k<4611686018427387904:=by omega
  simp only[CG]at h
  rcases Bool.eq_false_or_eq_true (f.ly p a==0)with b1|b1
  ·simp only [b1,if_true,Bool.false_and]at h
   subst h
   repeat' (first
 |simp only[go_sem,hC,hE,hM,hY,b1]
 |(with_reducible refine CU (hk _ _) ?_)
 | (with_reducible refine aB hQ ?_;exact bd))
  ·simp only [b1,Bool.false_eq_true,if_false]at h
   repeat' (first
 |simp only[go_sem,hC,hE,hM,hY,b1]
 |(with_reducible refine CU (hk _ _) ?_)
 | (with_reducible refine aB hQ ?_;exact bd))
   refine eS 3 0 ?_ ?_ (IH (rest,k+1) ⟨g2,h⟩ (Nat.lt_succ_self _))
   ·(simp only[go_sem,hC,hE,hM,hY,aL cj];try exact cr)
   ·(simp only[go_sem,hC,hE,hM,hY,aL cj];try exact cr)
theorem Nn : ∀ (l pre:List aF),qp pre l=true↔(∃ x∈l,x∈pre)∨¬ l.Nodup
 | [],pre=>by simp[qp]
 | s::l,pre=>by
  simp only[qp]
  by_cases h:fq pre s=true
  ·simp only [h,if_true,true_iff]
   exact .inl ⟨s,List.mem_cons_self,(jc _ _).1 h⟩
  ·have h':s∉pre:=fun m=>h ((jc _ _).2 m)
   simp only[h,if_false,Bool.false_eq_true]
   rw[Nn l (pre++ [s])]
   simp only[List.mem_append,List.mem_singleton,List.mem_cons,List.nodup_cons,exists_eq_or_imp]
   constructor
   ·rintro(⟨x,m,h1 | h1⟩ | h1)
    ·exact .inl (.inr ⟨x,m,h1⟩)
    ·have h1:x=s:=by simpa using h1
     subst h1;exact .inr fun h=>h.1 m
    ·exact .inr fun h=>h1 h.2
   ·rintro((h1 | ⟨x,m,h1⟩) | h1)
    ·exact absurd h1 h'
    ·exact .inl ⟨x,m, .inl h1⟩
    ·by_cases m:s∈l
     ·exact .inl ⟨s,m, .inr (.inl rfl)⟩
     ·exact .inr fun h=>h1 ⟨m,h⟩
theorem HD (l:List aF):fD l=true↔¬ l.Nodup:=by
 unfold fD;rw[Nn];simp
theorem TU (a b:List aF):fD (a++b)=(fD a ||(fD b ||b.any (fq a))):=by
 have h:fD (a++b)=true↔(fD a ||(fD b ||b.any (fq a)))=true:=by
  rw[HD,List.nodup_append]
  simp only[Bool.or_eq_true,HD,List.any_eq_true,jc]
  constructor
  ·intro h
   by_cases ha:a.Nodup
   ·by_cases hb:b.Nodup
    ·refine .inr (.inr (Classical.byContradiction fun hn=>h ⟨ha,hb,fun x hx y hy e=>hn ⟨y,hy,e ▸ hx⟩⟩))
    ·exact .inr (.inl hb)
   ·exact .inl ha
  ·rintro(h | h | ⟨x,h1,h2⟩) ⟨h3,h4,h5⟩
   ·exact h h3
   ·exact h h4
   ·exact h5 x h2 x h1 rfl
 cases h1:fD (a++b)<;>cases h2:(fD a ||(fD b ||b.any (fq a)))<;>simp_all
theorem K8 (name:aF) : ∀ (l:List Pc) (k:Nat),(iS name l=none∧jb name (k:Int) (l.map (·.name)) = -1)∨∃ f j,iS name l=some f∧l[j]? = some f∧jb name (k:Int) (l.map (·.name))=((k+j:Nat):Int)
 | [],k=> .inl ⟨rfl,rfl⟩
 | f::l,k=>by
  by_cases h:f.name=name
  ·subst h
   refine .inr ⟨f,0,by simp[iS],rfl,by simp[jb]⟩
  ·have h1:(f.name==name)=false:=by simp [h]
   have h2:(name==f.name)=false:=by simp[Ne.symm h]
   simp only[iS,h1,Bool.false_eq_true,if_false,List.map_cons,jb,h2]
   rcases K8 name l (k+1)with ⟨g1,g2⟩|⟨g,j,g1,g2,g3⟩
   ·exact .inl ⟨g1,by rw[← g2];rfl⟩
   ·refine .inr ⟨g,j+1,g1,by simpa using g2, ?_⟩
    rw[show((k:Int)+1)=((k+1:Nat):Int)from rfl,g3]
    congr 1;omega
theorem sJ {name:aF} {f:Pc} : ∀ {l:List Pc},iS name l=some f→f∈l∧f.name=name
 |g::l,h=>by
  simp only[iS]at h
  split at h
  ·rename_i e;cases h;exact⟨List.mem_cons_self,by simpa using e⟩
  ·have:=sJ h;exact⟨List.mem_cons_of_mem _ this.1,this.2⟩
mutual
theorem TV (deep dD:Int) (bc:Bool) (out:List It) : ∀ s:Sm,∃ e,kx deep dD bc out s=out++e
 | ⟨id,kind,labels,name,proc,x,has,args,bm,e⟩=>by
  simp only[kx]
  split
  ·obtain⟨e1,h1⟩:=tR (deep+1) id false (out++ [⟨⟨id,kind,labels,name,proc,x,has,args,bm,e⟩,deep,dD,bc⟩]) bm
   obtain⟨e2,h2⟩:=tR (deep+1) id true (fO (deep+1) id false (out++ [⟨⟨id,kind,labels,name,proc,x,has,args,bm,e⟩,deep,dD,bc⟩]) bm) e
   rw[h2,h1]
   exact⟨_,by rw[List.append_assoc,List.append_assoc]⟩
  ·exact⟨_,rfl⟩
theorem tR (deep dD:Int) (bc:Bool) (out:List It) : ∀ l:List Sm,∃ e,fO deep dD bc out l=out++e
 | []=>⟨[],by simp[fO]⟩
 | s::l=>by
  simp only[fO]
  split
  ·obtain⟨e1,h1⟩:=TV deep dD bc out s
   obtain⟨e2,h2⟩:=tR deep dD bc (kx deep dD bc out s) l
   rw[h2,h1]
   exact⟨_,by rw[List.append_assoc]⟩
  ·exact⟨[],by simp⟩
end
mutual
theorem TW (deep dD:Int) (bc:Bool) (out:List It) : ∀ s:Sm,(kx deep dD bc out s).length≤200→(∀ i∈kx deep dD bc out s,i.deep≤12)→(kx deep dD bc out s).map It.s=out.map It.s++s.pre
 | ⟨id,kind,labels,name,proc,x,has,args,bm,e⟩,h1,h2=>by
  simp only[kx,Sm.pre]at h1 h2 ⊢
  by_cases hd:deep≤12
  ·simp only [hd,decide_true,if_true]at h1 h2 ⊢
   obtain⟨e2,g2⟩:=tR (deep+1) id true (fO (deep+1) id false (out++ [⟨⟨id,kind,labels,name,proc,x,has,args,bm,e⟩,deep,dD,bc⟩]) bm) e
   have k1:(fO (deep+1) id false (out++ [⟨⟨id,kind,labels,name,proc,x,has,args,bm,e⟩,deep,dD,bc⟩]) bm).length≤200:=by
    rw[g2,List.length_append]at h1;omega
   have k2 : ∀ i∈fO (deep+1) id false (out++ [⟨⟨id,kind,labels,name,proc,x,has,args,bm,e⟩,deep,dD,bc⟩]) bm,i.deep≤12:=fun i m=>h2 i (by rw[g2];exact List.mem_append_left _ m)
   rw[w9 (deep+1) id true _ e h1 h2,w9 (deep+1) id false _ bm k1 k2]
   simp
  ·simp only [hd,decide_false,Bool.false_eq_true,if_false]at h1 h2
   exact absurd (h2 _ (List.mem_append_right _ (List.mem_singleton.2 rfl))) (by simpa using hd)
theorem w9 (deep dD:Int) (bc:Bool) (out:List It) : ∀ l:List Sm,(fO deep dD bc out l).length≤200→(∀ i∈fO deep dD bc out l,i.deep≤12)→(fO deep dD bc out l).map It.s=out.map It.s++Sm.dm l
 | [],h1,h2=>by simp[fO,Sm.dm]
 | s::l,h1,h2=>by
  simp only[fO,Sm.dm]at h1 h2 ⊢
  by_cases hc:(out.length:Int)≤200
  ·simp only [hc,decide_true,if_true]at h1 h2 ⊢
   obtain⟨e2,g2⟩:=tR deep dD bc (kx deep dD bc out s) l
   have k1:(kx deep dD bc out s).length≤200:=by rw[g2,List.length_append]at h1;omega
   have k2 : ∀ i∈kx deep dD bc out s,i.deep≤12:=fun i m=>h2 i (by rw[g2];exact List.mem_append_left _ m)
   rw[w9 deep dD bc _ l h1 h2,TW deep dD bc out s k1 k2]
   simp
  ·simp only [hc,decide_false,Bool.false_eq_true,if_false]at h1
   omega
end
theorem K9 : ∀ (l:List Pc) (out:List It),(allM out l).length≤200→(∀ i∈allM out l,i.deep≤12)→(∀ f∈l,f.flat.map It.s=Sm.dm f.body)∧(allM out l).map It.s=out.map It.s++(l.map fun f=>Sm.dm f.body).flatten
 | [],out,h1,h2=>⟨fun f m=>(by cases m),by simp[allM]⟩
 | f::l,out,h1,h2=>by
  simp only[allM]at h1 h2 ⊢
  by_cases hc:(((out++f.flat).length:Nat):Int) > 200
  ·simp only[hc,decide_true,if_true]at h1;omega
  ·simp only [hc,decide_false,Bool.false_eq_true,if_false]at h1 h2 ⊢
   obtain⟨k1,k2⟩:=K9 l (out++f.flat) h1 h2
   have qb : ∀ (l:List Pc) (out:List It),∃ e,allM out l=out++e:=by
    intro l
    induction l with
    |nil=>intro out;exact⟨[],by simp[allM]⟩
    |cons g l ih=>
     intro out
     simp only[allM]
     split
     ·exact⟨_,rfl⟩
     ·obtain⟨e,h⟩:=ih (out++g.flat);exact⟨g.flat++e,by rw[h];simp⟩
   obtain⟨e,he⟩:=qb l (out++f.flat)
   have k3:f.flat.map It.s=Sm.dm f.body:=by
    have:=w9 1 0 false [] f.body (by
     have:f.flat.length≤200:=by simp only[List.length_append]at hc;omega
     exact this) (fun i m=>h2 i (by rw[he];exact List.mem_append_left _ (List.mem_append_right _ m)))
    simpa[Pc.flat]using this
   refine⟨fun g m=>?_, ?_⟩
   ·rcases List.mem_cons.1 m with rfl | m
    ·exact k3
    ·exact k1 g m
   ·rw[k2];simp[k3]
theorem BV : ∀ (l:List It) (n:Nat),It.fl n l=true→(∀ i∈l,i.deep≤12)∧∀ (j:Nat) (i:It),l[j]? = some i→i.s.id=((n+j+1:Nat):Int)
 | [],n,h=>⟨fun i m=>(by cases m),fun j i h=>by simp at h⟩
 | a::l,n,h=>by
  simp only[It.fl]at h
  split at h
  ·cases h
  ·rename_i c
   simp only[Bool.or_eq_true,not_or,bne_iff_ne,ne_eq,Decidable.not_not,decide_eq_true_eq,Int.not_lt,gt_iff_lt]at c
   obtain⟨k1,k2⟩:=BV l (n+1) h
   refine⟨fun i m=>?_,fun j i hj=>?_⟩
   ·rcases List.mem_cons.1 m with rfl | m
    ·exact c.1.2
    ·exact k1 i m
   ·cases j with
    |zero=>simp at hj;subst hj;rw[c.1.1]
    |succ j=>simp at hj;rw[k2 j i hj];congr 1;omega
theorem GG {p:Pg} (h:p.may=true):p.all.length≤200∧It.fl 0 p.all=true:=by
 unfold Pg.may at h
 split at h
 ·cases h
 ·split at h
  ·cases h
  ·split at h
   ·cases h
   ·rename_i c
    exact⟨by simp only[decide_eq_true_eq,Int.not_lt,gt_iff_lt]at c;omega,h⟩
theorem La {p:Pg} (h:p.may=true):(∀ f∈p.procs,f.flat.map It.s=Sm.dm f.body)∧p.all.map It.s=p.pre:=by
 obtain⟨h1,h2⟩:=GG h
 have:=K9 p.procs [] h1 (BV _ 0 h2).1
 simpa[Pg.pre,Pg.all]using this
theorem Lb {p:Pg} (h:p.may=true) {i:Nat} {v:Sm} (hv:p.pre[i]? = some v):v.id=((i+1:Nat):Int):=by
 rw[← (La h).2,List.getElem?_map,Option.map_eq_some_iff]at hv
 obtain⟨it,h1,rfl⟩:=hv
 have:=(BV _ 0 (GG h).2).2 i it h1
 rw[this];congr 1;omega
structure Pg.iW (p:Pg):Prop where
 QY:p.QU
 sz:p.size≤900000
mutual
theorem aeS : ∀ s:Sm,s.zQ→s.size<1000000→∀ v∈s.pre,v.nw∧v.nq
 |⟨id,kind,labels,name,proc,x,has,args,bm,bc⟩,h,hs,v,m=>by
  simp only[Sm.zQ]at h
  simp only[Sm.size]at hs
  simp only[Sm.pre,List.mem_cons,List.mem_append]at m
  rcases m with rfl|m|m
  ·exact⟨⟨h.1.xt,fun a ha=>(h.1.arg a ha).2.1,by dsimp only;omega⟩,h.1⟩
  ·exact CH bm h.2.1 (by omega) v m
  ·exact CH bc h.2.2 (by omega) v m
theorem CH : ∀ l:List Sm,Sm.nr l→Sm.br l<1000000→∀ v∈Sm.dm l,v.nw∧v.nq
 | [],h,hs,v,m=>by simp[Sm.dm]at m
 |s::l,h,hs,v,m=>by
  simp only[Sm.nr]at h
  simp only[Sm.br]at hs
  simp only[Sm.dm,List.mem_append]at m
  rcases m with m|m
  ·exact aeS s h.1 (by omega) v m
  ·exact CH l h.2 (by omega) v m
end
theorem Pg.iW.said {p:Pg} (h:p.iW) {f:Pc} (hf:f∈p.procs) : ∀ v∈Sm.dm f.body,v.nw:=fun v m=>by
 have h1:=Pc.dd hf
 have h2:=h.sz
 simp only[Pg.size]at h2
 simp only[Pc.size]at h1
 exact(CH f.body (h.QY.body f hf) (by omega) v m).1
theorem Pg.iW.small {p:Pg} (h:p.iW) {f:Pc} (hf:f∈p.procs):f.Small p:=by
 have h1:=Pc.dd hf
 have h2:=h.sz
 simp only[Pg.size]at h2
 simp only[Pc.size]at h1
 exact⟨by omega,by omega,by omega⟩
theorem Pg.iW.procs {p:Pg} (h:p.iW):p.procs.length≤900000∧Pc.br p.procs≤900000∧p.globals.length≤900000:=by
 have h2:=h.sz
 have h3:=Pc.ei p.procs
 simp only[Pg.size]at h2
 omega
def Pg.pn (p:Pg):List aF:=p.procs.map (·.name)
def BW (p:Pg) (f:Pc) (procs:List aF):List Sm→Option Sm
 | []=>none
 |v::l=>if v.known p f procs then BW p f procs l else some v
def vX (p:Pg) (procs:List aF):List Pc→Int×Int
 | []=>(0,0)
 |f::l=>if fD (p.globals++f.own)then(5,0)else match BW p f procs (Sm.dm f.body)with|some v=>(5,v.id)|none=>vX p procs l
def Pg.tS (p:Pg):Bool:=match p.find l6 with|none=>true|some m=>decide ((m.params.length:Int) > 0)
def Pg.scope (p:Pg):Int×Int:=
 if p.may then if fD p.globals ||(fD p.pn ||p.tS)then(5,0)else vX p p.pn p.procs else(1,0)
theorem W8 (p:Pg) (hl:p.globals.length<1000000) (n:aF):az Tryz.prog oO ([.str n]++ [.ptr 0 0]) ⟨[cR p],[]⟩ (.bool (fq p.globals n)) ⟨[cR p],[]⟩:=by
 show az Tryz.prog oO [.str n, .ptr 0 0] _ _ _
 have pQ:=jF (l:=p.globals) (by omega) n
 refine az.go C8 rfl fun B Q hB hQ=>?_
 have⟨hC,hE,hM,hY⟩:=bC
 repeat' (first
 |simp only[go_sem,hC,hE,hM,hY]
 |(with_reducible refine CU (pQ _ _) ?_)
 |(with_reducible refine aB hQ ?_;exact bd))
theorem Zs (n m:Nat) (p:Pg):D.gw n m (fw p)=fw p:=ic n m _ (uw p)
attribute [go_sem] Zs
theorem aaY {p:Pg} {f:Pc} {procs:List aF} {v:Sm} (hs:f.Small p) (yT:procs.length<1000000) (hv:v.nw) (g:Tag) (s:St):az Tryz.prog qB [.agg (cR p), .agg (cH f), .slice g 1 (procs.map encStr), .agg (a8 v)] s (.bool (v.known p f procs)) s:=
 bP.ox (.cons (Wk.refl _) (.cons (Wk.refl _) (.cons (Wk.shared g 1 _) (ju.refl _)))) (aaX hs yT hv s)
theorem vY {p:Pg} (h:p.iW) (s:St):az Tryz.prog lR [.agg (cR p)] s (.agg [.int .i64 p.scope.1, .int .i64 p.scope.2]) s:=by
 refine az.pure ?_ (by simp[D.bH,D.ok,jT]) rfl s
 have hm:=fun s=>K0 h.QY s
 simp only[CF]at hm
 obtain⟨sh,r7,rZ⟩:=h.procs
 have dr:=fun s=>Cz (p:=p) (by omega) s
 have pS:=fun s=>Ea (l:=p.globals) (by omega) .shared s
 have hpn:p.pn.length=p.procs.length:=by simp[Pg.pn]
 have EF:=fun g s=>Ea (l:=p.pn) (by omega) g s
 have Lc:=fun g s=>(CA (l:=p.pn) (by omega) l6 s).Zm (Wk.shared g 1 (p.pn.map encStr))
 have Eb:=fun g s=>(show az Tryz.prog fY [.slice g 1 (p.pn.map encStr), .str [109,97,105,110]] s (.int .i64 (jb l6 0 p.pn)) s from Lc g s)
 generalize hR:p.scope=R
 simp only[Pg.scope]at hR
 unfold S0
 rcases Bool.eq_false_or_eq_true p.may with hb|hb
 case inr=>
  simp only[hb]at hm
  simp only[hb,Bool.false_eq_true,if_false]at hR
  subst hR
  refine az.go wP rfl fun B Q hB hQ=>?_
  have⟨hC,hE,hM,hY⟩:=bC
  repeat' (first
 |simp only[go_sem,hC,hE,hM,hY]
 |(with_reducible refine CU (hm _) ?_)
 |(with_reducible refine aB hQ ?_;exact bd))
 simp only[hb]at hm
 simp only[hb,if_true]at hR
 refine az.go wP rfl fun B Q hB hQ=>?_
 have⟨hC,hE,hM,hY⟩:=bC
 repeat' (first
 |simp only[go_sem,hC,hE,hM,hY]
 |(with_reducible refine CU (hm _) ?_)
 |(with_reducible refine aB hQ ?_;exact bd))
 refine bg.pZ 3 1 rfl ?_
 simp only[go_sem,hC,hE,hM,hY]
 refine dQ 2 1 (bg.ind (ι:=List Pc×Nat×List aF×Nat) (fun i=>p.procs.drop i.2.1=i.1∧i.2.2.1++i.1.map (·.name)=p.pn∧i.2.2.2=i.2.2.1.length) (fun i=>i.1.length)
  (fun i=> [(1, .ptr 0 0),(2, .ptr 1 0),(3, .slice (.tok 0) 1 (i.2.2.1.map encStr)),(18, .slice .shared 5 (p.procs.map cH)),(19, .int .i64 (p.procs.length:Int)),(20, .int .i64 (i.2.1:Int))]) (fun i=>⟨[cR p,[.int .i64 0, .int .i64 0]],[some i.2.2.2]⟩) ?_ (p.procs,0,[],0) ⟨rfl,rfl,rfl⟩)
 rintro⟨rest,k,out,n⟩ ⟨h1,h2,h3⟩ IH
 dsimp only at h1 h2 h3
 subst h3
 have hlo:out.length+rest.length≤900000:=by
  have:=congrArg List.length h2
  simp only[List.length_append,List.length_map]at this
  omega
 cases rest with
 |cons a rest=>
  obtain⟨hE,g2,hC,g4⟩:=drop_cons h1
  have cj:k<4611686018427387904:=by omega
  have hM:(out.length+1)*17≤bx:=by unfold bx;omega
  repeat' (first
 |simp only[go_sem,hC,hE,hM,hY]
 |(with_reducible refine aB hQ ?_;exact bd))
  refine eS 2 1 ?_ ?_ (IH (rest,k+1,out++ [a.name],out.length+1) ⟨g2,by rw[← h2];simp,by simp⟩ (Nat.lt_succ_self _))
  ·(simp only[go_sem,hC,hE,hM,hY,aL cj,List.map_append,List.map_cons,List.map_nil,encStr];try exact cr)
  ·(simp only[go_sem,hC,hE,hM,hY,aL cj,List.map_append,List.map_cons,List.map_nil,encStr];try exact cr)
 | nil=>
  have hC:=drop_nil h1
  simp only[List.map_nil,List.append_nil]at h2
  subst h2
  rcases Bool.eq_false_or_eq_true (fD p.globals)with b1|b1
  ·simp only [b1,Bool.true_or,if_true]at hR
   subst hR
   repeat' (first
 |simp only[go_sem,hC,hE,hM,hY,b1]
 |(with_reducible refine CU (Eb _ _) ?_)
 |(with_reducible refine CU (pS _) ?_)
 |(with_reducible refine CU (EF _ _) ?_)
 | (with_reducible refine aB hQ ?_;exact bd))
  rcases Bool.eq_false_or_eq_true (fD p.pn)with b2|b2
  ·simp only [b1,b2,Bool.true_or,Bool.or_true,if_true]at hR
   subst hR
   repeat' (first
 |simp only[go_sem,hC,hE,hM,hY,b1,b2]
 |(with_reducible refine CU (Eb _ _) ?_)
 |(with_reducible refine CU (pS _) ?_)
 |(with_reducible refine CU (EF _ _) ?_)
 | (with_reducible refine aB hQ ?_;exact bd))
  rcases K8 l6 p.procs 0 with ⟨e1,e2⟩|⟨m,j,e1,e2,e3⟩
  ·have b3:p.tS=true:=by unfold Pg.tS Pg.find;rw [e1]
   have hi:jb l6 0 p.pn = -1:=e2
   simp only[b1,b2,b3,Bool.or_true,if_true]at hR
   subst hR
   simp only[hi]at Eb
   have d1:decide ((-1:Int)<0)=true:=by decide
   repeat' (first
 |simp only[go_sem,hC,hE,hM,hY,b1,b2,d1]
 |(with_reducible refine CU (Eb _ _) ?_)
 |(with_reducible refine CU (pS _) ?_)
 |(with_reducible refine CU (EF _ _) ?_)
 | (with_reducible refine aB hQ ?_;exact bd))
  have hi:jb l6 0 p.pn=((j:Nat):Int):=by rw[show p.pn=p.procs.map (·.name)from rfl];simpa using e3
  simp only[hi]at Eb
  have d1:decide (((j:Nat):Int)<0)=false:=by simp
  have hj:j<p.procs.length:=(List.getElem?_eq_some_iff.1 e2).1
  have b3:p.tS=decide ((m.params.length:Int) > 0):=by unfold Pg.tS Pg.find;rw[e1]
  rw[b3]at hR
  rcases Bool.eq_false_or_eq_true (decide ((m.params.length:Int) > 0))with b4|b4
  ·simp only [b1,b2,b4,Bool.or_true,if_true]at hR
   subst hR
   repeat' (first
 |simp only[go_sem,hC,hE,hM,hY,b1,b2,d1,e2,b4]
 |(with_reducible refine CU (Eb _ _) ?_)
 |(with_reducible refine CU (pS _) ?_)
 |(with_reducible refine CU (EF _ _) ?_)
 |(with_reducible refine aB hQ ?_;exact bd))
  simp only[b1,b2,b4,Bool.or_false,Bool.false_eq_true,if_false]at hR
  repeat' (first
 |simp only[go_sem,hC,hE,hM,hY,b1,b2,d1,e2,b4]
 |(with_reducible refine CU (Eb _ _) ?_)
 |(with_reducible refine CU (pS _) ?_)
 |(with_reducible refine CU (EF _ _) ?_)
 |(with_reducible refine CU (dr _) ?_)
 | (with_reducible refine aB hQ ?_;exact bd))
  refine dQ 2 1 (bg.ind (ι:=List Pc×Nat) (fun i=>p.procs.drop i.2=i.1∧vX p p.pn i.1=R) (fun i=>i.1.length)
   (fun i=> [(1, .ptr 0 0),(2, .ptr 1 0),(3, .slice (.tok 0) 1 (p.pn.map encStr)),(7, .dL (fw p) 0),(57, .slice .shared 5 (p.procs.map cH)),(58, .int .i64 (p.procs.length:Int)),(59, .int .i64 (i.2:Int))]) (fun i=>⟨[cR p,[.int .i64 0, .int .i64 0]],[some p.pn.length]⟩) ?_ (p.procs,0) ⟨rfl,hR⟩)
  clear IH h1 hC hR
  rintro⟨rest,k⟩ ⟨h1,hR⟩ IH
  dsimp only at h1 hR
  cases rest with
  |nil=>
   have hC:=drop_nil h1
   simp only[vX]at hR
   subst hR
   repeat' (first
 |simp only[go_sem,hC,hE,hM,hY]
 | (with_reducible refine aB hQ ?_;exact bd))
  | cons f rest=>
   obtain⟨hE,g2,hC,g4⟩:=drop_cons h1
   have cj:k<4611686018427387904:=by omega
   have AJ:=List.mem_of_getElem? hE
   have vZ:=h.small AJ
   have TX:=fun s=>Zr (f:=f) vZ.par vZ.vars s
   have jP:f.own.length<4611686018427387904:=by have h1:=vZ.par;have h2:=vZ.vars;unfold Pc.own Pc.tQ;simp;omega
   have hto:=fun s=>Ea (l:=f.own) jP .shared s
   have Dx:=fun {s:St} {o:Nat} (ho:s.ah[o]? = some (cR p))=>yS (l:=f.own) jP (f:=oO) (row:=cR p) (b:=fq p.globals) (jT p) (by with_unfolding_all rfl) (fun x _=>W8 p vZ.ux x) ho
   have W9:=fun {s:St} {o:Nat} (ho:s.ah[o]? = some (cR p))=>(show az Tryz.prog fZ [.slice .shared 1 (f.own.map encStr), .gh 118 [.ptr o 0]] s (.bool (f.own.any (fq p.globals))) s from Dx ho)
   simp only[vX,TU,b1,Bool.false_or]at hR
   rcases Bool.eq_false_or_eq_true (fD f.own)with c1|c1
   ·simp only [c1,Bool.true_or,if_true]at hR
    subst hR
    repeat' (first
 |simp only[go_sem,hC,hE,hM,hY,c1]
 |(with_reducible refine CU (TX _) ?_)
 |(with_reducible refine CU (hto _) ?_)
 |(with_reducible refine CU (W9 (by with_unfolding_all rfl)) ?_)
 | (with_reducible refine aB hQ ?_;exact bd))
   rcases Bool.eq_false_or_eq_true (f.own.any (fq p.globals))with c2|c2
   ·simp only [c1,c2,Bool.false_or,if_true]at hR
    subst hR
    repeat' (first
 |simp only[go_sem,hC,hE,hM,hY,c1,c2]
 |(with_reducible refine CU (TX _) ?_)
 |(with_reducible refine CU (hto _) ?_)
 |(with_reducible refine CU (W9 (by with_unfolding_all rfl)) ?_)
 | (with_reducible refine aB hQ ?_;exact bd))
   simp only[c1,c2,Bool.or_self,Bool.false_eq_true,if_false]at hR
   obtain⟨it,pU,BX⟩:=WQ hE (by omega)
   rw[← pU]at hR
   have aeU:it.length≤900000:=by
    have e:=congrArg List.length pU
    have e2:=(nH p).2 k f hE
    obtain⟨a,b,e',_,_,e3,e4⟩:=e2
    have e5:=px p
    have e6:=congrArg List.length e3
    rw[e4]at e5
    simp only[List.length_map,List.length_append]at e e5 e6
    omega
   repeat' (first
 |simp only[go_sem,hC,hE,hM,hY,c1,c2]
 |(with_reducible refine CU (TX _) ?_)
 |(with_reducible refine CU (hto _) ?_)
 |(with_reducible refine CU (W9 (by with_unfolding_all rfl)) ?_)
 |(with_reducible refine CU (BX _) ?_)
 | (with_reducible refine aB hQ ?_;exact bd))
   obtain⟨q,hq⟩ : ∃ q,BW p f p.pn (it.map Im.s)=q:=⟨_,rfl⟩
   rw[hq]at hR
   refine dQ 3 1 (bg.ind (ι:=List Im×Nat) (fun i=>it.drop i.2=i.1∧BW p f p.pn (i.1.map Im.s)=q) (fun i=>i.1.length)
    (fun i=> [(1, .ptr 0 0),(2, .ptr 1 0),(3, .slice (.tok 0) 1 (p.pn.map encStr)),(7, .dL (fw p) 0),(9, .ptr 2 0),(57, .slice .shared 5 (p.procs.map cH)),(58, .int .i64 (p.procs.length:Int)),(59, .int .i64 (k:Int)),(76, .slice .shared 17 (it.map dK)),(77, .int .i64 (it.length:Int)),(78, .int .i64 (i.2:Int))]) (fun i=>⟨[cR p,[.int .i64 0, .int .i64 0],cH f],[some p.pn.length]⟩) ?_ (it,0) ⟨rfl,hq⟩)
   rintro⟨qx,n⟩ ⟨j1,j2⟩ Zt
   dsimp only at j1 j2
   have Ap:=hC
   cases qx with
   |nil=>
    have asW:=drop_nil j1
    simp only[List.map_nil,BW]at j2
    subst j2
    simp only at hR
    repeat' (first
 |simp only[go_sem,hC,hE,hM,hY,asW]
 | (with_reducible refine aB hQ ?_;exact bd))
    refine eS 2 1 ?_ ?_ (IH (rest,k+1) ⟨g2,hR⟩ (Nat.lt_succ_self _))
    ·(simp only[go_sem,hC,hE,hM,hY,aL cj];try exact cr)
    ·(simp only[go_sem,hC,hE,hM,hY,aL cj];try exact cr)
   | cons i qx=>
    obtain⟨pz,No,yU,jg4⟩:=drop_cons j1
    have tL:n<4611686018427387904:=by omega
    have Fo:i.s∈Sm.dm f.body:=by rw[← pU];exact List.mem_map_of_mem (List.mem_of_getElem? pz)
    have hkn:=aaY (v:=i.s) vZ (procs:=p.pn) (by omega) (h.said AJ _ Fo)
    simp only[List.map_cons,BW]at j2
    rcases Bool.eq_false_or_eq_true (i.s.known p f p.pn)with c3|c3
    ·simp only [c3,if_true]at j2
     repeat' (first
 |simp only[go_sem,hC,hE,hM,hY,yU,pz,c3]
 |(with_reducible refine CU (hkn _ _) ?_)
 | (with_reducible refine aB hQ ?_;exact bd))
     refine eS 3 1 ?_ ?_ (Zt (qx,n+1) ⟨No,j2⟩ (Nat.lt_succ_self _))
     ·(simp only[go_sem,hC,hE,hM,hY,aL tL];try exact cr)
     ·(simp only[go_sem,hC,hE,hM,hY,aL tL];try exact cr)
    ·simp only [c3,Bool.false_eq_true,if_false]at j2
     subst j2
     simp only at hR
     subst hR
     repeat' (first
 |simp only[go_sem,hC,hE,hM,hY,yU,pz,c3]
 |(with_reducible refine CU (hkn _ _) ?_)
 |(with_reducible refine aB hQ ?_;exact bd))
end Go.Abs
namespace Go.Abs
mutual
def Ex.Np:Ex→Prop
 |⟨_,n,_,kids⟩=>n≤9223372036854775807∧Ex.Ec kids
def Ex.Ec:List Ex→Prop
 | []=>True
 |x::l=>x.Np∧Ex.Ec l
end
mutual
def Sm.Np:Sm→Prop
 |⟨_,_,_,_,_,x,_,args,bm,bc⟩=>x.Np∧(∀ a∈args,a.x.Np)∧Sm.Ec bm∧Sm.Ec bc
def Sm.Ec:List Sm→Prop
 | []=>True
 |s::l=>s.Np∧Sm.Ec l
end
def Pg.Np (p:Pg):Prop:=∀ f∈p.procs,Sm.Ec f.body
theorem HE {f:Pc} : ∀ {l:List Pc} {n:Nat},Pc.ff n l=true→f∈l→(isName f.name=true∧eo f.vars=true∧eo f.fin=true∧Pm.fl f.params=true)∧∃ n,(Sm.gA 1 n f.body).1=true
 |g::l,n,h,m=>by
  simp only[Pc.ff]at h
  split at h
  ·cases h
  rename_i c1
  split at h
  ·cases h
  rename_i c2
  split at h
  ·cases h
  rename_i c3
  simp only[Bool.or_eq_true,Bool.not_eq_true',not_or,Bool.not_eq_false]at c1 c2 c3
  rcases List.mem_cons.1 m with rfl|m
  ·exact⟨⟨c1.1.1.2,c1.1.2,c1.2,c2⟩,n,c3⟩
  ·exact HE h m
mutual
theorem QZ : ∀ (s:Sm) (nest:Int) (n:Nat),(Sm.qa nest n s).1=true→s.size<4611686018427387000→s.zQ
 |⟨id,kind,labels,name,proc,x,has,args,bm,bc⟩,nest,n,hm,hs=>by
  obtain⟨_,_,h1,h2,h3,_⟩:=HA hm
  rw[KZ]
  rw[(tP h2).2]at h2
  rw[(tP h3).2]at h3
  refine⟨K4 h1 hs,u5 bm _ _ h2 ?_,u5 bc _ _ h3 ?_⟩<;>simp only[Sm.size]at hs<;>omega
theorem u5 : ∀ (l:List Sm) (nest:Int) (n:Nat),(Sm.ff nest n l).1=true→Sm.br l<4611686018427387000→Sm.nr l
 | [],_,_,_,_=>by simp only[Sm.nr]
 |s::l,nest,n,hm,hs=>by
  simp only[Sm.ff]at hm
  simp only[Sm.br]at hs
  split at hm
  ·cases hm
  rename_i hc
  simp only[Bool.not_eq_true',Bool.not_eq_false]at hc
  exact⟨QZ s nest n hc (by omega),u5 l nest _ hm (by omega)⟩
end
theorem BY {p:Pg} (h:p.may=true) (hs:p.size<4611686018427387000):p.QU:=by
 have hf:=WY h hs
 rw[← CF]at h
 unfold Pg.GD at h
 split at h
 ·cases h
 refine⟨hf.sz,hf.ux,hf.pI,fun f m=>?_⟩
 obtain⟨_,n,e⟩:=HE h m
 rw[(tP e).2]at e
 have:=Pc.dd m
 simp only[Pg.size]at hs
 exact u5 f.body 1 n e (by unfold Pc.size at this;omega)
set_option maxRecDepth 8000
open Go.Proofs
theorem Xa (x:It):(j8 x)[1]? = some (.int .i64 x.s.kind):=nd rfl
theorem Xb (x:It):(j8 x)[3]? = some (.str x.s.name):=nd rfl
theorem Xc (x:It):(j8 x)[4]? = some (.str x.s.proc):=nd rfl
theorem aaZ (x:It):List.take 16 (j8 x)=j8 x:=nd rfl
attribute [go_sem] Xa Xb Xc aaZ
end Go.Abs
namespace Go.Abs
set_option maxRecDepth 8000
open Go.Proofs
def Fp:List Pm→List Ar→Bool
 | [],_=>true
 |_,[]=>true
 |a::l,b::m=>if a.ref==b.ref then Fp l m else false
def CI (l:List Pm) (m:List Ar):Bool:=if(l.length:Int)==(m.length:Int)then Fp l m else false
def Sm.qD (p:Pg) (v:Sm):Bool:=v.kind==4 && match p.find v.proc with|none=>false|some q=>CI q.params v.args
theorem aeV {l:List Pm} {m:List Ar} (hl:l.length<1000000000) (hm:m.length<1000000000) (s:St):az Tryz.prog vI [.slice .shared 2 (l.map gM), .slice .shared 6 (m.map eC)] s (.bool (CI l m)) s:=by
 refine az.pure ?_ (by simp[D.bH,D.ok,Tag.ok,Qg,IG]) rfl s
 generalize h:CI l m=q
 simp only[CI]at h
 unfold S0
 have b0:((l.length:Int) != (m.length:Int)) = !((l.length:Int)==(m.length:Int)):=rfl
 rcases Bool.eq_false_or_eq_true ((l.length:Int)==(m.length:Int))with b1|b1
 case inr=>
  rw[b1]at b0
  simp only[b1,Bool.false_eq_true,if_false]at h
  subst h
  refine az.go yB rfl fun B Q hB hQ=>?_
  have⟨hC,hE,hM,hY⟩:=bC
  repeat' (first
 |simp only[go_sem,hC,hE,hM,hY,b0,Bool.not_false]
 |(with_reducible refine aB hQ ?_;exact bd))
 rw[b1]at b0
 simp only[b1,if_true]at h
 have Zu:l.length=m.length:=by have:=eq_of_beq b1;omega
 refine az.go yB rfl fun B Q hB hQ=>?_
 have⟨hC,hE,hM,hY⟩:=bC
 repeat' (first
 |simp only[go_sem,hC,hE,hM,hY,b0,Bool.not_true]
 |(with_reducible refine aB hQ ?_;exact bd))
 refine dQ 0 0 (bg.ind (ι:=List Pm×List Ar×Nat) (fun i=>l.drop i.2.2=i.1∧m.drop i.2.2=i.2.1∧Fp i.1 i.2.1=q) (fun i=>i.1.length)
  (fun i=> [(1, .slice .shared 6 (m.map eC)),(12, .slice .shared 2 (l.map gM)),(13, .int .i64 (l.length:Int)),(14, .int .i64 (i.2.2:Int))]) (fun i=>⟨[],[]⟩) ?_ (l,m,0) ⟨rfl,rfl,h⟩)
 rintro⟨r1,r2,k⟩ ⟨h1,h2,h⟩ IH
 dsimp only at h1 h2 h
 cases r1 with
 |nil=>
  have hC:=drop_nil h1
  simp only[Fp]at h
  subst h
  repeat' (first
 |simp only[go_sem,hC,hE,hM,hY]
 |(with_reducible refine aB hQ ?_;exact bd))
 | cons a r1=>
  obtain⟨hE,g2,hC,g4⟩:=drop_cons h1
  cases r2 with
  |nil=>have:=List.drop_eq_nil_iff.1 h2;omega
  | cons b r2=>
   obtain⟨Zv,b2,Q1,_⟩:=drop_cons h2
   have cj:k<4611686018427387904:=by omega
   simp only[Fp]at h
   have w1:(true==true)=true:=rfl
   have w2:(false==false)=true:=rfl
   have w3:(true==false)=false:=rfl
   have w4:(false==true)=false:=rfl
   have v1:(true != true)=false:=rfl
   have v2:(false != false)=false:=rfl
   have v3:(true != false)=true:=rfl
   have v4:(false != true)=true:=rfl
   rcases Bool.eq_false_or_eq_true a.ref with ea|ea
   ·rcases Bool.eq_false_or_eq_true b.ref with eb | eb
    ·simp only [ea,eb,w1,w2,if_true]at h
     repeat' (first
 |simp only[go_sem,hC,hE,hM,hY,Zv,Q1,ea,eb,w1,w2,v1,v2]
 | (with_reducible refine aB hQ ?_;exact bd))
     refine eS 0 0 ?_ ?_ (IH (r1,r2,k+1) ⟨g2,b2,h⟩ (Nat.lt_succ_self _))
     ·(simp only[go_sem,hC,hE,hM,hY,aL cj];try exact cr)
     ·(simp only[go_sem,hC,hE,hM,hY,aL cj];try exact cr)
    ·simp only [ea,eb,w3,w4,Bool.false_eq_true,if_false]at h
     subst h
     repeat' (first
 |simp only[go_sem,hC,hE,hM,hY,Zv,Q1,ea,eb,w3,w4,v3,v4]
 | (with_reducible refine aB hQ ?_;exact bd))
   ·rcases Bool.eq_false_or_eq_true b.ref with eb | eb
    ·simp only [ea,eb,w3,w4,Bool.false_eq_true,if_false]at h
     subst h
     repeat' (first
 |simp only[go_sem,hC,hE,hM,hY,Zv,Q1,ea,eb,w3,w4,v3,v4]
 | (with_reducible refine aB hQ ?_;exact bd))
    ·simp only [ea,eb,w1,w2,if_true]at h
     repeat' (first
 |simp only[go_sem,hC,hE,hM,hY,Zv,Q1,ea,eb,w1,w2,v1,v2]
 |(with_reducible refine aB hQ ?_;exact bd))
     refine eS 0 0 ?_ ?_ (IH (r1,r2,k+1) ⟨g2,b2,h⟩ (Nat.lt_succ_self _))
     ·(simp only[go_sem,hC,hE,hM,hY,aL cj];try exact cr)
     ·(simp only[go_sem,hC,hE,hM,hY,aL cj];try exact cr)
theorem aeW {p:Pg} {v:Sm} (h:p.iW) (hv:v.nw) (s:St):az Tryz.prog vE [.agg (cR p), .agg (a8 v)] s (.bool (v.qD p)) s:=by
 refine az.pure ?_ (by simp[D.bH,D.ok,jT,mZ]) rfl s
 obtain⟨sh,r7,rZ⟩:=h.procs
 have Aw:v.args.length<1000000000:=by have:=Ar.ei v.args;have:=hv.2.2;omega
 generalize hR:v.qD p=R
 simp only[Sm.qD]at hR
 unfold S0
 have b0:(v.kind != 4) = !(v.kind==4):=rfl
 rcases Bool.eq_false_or_eq_true (v.kind==4)with b1|b1
 case inr=>
  rw[b1]at b0
  simp only[b1,Bool.false_and]at hR
  subst hR
  refine az.go yM rfl fun B Q hB hQ=>?_
  have⟨hC,hE,hM,hY⟩:=bC
  repeat' (first
 |simp only[go_sem,hC,hE,hM,hY,b0,Bool.not_false]
 |(with_reducible refine aB hQ ?_;exact bd))
 rw[b1]at b0
 simp only[b1,Bool.true_and,Pg.find]at hR
 refine az.go yM rfl fun B Q hB hQ=>?_
 have⟨hC,hE,hM,hY⟩:=bC
 repeat' (first
 |simp only[go_sem,hC,hE,hM,hY,b0,Bool.not_true]
 |(with_reducible refine aB hQ ?_;exact bd))
 refine dQ 2 0 (bg.ind (ι:=List Pc×Nat) (fun i=>p.procs.drop i.2=i.1∧(match iS v.proc i.1 with|none=>false|some q=>CI q.params v.args)=R) (fun i=>i.1.length)
  (fun i=> [(3, .ptr 1 0),(11, .slice .shared 5 (p.procs.map cH)),(12, .int .i64 (p.procs.length:Int)),(13, .int .i64 (i.2:Int))]) (fun i=>⟨[cR p,a8 v],[]⟩) ?_ (p.procs,0) ⟨rfl,hR⟩)
 clear hR
 rintro⟨rest,k⟩ ⟨h1,hR⟩ IH
 dsimp only at h1 hR
 cases rest with
 |nil=>
  have hC:=drop_nil h1
  simp only[iS]at hR
  subst hR
  repeat' (first
 |simp only[go_sem,hC,hE,hM,hY]
 |(with_reducible refine aB hQ ?_;exact bd))
 | cons a rest=>
  obtain⟨hE,g2,hC,g4⟩:=drop_cons h1
  have cj:k<4611686018427387904:=by omega
  have vZ:=h.small (List.mem_of_getElem? hE)
  have Zo:=fun s=>aeV (l:=a.params) (m:=v.args) (by have:=vZ.par;omega) Aw s
  simp only[iS]at hR
  rcases Bool.eq_false_or_eq_true (a.name==v.proc)with c1|c1
  ·simp only [c1,if_true]at hR
   subst hR
   repeat' (first
 |simp only[go_sem,hC,hE,hM,hY,c1]
 |(with_reducible refine CU (Zo _) ?_)
 | (with_reducible refine aB hQ ?_;exact bd))
  ·simp only [c1,Bool.false_eq_true,if_false]at hR
   repeat' (first
 |simp only[go_sem,hC,hE,hM,hY,c1]
 | (with_reducible refine aB hQ ?_;exact bd))
   refine eS 2 0 ?_ ?_ (IH (rest,k+1) ⟨g2,hR⟩ (Nat.lt_succ_self _))
   ·(simp only[go_sem,hC,hE,hM,hY,aL cj];try exact cr)
   ·(simp only[go_sem,hC,hE,hM,hY,aL cj];try exact cr)
def Ld (p:Pg):List Sm→Option Sm
 | []=>none
 |v::l=>if v.kind==4 && !(v.qD p)then some v else Ld p l
def qq (c:Int):Option Sm→Int×Int
 |some v=>(c,v.id)
 |none=>(0,0)
def Pg.arity (p:Pg):Int×Int:=if p.scope.1==0 then qq 6 (Ld p p.pre)else(1,0)
theorem Pg.iW.pre {p:Pg} (h:p.iW) : ∀ v∈p.pre,v.nw:=fun v m=>by
 simp only[Pg.pre,List.mem_flatten,List.mem_map]at m
 obtain⟨l,⟨f,hf,rfl⟩,m⟩:=m
 exact h.said hf v m
theorem Lf {p:Pg} (h:p.iW) (s:St):az Tryz.prog qA [.agg (cR p)] s (.agg [.int .i64 p.arity.1, .int .i64 p.arity.2]) s:=by
 refine az.pure ?_ (by simp[D.bH,D.ok,jT]) rfl s
 obtain⟨sh,r7,rZ⟩:=h.procs
 have pQ:=fun s=>vY h s
 have dr:=fun s=>Cz (p:=p) (by omega) s
 have hL:=(nH p).1
 have HF:=px p
 generalize hR:p.arity=R
 simp only[Pg.arity]at hR
 unfold S0
 have b0:(p.scope.1 != 0) = !(p.scope.1==0):=rfl
 rcases Bool.eq_false_or_eq_true (p.scope.1==0)with b1|b1
 case inr=>
  rw[b1]at b0
  simp only[b1,Bool.false_eq_true,if_false]at hR
  subst hR
  refine az.go wQ rfl fun B Q hB hQ=>?_
  have⟨hC,hE,hM,hY⟩:=bC
  repeat' (first
 |simp only[go_sem,hC,hE,hM,hY,b0,Bool.not_false]
 |(with_reducible refine CU (pQ _) ?_)
 |(with_reducible refine aB hQ ?_;exact bd))
 rw[b1]at b0
 simp only[b1,if_true, ← hL]at hR
 refine az.go wQ rfl fun B Q hB hQ=>?_
 have⟨hC,hE,hM,hY⟩:=bC
 repeat' (first
 |simp only[go_sem,hC,hE,hM,hY,b0,Bool.not_true,nY]
 |(with_reducible refine CU (pQ _) ?_)
 |(with_reducible refine CU (dr _) ?_)
 |(with_reducible refine aB hQ ?_;exact bd))
 refine dQ 2 0 (bg.ind (ι:=List Im×Nat) (fun i=>p.bh.L.drop i.2=i.1∧qq 6 (Ld p (i.1.map Im.s))=R) (fun i=>i.1.length)
  (fun i=> [(1, .ptr 0 0),(2, .ptr 1 0),(14, .slice .shared 17 (p.bh.L.map dK)),(15, .int .i64 (p.bh.L.length:Int)),(16, .int .i64 (i.2:Int))]) (fun i=>⟨[cR p,[.int .i64 0, .int .i64 0]],[]⟩) ?_ (p.bh.L,0) ⟨rfl,hR⟩)
 clear hR
 rintro⟨rest,k⟩ ⟨h1,hR⟩ IH
 dsimp only at h1 hR
 cases rest with
 |nil=>
  have hC:=drop_nil h1
  simp only[List.map_nil,Ld,qq]at hR
  subst hR
  repeat' (first
 |simp only[go_sem,hC,hE,hM,hY]
 |(with_reducible refine aB hQ ?_;exact bd))
 | cons a rest=>
  obtain⟨hE,g2,hC,g4⟩:=drop_cons h1
  have cj:k<4611686018427387904:=by omega
  have Fo:a.s∈p.pre:=by rw[← hL];exact List.mem_map_of_mem (List.mem_of_getElem? hE)
  have hf1:=fun s=>aeW h (h.pre _ Fo) s
  simp only[List.map_cons,Ld]at hR
  rcases Bool.eq_false_or_eq_true (a.s.kind==4)with c1|c1
  ·rcases Bool.eq_false_or_eq_true (a.s.qD p)with c2 | c2
   ·simp only [c1,c2,Bool.not_true,Bool.and_false,Bool.false_eq_true,if_false]at hR
    repeat' (first
 |simp only[go_sem,hC,hE,hM,hY,c1,c2]
 |(with_reducible refine CU (hf1 _) ?_)
 | (with_reducible refine aB hQ ?_;exact bd))
    refine eS 2 0 ?_ ?_ (IH (rest,k+1) ⟨g2,hR⟩ (Nat.lt_succ_self _))
    ·(simp only[go_sem,hC,hE,hM,hY,aL cj];try exact cr)
    ·(simp only[go_sem,hC,hE,hM,hY,aL cj];try exact cr)
   ·simp only [c1,c2,Bool.not_false,Bool.and_true,if_true,qq]at hR
    subst hR
    repeat' (first
 |simp only[go_sem,hC,hE,hM,hY,c1,c2]
 |(with_reducible refine CU (hf1 _) ?_)
 | (with_reducible refine aB hQ ?_;exact bd))
  ·simp only [c1,Bool.false_and,Bool.false_eq_true,if_false]at hR
   repeat' (first
 |simp only[go_sem,hC,hE,hM,hY,c1]
 |(with_reducible refine CU (hf1 _) ?_)
 | (with_reducible refine aB hQ ?_;exact bd))
   refine eS 2 0 ?_ ?_ (IH (rest,k+1) ⟨g2,hR⟩ (Nat.lt_succ_self _))
   ·(simp only[go_sem,hC,hE,hM,hY,aL cj];try exact cr)
   ·(simp only[go_sem,hC,hE,hM,hY,aL cj];try exact cr)
theorem B0 {p:Pg} (h:(p.scope.1==0)=true):p.may=true:=by
 unfold Pg.scope at h
 split at h
 ·assumption
 ·cases h
def nz (out:List aF):List aF→aF→Bool→aF×Bool
 | [],c,a=>(c,a)
 |s::l,c,a=>if !(fq out s) && (!a ||bytesLess s c)then nz out l s true else nz out l c a
def TY (l out:List aF):List aF:=if(nz out l [] false).2 then out++ [(nz out l [] false).1]else out
def pL (l:List aF):Nat→List aF→List aF
 | 0,out=>out
 |n+1,out=>pL l n (TY l out)
def ky (l:List aF):List aF:=pL l l.length []
end Go.Abs
namespace Go.Proofs
open Go.Shelf
def Tryz.MJ:Go.Shelf.Ren:=⟨fun| 190=>176| 125=>200| 258=>199| 128=>223| 129=>224| 302=>214| 303=>215| 304=>216| 305=>217| 306=>218| 307=>219| 308=>220| 309=>221| 310=>222| 333=>236| 329=>237| 330=>238| 334=>239| 335=>240| 336=>241| 344=>244|n=>n,fun| 31=>22| 9=>9| 3=>3| 46=>220| 0=>0| 51=>241| 53=>200| 4=>4| 183=>234| 182=>233| 131=>158| 5=>5| 218=>248| 222=>252| 228=>255| 229=>256|n=>n,fun|n=>n⟩
theorem Tryz.Nq:Go.Proofs.Lays.n190 Tryz.prog Tryz.MJ:= {
 mixed:=by kernel_rfl
 f125:=Tryz.func200.trans (congrArg some (by kernel_rfl))
 f128:=Tryz.func223.trans (congrArg some (by kernel_rfl))
 f129:=Tryz.func224.trans (congrArg some (by kernel_rfl))
 f190:=Tryz.func176.trans (congrArg some (by kernel_rfl))
 f258:=Tryz.func199.trans (congrArg some (by kernel_rfl))
 f302:=Tryz.func214.trans (congrArg some (by kernel_rfl))
 f303:=Tryz.func215.trans (congrArg some (by kernel_rfl))
 f304:=Tryz.func216.trans (congrArg some (by kernel_rfl))
 f305:=Tryz.func217.trans (congrArg some (by kernel_rfl))
 f306:=Tryz.func218.trans (congrArg some (by kernel_rfl))
 f307:=Tryz.func219.trans (congrArg some (by kernel_rfl))
 f308:=Tryz.func220.trans (congrArg some (by kernel_rfl))
 f309:=Tryz.func221.trans (congrArg some (by kernel_rfl))
 f310:=Tryz.func222.trans (congrArg some (by kernel_rfl))
 f329:=Tryz.func237.trans (congrArg some (by kernel_rfl))
 f330:=Tryz.func238.trans (congrArg some (by kernel_rfl))
 f333:=Tryz.func236.trans (congrArg some (by kernel_rfl))
 f334:=Tryz.func239.trans (congrArg some (by kernel_rfl))
 f335:=Tryz.func240.trans (congrArg some (by kernel_rfl))
 f336:=Tryz.func241.trans (congrArg some (by kernel_rfl))
 f344:=Tryz.func244.trans (congrArg some (by kernel_rfl))
 t0:=Tryz.underlying0
 a0:=Tryz.isAgg0
 z0:=Tryz.sizeOf0
 v0:=Tryz.zeroValue0
 t3:=Tryz.underlying3
 a3:=Tryz.isAgg3
 z3:=Tryz.sizeOf3
 v3:=Tryz.zeroValue3
 t4:=Tryz.underlying4
 a4:=Tryz.isAgg4
 z4:=Tryz.sizeOf4
 v4:=Tryz.zeroValue4
 t5:=Tryz.underlying5
 a5:=Tryz.isAgg5
 z5:=Tryz.sizeOf5
 v5:=Tryz.zeroValue5
 t9:=Tryz.underlying9
 a9:=Tryz.isAgg9
 z9:=Tryz.sizeOf9
 v9:=Tryz.zeroValue9
 t31:=Tryz.underlying22
 a31:=Tryz.isAgg22
 z31:=Tryz.sizeOf22
 v31:=Tryz.zeroValue22
 t46:=Tryz.underlying220
 a46:=Tryz.isAgg220
 z46:=Tryz.sizeOf220
 v46:=Tryz.zeroValue220
 t51:=Tryz.underlying241
 a51:=Tryz.isAgg241
 z51:=Tryz.sizeOf241
 v51:=Tryz.zeroValue241
 t53:=Tryz.underlying200
 a53:=Tryz.isAgg200
 z53:=Tryz.sizeOf200
 v53:=Tryz.zeroValue200
 t131:=Tryz.underlying158
 a131:=Tryz.isAgg158
 z131:=Tryz.sizeOf158
 v131:=Tryz.zeroValue158
 t182:=Tryz.underlying233
 a182:=Tryz.isAgg233
 z182:=Tryz.sizeOf233
 v182:=Tryz.zeroValue233
 t183:=Tryz.underlying234
 a183:=Tryz.isAgg234
 z183:=Tryz.sizeOf234
 v183:=Tryz.zeroValue234
 t218:=Tryz.underlying248
 a218:=Tryz.isAgg248
 z218:=Tryz.sizeOf248
 v218:=Tryz.zeroValue248
 t222:=Tryz.underlying252
 a222:=Tryz.isAgg252
 z222:=Tryz.sizeOf252
 v222:=Tryz.zeroValue252
 t228:=Tryz.underlying255
 a228:=Tryz.isAgg255
 z228:=Tryz.sizeOf255
 v228:=Tryz.zeroValue255
 t229:=Tryz.underlying256
 a229:=Tryz.isAgg256
 z229:=Tryz.sizeOf256
 v229:=Tryz.zeroValue256}
open Go.Sort Go.RowKit in
theorem Tryz.slices_Sort_string (B1 off cap:Nat) (ss:List (List UInt8)) (w:World) (hH:Holds encStr w B1 off ss.toArray) (asX:B1<w.heap.size) (eg:ss.length<4611686018427387904) :
 Calls Tryz.prog 176 #[.slice (some ⟨B1,off,none⟩) ss.length cap] w fun e w'=>
  e = .returned (.tuple #[])∧∃ n os,w'=grow (putRow encStr (Sort.ahead w n) B1 off (ss.mergeSort fun x y=>decide (x≤y)).toArray) os:=Any.slices_Sort_string Tryz.Nq B1 off cap ss w hH asX eg
def Tryz.MK:Go.Shelf.Ren:=⟨fun| 194=>177|n=>n,fun| 31=>22| 9=>9| 3=>3| 4=>4| 0=>0|n=>n,fun|n=>n⟩
theorem Tryz.Nr:Go.Proofs.Lays.n194 Tryz.prog Tryz.MK:= {
 mixed:=by kernel_rfl
 f194:=Tryz.func177.trans (congrArg some (by kernel_rfl))
 t0:=Tryz.underlying0
 a0:=Tryz.isAgg0
 z0:=Tryz.sizeOf0
 v0:=Tryz.zeroValue0
 t3:=Tryz.underlying3
 a3:=Tryz.isAgg3
 z3:=Tryz.sizeOf3
 v3:=Tryz.zeroValue3
 t4:=Tryz.underlying4
 a4:=Tryz.isAgg4
 z4:=Tryz.sizeOf4
 v4:=Tryz.zeroValue4
 t9:=Tryz.underlying9
 a9:=Tryz.isAgg9
 z9:=Tryz.sizeOf9
 v9:=Tryz.zeroValue9
 t31:=Tryz.underlying22
 a31:=Tryz.isAgg22
 z31:=Tryz.sizeOf22
 v31:=Tryz.zeroValue22}
open Go.RowKit Go.Lib Go.Sort in
theorem Tryz.slices_Compact_string (B1 off cap:Nat) (zs:List (List UInt8)) (w:World) (hH:Holds encStr w B1 off zs.toArray) (eg:zs.length≤9223372036854775807) (ua:zs.length≤cap) :
 Calls Tryz.prog 177 #[.slice (some ⟨B1,off,none⟩) zs.length cap] w fun e w'=>e = .returned (.slice (some ⟨B1,off,none⟩) (Lib.compact zs).length cap)∧∃ q,w'=putRow encStr (Sort.ahead w q) B1 off (Lib.compact zs++List.replicate (zs.length - (Lib.compact zs).length) []).toArray:=Any.slices_Compact_string Tryz.Nr B1 off cap zs w hH eg ua
open Go.RowKit Go.Lib Go.Sort in
theorem Tryz.slices_Compact_string_empty (a:Option Addr) (cap:Nat) (w:World) :
 Calls Tryz.prog 177 #[.slice a 0 cap] w fun e w'=>e = .returned (.slice a 0 cap)∧w'=w:=Any.slices_Compact_string_empty Tryz.Nr a cap w
open Go.RowKit Go.Sort in
theorem Tryz.slices_Sort_string_none (p:Option Addr) (cap:Nat) (w:World) :
 Calls Tryz.prog 176 #[.slice p 0 cap] w fun e w'=>e = .returned (.tuple #[])∧w'=w:=Any.slices_Sort_string_none Tryz.Nq p cap w
end Go.Proofs
namespace Go.Abs
open Go.Proofs
section
variable {P:Program} {B:e7} {nt:Nat}
theorem aa0 {x:Operand} {t:Nat} (h:cX x=some (.s t)):x = .tmp t:=by
 unfold cX at h
 split at h
 ·cases h;rfl
 ·obtain⟨d,_,h⟩:=map_some h;cases h
 ·cases h
 ·cases h
theorem Q3 {ops:Array Oper} {o:Oper} {g g':Option (Nat×Bool)} {dst:Option Nat} {f:Nat} {xs:List X} (h:sO P ops o g=some (.call dst g' f xs)) :
 g'=g∧∃ args mH,o.op = .call ⟨.value (.func f),args,mH⟩∧enters P f=true∧x9 args.toList=some xs:=by
 unfold sO at h
 split at h
 ·rename_i f' args mH mF
  split at h
  ·rename_i he
   obtain⟨xs',h1,h2⟩:=map_some h
   cases h2
   exact⟨rfl,args,mH,mF,he,h1⟩
  ·cases h
 ·obtain⟨_,_,h⟩:=map_some h;cases h
 ·split at h
  ·cases h
  ·split at h<;>cases h
theorem T1 {ops:Array Oper} {o:Oper} {tmps:Array Value} (hg:vl ops o.guard=some none):Region.wanted o (yielded ops tmps)=true:=by
 have:o.guard=none:=by
  cases G6:o.guard with
  |none=>rfl
  |some p=>
   obtain⟨j,b⟩:=p
   rw[G6]at hg
   unfold vl at hg
   simp only at hg
   split at hg<;>cases hg
 simp[Region.wanted,this]
theorem Sem.aeZ {a k b f:Nat} {is:List AI} {Q:Exit→Tm→St→Prop} {tm:Tm} {s:St}
 (aif : ∀ act w,Holds B nt (tm.put (some a) (tm.get k)) s act w→Calls P f #[act.tmps.getD a Go.undef] w fun e w'=>∃ v,e = .returned v∧∃ bE s',Holds B nt bE s' (act.put (some b) v) w'∧iV P is (Q .normal) bE s') :
 Sem P B nt (.run (.op (some a) none (.mv (.s k)):: .call (some b) none f [.s a]::is)) Q tm s:=by
 intro c hc act w hh
 obtain⟨id,ops,rfl,hi⟩:=lB hc
 refine wp_region ?_
 have key : ∀ (l:List Nat) (ol:List Oper),l.map (ops[·]?)=ol.map some→rj P nt ops ol=some (.op (some a) none (.mv (.s k)):: .call (some b) none f [.s a]::is)→wpOps P ops (pY B nt Q) l act w:=by
  intro l ol hl xr
  match ol,l,hl with
  | [],_,_=>simp[rj]at xr
  |o0::ol,[],hl=>simp at hl
  | o0::ol,j0::l,hl=>
   simp only[List.map_cons,List.cons.injEq]at hl
   obtain⟨hj0,hl⟩:=hl
   unfold rj at xr
   split at xr
   ·rename_i i0 is0 h1 h2
    cases xr
    match ol,l,hl,h2 with
    | [],_,_,h2=>simp[rj]at h2
    |o1::ol,[],hl,_=>simp at hl
    | o1::ol,j1::l,hl,h2=>
     simp only[List.map_cons,List.cons.injEq]at hl
     obtain⟨hj1,hl⟩:=hl
     unfold rj at h2
     split at h2
     ·rename_i i1 is1 h3 h4
      cases h2
      obtain⟨M,e,r,ht,hn,hd⟩:=hh
      have Zw:=tD h1
      have Ns:=tD h3
      simp only[AI.dst]at Zw Ns
      refine xq (K':=fun bE s'=>bE=tm.put (some a) (tm.get k)∧s'=s) hj0 h1 r (B.laid.ext e) ht (by simp only[iV,guarded,aO,X.ev,and_self]) (fun d v s1 w1 M1 hk e1 r1 hv=>?_)
      obtain⟨rn,rfl⟩:=hk
      have hH:=Holds.put e ht hn hd (yn h1) e1 r1 hv
      simp only[AI.dst]at rn
      rw[← Zw]at hH ⊢
      rw[rn]at hH
      obtain⟨g,hg,_,hb⟩:=Bt h3
      obtain⟨rfl,args,mH,mF,zp,oJ⟩:=Q3 hb
      simp only[wpOps,hj1,T1 hg,if_true]
      left
      have WK:args.map (act.put (some a) v).eval = #[(act.put (some a) v).tmps.getD a Go.undef]:=by
       have:args.toList = [.tmp a]:=by
        match hA:args.toList with
        | []=>rw[hA]at oJ;simp[x9]at oJ
        | [x]=>
         rw[hA]at oJ
         simp only[x9]at oJ
         split at oJ
         ·rename_i x' r' hx hr
          cases oJ
          rw[aa0 hx]
         ·cases oJ
        | x::y::z=>
         rw[hA]at oJ
         simp only[x9]at oJ
         split at oJ
         ·rename_i x' r' hx hr
          cases oJ
          split at hr
          ·cases hr
          ·cases hr
         ·cases oJ
       have:args = #[.tmp a]:=by rw[← Array.toArray_toList (xs:=args),this]
       rw[this]
       simp only[List.map_toArray,List.map_cons,List.map_nil]
       rfl
      have hex:(execOp (act.put (some a) v).eval o1).run P w1 = .ok (.enter f #[(act.put (some a) v).tmps.getD a Go.undef]) w1:=by
       obtain⟨dst,op,type,pos,after,guard⟩:=o1
       simp only at mF
       subst mF
       rw[← WK]
       exact xl (act.put (some a) v).eval dst f args mH type pos after guard rfl zp w1
      unfold Oper.wp
      rw[hex,Oper.upon_enter]
      refine(aif _ _ hH).mono ?_
      rintro en w' ⟨v',rfl,bE,s',hH',hvc⟩
      rw[← Ns]
      exact Bo (Q:=Q) l ol _ hl h4 bE s' _ w' hvc hH'
     ·cases h2
   ·cases xr
 exact key _ _ (Bp ops) hi
theorem HG (hB:B.s = ⟨[],[]⟩) {tm:Tm} {s:St} {act:Act} {w:World} (h:Holds B nt tm s act w) {t:Nat} {l:List aF} (ht:s.aw[t]? = some (some l.length)) {k0:Nat} (hk0:tm.get k0 = .slice (.tok t) 1 (l.map encStr)) :
 (l = []∧∀ k,tm.get k = .slice (.tok t) 1 (l.map encStr)→(act.tmps.getD k Go.undef = .slice none 0 0∨∃ b q,act.tmps.getD k Go.undef = .slice (some ⟨b,q,none⟩) 0 0))∨
 ∃ (b cap:Nat) (vs:Array Value) (T:TypeId),(∀ k,tm.get k = .slice (.tok t) 1 (l.map encStr)→act.tmps.getD k Go.undef = .slice (some ⟨b,0,none⟩) l.length cap)∧l.length≤cap∧w.heap[b]? = some (.cells vs T (0,0))∧vs.size=cap∧B.w.heap.size≤b∧
  ∀ j (hj:j<l.length),vs[j]? = some (.string ⟨⟨l[j]⟩⟩):=by
 obtain⟨M,e,r,hr,_,_⟩:=h
 rcases r.tok t _ ht with ⟨h3,h4⟩|⟨b,cap,z,vs,T,h3,h4,h5,h6,h7⟩
 ·have hl:l = []:=List.eq_nil_of_length_eq_zero h4
  subst hl
  refine .inl ⟨rfl,fun k hk=>?_⟩
  have hv:=hr k
  rw[hk]at hv
  generalize act.tmps.getD k Go.undef=v at hv
  cases hv with
  |jj _ _ cap hc pS=>subst hc;exact .inl rfl
  |slice _ _ _ b q cap hl hs h1 h2 pS=>
   rcases(pS.2 _ ht).2 rfl with ⟨_,h0,_⟩|⟨b',_,kR⟩
   ·subst h0;exact .inr ⟨b,q,rfl⟩
   ·rw[h3]at kR;cases kR
 ·right
  have each : ∀ k,tm.get k = .slice (.tok t) 1 (l.map encStr)→z=1∧act.tmps.getD k Go.undef = .slice (some ⟨b,0,none⟩) l.length cap∧l.length≤cap∧∀ j (hj:j<l.length),∃ u,M.G b j=some u∧RD M s (.str l[j]) u:=by
   intro k hk
   have hv:=hr k
   rw[hk]at hv
   generalize act.tmps.getD k Go.undef=v at hv
   generalize kq:l.map encStr=rows at hv
   cases hv with
   |jj _ _ cap hc pS=>
    have hl:l = []:=by cases l<;>simp at kq;rfl
    subst hl
    rcases(pS.2 _ ht).2 rfl with ⟨h0,_⟩|⟨b',h0,_⟩
    ·rw[h3]at h0;cases h0
    ·cases h0
   | slice _ _ _ b2 q aAJ hl hs h1 h2 pS=>
    subst kq
    rw[List.length_map]at hl pS
    rcases(pS.2 _ ht).2 rfl with ⟨h0,_⟩|⟨b',hb,kR⟩
    ·rw[h3]at h0;cases h0
    ·cases hb
     rw[h3]at kR
     cases kR
     refine⟨rfl,by rw[List.length_map],hl,fun j hj=>?_⟩
     have e1:(l.map encStr)[j]? = some [.str l[j]]:=by rw[List.getElem?_map,List.getElem?_eq_getElem hj];rfl
     obtain⟨u,hu⟩:=h1 j _ 0 _ e1 rfl
     refine⟨u,by simpa using hu,h2 j _ 0 _ u e1 rfl hu⟩
  obtain⟨rfl,_,ua,lY⟩:=each k0 hk0
  have dr:B.w.heap.size≤b:=by
   rcases e.qF t b cap 1 ⟨_,ht⟩ h3 with ⟨⟨n,hn⟩,_⟩|h
   ·rw[hB]at hn;simp at hn
   ·exact h
  refine⟨b,cap,vs,T,fun k hk=>(each k hk).2.1,ua,h4,by simpa[zs]using h5,dr,fun j hj=>?_⟩
  obtain⟨u,hu,jy⟩:=lY j hj
  have:=(r.comm _ _ _ hu).1
  rw[jd h4,jy.ll]at this
  exact this
theorem Lg (hB:B.s = ⟨[],[]⟩) {tm:Tm} {s:St} {act uy:Act} {w w':World} (h:Holds B nt tm s act w) {b cap:Nat} {vs:Array Value} {T:TypeId} (eg:vs.size=cap) (wU:B.w.heap.size≤b)
 (lU : ∀ q,q<B.w.heap.size→w'.heap[q]? = w.heap[q]?) (ey:w'.heap[b]? = some (.cells vs T (0,0))) (eH:w.heap.size≤w'.heap.size) (uE:w'.os=w.os) (EF:w'.tape=w.tape) (Vf:w'.output=w.output)
 {l:List aF} (hl:l.length≤cap) (lY : ∀ j (hj:j<l.length),vs[j]? = some (.string ⟨⟨l[j]⟩⟩)) {k:Nat} (Q4:uy.tmps.getD k Go.undef = .slice (some ⟨b,0,none⟩) l.length cap) (hn:uy.tmps.size=nt) (hd:uy.defers = []) :
 Holds B nt [(k, .slice (.tok 0) 1 (l.map encStr))] ⟨[],[some l.length]⟩ uy w':=by
 obtain⟨M,e,r,hr,_,_⟩:=h
 let M':Map:=⟨fun q o=>if q=b then(if o<l.length then(l[o]?).map fun x=>Value.string ⟨⟨x⟩⟩else none)else B.M.G q o,B.M.loc,fun _=>some (b,cap,1)⟩
 have hGb : ∀ q o v,B.M.G q o=some v→q<B.w.heap.size∧w'.cell? ⟨q,o,none⟩=some v∧v.oneCell'=true:=by
  intro q o v hq
  obtain⟨h1,h2⟩:=r.comm q o v (e.le.G q o v hq)
  have hC:=B.Dl q o v hq
  refine⟨hC, ?_,h2⟩
  rw[← h1]
  simp[World.cell?,lU q hC]
 have kG : ∀ j (hj:j<l.length),w'.cell? ⟨b,j,none⟩=some (.string ⟨⟨l[j]⟩⟩):=fun j hj=>by rw[jd ey];exact lY j hj
 have hE : ∀ (j:Nat) v,(if j<l.length then(l[j]?).map fun x=>Value.string ⟨⟨x⟩⟩else none)=some v→∃ hj:j<l.length,v = .string ⟨⟨l[j]⟩⟩:=by
  intro j v hv
  split at hv
  ·rename_i hj
   rw[List.getElem?_eq_getElem hj]at hv
   exact⟨hj,by simpa using hv.symm⟩
  ·cases hv
 refine⟨M',⟨⟨fun q o v hq=>?_,by simp[hB],fun o ho=> .refl _,by rw[hB];exact Nat.zero_le _,fun t n' ht _=>by rw[hB]at ht;exact absurd ht (Nat.not_lt_zero _)⟩,fun q hq _ _=>?_,fun o _ h2=>absurd h2 (Nat.not_lt_zero _),fun t q c z _ hb=>?_,fun q o fi=>?_,Nat.le_trans e.size eH,uE.trans e.os,EF.trans e.tape,Vf.trans e.output⟩,
  ⟨fun q o v hq=>?_,fun o ds ho=>by simp at ho,fun o ho=>absurd ho (Nat.not_lt_zero _),fun o o' ho=>absurd ho (Nat.not_lt_zero _),fun t n ht=>?_,fun t q c z o _ _ ho=>absurd ho (Nat.not_lt_zero _),fun t t' q c z c' z' vV la _ _=>?_⟩,fun u=>?_,hn,hd⟩
 ·show(if q=b then _ else B.M.G q o)=some v
  rw[if_neg (by have:=(hGb q o v hq).1;omega)]
  exact hq
 ·rw [lU q hq]
  exact e.kept q hq (fun o ho=>by rw[hB]at ho;exact absurd ho (Nat.not_lt_zero _)) (fun t c z la=>by rw[hB]at la;obtain⟨n,AH⟩:=la;simp at AH)
 ·cases hb;exact .inr wU
 ·by_cases hq:q=b
  ·subst hq;exact .inl wU
  ·exact absurd (show(if q=b then _ else B.M.G q o)=B.M.G q o from if_neg hq) fi
 ·have mD:(if q=b then(if o<l.length then(l[o]?).map fun x=>Value.string ⟨⟨x⟩⟩else none)else B.M.G q o)=some v:=hq
  by_cases hqb:q=b
  ·rw [if_pos hqb]at mD
   obtain⟨hj,rfl⟩:=hE o v mD
   rw[hqb]
   exact⟨kG o hj,rfl⟩
  ·rw [if_neg hqb]at mD
   exact(hGb q o v mD).2
 ·match t with
  | 0=>
   simp at ht
   subst ht
   refine .inr ⟨b,cap,1,vs,T,rfl,ey,by simp[zs,eg],hl,fun off ho=>?_,fun h=>by cases h⟩
   show(if b=b then(if off<l.length then _ else none)else B.M.G b off)=none
   rw[if_pos rfl,if_neg (by simp[zs]at ho;omega)]
  |t+1=>simp at ht
 ·obtain⟨n1,h1⟩:=vV
  obtain⟨n2,h2⟩:=la
  have a1:=(List.getElem?_eq_some_iff.1 h1).1
  have a2:=(List.getElem?_eq_some_iff.1 h2).1
  simp at a1 a2
  omega
 ·simp only [Tm.get]
  split
  ·rename_i hku
   subst hku
   rw[Q4]
   have:=RD.slice (M:=M') (s:=⟨[],[some l.length]⟩) (.tok 0) 1 (l.map encStr) b 0 cap (by simpa using hl) (fun row hr=>by
    obtain⟨x,_,rfl⟩:=List.mem_map.1 hr;rfl) (fun i row j d e1 e2=>?_) (fun i row j d u e1 e2 eu=>?_) ⟨by simp,fun n AH=>by
    simp at AH
    subst AH
    exact⟨by simp,fun _=> .inr ⟨b,rfl,rfl⟩⟩⟩
   ·simpa using this
   ·rw [List.getElem?_map]at e1
    cases As:l[i]? with
    |none=>rw[As]at e1;cases e1
    |some x=>
     have qY:=(List.getElem?_eq_some_iff.1 As).1
     rw[As]at e1
     cases e1
     have hj:j=0:=by cases j with|zero=>rfl|succ j=>simp[encStr]at e2
     subst hj
     refine⟨.string ⟨⟨x⟩⟩, ?_⟩
     show(if b=b then(if 0+(i*1+0)<l.length then _ else none)else _)=_
     rw[if_pos rfl,if_pos (by omega)]
     simp[As]
   ·rw [List.getElem?_map]at e1
    cases As:l[i]? with
    |none=>rw[As]at e1;cases e1
    |some x=>
     have qY:=(List.getElem?_eq_some_iff.1 As).1
     rw[As]at e1
     cases e1
     have hj:j=0:=by cases j with|zero=>rfl|succ j=>simp[encStr]at e2
     subst hj
     have E6:(if b=b then(if 0+(i*1+0)<l.length then(l[0+(i*1+0)]?).map fun x=>Value.string ⟨⟨x⟩⟩else none)else B.M.G b (0+(i*1+0)))=some u:=eu
     rw[if_pos rfl,if_pos (by omega)]at E6
     simp[As]at E6
     subst E6
     simp[encStr]at e2
     subst e2
     exact .str x
  ·exact .junk _
theorem Nt (hB:B.s = ⟨[],[]⟩) {tm:Tm} {s:St} {act uy:Act} {w:World} (h:Holds B nt tm s act w) {k:Nat} (Q4:uy.tmps.getD k Go.undef = .slice none 0 0∨∃ b q,uy.tmps.getD k Go.undef = .slice (some ⟨b,q,none⟩) 0 0) (hn:uy.tmps.size=nt) (hd:uy.defers = []) :
 Holds B nt [(k, .slice (.tok 0) 1 (([] : List aF).map encStr))] ⟨[],[some 0]⟩ uy w:=by
 obtain⟨M,e,r,hr,_,_⟩:=h
 let M':Map:=⟨B.M.G,B.M.loc,fun _=>none⟩
 refine⟨M',⟨⟨fun q o v hq=>hq,by simp[hB],fun o ho=> .refl _,by rw[hB];exact Nat.zero_le _,fun t n' ht _=>by rw[hB]at ht;exact absurd ht (Nat.not_lt_zero _)⟩,fun q hq _ _=>?_,fun o _ h2=>absurd h2 (Nat.not_lt_zero _),fun t q c z _ hb=>(by cases hb),fun q o fi=>absurd rfl fi,e.size,e.os,e.tape,e.output⟩,
  ⟨fun q o v hq=>r.comm q o v (e.le.G q o v hq),fun o ds ho=>by simp at ho,fun o ho=>absurd ho (Nat.not_lt_zero _),fun o o' ho=>absurd ho (Nat.not_lt_zero _),fun t n ht=>?_,fun t q c z o _ _ ho=>absurd ho (Nat.not_lt_zero _),fun t t' q c z c' z' vV la h1 _=>by cases h1⟩,fun u=>?_,hn,hd⟩
 ·exact e.kept q hq (fun o ho=>by rw[hB]at ho;exact absurd ho (Nat.not_lt_zero _)) (fun t c z la=>by rw[hB]at la;obtain⟨n,AH⟩:=la;simp at AH)
 ·match t with
  | 0=>simp at ht;subst ht;exact .inl ⟨rfl,rfl⟩
  |t+1=>simp at ht
 ·simp only [Tm.get]
  split
  ·rename_i hku
   subst hku
   have pS : ∀ base,iO M' ⟨[],[some 0]⟩ (.tok 0) 1 0 base 0:=fun base=>⟨by simp,fun n AH=>by
    simp at AH
    subst AH
    exact⟨Nat.le_refl _,fun _=> .inl ⟨rfl,rfl,fun h=>by cases h⟩⟩⟩
   rcases Q4 with h|⟨b,q,h⟩
   ·rw[h];exact .jj _ _ 0 rfl (pS none)
   ·rw[h];exact .slice (.tok 0) 1 [] b q 0 (Nat.le_refl _) (by simp) (by simp) (by simp) (pS _)
  ·exact .junk _
theorem Lh {α:Type} [Inhabited α] (enc:α→Value) (d:Array α) (c:Array Value) (j:Nat):(Sort.putCells enc 0 d c)[j]? = if j<d.size then(c[j]?).map fun _=>enc d[j]! else c[j]? :=by
 simp only[Sort.putCells,Array.getElem?_mapIdx]
 cases h:c[j]? with
 |none=>simp
 |some x=>by_cases hj:j<d.size<;>simp[hj]
theorem HH {w:World} {b n cap:Nat} {vs:Array Value} {T:TypeId} (ey:w.heap[b]? = some (.cells vs T (0,0))) (eg:vs.size=cap) (l:List aF) (hl:l.length≤cap) (os:Array Obj) :
 (∀ q,q≠b→q<w.heap.size→(Sort.grow (Sort.putRow Go.Proofs.encStr (Sort.ahead w n) b 0 l.toArray) os).heap[q]? = w.heap[q]?)∧
 (Sort.grow (Sort.putRow Go.Proofs.encStr (Sort.ahead w n) b 0 l.toArray) os).heap[b]? = some (.cells (Sort.putCells Go.Proofs.encStr 0 l.toArray vs) T (0,0))∧w.heap.size≤(Sort.grow (Sort.putRow Go.Proofs.encStr (Sort.ahead w n) b 0 l.toArray) os).heap.size∧
 (Sort.putCells Go.Proofs.encStr 0 l.toArray vs).size=cap∧∀ j (hj:j<l.length),(Sort.putCells Go.Proofs.encStr 0 l.toArray vs)[j]? = some (.string ⟨⟨l[j]⟩⟩):=by
 have hb:b<w.heap.size:=(Array.getElem?_eq_some_iff.1 ey).1
 refine⟨fun q hq hC=>?_, ?_, ?_, ?_,fun j hj=>?_⟩
 ·simp only [Sort.grow,Sort.putRow,Sort.mapBlock,Sort.ahead]
  rw[Array.getElem?_append_left (by simpa using hC),Array.getElem?_modify]
  simp[Ne.symm hq]
 ·simp only [Sort.grow,Sort.putRow,Sort.mapBlock,Sort.ahead]
  rw[Array.getElem?_append_left (by simpa using hb),Array.getElem?_modify]
  simp[ey,Sort.onCells]
 ·simp[Sort.grow,Sort.putRow,Sort.mapBlock,Sort.ahead]
 ·simp[Sort.putCells,eg]
 ·rw [Lh]
  have h1:j<l.toArray.size:=by simpa using hj
  have h2:vs[j]? = some vs[j]:=Array.getElem?_eq_getElem (by omega)
  rw[if_pos h1,h2]
  simp[hj]
def l7 (l:List aF):List aF:=l.mergeSort fun x y=>decide (x≤y)
theorem Li {act:Act} {b:Nat} {v:Value} {u:Nat} (h:u≠b):(act.put (some b) v).tmps.getD u Go.undef=act.tmps.getD u Go.undef:=by
 simp only[Act.put,Array.getD_eq_getD_getElem?]
 rw[Array.getElem?_setIfInBounds_ne (fun e=>h e.symm)]
theorem HI {act:Act} {b:Nat} {v:Value} (h:b<act.tmps.size):(act.put (some b) v).tmps.getD b Go.undef=v:=by
 simp only[Act.put,Array.getD_eq_getD_getElem?]
 simp[h]
theorem Sem.sort (hB:B.s = ⟨[],[]⟩) {a k b t:Nat} {l:List aF} {is:List AI} {Q:Exit→Tm→St→Prop} {tm:Tm} {s:St} (hak:a≠k) (hbk:b≠k) (Zn:a≠b)
 (hk:tm.get k = .slice (.tok t) 1 (l.map encStr)) (ht:s.aw[t]? = some (some l.length)) (hl:l.length<4611686018427387904)
 (h:iV Tryz.prog is (Q .normal) [(k, .slice (.tok 0) 1 ((l7 l).map encStr))] ⟨[],[some l.length]⟩) :
 Sem Tryz.prog B nt (.run (.op (some a) none (.mv (.s k)):: .call (some b) none jD [.s a]::is)) Q tm s:=by
 refine Sem.aeZ fun act w hh=>?_
 have An:(tm.put (some a) (tm.get k)).get k = .slice (.tok t) 1 (l.map encStr):=by rw[Tm.lr,if_neg (by simpa using hak)];exact hk
 have Lj:(tm.put (some a) (tm.get k)).get a = .slice (.tok t) 1 (l.map encStr):=by rw[Tm.lr,if_pos rfl];exact hk
 have Fq:(l7 l).length=l.length:=List.length_mergeSort l
 have hn:(act.put (some b) (.tuple #[])).tmps.size=nt:=by obtain⟨_,_,_,_,h1,_⟩:=hh;simpa[Act.put]using h1
 have hd:(act.put (some b) (.tuple #[])).defers = []:=by obtain⟨_,_,_,_,_,h1⟩:=hh;simpa[Act.put]using h1
 have eg:(act.tmps).size=nt:=by obtain⟨_,_,_,_,h1,_⟩:=hh;exact h1
 rcases HG hB hh ht Lj with ⟨rfl,hv⟩|⟨b',cap,vs,T,hv,ua,ey,tx,wU,lY⟩
 ·rw [show l7 [] = [] by simp [l7]]at h
  have call : ∀ p,act.tmps.getD a Go.undef = .slice p 0 0→Calls Tryz.prog jD #[act.tmps.getD a Go.undef] w fun e w'=>∃ v,e = .returned v∧∃ bE s',Holds B nt bE s' (act.put (some b) v) w'∧iV Tryz.prog is (Q .normal) bE s':=by
   intro p hp
   rw[hp]
   refine(Tryz.slices_Sort_string_none p 0 w).mono ?_
   rintro e w' ⟨rfl,rfl⟩
   refine⟨_,rfl,_,_,Nt hB hh (k:=k) ?_ hn hd,h⟩
   rw[Li (Ne.symm hbk)]
   exact hv k An
  rcases hv a Lj with h1|⟨b',q,h1⟩
  ·exact call _ h1
  ·exact call _ h1
 ·rw [hv a Lj]
  have hC:b'<w.heap.size:=(Array.getElem?_eq_some_iff.1 ey).1
  refine(Tryz.slices_Sort_string b' 0 cap l w (fun j hj=>?_) hC hl).mono ?_
  ·have T2:j<l.length:=by simpa using hj
   refine⟨?_,by simp[World.frozen?,ey]⟩
   rw[Nat.zero_add,jd ey,lY j T2]
   simp[T2]
  ·rintro e w' ⟨rfl,n,os,rfl⟩
   obtain⟨p1,p2,p3,p4,p5⟩:=HH (n:=n) ey tx (l7 l) (by omega) os
   have hH:=Lg hB hh (uy:=act.put (some b) (.tuple #[])) (l:=l7 l) (k:=k) p4 wU (fun q hq=>p1 q (by omega) (by obtain⟨M,e,_⟩:=hh;exact Nat.lt_of_lt_of_le hq e.size)) p2 p3 rfl rfl rfl (by omega) p5 (by rw[Li (Ne.symm hbk),hv k An,Fq]) hn hd
   rw[Fq]at hH
   exact⟨_,rfl,_,_,hH,h⟩
theorem MM (l:List aF):(Lib.compact l).length≤l.length:=by
 unfold Lib.compact Lib.compactUpTo
 rw[List.length_map]
 exact Nat.le_trans (List.length_filter_le _ _) (by simp)
theorem Sem.compact (hB:B.s = ⟨[],[]⟩) {a k b t:Nat} {l:List aF} {is:List AI} {Q:Exit→Tm→St→Prop} {tm:Tm} {s:St} (hbt:b<nt)
 (hk:tm.get k = .slice (.tok t) 1 (l.map encStr)) (ht:s.aw[t]? = some (some l.length)) (hl:l.length<4611686018427387904)
 (h:iV Tryz.prog is (Q .normal) [(b, .slice (.tok 0) 1 ((Lib.compact l).map encStr))] ⟨[],[some (Lib.compact l).length]⟩) :
 Sem Tryz.prog B nt (.run (.op (some a) none (.mv (.s k)):: .call (some b) none j7 [.s a]::is)) Q tm s:=by
 refine Sem.aeZ fun act w hh=>?_
 have Lj:(tm.put (some a) (tm.get k)).get a = .slice (.tok t) 1 (l.map encStr):=by rw[Tm.lr,if_pos rfl];exact hk
 have eg:(act.tmps).size=nt:=by obtain⟨_,_,_,_,h1,_⟩:=hh;exact h1
 have hn : ∀ v,(act.put (some b) v).tmps.size=nt:=fun v=>by simpa[Act.put]using eg
 have hd : ∀ v,(act.put (some b) v).defers = []:=by obtain⟨_,_,_,_,_,h1⟩:=hh;intro v;simpa[Act.put]using h1
 rcases HG hB hh ht Lj with ⟨rfl,hv⟩|⟨b',cap,vs,T,hv,ua,ey,tx,wU,lY⟩
 ·rw [show Lib.compact ([] : List aF) = []from rfl]at h
  have call : ∀ p,act.tmps.getD a Go.undef = .slice p 0 0→(p=none∨∃ b q,p=some ⟨b,q,none⟩)→Calls Tryz.prog j7 #[act.tmps.getD a Go.undef] w fun e w'=>∃ v,e = .returned v∧∃ bE s',Holds B nt bE s' (act.put (some b) v) w'∧iV Tryz.prog is (Q .normal) bE s':=by
   intro p hp hq
   rw[hp]
   refine(Tryz.slices_Compact_string_empty p 0 w).mono ?_
   rintro e w' ⟨rfl,rfl⟩
   refine⟨_,rfl,_,_,Nt hB hh (k:=b) ?_ (hn _) (hd _),h⟩
   rw[HI (by omega)]
   rcases hq with rfl|⟨x,y,rfl⟩
   ·exact .inl rfl
   ·exact .inr ⟨x,y,rfl⟩
  rcases hv a Lj with h1|⟨b',q,h1⟩
  ·exact call _ h1 (.inl rfl)
  ·exact call _ h1 (.inr ⟨b',q,rfl⟩)
 ·rw [hv a Lj]
  have nF:(Lib.compact l).length≤l.length:=MM l
  refine(Tryz.slices_Compact_string b' 0 cap l w (fun j hj=>?_) (by omega) ua).mono ?_
  ·have T2:j<l.length:=by simpa using hj
   refine⟨?_,by simp[World.frozen?,ey]⟩
   rw[Nat.zero_add,jd ey,lY j T2]
   simp[T2]
  ·rintro e w' ⟨rfl,q,rfl⟩
   obtain⟨p1,p2,p3,p4,p5⟩:=HH (n:=q) ey tx (Lib.compact l++List.replicate (l.length - (Lib.compact l).length) []) (by simp;omega) #[]
   rw[Sort.grow_empty]at p1 p2 p3
   have hH:=Lg hB hh (uy:=act.put (some b) (.slice (some ⟨b',0,none⟩) (Lib.compact l).length cap)) (l:=Lib.compact l) (k:=b) p4 wU (fun q hq=>p1 q (by omega) (by obtain⟨M,e,_⟩:=hh;exact Nat.lt_of_lt_of_le hq e.size)) p2 p3 rfl rfl rfl (by omega)
    (fun j hj=>by
     have:=p5 j (by simp;omega)
     rw[List.getElem_append_left hj]at this
     exact this) (HI (by omega)) (hn _) (hd _)
   exact⟨_,rfl,_,_,hH,h⟩
end
end Go.Abs
namespace Go.Abs
theorem Fs {a b:UInt8} : a<b↔a.toNat<b.toNat:=UInt8.lt_iff_toNat_lt
theorem yV : ∀ a:aF,bytesLess a a=false
 | []=>rfl
 |x::a=>by
  show Go.Op.bytesLess (x::a) (x::a)=false
  have h:=yV a
  have h:Go.Op.bytesLess a a=false:=h
  simp[Go.Op.bytesLess,h]
theorem yW : ∀ a b:aF,bytesLess a b=true∨a=b∨bytesLess b a=true
 | [],[]=> .inr (.inl rfl)
 | [],y::b=> .inl rfl
 |x::a,[]=> .inr (.inr rfl)
 | x::a,y::b=>by
  show Go.Op.bytesLess (x::a) (y::b)=true∨_∨Go.Op.bytesLess (y::b) (x::a)=true
  have h:Go.Op.bytesLess a b=true∨a=b∨Go.Op.bytesLess b a=true:=yW a b
  simp only[Go.Op.bytesLess,Bool.or_eq_true,Bool.and_eq_true,decide_eq_true_eq,beq_iff_eq,List.cons.injEq]
  by_cases e:x=y
  ·subst e
   rcases h with h|h|h
   ·exact .inl (.inr ⟨rfl,h⟩)
   ·exact .inr (.inl ⟨rfl,h⟩)
   ·exact .inr (.inr (.inr ⟨rfl,h⟩))
  ·have:x.toNat≠y.toNat:=fun h=>e (UInt8.toNat_inj.1 h)
   rcases Nat.lt_or_gt_of_ne this with h|h
   ·exact .inl (.inl (Fs.2 h))
   ·exact .inr (.inr (.inl (Fs.2 h)))
theorem Ft : ∀ a b c:aF,bytesLess a b=true→bytesLess b c=true→bytesLess a c=true
 |a,b,[],h1,h2=>by cases b<;>cases h2
 |a,[],z::c,h1,h2=>by cases a<;>cases h1
 | [],y::b,z::c,h1,h2=>rfl
 | x::a,y::b,z::c,h1,h2=>by
  have h1:Go.Op.bytesLess (x::a) (y::b)=true:=h1
  have h2:Go.Op.bytesLess (y::b) (z::c)=true:=h2
  show Go.Op.bytesLess (x::a) (z::c)=true
  simp only[Go.Op.bytesLess,Bool.or_eq_true,Bool.and_eq_true,decide_eq_true_eq,beq_iff_eq]at h1 h2 ⊢
  rcases h1 with e1|⟨i1,e1⟩
  ·rcases h2 with e2 | ⟨i2,e2⟩
   ·exact .inl (Fs.2 (Nat.lt_trans (Fs.1 e1) (Fs.1 e2)))
   ·exact .inl (i2 ▸ e1)
  ·rcases h2 with e2 | ⟨i2,e2⟩
   ·exact .inl (i1 ▸ e2)
   ·exact .inr ⟨i1.trans i2,Ft a b c e1 e2⟩
def B2 (l:List aF):Prop:=l.Pairwise fun a b=>bytesLess a b=true
theorem xO : ∀ {a b:List aF},B2 a→B2 b→(∀ x,x∈a↔x∈b)→a=b
 | [],[],_,_,_=>rfl
 | [],y::b,_,_,h=>absurd ((h y).2 List.mem_cons_self) (by simp)
 |x::a,[],_,_,h=>absurd ((h x).1 List.mem_cons_self) (by simp)
 | x::a,y::b,h1,h2,h=>by
  obtain⟨g1,g2⟩:=List.pairwise_cons.1 h1
  obtain⟨g3,g4⟩:=List.pairwise_cons.1 h2
  have e:x=y:=by
   rcases List.mem_cons.1 ((h x).1 List.mem_cons_self)with e|m
   ·exact e
   ·rcases List.mem_cons.1 ((h y).2 List.mem_cons_self)with e | m'
    ·exact e.symm
    ·have:=Ft _ _ _ (g3 x m) (g1 y m');rw[yV]at this;cases this
  subst e
  rw[xO g2 g4 fun z=>?_]
  constructor
  ·intro m
   rcases List.mem_cons.1 ((h z).1 (List.mem_cons_of_mem _ m))with e|m'
   ·subst e;have:=g1 z m;rw[yV]at this;cases this
   ·exact m'
  ·intro m
   rcases List.mem_cons.1 ((h z).2 (List.mem_cons_of_mem _ m))with e|m'
   ·subst e;have:=g3 z m;rw[yV]at this;cases this
   ·exact m'
theorem u6 (out:List aF) : ∀ (l:List aF) (c:aF) (a:Bool),
 let q:=nz out l c a
 (q.2=false↔a=false∧∀ x∈l,x∈out)∧(q.2=true→((a=true∧q.1=c)∨(q.1∈l∧q.1∉out))∧(a=true→bytesLess c q.1=false)∧∀ x∈l,x∉out→bytesLess x q.1=false)
 | [],c,a=>by
  simp only[nz]
  refine⟨by simp,fun h=>⟨.inl ⟨h,by trivial⟩,fun _=>yV c,fun x m=>(by cases m)⟩⟩
 | s::l,c,a=>by
  simp only[nz]
  by_cases h1:fq out s=true
  ·have m:=(jc _ _).1 h1
   simp only[h1,Bool.not_true,Bool.false_and,Bool.false_eq_true,if_false]
   obtain⟨k1,k2⟩:=u6 out l c a
   refine⟨k1.trans ⟨fun h=>⟨h.1,fun x hx=>?_⟩,fun h=>⟨h.1,fun x hx=>h.2 x (List.mem_cons_of_mem _ hx)⟩⟩,fun h=>?_⟩
   ·rcases List.mem_cons.1 hx with rfl | hx
    ·exact m
    ·exact h.2 x hx
   ·obtain⟨g1,g2,g3⟩:=k2 h
    refine⟨g1.imp_right fun h=>⟨List.mem_cons_of_mem _ h.1,h.2⟩,g2,fun x hx hn=>?_⟩
    rcases List.mem_cons.1 hx with rfl|hx
    ·exact absurd m hn
    ·exact g3 x hx hn
  ·have m:s∉out:=fun m=>h1 ((jc _ _).2 m)
   have sk:fq out s=false:=by simpa using h1
   by_cases h2:(!a ||bytesLess s c)=true
   ·simp only [sk,h2,Bool.not_false,Bool.and_self,if_true]
    obtain⟨k1,k2⟩:=u6 out l s true
    refine⟨⟨fun h=>absurd (k1.1 h).1 (by simp),fun h=>absurd (h.2 s List.mem_cons_self) m⟩,fun h=>?_⟩
    obtain⟨g1,g2,g3⟩:=k2 h
    have g4:=g2 rfl
    refine⟨.inr ?_,fun ha=>?_,fun x hx hn=>?_⟩
    ·rcases g1 with ⟨_,e⟩ | g1
     ·rw[e];exact⟨List.mem_cons_self,m⟩
     ·exact⟨List.mem_cons_of_mem _ g1.1,g1.2⟩
    ·have h3:bytesLess s c=true:=by simpa [ha]using h2
     cases hh:bytesLess c (nz out l s true).1
     ·rfl
     ·have:=Ft _ _ _ h3 hh;rw[g4]at this;cases this
    ·rcases List.mem_cons.1 hx with rfl | hx
     ·exact g4
     ·exact g3 x hx hn
   ·have uF:(!a || bytesLess s c)=false:=by simpa using h2
    have ha:a=true:=by cases a<;>simp_all
    have h3:bytesLess s c=false:=by cases a<;>simp_all
    simp only[sk,uF,Bool.not_false,Bool.and_false,Bool.false_eq_true,if_false]
    obtain⟨k1,k2⟩:=u6 out l c a
    refine⟨⟨fun h=>absurd (k1.1 h).1 (by simp[ha]),fun h=>absurd h.1 (by simp[ha])⟩,fun h=>?_⟩
    obtain⟨g1,g2,g3⟩:=k2 h
    refine⟨g1.imp_right fun h=>⟨List.mem_cons_of_mem _ h.1,h.2⟩,g2,fun x hx hn=>?_⟩
    rcases List.mem_cons.1 hx with rfl|hx
    ·cases hh:bytesLess x (nz out l c a).1
     ·rfl
     ·have g4:=g2 ha
      rcases yW x c with e|e|e
      ·rw[h3]at e;cases e
      ·subst e;rw[g4]at hh;cases hh
      ·have:=Ft _ _ _ e hh;rw[g4]at this;cases this
    ·exact g3 x hx hn
theorem xP (l:List aF) : ∀ (n:Nat) (out:List aF),B2 out→(∀ x∈out,x∈l)→(∀ x∈out,∀ y∈l,y∉out→bytesLess x y=true)→
 B2 (pL l n out)∧(∀ x∈pL l n out,x∈l)∧(∀ x∈out,x∈pL l n out)∧((∀ x∈l,x∈pL l n out)∨(pL l n out).length=out.length+n)
 | 0,out,h1,h2,h3=>⟨h1,h2,fun x m=>m, .inr rfl⟩
 | n+1,out,h1,h2,h3=>by
  simp only[pL,TY]
  obtain⟨k1,k2⟩:=u6 out l [] false
  cases hq:(nz out l [] false).2
  ·simp only [Bool.false_eq_true,if_false]
   obtain⟨g1,g2,g3,g4⟩:=xP l n out h1 h2 h3
   exact⟨g1,g2,g3, .inl fun x m=>g3 x ((k1.1 hq).2 x m)⟩
  ·simp only [if_true]
   obtain⟨g1,_,g3⟩:=k2 hq
   have g1:(nz out l [] false).1∈l∧(nz out l [] false).1∉out:=by
    rcases g1 with ⟨h,_⟩|g1
    ·cases h
    ·exact g1
   generalize (nz out l [] false).1=c at g1 g3
   obtain⟨r1,r2,r3,r4⟩:=xP l n (out++ [c])
    (by
     refine List.pairwise_append.2 ⟨h1,by simp,fun x hx y hy=>?_⟩
     have:y=c:=by simpa using hy
     subst this
     exact h3 x hx y g1.1 g1.2)
    (fun x hx=>by
     rcases List.mem_append.1 hx with hx|hx
     ·exact h2 x hx
     ·have:x=c:=by simpa using hx
      subst this;exact g1.1)
    (fun x hx y hy hn=>by
     have hyo:y∉out:=fun m=>hn (List.mem_append_left _ m)
     have hyc:y≠c:=fun e=>hn (List.mem_append_right _ (by simp[e]))
     rcases List.mem_append.1 hx with hx|hx
     ·exact h3 x hx y hy hyo
     ·have:x=c:=by simpa using hx
      subst this
      rcases yW x y with h|h|h
      ·exact h
      ·exact absurd h.symm hyc
      ·rw[g3 y hy hyo]at h;cases h)
   refine⟨r1,r2,fun x m=>r3 x (List.mem_append_left _ m),r4.imp_right fun h=>?_⟩
   rw[h];simp;omega
theorem xa : ∀ (a l:List aF),a.Nodup→(∀ x∈a,x∈l)→a.length≤l.length
 | [],l,_,_=>Nat.zero_le _
 |x::a,l,h,hm=>by
  obtain⟨h1,h2⟩:=List.nodup_cons.1 h
  have m:=hm x List.mem_cons_self
  have:=xa a (l.erase x) h2 fun y hy=>(List.mem_erase_of_ne (fun e=>h1 (by rw[← e];exact hy))).2 (hm y (List.mem_cons_of_mem _ hy))
  rw[List.length_erase_of_mem m]at this
  have:0<l.length:=List.length_pos_of_mem m
  simp only[List.length_cons];omega
theorem u7 {l:List aF} (h:B2 l):l.Nodup:=h.imp fun {a b} h e=>by subst e;rw[yV]at h;cases h
theorem l8 (l:List aF):B2 (ky l)∧∀ x,x∈ky l↔x∈l:=by
 obtain⟨h1,h2,h3,h4⟩:=xP l l.length [] List.Pairwise.nil (fun x m=>(by cases m)) (fun x m=>(by cases m))
 refine⟨h1,fun x=>⟨h2 x,fun m=>?_⟩⟩
 rcases h4 with h4|h4
 ·exact h4 x m
 ·refine Classical.byContradiction fun hn=> ?_
  have:=xa (x::pL l l.length []) l (List.nodup_cons.2 ⟨hn,u7 h1⟩) fun y hy=>by
   rcases List.mem_cons.1 hy with rfl|hy
   ·exact m
   ·exact h2 y hy
  simp only[List.length_cons,h4,List.length_nil]at this
  omega
theorem MN (zs:List aF) (hs:zs.Pairwise fun a b=>bytesLess b a=false) : ∀ m,m≤zs.length→
 B2 (Lib.compactUpTo zs.toArray m)∧(∀ x,x∈Lib.compactUpTo zs.toArray m↔x∈zs.take m):=by
 intro m
 induction m with
 |zero=>intro _;exact⟨by simp[Lib.compactUpTo,B2],fun x=>by simp[Lib.compactUpTo]⟩
 | succ m ih=>
  intro hm
  obtain⟨h1,h2⟩:=ih (by omega)
  have hz:zs[m]? = some zs[m]:=List.getElem?_eq_getElem (by omega)
  have e1:zs.toArray[m]! = zs[m]:=by simp[hm,Nat.lt_of_succ_le hm]
  have et:zs.take (m+1)=zs.take m++ [zs[m]]:=by rw[List.take_add_one,hz];rfl
  rw[Lib.compactUpTo_succ,e1,et]
  by_cases hk:Lib.keeps zs.toArray m=true
  ·rw [if_pos hk]
   refine⟨List.pairwise_append.2 ⟨h1,by simp,fun x hx y hy=>?_⟩,fun x=>by rw[List.mem_append,List.mem_append,h2]⟩
   have hy:y=zs[m]:=by simpa using hy
   subst hy
   have hx:=(h2 x).1 hx
   simp only[Lib.keeps,decide_eq_true_eq]at hk
   rcases hk with rfl|hk
   ·simp at hx
   ·have ny:m - 1<zs.length:=by omega
    have e2:zs.toArray[m - 1]! = zs[m - 1]:=by simp[ny]
    rw[e1,e2]at hk
    have h0:0<m:=by
     cases m with
     |zero=>simp at hx
     |succ m=>omega
    have hle : ∀ i j (hi:i<zs.length) (hj:j<zs.length),i<j→bytesLess zs[j] zs[i] = false:=fun i j hi hj Yi=>List.pairwise_iff_getElem.1 hs i j hi hj Yi
    have g1:bytesLess zs[m] zs[m - 1] = false:=hle (m - 1) m ny (by omega) (by omega)
    have g2:bytesLess zs[m - 1] zs[m] = true:=by
     rcases yW zs[m - 1] zs[m]with h|h|h
     ·exact h
     ·exact absurd h.symm hk
     ·rw[g1]at h;cases h
    obtain⟨i,hi,rfl⟩:=List.mem_iff_getElem.1 hx
    rw[List.length_take]at hi
    rw[List.getElem_take]
    by_cases o4:i=m - 1
    ·subst o4;exact g2
    ·have g3:=hle i (m - 1) (by omega) ny (by omega)
     rcases yW zs[i] zs[m - 1]with h|h|h
     ·exact Ft _ _ _ h g2
     ·rw[h];exact g2
     ·rw[g3]at h;cases h
  ·rw [if_neg hk]
   simp only[List.append_nil]
   refine⟨h1,fun x=>?_⟩
   rw[h2]
   simp only[Lib.keeps,decide_eq_true_eq,not_or,ne_eq,Decidable.not_not]at hk
   obtain⟨k1,k2⟩:=hk
   have ny:m - 1<zs.length:=by omega
   have e2:zs.toArray[m - 1]! = zs[m - 1]:=by simp[ny]
   rw[e1,e2]at k2
   simp only[List.mem_append,List.mem_singleton]
   constructor
   ·exact .inl
   ·rintro(h | rfl)
    ·exact h
    ·rw [k2]
     exact List.mem_iff_getElem.2 ⟨m - 1,by rw[List.length_take];omega,by rw[List.getElem_take]⟩
theorem HJ (l:List aF):(l7 l).Pairwise fun a b=>bytesLess b a=false:=by
 have h:=List.pairwise_mergeSort (le:=fun x y:aF=>decide (x≤y)) (fun a b c h1 h2=>?_) (fun a b=>?_) l
 ·refine h.imp fun {a b} h=> ?_
  rw[decide_eq_true_eq]at h
  show Go.Op.bytesLess b a=false
  rw[Go.Proofs.bytesLess_eq]
  simpa using h
 ·rw [decide_eq_true_eq]at h1 h2 ⊢
  exact List.le_trans h1 h2
 ·have:=List.le_total a b
  simpa using this
theorem B3 (l:List aF):Lib.compact (l7 l)=ky l:=by
 obtain⟨h1,h2⟩:=MN (l7 l) (HJ l) (l7 l).length (Nat.le_refl _)
 obtain⟨h3,h4⟩:=l8 l
 refine xO h1 h3 fun x=>?_
 rw[h4]
 refine(h2 x).trans ?_
 rw[List.take_length]
 exact(List.mergeSort_perm _ _).mem_iff
set_option maxRecDepth 8000
open Go.Proofs
def lT:List Sm→List aF
 | []=> []
 |v::l=>if v.kind==4 then v.proc::lT l else lT l
theorem Dy : ∀ l:List Sm,(lT l).length≤l.length
 | []=>Nat.le_refl _
 |v::l=>by
  simp only[lT]
  have:=Dy l
  split<;>simp<;>omega
def Pc.calls (f:Pc):List aF:=ky (lT (Sm.dm f.body))
theorem B4 {name:aF} : ∀ {l:List Pc} {k:Nat} {f:Pc},iS name l=some f→∃ j,l[j]? = some f∧k6 (fun f:Pc=>f.name==name) (k:Int) l=((k+j:Nat):Int)
 | g::l,k,f,h=>by
  simp only[iS]at h
  cases e:(g.name==name)
  ·rw [e]at h
   simp only[Bool.false_eq_true,if_false]at h
   obtain⟨j,h1,h2⟩:=B4 (k:=k+1) h
   refine⟨j+1,by simpa using h1, ?_⟩
   simp only[k6,e,Bool.false_eq_true,if_false]
   rw[show((k:Int)+1)=((k+1:Nat):Int)from rfl,h2]
   congr 1;omega
  ·rw [e]at h
   simp only[if_true,Option.some.injEq]at h
   exact⟨0,by simpa using h,by simp[k6,e]⟩
theorem aa2 {p:Pg} (h:p.iW) {name:aF} {f:Pc} (hf:p.find name=some f) (s:St):az Tryz.prog uq [.dL (fw p) 0, .str name] s (.slice .shared 1 (f.calls.map encStr)) s:=by
 refine az.pure ?_ (by simp[D.bH,D.ok,uw]) (by simp only[D.ok,Tag.ok,eB];rfl) s
 obtain⟨sh,r7,rZ⟩:=h.procs
 obtain⟨j,hj,rz⟩:=B4 (k:=0) hf
 have rz:p.at name=((j:Nat):Int):=by unfold Pg.at;simpa using rz
 have yT:=fun s=>Fb (p:=p) (by omega) name s
 rw[rz]at yT
 obtain⟨it,pU,BX⟩:=WQ hj (by omega)
 have aeU:it.length≤900000:=by
  have e:=congrArg List.length pU
  obtain⟨a,b,e',_,_,e3,e4⟩:=(nH p).2 j f hj
  have e5:=px p
  have e6:=congrArg List.length e3
  rw[e4]at e5
  simp only[List.length_map,List.length_append]at e e5 e6
  omega
 unfold S0
 obtain⟨fn,AL,Dx⟩:=E2
 refine az.intro ⟨fn,AL,Dx⟩ (Nat.le_of_ble_eq_true rfl) fun B hB=>?_
 generalize hQ:iz (⟨[],[]⟩:St).ah.length (⟨[],[]⟩:St).aw.length _ _ (⟨[],[]⟩:St)=Q
 have⟨hC,hE,hM,hY⟩:=bC
 refine Sem.iM ?_
 repeat' (first
 |simp only[go_sem,hC,hE,hM,hY]
 |(with_reducible refine aB hQ ?_;exact bd))
 refine Sem.iM ?_
 repeat' (first
 |simp only[go_sem,hC,hE,hM,hY]
 |(with_reducible refine aB hQ ?_;exact bd))
 refine Sem.iM ?_
 repeat' (first
 |simp only[go_sem,hC,hE,hM,hY]
 |(with_reducible refine CU (yT _) ?_)
 |(with_reducible refine CU (BX _) ?_)
 |(with_reducible refine aB hQ ?_;exact bd))
 refine bg.pZ 5 1 rfl ?_
 simp only[go_sem,hC,hE,hM,hY]
 obtain⟨R,hR⟩ : ∃ R,R=lT (Sm.dm f.body):=⟨_,rfl⟩
 have hRl:R.length≤900000:=by rw[hR, ← pU];have:=Dy (it.map Im.s);rw[List.length_map]at this;omega
 refine dQ 0 1 (bg.ind (ι:=List Im×Nat×List aF×Nat) (fun i=>it.drop i.2.1=i.1∧i.2.2.1++lT (i.1.map Im.s)=R∧i.2.2.2=i.2.2.1.length) (fun i=>i.1.length)
  (fun i=> [(5, .slice (.tok 0) 1 (i.2.2.1.map encStr)),(12, .slice .shared 17 (it.map dK)),(13, .int .i64 (it.length:Int)),(14, .int .i64 (i.2.1:Int))]) (fun i=>⟨[],[some i.2.2.2]⟩) ?_ (it,0,[],0) ⟨rfl,by rw[hR,pU];rfl,rfl⟩)
 rintro⟨rest,k,out,n⟩ ⟨h1,h2,h3⟩ IH
 dsimp only at h1 h2 h3
 subst h3
 have jP:out.length≤900000:=by have:=congrArg List.length h2;rw[List.length_append]at this;omega
 cases rest with
 | cons a rest=>
  obtain⟨hE,g2,hC,g4⟩:=drop_cons h1
  have cj:k<4611686018427387904:=by omega
  have hM:(out.length+1)*17≤bx:=by unfold bx;omega
  simp only[List.map_cons,lT]at h2
  rcases Bool.eq_false_or_eq_true (a.s.kind==4)with c1|c1
  ·simp only [c1,if_true]at h2
   repeat' (first
 |simp only[go_sem,hC,hE,hM,hY,c1]
 | (with_reducible refine aB hQ ?_;exact bd))
   refine eS 0 1 ?_ ?_ (IH (rest,k+1,out++ [a.s.proc],out.length+1) ⟨g2,by rw[← h2];simp,by simp⟩ (Nat.lt_succ_self _))
   ·(simp only[go_sem,hC,hE,hM,hY,aL cj,List.map_append,List.map_cons,List.map_nil,encStr];try exact cr)
   ·(simp only[go_sem,hC,hE,hM,hY,aL cj,List.map_append,List.map_cons,List.map_nil,encStr];try exact cr)
  ·simp only [c1,Bool.false_eq_true,if_false]at h2
   repeat' (first
 |simp only[go_sem,hC,hE,hM,hY,c1]
 | (with_reducible refine aB hQ ?_;exact bd))
   refine eS 0 1 ?_ ?_ (IH (rest,k+1,out,_) ⟨g2,h2,rfl⟩ (Nat.lt_succ_self _))
   ·(simp only[go_sem,hC,hE,hM,hY,aL cj];try exact cr)
   ·(simp only[go_sem,hC,hE,hM,hY,aL cj];try exact cr)
 |nil=>
  have hC:=drop_nil h1
  simp only[List.map_nil,lT,List.append_nil]at h2
  subst h2
  have Fq:(l7 out).length=out.length:=List.length_mergeSort out
  repeat' (first
 |simp only[go_sem,hC,hE,hM,hY]
 |(with_reducible refine aB hQ ?_;exact bd))
  refine Sem.seq (Sem.sort (k:=5) (t:=0) (l:=out) hB (by decide) (by decide) (by decide) rfl rfl (by omega) ?_)
  show Sem _ _ _ _ _ _ _
  refine Sem.seq (Sem.compact (k:=5) (t:=0) (l:=l7 out) hB (by decide) rfl (by rw[Fq];rfl) (by rw[Fq];omega) ?_)
  rw[B3]
  have as0:f.calls=ky out:=by unfold Pc.calls;rw[hR]
  rw[as0]at hQ
  refine gD (ac:= .ret) (Q:=Q) (tm:= [(32, .slice (.tok 0) 1 ((ky out).map encStr)),(4, .slice (.tok 0) 1 ((ky out).map encStr))]) (s:=⟨[],[some (ky out).length]⟩) ?_
  repeat' (first
 |simp only[go_sem,hC,hE,hM,hY]
 |(with_reducible refine aB hQ ?_;exact bd))
theorem HK {name:aF} : ∀ {l:List Pc},name∈l.map (·.name)→∃ f,iS name l=some f
 | f::l,h=>by
  simp only[iS]
  cases e:(f.name==name)
  ·simp only [Bool.false_eq_true,if_false]
   refine HK ?_
   rcases List.mem_cons.1 h with h|h
   ·rw[h]at e;simp at e
   ·exact h
  ·exact⟨f,rfl⟩
theorem HL {p:Pg} {f:Pc} {procs:List aF} : ∀ {l:List Sm},BW p f procs l=none→∀ v∈l,v.known p f procs=true
 | v::l,h,w,m=>by
  simp only[BW]at h
  split at h
  ·rename_i e
   rcases List.mem_cons.1 m with rfl|m
   ·exact e
   ·exact HL h w m
  ·cases h
theorem HM {p:Pg} {procs:List aF} : ∀ {l:List Pc},((vX p procs l).1==0)=true→∀ f∈l,fD (p.globals++f.own)=false∧∀ v∈Sm.dm f.body,v.known p f procs=true
 | g::l,h,f,m=>by
  simp only[vX]at h
  split at h
  ·cases h
  ·rename_i e
   split at h
   ·cases h
   ·rename_i e2
    rcases List.mem_cons.1 m with rfl|m
    ·exact⟨by simpa using e,HL e2⟩
    ·exact HM h f m
theorem Ed {p:Pg} (h:(p.scope.1==0)=true):fD p.globals=false∧fD p.pn=false∧p.tS=false∧∀ f∈p.procs,fD (p.globals++f.own)=false∧∀ v∈Sm.dm f.body,v.known p f p.pn=true:=by
 unfold Pg.scope at h
 split at h
 ·split at h
  ·cases h
  ·rename_i e
   simp only[Bool.or_eq_true,not_or,Bool.not_eq_true]at e
   exact⟨e.1,e.2.1,e.2.2,HM h⟩
 ·cases h
theorem xQ {x:aF} : ∀ {l:List Sm},x∈lT l↔∃ v∈l,v.kind=4∧v.proc=x
 | []=>by simp[lT]
 | v::l=>by
  simp only[lT]
  cases e:(v.kind==4)
  ·have:v.kind≠4:=by simpa using e
   simp[this,xQ (l:=l)]
  ·have:v.kind=4:=by simpa using e
   simp only[if_true,List.mem_cons,xQ (l:=l),exists_eq_or_imp,this,true_and]
   constructor
   ·rintro(h | h)
    ·exact .inl h.symm
    ·exact .inr h
   ·rintro(h | h)
    ·exact .inl h.symm
    ·exact .inr h
theorem T4 {f:Pc} {x:aF} : x∈f.calls↔∃ v∈Sm.dm f.body,v.kind=4∧v.proc=x:=by
 unfold Pc.calls;rw[(l8 _).2,xQ]
theorem Dz {p:Pg} (h:(p.scope.1==0)=true) {f:Pc} (hf:f∈p.procs) {x:aF} (m:x∈f.calls) : ∃ g,p.find x=some g:=by
 obtain⟨v,hv,h4,rfl⟩:=T4.1 m
 have hk:=((Ed h).2.2.2 f hf).2 v hv
 simp only[Sm.known,h4,Bool.and_eq_true,Bool.or_eq_true]at hk
 rcases hk.2 with h|⟨_,h⟩
 ·simp at h
 ·exact HK ((jc _ _).1 h)
def Fu (p:Pg) (x:aF):List aF:=match p.find x with|some f=>f.calls|none=> []
def Ee (out:List aF):List aF→List aF
 | []=>out
 |x::l=>Ee (CD out x) l
def xb (p:Pg):Nat→Nat→List aF→List aF
 | 0,_,out=>out
 |n+1,i,out=>match out[i]? with
  |some x=>xb p n (i+1) (Ee out (Fu p x))
  |none=>out
def Pg.work (p:Pg) (name:aF):List aF:=xb p (p.procs.length+1) 0 [name]
def Good (p:Pg) (out:List aF):Prop:=out.Nodup∧∀ x∈out,∃ f,p.find x=some f
theorem Good.len {p:Pg} {out:List aF} (h:Good p out):out.length≤p.procs.length:=by
 have:=xa out p.pn h.1 fun x m=>by
  obtain⟨f,hf⟩:=h.2 x m
  obtain⟨h1,h2⟩:=sJ hf
  rw[← h2];exact List.mem_map_of_mem h1
 simpa[Pg.pn]using this
theorem Good.spk {p:Pg} {out:List aF} (h:Good p out) {x:aF} (hx : ∃ f,p.find x=some f):Good p (CD out x):=by
 unfold CD
 split
 ·exact h
 ·rename_i e
  have:x∉out:=fun m=>e ((jc _ _).2 m)
  refine⟨List.nodup_append.2 ⟨h.1,by simp,fun a ha b hb e'=>?_⟩,fun y hy=>?_⟩
  ·have hbx:b=x:=by simpa using hb
   rw[e',hbx]at ha;exact this ha
  ·rcases List.mem_append.1 hy with hy | hy
   ·exact h.2 y hy
   ·have:y=x:=by simpa using hy
    subst this;exact hx
theorem Good.add {p:Pg} : ∀ {l out:List aF},Good p out→(∀ x∈l,∃ f,p.find x=some f)→Good p (Ee out l)
 | [],out,h,_=>h
 |x::l,out,h,hx=>Good.add (l:=l) (out:=CD out x) (Good.spk h (hx x List.mem_cons_self)) fun y m=>hx y (List.mem_cons_of_mem _ m)
def tgB:Bool→Tag
 |true=> .tok 0
 |false=> .full
def tkB:Bool→Nat→List (Option Nat)
 |true,n=> [some n]
 |false,_=> []
def zS:AI→AI
 | .op d g (.cG z k n ps)=> .op d g (.vj z k n ps)
 |a=>a
section
variable {P:Program}
theorem MO {nt:Nat} {ops:Array Oper} {i:Nat} {o:Oper} {ai:AI} (hi:ops[i]? = some o) (hc:cI P nt ops o=some ai)
 {M:Map} {s:St} {w:World} {tm:Tm} {act:Act} (r:Rel M s w) (kK:Laid M s w) (ht:lV M s tm act.tmps) {K':Tm→St→Prop} (h:iV P [zS ai] K' tm s)
 {K:Act→World→Prop} {Q:Exit→Act→World→Prop}
 (hK : ∀ d v s1 w1 M1,K' (tm.put ai.dst d) s1→Ext M s w M1 s1 w1→Rel M1 s1 w1→RD M1 s1 d v→K (act.put o.dst v) w1):wpOp P ops Q i K act w:=by
 by_cases hb : ∃ d g z k n ps,ai = .op d g (.cG z k n ps)
 ·obtain⟨d0,g0,z,k,n,ps,rfl⟩:=hb
  obtain⟨g,hg,_,hb⟩:=Bt hc
  rw[tC hb]at hK
  simp only[wpOp,hi]
  have skip:K' (tm.put o.dst (.tuple [])) s→K (act.put o.dst Go.undef) w:=fun hk=>hK _ _ _ _ _ hk (Ext.refl M s w) r .undef
  have hd:=tC hb
  simp only[AI.dst]at hd
  subst hd
  have oa:Ez P o=some (.cG z k n ps)∧g0=g:=by
   unfold sO at hb
   split at hb
   ·split at hb
    ·obtain⟨xs,_,h⟩:=map_some hb;cases h
    ·cases hb
   ·obtain⟨xs,_,h⟩:=map_some hb;cases h
   ·split at hb
    ·cases hb
    ·split at hb
     ·rename_i oa
      simp only[Option.some.injEq,AI.op.injEq,true_and]at hb
      obtain⟨h1,h2⟩:=hb
      split at h2
      ·cases h2
      ·cases h2;exact⟨oa,h1.symm⟩
     ·rename_i ao fi oa
      simp only[Option.some.injEq,AI.op.injEq,true_and]at hb
      obtain⟨h1,h2⟩:=hb
      subst h2
      exact⟨oa,h1.symm⟩
     ·cases hb
  obtain⟨oa,rfl⟩:=oa
  simp only[zS,iV]at h
  rcases kr hg ht h with ⟨hw,hA⟩|⟨hw,hB⟩
  ·simp only [hw,if_true]
   left
   split at hA
   ·rename_i d s' qX
    obtain⟨v,w',M',dG,r',hv,e'⟩:=zo oa r ht qX
    unfold Oper.wp
    rcases dG with dG|⟨dG,rfl⟩
    ·rw [dG,Oper.upon_value]
     exact hK _ _ _ _ _ hA e' r' hv
    ·rw [dG,Oper.upon_skip]
     exact hK _ _ _ _ _ hA e' r' hv
   ·exact hA.elim
  ·simp only [hw]
   exact skip hB
 ·have hs:zS ai=ai:=by
   unfold zS
   split
   ·rename_i d g z k n ps;exact absurd ⟨d,g,z,k,n,ps,rfl⟩ hb
   ·rfl
  rw[hs]at h
  exact xq hi hc r kK ht h hK
theorem aa3 {a:AI} {r:List AI} {K:Tm→St→Prop} {tm:Tm} {s:St} (h:iV P (a::r) K tm s):iV P [a] (iV P r K) tm s:=by
 cases a<;>exact h
theorem HN {B:e7} {nt:Nat} {ops:Array Oper} {Q:Exit→Tm→St→Prop} : ∀ (l:List Nat) (ol:List Oper) (is:List AI),l.map (ops[·]?)=ol.map some→rj P nt ops ol=some is→
 ∀ (tm:Tm) (s:St) (act:Act) (w:World),iV P (is.map zS) (Q .normal) tm s→Holds B nt tm s act w→wpOps P ops (pY B nt Q) l act w
 | [],[],is,_,hc,tm,s,act,w,h,hh=>by cases hc;exact⟨tm,s,h,hh⟩
 | [],_::_,_,hl,_,_,_,_,_,_,_=>by simp at hl
 |_::_,[],_,hl,_,_,_,_,_,_,_=>by simp at hl
 | i::l,o::ol,is,hl,hc,tm,s,act,w,h,hh=>by
  simp only[List.map_cons,List.cons.injEq]at hl
  obtain⟨hi,hl⟩:=hl
  unfold rj at hc
  split at hc
  ·rename_i ai Se h1 h2
   cases hc
   obtain⟨M,e,r,ht,hn,hd⟩:=hh
   have qJ:=yn h1
   have hdd:=tD h1
   rw[List.map_cons]at h
   have key:=MO (K:=fun act w=>wpOps P ops (pY B nt Q) l act w) (Q:=pY B nt Q) hi h1 r (B.laid.ext e) ht (aa3 h) (fun d v s1 w1 M1 hk e1 r1 hv=>
    HN (Q:=Q) l ol Se hl h2 _ _ _ _ hk (hdd ▸ Holds.put e ht hn hd qJ e1 r1 hv))
   simpa only[wpOps,wpOp,hi]using key
  ·cases hc
theorem Sem.swap {B:e7} {nt:Nat} {is:List AI} {Q:Exit→Tm→St→Prop} {tm:Tm} {s:St} (h:gC P B nt (.run (is.map zS)) Q tm s):Sem P B nt (.run is) Q tm s:=by
 intro c hc act w hh
 obtain⟨id,ops,rfl,hi⟩:=lB hc
 refine wp_region ?_
 exact HN _ _ is (Bp ops) hi tm s act w (om h) hh
end
end Go.Abs
namespace Go.Abs
set_option maxRecDepth 8000
open Go.Proofs
theorem Q5 {l:List aF} (h:l.Nodup):l7 l=ky l:=by
 refine xO ?_ (l8 l).1 fun x=>?_
 ·have h1:=HJ l
  have h2:(l7 l).Nodup:=(List.mergeSort_perm l _).nodup_iff.2 h
  refine(List.pairwise_and_iff.2 ⟨h1,h2⟩).imp fun {a b} Zn=>?_
  rcases yW a b with e|e|e
  ·exact e
  ·exact absurd e Zn.2
  ·rw[Zn.1]at e;cases e
 ·rw[(l8 l).2];exact(List.mergeSort_perm l _).mem_iff
theorem B5 {p:Pg} (nI:(p.scope.1==0)=true) : ∀ (n i:Nat) (out:List aF),Good p out→Good p (xb p n i out)
 | 0,i,out,h=>h
 | n+1,i,out,h=>by
  simp only[xb]
  split
  ·rename_i x hx
   obtain⟨g,hg⟩:=h.2 x (List.mem_of_getElem? hx)
   refine B5 nI n _ _ (h.add fun y m=>?_)
   unfold Fu at m
   rw[hg]at m
   exact Dz nI (sJ hg).1 m
  ·exact h
theorem Ef {p:Pg} {name:aF} {f:Pc} (hf:p.find name=some f):Good p [name]:=
 ⟨by simp,fun x m=>by
  have:x=name:=by simpa using m
  subst this;exact⟨f,hf⟩⟩
theorem aa4 {p:Pg} (h:p.iW) (nI:(p.scope.1==0)=true) {name:aF} {f:Pc} (hf:p.find name=some f) (s:St):az Tryz.prog xC [.dL (fw p) 0, .str name] s (.slice .shared 1 ((ky (p.work name)).map encStr)) s:=by
 refine az.pure ?_ (by simp[D.bH,D.ok,uw]) (by simp only[D.ok,Tag.ok,eB];rfl) s
 obtain⟨sh,r7,rZ⟩:=h.procs
 obtain⟨R,hR⟩ : ∃ R,p.work name=R:=⟨_,rfl⟩
 have hgR:Good p R:=hR ▸ B5 nI _ _ _ (Ef hf)
 rw[hR, ← Q5 hgR.1]
 unfold Pg.work at hR
 have hg0:Good p [name]:=Ef hf
 have hRl:=hgR.len
 unfold S0
 obtain⟨fn,AL,Dx⟩:=Ip
 refine az.intro ⟨fn,AL,Dx⟩ (Nat.le_of_ble_eq_true rfl) fun B hB=>?_
 generalize hQ:iz (⟨[],[]⟩:St).ah.length (⟨[],[]⟩:St).aw.length _ _ (⟨[],[]⟩:St)=Q
 have⟨hC,hE,hM,hY⟩:=bC
 refine Sem.iM ?_
 repeat' (first
 |simp only[go_sem,hC,hE,hM,hY]
 |(with_reducible first|refine aX fun hc=>?_|refine aY fun hc=>?_|refine aZ (fun hc=>?_) fun hc=>?_)<;>(try simp only[hc,bs,↓reduceIte]at h)<;>try simp only[hc]
 |(with_reducible refine aB hQ ?_;exact er)
 |(cases h;done))
 refine Sem.seq (Sem.swap ?_)
 simp only[List.map_cons,List.map_nil,zS]
 repeat' (first
 |simp only[go_sem,hC,hE,hM,hY]
 |(with_reducible first|refine aX fun hc=>?_|refine aY fun hc=>?_|refine aZ (fun hc=>?_) fun hc=>?_)<;>(try simp only[hc,bs,↓reduceIte]at h)<;>try simp only[hc]
 |(with_reducible refine aB hQ ?_;exact er)
 |(cases h;done))
 refine Sem.iM ?_
 repeat' (first
 |simp only[go_sem,hC,hE,hM,hY]
 |(with_reducible first|refine aX fun hc=>?_|refine aY fun hc=>?_|refine aZ (fun hc=>?_) fun hc=>?_)<;>(try simp only[hc,bs,↓reduceIte]at h)<;>try simp only[hc]
 |(with_reducible refine aB hQ ?_;exact er)
 |(cases h;done))
 refine dQ 0 1 (bg.ind (ι:=Nat×Nat×List aF×Nat) (fun i=>xb p i.1 i.2.1 i.2.2.1=R∧Good p i.2.2.1∧i.1+i.2.1=p.procs.length+1∧i.2.2.2=i.2.2.1.length) (fun i=>i.1)
  (fun i=> [(0, .dL (fw p) 0),(5, .slice (.tok 0) 1 (i.2.2.1.map encStr)),(6, .int .i64 (i.2.1:Int))]) (fun i=>⟨[],[some i.2.2.2]⟩) ?_ (p.procs.length+1,0,[name],1) ⟨hR,hg0,rfl,rfl⟩)
 rintro⟨n,i,out,no⟩ ⟨h1,h2,h3,h4⟩ IH
 dsimp only at h1 h2 h3 h4
 subst h4
 have jP:=h2.len
 cases hx:out[i]? with
 | none=>
  have hC:decide ((i:Int)<(out.length:Int))=false:=by have:=List.getElem?_eq_none_iff.1 hx;simp;omega
  have:R=out:=by
   cases n with
   |zero=>simpa[xb]using h1.symm
   |succ n=>simp only[xb,hx]at h1;exact h1.symm
  subst this
  repeat' (first
 |simp only[go_sem,hC,hE,hM,hY]
 |(with_reducible first|refine aX fun hc=>?_|refine aY fun hc=>?_|refine aZ (fun hc=>?_) fun hc=>?_)<;>(try simp only[hc,bs,↓reduceIte]at h)<;>try simp only[hc]
 |(with_reducible refine aB hQ ?_;exact er)
 |(cases h;done))
  refine Sem.seq (Sem.sort (k:=5) (t:=0) (l:=R) hB (by decide) (by decide) (by decide) rfl rfl (by omega) ?_)
  refine gD (ac:=aed) (Q:=Q) (tm:= [(5, .slice (.tok 0) 1 ((l7 R).map encStr))]) (s:=⟨[],[some R.length]⟩) ?_
  repeat' (first
 |simp only[go_sem,hC,hE,hM,hY]
 |(with_reducible first|refine aX fun hc=>?_|refine aY fun hc=>?_|refine aZ (fun hc=>?_) fun hc=>?_)<;>(try simp only[hc,bs,↓reduceIte]at h)<;>try simp only[hc]
 |(with_reducible refine aB hQ ?_;exact er)
 |(cases h;done))
 |some x=>
  have qY:=(List.getElem?_eq_some_iff.1 hx).1
  have hC:decide ((i:Int)<(out.length:Int))=true:=by simp;omega
  have o4:i<4611686018427387904:=by omega
  cases n with
  |zero=>omega
  |succ n=>
  simp only[xb,hx]at h1
  obtain⟨g,Lk⟩:=h2.2 x (List.mem_of_getElem? hx)
  have T5:=(sJ Lk).1
  have Zx:=fun s=>aa2 h Lk s
  have hcn:Fu p x=g.calls:=by unfold Fu;rw[Lk]
  rw[hcn]at h1
  have hth : ∀ y∈g.calls,∃ f,p.find y=some f:=fun y m=>Dz nI T5 m
  have aAK:g.calls.length≤p.procs.length:=Good.len ⟨u7 (l8 _).1,hth⟩
  obtain⟨W,hW⟩ : ∃ W,Ee out g.calls=W:=⟨_,rfl⟩
  rw[hW]at h1
  repeat' (first
 |simp only[go_sem,hC,hE,hM,hY,hx]
 |(with_reducible refine CU (Zx _) ?_)
 |(with_reducible first|refine aX fun hc=>?_|refine aY fun hc=>?_|refine aZ (fun hc=>?_) fun hc=>?_)<;>(try simp only[hc,bs,↓reduceIte]at h)<;>try simp only[hc]
 |(with_reducible refine aB hQ ?_;(try cases h);simp only[aQ,aS,bn,bo,go_sem,hC,hE,hM,hY,hx];try exact bR)
 | (cases h;done))
  refine dQ 0 1 (bg.ind (ι:=List aF×Nat×List aF×Nat) (fun j=>g.calls.drop j.2.1=j.1∧Ee j.2.2.1 j.1=W∧Good p j.2.2.1∧j.2.2.2=j.2.2.1.length) (fun j=>j.1.length)
   (fun j=> [(0, .dL (fw p) 0),(5, .slice (.tok 0) 1 (j.2.2.1.map encStr)),(6, .int .i64 (i:Int)),(22, .slice .shared 1 (g.calls.map encStr)),(23, .int .i64 (g.calls.length:Int)),(24, .int .i64 (j.2.1:Int))]) (fun j=>⟨[],[some j.2.2.2]⟩) ?_ (g.calls,0,out,out.length) ⟨rfl,hW,h2,rfl⟩)
  clear hW
  rintro⟨rest,k,cO,n'⟩ ⟨j1,j2,j3,j4⟩ Zt
  dsimp only at j1 j2 j3 j4
  subst j4
  have aAL:=j3.len
  cases rest with
  |nil=>
   have ae3:=drop_nil j1
   simp only[Ee]at j2
   subst j2
   repeat' (first
 |simp only[go_sem,hC,hE,hM,hY,ae3]
 |(with_reducible first|refine aX fun hc=>?_|refine aY fun hc=>?_|refine aZ (fun hc=>?_) fun hc=>?_)<;>(try simp only[hc,bs,↓reduceIte]at h)<;>try simp only[hc]
 |(with_reducible refine aB hQ ?_;(try cases h);simp only[aQ,aS,bn,bo,go_sem,hC,hE,hM,hY,ae3];try exact bR)
 | (cases h;done))
   refine eS 0 1 ?_ ?_ (IH (n,i+1,cO,cO.length) ⟨h1,j3,by dsimp only;omega,rfl⟩ (Nat.lt_succ_self _))
   ·(simp only[go_sem,hC,hE,hM,hY,aL o4];try exact cr)
   ·(simp only[go_sem,hC,hE,hM,hY,aL o4];try exact cr)
  | cons y rest=>
   obtain⟨pz,No,yU,jg4⟩:=drop_cons j1
   have tL:k<4611686018427387904:=by omega
   have hM:(cO.length+1)*17≤bx:=by unfold bx;omega
   have HO:=fun g s=>jF (l:=cO) (by omega) y g s
   have hy:=hth y (List.mem_of_getElem? pz)
   have Dq:=j3.spk hy
   simp only[Ee]at j2
   rcases Bool.eq_false_or_eq_true (fq cO y)with c1|c1
   ·simp only [CD,c1,if_true]at j2
    repeat' (first
 |simp only[go_sem,hC,hE,hM,hY,yU,pz,c1]
 |(with_reducible refine CU (HO _ _) ?_)
 |(with_reducible first|refine aX fun hc=>?_|refine aY fun hc=>?_|refine aZ (fun hc=>?_) fun hc=>?_)<;>(try simp only[hc,bs,↓reduceIte]at h)<;>try simp only[hc]
 |(with_reducible refine aB hQ ?_;(try cases h);simp only[aQ,aS,bn,bo,go_sem,hC,hE,hM,hY,yU,pz,c1];try exact bR)
 | (cases h;done))
    refine eS 0 1 ?_ ?_ (Zt (rest,k+1,cO,cO.length) ⟨No,j2,j3,rfl⟩ (Nat.lt_succ_self _))
    ·(simp only[go_sem,hC,hE,hM,hY,aL tL];try exact cr)
    ·(simp only[go_sem,hC,hE,hM,hY,aL tL];try exact cr)
   ·simp only [CD,c1,Bool.false_eq_true,if_false]at j2 Dq
    repeat' (first
 |simp only[go_sem,hC,hE,hM,hY,yU,pz,c1]
 |(with_reducible refine CU (HO _ _) ?_)
 |(with_reducible first|refine aX fun hc=>?_|refine aY fun hc=>?_|refine aZ (fun hc=>?_) fun hc=>?_)<;>(try simp only[hc,bs,↓reduceIte]at h)<;>try simp only[hc]
 |(with_reducible refine aB hQ ?_;(try cases h);simp only[aQ,aS,bn,bo,go_sem,hC,hE,hM,hY,yU,pz,c1];try exact bR)
 | (cases h;done))
    refine eS 0 1 ?_ ?_ (Zt (rest,k+1,cO++ [y],cO.length+1) ⟨No,j2,Dq,by simp⟩ (Nat.lt_succ_self _))
    ·(simp only[go_sem,hC,hE,hM,hY,aL tL,List.map_append,List.map_cons,List.map_nil,encStr];try exact cr)
    ·(simp only[go_sem,hC,hE,hM,hY,aL tL,List.map_append,List.map_cons,List.map_nil,encStr];try exact cr)
theorem Ll (name:aF) : ∀ l:List Pc,l.any (fun f=>f.name==name)=(iS name l).isSome
 | []=>rfl
 |f::l=>by
  simp only[List.any_cons,iS]
  cases e:(f.name==name)
  ·simp[Ll name l]
  ·simp
theorem Xd (name:aF) (f:Pc):az Tryz.prog oP ([.agg (cH f)]++ [.ptr 0 0]) ⟨[[.str name]],[]⟩ (.bool (f.name==name)) ⟨[[.str name]],[]⟩:=by
 show az Tryz.prog oP [.agg (cH f), .ptr 0 0] _ _ _
 refine az.go C6 rfl fun B Q hB hQ=>?_
 have⟨hC,hE,hM,hY⟩:=bC
 repeat' (first
 |simp only[go_sem,hC,hE,hM,hY]
 |(with_reducible refine aB hQ ?_;exact bd))
def Pg.zT (p:Pg) (name:aF):Option Pc:=if p.scope.1==0 then p.find name else none
theorem Xe {p:Pg} (h:p.iW) (name:aF) (s:St):az Tryz.prog uk [.agg (cR p), .str name] s (.bool (p.zT name).isSome) s:=by
 refine az.pure ?_ (by simp[D.bH,D.ok,jT]) rfl s
 obtain⟨sh,r7,rZ⟩:=h.procs
 have pQ:=fun s=>vY h s
 have hi:=fun {s:St} {o:Nat} (ho:s.ah[o]? = some [.str name])=>BN (AT (l:=p.procs) (f:=oP) (row:= [.str name]) (b:=fun f:Pc=>f.name==name) (by omega) rfl (by with_unfolding_all rfl) (fun x _=>Xd name x)) rfl (wK _) rfl ho
 have gZ:=fun {s:St} {o:Nat} (ho:s.ah[o]? = some [.str name])=>(show az Tryz.prog gQ [.slice .shared 5 (p.procs.map cH), .gh 197 [.ptr o 0]] s (.bool (p.procs.any fun f:Pc=>f.name==name)) s from hi ho)
 simp only[Ll]at gZ
 unfold Pg.zT Pg.find
 unfold S0
 rcases Bool.eq_false_or_eq_true (p.scope.1==0)with b1|b1
 ·simp only [b1,if_true]
  refine az.go wT rfl fun B Q hB hQ=>?_
  have⟨hC,hE,hM,hY⟩:=bC
  repeat' (first
 |simp only[go_sem,hC,hE,hM,hY,b1]
 |(with_reducible refine CU (pQ _) ?_)
 |(with_reducible refine CU (gZ (by with_unfolding_all rfl)) ?_)
 |(with_reducible refine aB hQ ?_;exact bd))
 ·simp only [b1,Bool.false_eq_true,if_false,Option.isSome_none]
  refine az.go wT rfl fun B Q hB hQ=>?_
  have⟨hC,hE,hM,hY⟩:=bC
  repeat' (first
 |simp only[go_sem,hC,hE,hM,hY,b1]
 |(with_reducible refine CU (pQ _) ?_)
 |(with_reducible refine CU (gZ (by with_unfolding_all rfl)) ?_)
 |(with_reducible refine aB hQ ?_;exact bd))
def Pg.azy (p:Pg) (name:aF):List aF:=match p.zT name with|some f=>f.calls|none=> []
def Pg.as1 (p:Pg) (name:aF):List aF:=match p.zT name with|some _=>ky (p.work name)|none=> []
theorem HP {p:Pg} {name:aF} {f:Pc} (h:p.zT name=some f):(p.scope.1==0)=true∧p.find name=some f:=by
 unfold Pg.zT at h
 split at h
 ·exact⟨by assumption,h⟩
 ·cases h
def tc (p:Pg) (out:List aF):List aF→List aF
 | []=>out
 |v::l=>tc p (if fq p.globals v then out++ [v]else out) l
def td (p:Pg) (out:List aF):List Sm→List aF
 | []=>out
 |v::l=>td p (tc p out v.said) l
def tT (p:Pg) (n:aF):List Sm:=match p.find n with|some f=>Sm.dm f.body|none=> []
def u9 (p:Pg) (out:List aF):List aF→List aF
 | []=>out
 |n::l=>u9 p (td p out (tT p n)) l
theorem zU (p:Pg) : ∀ (l out:List aF),out.length≤(tc p out l).length∧(tc p out l).length≤out.length+l.length
 | [],out=>⟨Nat.le_refl _,Nat.le_refl _⟩
 |v::l,out=>by
  simp only[tc]
  have h:=zU p l (if fq p.globals v then out++ [v]else out)
  have h2:out.length≤(if fq p.globals v then out++ [v]else out).length∧(if fq p.globals v then out++ [v]else out).length≤out.length+1:=by split<;>simp
  simp only[List.length_cons]
  omega
def oR:List Sm→Nat
 | []=>0
 |v::l=>v.said.length+oR l
theorem B6 : ∀ a b:List Sm,oR (a++b)=oR a+oR b
 | [],b=>by simp[oR]
 |v::a,b=>by simp only[List.cons_append,oR,B6 a b];omega
theorem aa5 (v:Sm):v.said.length≤1+v.x.size+2*Ar.br v.args:=by
 have : ∀ (l:List Ar) (out:List aF),(Ar.said out l).length≤out.length+2*Ar.br l:=by
  intro l
  induction l with
  |nil=>intro out;simp[Ar.said]
  |cons a l ih=>
   intro out
   simp only[Ar.said,Ar.br]
   refine Nat.le_trans (ih _) ?_
   have:=lh a.x
   have:1≤a.x.size:=by obtain⟨_,_,_,_⟩:=a.x;simp[Ex.size]
   simp only[List.length_append]
   split<;>simp<;>omega
 have h1:=this v.args (v.ta++v.x.names)
 have h2:=lh v.x
 have h4:v.ta.length≤1:=by unfold Sm.ta;split<;>simp
 simp only[List.length_append]at h1
 unfold Sm.said
 omega
mutual
theorem T6 : ∀ s:Sm,oR s.pre≤2*s.size
 |⟨id,kind,labels,name,proc,x,has,args,bm,bc⟩=>by
  simp only[Sm.pre,oR,B6,Sm.size]
  have h1:=aa5 ⟨id,kind,labels,name,proc,x,has,args,bm,bc⟩
  have h2:=va bm
  have h3:=va bc
  dsimp only at h1
  omega
theorem va : ∀ l:List Sm,oR (Sm.dm l)≤2*Sm.br l
 | []=>by simp[Sm.dm,oR,Sm.br]
 |s::l=>by
  simp only[Sm.dm,B6,Sm.br]
  have:=T6 s;have:=va l;omega
end
theorem zV (p:Pg) : ∀ (l:List Sm) (out:List aF),out.length≤(td p out l).length∧(td p out l).length≤out.length+oR l
 | [],out=>⟨Nat.le_refl _,Nat.le_refl _⟩
 |v::l,out=>by
  simp only[td,oR]
  have h:=zV p l (tc p out v.said)
  have h2:=zU p v.said out
  omega
theorem zW {p:Pg} (h:p.iW) : ∀ (l out:List aF),out.length≤(u9 p out l).length∧(u9 p out l).length≤out.length+l.length*1800000
 | [],out=>⟨Nat.le_refl _,by simp[u9]⟩
 | n::l,out=>by
  simp only[u9]
  have h1:=zW h l (td p out (tT p n))
  have h2:=zV p (tT p n) out
  have h3:oR (tT p n)≤1800000:=by
   unfold tT
   split
   ·rename_i f hf
    have:=va f.body
    have h4:=Pc.dd (sJ hf).1
    have h5:=h.procs.2.1
    simp only[Pc.size]at h4
    omega
   ·simp[oR]
  simp only[List.length_cons]
  omega
theorem T7 {p:Pg} (h:p.may=true):p.procs.length≤16:=by
 unfold Pg.may at h
 split at h
 ·cases h
 ·rename_i c
  simp only[Bool.or_eq_true,decide_eq_true_eq,not_or,Int.not_lt,gt_iff_lt]at c
  have:=c.1.2
  omega
def Pg.sK (p:Pg) (name:aF):List aF:=u9 p [] (ky (p.work name))
def Pg.qt (p:Pg) (name:aF):List aF:=match p.zT name with|some _=>ky (p.sK name)|none=> []
theorem Lm {p:Pg} (nI:(p.scope.1==0)=true) {name:aF} {f:Pc} (hf:p.find name=some f):Good p (ky (p.work name)):=by
 have h:=B5 nI (p.procs.length+1) 0 [name] (Ef hf)
 refine⟨u7 (l8 _).1,fun x m=>h.2 x ?_⟩
 exact((l8 _).2 x).1 m
theorem T8 {p:Pg} (h:p.iW) (name:aF) (s:St):az Tryz.prog rM [.agg (cR p), .str name] s (.slice .shared 1 ((p.qt name).map encStr)) s:=by
 refine az.pure ?_ (by simp[D.bH,D.ok,jT]) (by simp only[D.ok,Tag.ok,eB];rfl) s
 have hk:=fun s=>Xe h name s
 have dr:=fun s=>Cz (p:=p) (by have:=h.procs;omega) s
 unfold Pg.qt
 unfold S0
 cases Xf:p.zT name with
 |none=>
  simp only[Xf,Option.isSome_none]at hk
  simp only[List.map_nil]
  refine az.go uL rfl fun B Q hB hQ=>?_
  have⟨hC,hE,hM,hY⟩:=bC
  repeat' (first
 |simp only[go_sem,hC,hE,hM,hY]
 |(with_reducible refine CU (hk _) ?_)
 |(with_reducible refine aB hQ ?_;exact bd))
 |some f=>
 obtain⟨nI,hf⟩:=HP Xf
 simp only[Xf,Option.isSome_some]at hk
 dsimp only
 obtain⟨sh,r7,rZ⟩:=h.procs
 have hN:=Lm nI hf
 obtain⟨N,hNe⟩ : ∃ N,ky (p.work name)=N:=⟨_,rfl⟩
 rw[hNe]at hN
 have hNl:=hN.len
 obtain⟨R,hR⟩ : ∃ R,p.sK name=R:=⟨_,rfl⟩
 rw[hR]
 unfold Pg.sK at hR
 rw[hNe]at hR
 have hRl:R.length≤28800000:=by
  have:=(zW h N []).2
  rw[hR]at this
  have h4:=T7 (B0 nI)
  have h3:N.length*1800000≤16*1800000:=Nat.mul_le_mul_right _ (by omega)
  simp only[List.length_nil]at this
  omega
 have Zx:=fun s=>aa4 h nI hf s
 simp only[hNe]at Zx
 obtain⟨fn,AL,Dx⟩:=uL
 refine az.intro ⟨fn,AL,Dx⟩ (Nat.le_of_ble_eq_true rfl) fun B hB=>?_
 generalize hQ:iz (⟨[],[]⟩:St).ah.length (⟨[],[]⟩:St).aw.length _ _ (⟨[],[]⟩:St)=Q
 have⟨hC,hE,hM,hY⟩:=bC
 refine Sem.iM ?_
 repeat' (first
 |simp only[go_sem,hC,hE,hM,hY]
 |(with_reducible refine aB hQ ?_;exact bd))
 refine Sem.iM ?_
 repeat' (first
 |simp only[go_sem,hC,hE,hM,hY]
 |(with_reducible refine CU (hk _) ?_)
 |(with_reducible refine aB hQ ?_;exact bd))
 refine Sem.iM ?_
 repeat' (first
 |simp only[go_sem,hC,hE,hM,hY]
 |(with_reducible refine CU (dr _) ?_)
 |(with_reducible refine aB hQ ?_;exact bd))
 refine Sem.iM ?_
 repeat' (first
 |simp only[go_sem,hC,hE,hM,hY]
 |(with_reducible refine aB hQ ?_;exact bd))
 refine Sem.iM ?_
 repeat' (first
 |simp only[go_sem,hC,hE,hM,hY]
 |(with_reducible refine CU (Zx _) ?_)
 |(with_reducible refine aB hQ ?_;exact bd))
 refine bg.pZ 6 1 rfl ?_
 simp only[go_sem,hC,hE,hM,hY]
 refine dQ 1 1 (bg.ind (ι:=List aF×Nat×List aF×Nat) (fun i=>N.drop i.2.1=i.1∧u9 p i.2.2.1 i.1=R∧i.2.2.1.length≤R.length∧i.2.2.2=i.2.2.1.length) (fun i=>i.1.length)
  (fun i=> [(2, .ptr 0 0),(5, .dL (fw p) 0),(6, .slice (.tok 0) 1 (i.2.2.1.map encStr)),(21, .slice .shared 1 (N.map encStr)),(22, .int .i64 (N.length:Int)),(23, .int .i64 (i.2.1:Int))]) (fun i=>⟨[cR p],[some i.2.2.2]⟩) ?_ (N,0,[],0) ⟨rfl,hR,Nat.zero_le _,rfl⟩)
 rintro⟨rest,k,out,no⟩ ⟨h1,h2,h3,h4⟩ IH
 dsimp only at h1 h2 h3 h4
 subst h4
 cases rest with
 |nil=>
  have hC:=drop_nil h1
  simp only[u9]at h2
  subst h2
  have Fq:(l7 out).length=out.length:=List.length_mergeSort out
  repeat' (first
 |simp only[go_sem,hC,hE,hM,hY]
 |(with_reducible refine aB hQ ?_;exact bd))
  refine Sem.seq (Sem.sort (k:=6) (t:=0) (l:=out) hB (by decide) (by decide) (by decide) rfl rfl (by omega) ?_)
  refine Sem.seq (Sem.compact (k:=6) (t:=0) (l:=l7 out) hB (by decide) rfl (by rw[Fq];rfl) (by rw[Fq];omega) ?_)
  rw[B3]
  refine gD (ac:= .ret) (Q:=Q) (tm:= [(59, .slice (.tok 0) 1 ((ky out).map encStr)),(4, .slice (.tok 0) 1 ((ky out).map encStr))]) (s:=⟨[],[some (ky out).length]⟩) ?_
  repeat' (first
 |simp only[go_sem,hC,hE,hM,hY]
 |(with_reducible refine aB hQ ?_;exact bd))
 | cons x rest=>
  obtain⟨hE,g2,hC,g4⟩:=drop_cons h1
  have cj:k<4611686018427387904:=by omega
  obtain⟨g,Lk⟩:=hN.2 x (List.mem_of_getElem? hE)
  have T5:=(sJ Lk).1
  have hbd:tT p x=Sm.dm g.body:=by unfold tT;rw[Lk]
  simp only[u9,hbd]at h2
  obtain⟨j,hj,rz⟩:=B4 (k:=0) Lk
  have rz:p.at x=((j:Nat):Int):=by unfold Pg.at;simpa using rz
  have yT:=fun s=>Fb (p:=p) (by omega) x s
  simp only[rz]at yT
  obtain⟨it,pU,BX⟩:=WQ hj (by omega)
  have aeU:it.length≤900000:=by
   have e:=congrArg List.length pU
   obtain⟨a,b,e',_,_,e3,e4⟩:=(nH p).2 j g hj
   have e5:=px p
   have e6:=congrArg List.length e3
   rw[e4]at e5
   simp only[List.length_map,List.length_append]at e e5 e6
   omega
  rw[← pU]at h2
  repeat' (first
 |simp only[go_sem,hC,hE,hM,hY,hE]
 |(with_reducible refine CU (yT _) ?_)
 |(with_reducible refine CU (BX _) ?_)
 | (with_reducible refine aB hQ ?_;exact bd))
  obtain⟨W,hW⟩ : ∃ W,td p out (it.map Im.s)=W:=⟨_,rfl⟩
  rw[hW]at h2
  have hWR:W.length≤R.length:=by have:=(zW h rest W).1;rw[h2]at this;exact this
  have TX:out.length≤W.length:=by have:=(zV p (it.map Im.s) out).1;rw[hW]at this;exact this
  refine dQ 1 1 (bg.ind (ι:=List Im×Nat×List aF×Nat) (fun i=>it.drop i.2.1=i.1∧td p i.2.2.1 (i.1.map Im.s)=W∧i.2.2.1.length≤W.length∧i.2.2.2=i.2.2.1.length) (fun i=>i.1.length)
   (fun i=> [(2, .ptr 0 0),(5, .dL (fw p) 0),(6, .slice (.tok 0) 1 (i.2.2.1.map encStr)),(21, .slice .shared 1 (N.map encStr)),(22, .int .i64 (N.length:Int)),(23, .int .i64 (k:Int)),(31, .slice .shared 17 (it.map dK)),(32, .int .i64 (it.length:Int)),(33, .int .i64 (i.2.1:Int))]) (fun i=>⟨[cR p],[some i.2.2.2]⟩) ?_ (it,0,out,out.length) ⟨rfl,hW,TX,rfl⟩)
  rintro⟨xc,k2,Eg,no⟩ ⟨j1,j2,j3,j4⟩ TI
  dsimp only at j1 j2 j3 j4
  subst j4
  cases xc with
  |nil=>
   have Xg:=drop_nil j1
   simp only[List.map_nil,td]at j2
   subst j2
   repeat' (first
 |simp only[go_sem,hC,hE,hM,hY,Xg]
 | (with_reducible refine aB hQ ?_;exact bd))
   refine eS 1 1 ?_ ?_ (IH (rest,k+1,Eg,Eg.length) ⟨g2,h2,hWR,rfl⟩ (Nat.lt_succ_self _))
   ·(simp only[go_sem,hC,hE,hM,hY,aL cj];try exact cr)
   ·(simp only[go_sem,hC,hE,hM,hY,aL cj];try exact cr)
  |cons y xc=>
   obtain⟨pz,No,yU,jg4⟩:=drop_cons j1
   have tL:k2<4611686018427387904:=by omega
   have hym:y.s∈Sm.dm g.body:=by rw[← pU];exact List.mem_map_of_mem (List.mem_of_getElem? pz)
   have sj:=h.said T5 _ hym
   have Zo:=fun s=>BR sj s
   have Fq:=K7 _ sj
   simp only[List.map_cons,td]at j2
   repeat' (first
 |simp only[go_sem,hC,hE,hM,hY,yU,pz]
 |(with_reducible refine CU (Zo _) ?_)
 | (with_reducible refine aB hQ ?_;exact bd))
   obtain⟨V,hV⟩ : ∃ V,tc p Eg y.s.said=V:=⟨_,rfl⟩
   rw[hV]at j2
   have hVW:V.length≤W.length:=by have:=(zV p (xc.map Im.s) V).1;rw[j2]at this;exact this
   have hoV:Eg.length≤V.length:=by have:=(zU p y.s.said Eg).1;rw[hV]at this;exact this
   refine dQ 1 1 (bg.ind (ι:=List aF×Nat×List aF×Nat) (fun i=>y.s.said.drop i.2.1=i.1∧tc p i.2.2.1 i.1=V∧i.2.2.1.length≤V.length∧i.2.2.2=i.2.2.1.length) (fun i=>i.1.length)
    (fun i=> [(2, .ptr 0 0),(5, .dL (fw p) 0),(6, .slice (.tok 0) 1 (i.2.2.1.map encStr)),(21, .slice .shared 1 (N.map encStr)),(22, .int .i64 (N.length:Int)),(23, .int .i64 (k:Int)),(31, .slice .shared 17 (it.map dK)),(32, .int .i64 (it.length:Int)),(33, .int .i64 (k2:Int)),(39, .slice .shared 1 (y.s.said.map encStr)),(40, .int .i64 (y.s.said.length:Int)),(41, .int .i64 (i.2.1:Int))]) (fun i=>⟨[cR p],[some i.2.2.2]⟩) ?_ (y.s.said,0,Eg,Eg.length) ⟨rfl,hV,hoV,rfl⟩)
   rintro⟨Fv,k3,zX,no⟩ ⟨l1,l2,l3,l4⟩ IH3
   dsimp only at l1 l2 l3 l4
   subst l4
   cases Fv with
   |nil=>
    have as2:=drop_nil l1
    simp only[tc]at l2
    subst l2
    repeat' (first
 |simp only[go_sem,hC,hE,hM,hY,as2]
 | (with_reducible refine aB hQ ?_;exact bd))
    refine eS 1 1 ?_ ?_ (TI (xc,k2+1,zX,zX.length) ⟨No,j2,hVW,rfl⟩ (Nat.lt_succ_self _))
    ·(simp only[go_sem,hC,hE,hM,hY,aL tL];try exact cr)
    ·(simp only[go_sem,hC,hE,hM,hY,aL tL];try exact cr)
   | cons z Fv=>
    obtain⟨ae5,lg2,llt,lg4⟩:=drop_cons l1
    have HQ:k3<4611686018427387904:=by omega
    have HO:=fun g s=>jF (l:=p.globals) (by omega) z g s
    simp only[tc]at l2
    rcases Bool.eq_false_or_eq_true (fq p.globals z)with c1|c1
    ·simp only [c1,if_true]at l2
     have hM:(zX.length+1)*17≤bx:=by unfold bx;omega
     have hoo:(zX++ [z]).length≤V.length:=by have:=(zU p Fv (zX++ [z])).1;rw[l2]at this;exact this
     repeat' (first
 |simp only[go_sem,hC,hE,hM,hY,llt,ae5,c1]
 |(with_reducible refine CU (HO _ _) ?_)
 | (with_reducible refine aB hQ ?_;exact bd))
     refine eS 1 1 ?_ ?_ (IH3 (Fv,k3+1,zX++ [z],zX.length+1) ⟨lg2,l2,hoo,by simp⟩ (Nat.lt_succ_self _))
     ·(simp only[go_sem,hC,hE,hM,hY,aL HQ,List.map_append,List.map_cons,List.map_nil,encStr];try exact cr)
     ·(simp only[go_sem,hC,hE,hM,hY,aL HQ,List.map_append,List.map_cons,List.map_nil,encStr];try exact cr)
    ·simp only [c1,Bool.false_eq_true,if_false]at l2
     repeat' (first
 |simp only[go_sem,hC,hE,hM,hY,llt,ae5,c1]
 |(with_reducible refine CU (HO _ _) ?_)
 |(with_reducible refine aB hQ ?_;exact bd))
     refine eS 1 1 ?_ ?_ (IH3 (Fv,k3+1,zX,zX.length) ⟨lg2,l2,l3,rfl⟩ (Nat.lt_succ_self _))
     ·(simp only[go_sem,hC,hE,hM,hY,aL HQ];try exact cr)
     ·(simp only[go_sem,hC,hE,hM,hY,aL HQ];try exact cr)
mutual
def Sm.its (deep dD:Int) (bc:Bool):Sm→List It
 |⟨id,kind,labels,name,proc,x,has,args,bm,e⟩=>⟨⟨id,kind,labels,name,proc,x,has,args,bm,e⟩,deep,dD,bc⟩::(Sm.Xh (deep+1) id false bm++Sm.Xh (deep+1) id true e)
def Sm.Xh (deep dD:Int) (bc:Bool):List Sm→List It
 | []=> []
 |s::l=>s.its deep dD bc++Sm.Xh deep dD bc l
end
def gk (l:List Sm) (none:Int):Int:=match l with| []=>none|t::_=>t.id
mutual
def Sm.v7 (proc up next loop:Int):Sm→List Im
 |⟨id,kind,labels,name,pc,x,has,args,bm,bc⟩=>⟨⟨id,kind,labels,name,pc,x,has,args,bm,bc⟩,proc,up,next,loop⟩::
  (Sm.jY proc id (if kind==6 then id else next) (if kind==6 then id else loop) bm++Sm.jY proc id (if kind==6 then id else next) (if kind==6 then id else loop) bc)
def Sm.jY (proc up next loop:Int):List Sm→List Im
 | []=> []
 |s::l=>s.v7 proc up (gk l next) loop++Sm.jY proc up next loop l
end
def oI (n:Nat) (l:List Sm):Prop:=∀ (i:Nat) (v:Sm),l[i]? = some v→v.id=((n+i+1:Nat):Int)
theorem oI.head {n:Nat} {v:Sm} {l:List Sm} (h:oI n (v::l)):v.id=((n+1:Nat):Int):=h 0 v rfl
theorem oI.tail {n:Nat} {v:Sm} {l:List Sm} (h:oI n (v::l)):oI (n+1) l:=fun i w hw=>by
 rw[h (i+1) w (by simpa using hw)];congr 1;omega
theorem oI.left {n:Nat} {a b:List Sm} (h:oI n (a++b)):oI n a:=fun i w hw=>h i w (by rw[List.getElem?_append_left (List.getElem?_eq_some_iff.1 hw).1];exact hw)
theorem oI.right {n:Nat} {a b:List Sm} (h:oI n (a++b)):oI (n+a.length) b:=fun i w hw=>by
 rw[h (a.length+i) w (by rw[List.getElem?_append_right (by omega)];simpa using hw)];congr 1;omega
theorem Xi (s:Sm):s.pre=s::(Sm.dm s.bm++Sm.dm s.bc):=Sm.qo s
mutual
theorem Nu : ∀ s:Sm,s.jA=s.pre.length
 |⟨id,kind,labels,name,proc,x,has,args,bm,bc⟩=>by
  simp only[Sm.jA,Sm.pre,List.length_cons,List.length_append,zY bm,zY bc];omega
theorem zY : ∀ l:List Sm,Sm.iZ l=(Sm.dm l).length
 | []=>rfl
 |s::l=>by simp only[Sm.iZ,Sm.dm,List.length_append,Nu s,zY l]
end
mutual
theorem Zy (proc up next loop:Int) : ∀ s:Sm,(s.v7 proc up next loop).map Im.s=s.pre
 |⟨id,kind,labels,name,pc,x,has,args,bm,bc⟩=>by
  simp only[Sm.v7,Sm.pre,List.map_cons,List.map_append,r8 _ _ _ _ bm,r8 _ _ _ _ bc]
theorem r8 (proc up next loop:Int) : ∀ l:List Sm,(Sm.jY proc up next loop l).map Im.s=Sm.dm l
 | []=>rfl
 |s::l=>by simp only[Sm.jY,Sm.dm,List.map_append,Zy _ _ _ _ s,r8 _ _ _ _ l]
end
theorem aa6 (proc up next loop:Int) (s:Sm):(s.v7 proc up next loop).length=s.pre.length:=by rw[← Zy proc up next loop s,List.length_map]
theorem Eh (proc up next loop:Int) (l:List Sm):(Sm.jY proc up next loop l).length=(Sm.dm l).length:=by rw[← r8 proc up next loop l,List.length_map]
mutual
theorem aa7 (proc up next loop:Int) (out:List Im) : ∀ s:Sm,oI out.length s.pre→Im.one proc up next loop out s=out++s.v7 proc up next loop
 | ⟨id,kind,labels,name,pc,x,has,args,bm,bc⟩,h=>by
  simp only[Sm.pre]at h
  have h0:id=((out.length+1:Nat):Int):=h.head
  have h1:=h.tail.left
  have h2:=h.tail.right
  have e0:((out.length:Int)+1)=id:=by rw[h0];rfl
  simp only[Im.one,Sm.v7,e0]
  rw[v8 proc id _ _ (out++ [_]) bm (by rw[List.length_append];exact h1)]
  rw[v8 proc id _ _ _ bc (by
   rw[List.length_append,List.length_append,Eh];exact h2)]
  simp
theorem v8 (proc up next loop:Int) (out:List Im) : ∀ l:List Sm,oI out.length (Sm.dm l)→Im.rows proc up next loop out l=out++Sm.jY proc up next loop l
 | [],h=>by simp[Im.rows,Sm.jY]
 | s::l,h=>by
  simp only[Sm.dm]at h
  have e:(if l.length=0 then next else(out.length:Int)+1+(s.jA:Int))=gk l next:=by
   cases l with
   |nil=>rfl
   |cons t l=>
    have h2:=h.right
    simp only[Sm.dm]at h2
    rw[Xi t]at h2
    simp only[List.length_cons,gk]
    rw[if_neg (by omega),h2.head,Nu]
    omega
  simp only[Im.rows,Sm.jY,e]
  rw[aa7 proc up _ loop out s h.left,v8 proc up next loop _ l (by rw[List.length_append,aa6];exact h.right)]
  simp
end
def qc (n:Nat):List Pc→List Im
 | []=> []
 |f::l=>Sm.jY n 0 (-1) 0 f.body++qc (n+1) l
theorem Ua : ∀ (l:List Pc) (n:Nat) (h:Sh),oI h.L.length ((l.map fun f=>Sm.dm f.body).flatten)→(Sh.go n h l).L=h.L++qc n l
 | [],n,h,_=>by simp[Sh.go,qc]
 | f::l,n,h,hi=>by
  simp only[List.map_cons,List.flatten_cons]at hi
  simp only[Sh.go,qc]
  have e:=v8 (n:Int) 0 (-1) 0 h.L f.body hi.left
  rw[Ua l (n+1) _ (by
   show oI (Im.rows (n:Int) 0 (-1) 0 h.L f.body).length _
   rw[e,List.length_append,Eh];exact hi.right)]
  show Im.rows (n:Int) 0 (-1) 0 h.L f.body++_=_
  rw[e];simp
theorem Nv {p:Pg} (h:p.may=true):oI 0 p.pre:=fun i v hv=>by rw[Lb h hv];congr 1;omega
theorem Ub {p:Pg} (h:p.may=true):p.bh.L=qc 0 p.procs:=by
 have:=Ua p.procs 0 ⟨[],[],[]⟩ (Nv h)
 simpa[Pg.bh]using this
def Uc (l:List It):Nat→Int→Int
 | 0,_=>0
 |n+1,dD=>if dD==0 then 0 else match l[n]? with
  |none=>0
  |some x=>if x.s.id != dD then Uc l n dD else if x.s.kind==6 then dD else Uc l n x.dD
def Up (L:List It) (k:Nat) (its:List It) (v7:List Im):Prop:=∀ (i:Nat) (a:It) (b:Im),its[i]? = some a→v7[i]? = some b→a.s=b.s∧a.dD=b.up∧Uc L (k+i) a.dD=b.loop
def iT (seen:List aF):List aF→List aF×Bool
 | []=>(seen,true)
 |n::l=>if fq seen n then(seen,false)else iT (seen++ [n]) l
theorem B7 : ∀ (l seen:List aF),iT seen l=(if qp seen l then((iT seen l).1,false)else(seen++l,true))
 | [],seen=>by simp[iT,qp]
 | n::l,seen=>by
  simp only[iT,qp]
  split
  ·rfl
  ·rw [B7 l (seen++ [n])]
   split
   ·rfl
   ·simp
theorem Nw : ∀ (a b seen:List aF),qp seen (a++b)=(qp seen a ||qp (seen++a) b)
 | [],b,seen=>by simp[qp]
 |x::a,b,seen=>by
  simp only[List.cons_append,qp]
  split
  ·rfl
  ·rw[Nw a b (seen++ [x])];simp
theorem HR : ∀ (l seen:List aF),seen.length≤(iT seen l).1.length∧(iT seen l).1.length≤seen.length+l.length
 | [],seen=>by simp[iT]
 |n::l,seen=>by
  simp only[iT]
  split
  ·simp
  ·have:=HR l (seen++ [n]);simp at this ⊢;omega
def qE (zZ:List aF) (v:Sm) (loop:Int):Bool:=if v.kind==7 ||v.kind==8 then loop != 0 else if v.kind==10 then fq zZ v.name else true
def tf (zZ fin seen:List aF):List (Sm×Int)→Option Int
 | []=>if(iT seen fin).2 then none else some 0
 |(v,lp)::l=>if(iT seen v.labels).2 then(if qE zZ v lp then tf zZ fin (iT seen v.labels).1 l else some v.id)else some v.id
def iA:List Sm→List aF
 | []=> []
 |v::l=>v.labels++iA l
def Pc.labels (f:Pc):List aF:=iA (Sm.dm f.body)++f.fin
def Im.pair (m:Im):Sm×Int:=(m.s,m.loop)
def Pc.xd (f:Pc):List (Sm×Int):=(Sm.jY 0 0 (-1) 0 f.body).map Im.pair
def ti:List Pc→Option Int
 | []=>none
 |f::l=>match tf f.labels f.fin [] f.xd with
  |some id=>some id
  |none=>ti l
def yX (c:Int):Option Int→Int×Int
 |some id=>(c,id)
 |none=>(0,0)
def Pg.jump (p:Pg):Int×Int:=if p.scope.1==0 then yX 7 (ti p.procs)else(1,0)
mutual
theorem Xj (proc up next vb Ud next' loop:Int) : ∀ s:Sm,(s.v7 proc up next loop).map Im.pair=(s.v7 vb Ud next' loop).map Im.pair
 |⟨id,kind,labels,name,pc,x,has,args,bm,bc⟩=>by
  simp only[Sm.v7,List.map_cons,List.map_append,Im.pair]
  rw[xe proc id _ vb id (if kind==6 then id else next') _ bm,xe proc id _ vb id (if kind==6 then id else next') _ bc]
theorem xe (proc up next vb Ud next' loop:Int) : ∀ l:List Sm,(Sm.jY proc up next loop l).map Im.pair=(Sm.jY vb Ud next' loop l).map Im.pair
 | []=>rfl
 |s::l=>by
  simp only[Sm.jY,List.map_append]
  rw[Xj proc up _ vb Ud (gk l next') loop s,xe proc up next vb Ud next' loop l]
end
theorem Ln (n:Int) (f:Pc):(Sm.jY n 0 (-1) 0 f.body).map Im.pair=f.xd:=xe _ _ _ _ _ _ _ _
theorem aa8 (f:Pc):f.xd.map Prod.fst=Sm.dm f.body:=by
 unfold Pc.xd
 rw[List.map_map, ← r8 0 0 (-1) 0 f.body]
 rfl
def Nx (l:List It):Nat→Int→Int
 | 0,_=>0
 |n+1,id=>match l[n]? with
  |none=>0
  |some x=>if x.s.id != id then Nx l n id else if Uc l n x.dD != 0 then Uc l n x.dD else Nx l n id
theorem Ny : ∀ (l:List Pc) (n:Nat) (h:Sh),h.lo.length=n→h.hi.length=n→oI h.L.length ((l.map fun f=>Sm.dm f.body).flatten)→
 ∃ lo hi,Sh.go n h l = ⟨h.L++qc n l,h.lo++lo,h.hi++hi⟩∧lo.length=l.length∧hi.length=l.length∧
  ∀ (i:Nat) (f:Pc),l[i]? = some f→∃ a e:List Im,lo[i]? = some (((h.L++a).length:Int)+1)∧hi[i]? = some (((h.L++a++Sm.jY ((n+i:Nat):Int) 0 (-1) 0 f.body).length:Int)+1)∧qc n l=a++Sm.jY ((n+i:Nat):Int) 0 (-1) 0 f.body++e
 | [],n,h,hl,hh,_=>⟨[],[],by simp[Sh.go,qc],rfl,rfl,fun i f h=>by simp at h⟩
 | f::l,n,h,hl,hh,hi=>by
  simp only[List.map_cons,List.flatten_cons]at hi
  simp only[Sh.go,qc]
  have e1:=v8 (n:Int) 0 (-1) 0 h.L f.body hi.left
  obtain⟨lo,gZ,h2,h3,h4,h5⟩:=Ny l (n+1) ⟨Im.rows (n:Int) 0 (-1) 0 h.L f.body,h.lo++ [(h.L.length:Int)+1],h.hi++ [((Im.rows (n:Int) 0 (-1) 0 h.L f.body).length:Int)+1]⟩ (by simp[hl]) (by simp[hh]) (by
   show oI (Im.rows (n:Int) 0 (-1) 0 h.L f.body).length _
   rw[e1,List.length_append,Eh];exact hi.right)
  refine⟨((h.L.length:Int)+1)::lo,(((Im.rows (n:Int) 0 (-1) 0 h.L f.body).length:Int)+1)::gZ, ?_,by simp[h3],by simp[h4],fun i g gZ=>?_⟩
  ·rw[h2,e1];simp
  ·cases i with
   |zero=>
    simp only[List.getElem?_cons_zero,Option.some.injEq]at gZ
    subst gZ
    exact⟨[],qc (n+1) l,by simp,by rw[e1];simp,by simp⟩
   |succ i=>
    simp only[List.getElem?_cons_succ]at gZ
    obtain⟨a,e,g1,g2,g3⟩:=h5 i g gZ
    have en:n+1+i=n+(i+1):=by omega
    rw[en]at g2 g3
    refine⟨Sm.jY n 0 (-1) 0 f.body++a,e, ?_, ?_,by rw[g3];simp⟩
    ·rw[List.getElem?_cons_succ,g1,e1];simp
    ·rw[List.getElem?_cons_succ,g2,e1];simp
theorem ae7 {p:Pg} (hb:p.may=true) {i:Nat} {f:Pc} (hf:p.procs[i]? = some f) (hs:Pc.br p.procs<1000000000) (s:St) :
 az Tryz.prog gP [.dL (fw p) 0, .int .i64 (i:Int)] s (.slice .shared 17 ((Sm.jY (i:Int) 0 (-1) 0 f.body).map dK)) s:=by
 obtain⟨lo,hi,h1,h2,h3,h4⟩:=Ny p.procs 0 ⟨[],[],[]⟩ rfl rfl (Nv hb)
 obtain⟨a,e,g1,g2,g3⟩:=h4 i f hf
 simp only[Nat.zero_add,List.nil_append]at g1 g2 g3 h1
 refine aeF hs (a:=a) (e:=e) ?_ ?_ ?_ s
 ·show(Sh.go 0 ⟨[],[],[]⟩ p.procs).lo[i]? = _
  rw[h1];exact g1
 ·show(Sh.go 0 ⟨[],[],[]⟩ p.procs).hi[i]? = _
  rw[h1];exact g2
 ·show(Sh.go 0 ⟨[],[],[]⟩ p.procs).L=_
  rw[h1];exact g3
theorem az.as3 {P:Program} {f:FuncId} {pre post:List D} {rows lG:List (List D)} {z z' k k':Nat} {b:Bool} (h:az P f (pre++ .slice (.tok 0) z rows::post) ⟨[],[some k]⟩ (.tuple [.slice (.tok 0) z' lG, .bool b]) ⟨[],[some k']⟩)
 (hp:D.bH 0 0 pre=true) (ha:D.bH 0 0 post=true) (hw:D.gT 0 0 rows=true) (SJ:D.gT 0 0 lG=true)
 {s:St} {t:Nat} (ht:s.aw[t]? = some (some k)):az P f (pre++ .slice (.tok t) z rows::post) s (.tuple [.slice (.tok t) z' lG, .bool b]) ⟨s.ah,s.aw.set t (some k')⟩:=by
 refine bP.frame [] [t] h (by simp) (by simp) (by simp) (by simpa using (List.getElem?_eq_some_iff.1 ht).1) rfl (fun i o' ds e1 e2=>by simp at e1) rfl (fun i t' e1=>?_)
  ?_ ?_ ?_
 ·cases i with
  |zero=>simp at e1;subst e1;simp[ht]
  |succ i=>simp at e1
 ·have h1:=e8 [] [t] _ hp
  have h2:=e8 [] [t] _ ha
  rw[fM]at h1 h2
  simp[fM,D.db,Tag.db,h1,h2,ib _ _ _ hw]
 ·have h1:=gE (n':=0) (m':=1) (Nat.le_refl 0) (Nat.zero_le 1) _ hp
  have h2:=gE (n':=0) (m':=1) (Nat.le_refl 0) (Nat.zero_le 1) _ ha
  rw[yo]at h1 h2 ⊢
  simp only[List.length_nil,List.length_cons,List.all_append,h1,Bool.true_and,List.all_cons,h2,Bool.and_true,D.ok,Tag.ok,lC (Nat.zero_le 0) (Nat.zero_le 1) _ hw]
  rfl
 ·rintro _ _ ⟨rfl,rfl⟩
  refine⟨by simp[D.back,D.db,D.eU,Tag.db,kj,ib _ _ _ SJ], ?_⟩
  simp[St.back,kB]
theorem ae8 {seen l:List aF} (hl:seen.length+l.length<1000000000):az Tryz.prog qj [.slice (.tok 0) 1 (seen.map encStr), .slice .shared 1 (l.map encStr)] ⟨[],[some seen.length]⟩
 (.tuple [.slice (.tok 0) 1 ((iT seen l).1.map encStr), .bool (iT seen l).2]) ⟨[],[some (iT seen l).1.length]⟩:=by
 generalize hR:iT seen l=R
 refine az.go Iv rfl fun B Q hB hQ=>?_
 have⟨hC,hE,hM,hY⟩:=bC
 repeat' (first
 |simp only[go_sem,hC,hE,hM,hY]
 |(with_reducible refine aB hQ ?_;exact bd))
 refine dQ 0 1 (bg.ind (ι:=List aF×Nat×List aF×Nat) (fun i=>l.drop i.2.1=i.1∧iT i.2.2.1 i.1=R∧i.2.2.2=i.2.2.1.length∧i.2.2.1.length+i.1.length<1000000000) (fun i=>i.1.length)
  (fun i=> [(0, .slice (.tok 0) 1 (i.2.2.1.map encStr)),(8, .slice .shared 1 (l.map encStr)),(9, .int .i64 (l.length:Int)),(10, .int .i64 (i.2.1:Int))]) (fun i=>⟨[],[some i.2.2.2]⟩) ?_ (l,0,seen,seen.length) ⟨rfl,hR,rfl,hl⟩)
 clear hR
 rintro⟨rest,k,out,n⟩ ⟨h1,h2,h3,h4⟩ IH
 dsimp only at h1 h2 h3 h4
 subst h3
 cases rest with
 |nil=>
  have hC:=drop_nil h1
  simp only[iT]at h2
  subst h2
  repeat' (first
 |simp only[go_sem,hC,hE,hM,hY]
 |(with_reducible refine aB hQ ?_;exact bd))
 | cons x rest=>
  obtain⟨hE,g2,hC,g4⟩:=drop_cons h1
  have cj:k<4611686018427387904:=by omega
  simp only[List.length_cons]at h4
  have hM:(out.length+1)*17≤bx:=by unfold bx;omega
  have HO:=fun g s=>jF (l:=out) (by omega) x g s
  simp only[iT]at h2
  rcases Bool.eq_false_or_eq_true (fq out x)with c1|c1
  ·simp only [c1,if_true]at h2
   subst h2
   repeat' (first
 |simp only[go_sem,hC,hE,hM,hY,c1]
 |(with_reducible refine CU (HO _ _) ?_)
 | (with_reducible refine aB hQ ?_;exact bd))
  ·simp only [c1,Bool.false_eq_true,if_false]at h2
   repeat' (first
 |simp only[go_sem,hC,hE,hM,hY,c1]
 |(with_reducible refine CU (HO _ _) ?_)
 | (with_reducible refine aB hQ ?_;exact bd))
   refine eS 0 1 ?_ ?_ (IH (rest,k+1,out++ [x],out.length+1) ⟨g2,h2,by simp,by simp;omega⟩ (Nat.lt_succ_self _))
   ·(simp only[go_sem,hC,hE,hM,hY,aL cj,List.map_append,List.map_cons,List.map_nil,encStr];try exact cr)
   ·(simp only[go_sem,hC,hE,hM,hY,aL cj,List.map_append,List.map_cons,List.map_nil,encStr];try exact cr)
theorem Ue {seen l:List aF} (hl:seen.length+l.length<1000000000) {s:St} {t:Nat} (ht:s.aw[t]? = some (some seen.length)):az Tryz.prog qj [.slice (.tok t) 1 (seen.map encStr), .slice .shared 1 (l.map encStr)] s
 (.tuple [.slice (.tok t) 1 ((iT seen l).1.map encStr), .bool (iT seen l).2]) ⟨s.ah,s.aw.set t (some (iT seen l).1.length)⟩:=
 (ae8 hl).as3 (pre:= []) (post:= [_]) rfl (by simp[D.bH,D.ok,Tag.ok,eB]) (eB _) (eB _) ht
theorem Xk (x:Im):(dK x)[2]? = some (.slice .shared 1 (x.s.labels.map encStr)):=nd rfl
theorem Uf (x:Im):(dK x)[3]? = some (.str x.s.name):=nd rfl
attribute [go_sem] Xk Uf
def k8 (fin:List aF) (label:aF):List Sm→Int×Bool
 | []=>if fq fin label then(-1,true)else(0,false)
 |v::l=>if fq v.labels label then(v.id,true)else k8 fin label l
theorem B8 (fin:List aF) (label:aF) : ∀ l:List Sm,(k8 fin label l).2=fq (iA l++fin) label
 | []=>by simp only[k8,iA,List.nil_append];split<;>simp_all
 | v::l=>by
  simp only[k8,iA,List.append_assoc]
  have h:=B8 fin label l
  rw[Bool.eq_iff_iff,jc]at h
  split
  ·rename_i c
   exact((jc _ _).2 (List.mem_append.2 (.inl ((jc _ _).1 c)))).symm
  ·rename_i c
   have:label∉v.labels:=fun m=>c ((jc _ _).2 m)
   rw[Bool.eq_iff_iff,h,jc]
   exact⟨fun m=>List.mem_append.2 (.inr m),fun m=>(List.mem_append.1 m).resolve_left this⟩
theorem Lo {p:Pg} {v:Sm} (ho:p.iW) {f:Pc} (hf:f∈p.procs) (hv:v∈Sm.dm f.body):v.labels.length≤900000:=by
 have key : ∀ n:Nat,(∀ s:Sm,s.pre.length≤n→∀ v∈s.pre,v.labels.length≤s.size)∧(∀ l:List Sm,(Sm.dm l).length≤n→∀ v∈Sm.dm l,v.labels.length≤Sm.br l):=by
  intro n
  induction n with
  |zero=>
   refine⟨fun s h=>by rw[Sm.qo]at h;simp at h,fun l h v m=>?_⟩
   have:=List.eq_nil_of_length_eq_zero (Nat.le_zero.1 h)
   rw[this]at m;cases m
  | succ n ih=>
   have h1 : ∀ s:Sm,s.pre.length≤n+1→∀ v∈s.pre,v.labels.length≤s.size:=by
    intro s h v m
    rw[Sm.qo]at h m
    simp only[List.length_cons,List.length_append]at h
    obtain⟨id,kind,labels,name,proc,x,has,args,bm,bc⟩:=s
    simp only[Sm.size]
    rcases List.mem_cons.1 m with rfl|m
    ·dsimp only;omega
    ·rcases List.mem_append.1 m with m | m
     ·have:=ih.2 bm (by dsimp only at h;omega) v m;omega
     ·have:=ih.2 bc (by dsimp only at h;omega) v m;omega
   refine⟨h1,fun l=>?_⟩
   induction l with
   |nil=>intro _ v m;cases m
   |cons s l Tl=>
    intro h v m
    simp only[Sm.dm,List.length_append]at h
    simp only[Sm.dm]at m
    simp only[Sm.br]
    rcases List.mem_append.1 m with m|m
    ·have:=h1 s (by omega) v m;omega
    ·have:=Tl (by omega) v m;omega
 have h1:=(key (Sm.dm f.body).length).2 f.body (Nat.le_refl _) v hv
 have h2:=Pc.dd hf
 have h3:=ho.procs.2.1
 simp only[Pc.size]at h2
 omega
theorem HS {p:Pg} (ho:p.iW) {f:Pc} (hf:f∈p.procs):f.fin.length≤900000:=by
 have h2:=Pc.dd hf
 have h3:=ho.procs.2.1
 simp only[Pc.size]at h2
 omega
theorem Fw {p:Pg} (ho:p.iW) {f:Pc} (hf:f∈p.procs):(Sm.dm f.body).length≤900000:=by
 rw[← zY]
 have:=nG f.body
 have h2:=Pc.dd hf
 have h3:=ho.procs.2.1
 simp only[Pc.size]at h2
 omega
theorem ae9 {p:Pg} (ho:p.iW) (hb:p.may=true) {i:Nat} {f:Pc} (hf:p.procs[i]? = some f) (label:aF) (s:St) :
 az Tryz.prog oN [.dL (fw p) 0, .int .i64 (i:Int), .str label] s (.tuple [.int .i64 (k8 f.fin label (Sm.dm f.body)).1, .bool (k8 f.fin label (Sm.dm f.body)).2]) s:=by
 refine az.pure ?_ (by simp[D.bH,D.ok,uw]) rfl s
 obtain⟨sh,r7,rZ⟩:=ho.procs
 have AJ:=List.mem_of_getElem? hf
 have BX:=fun s=>ae7 hb hf (by omega) s
 have qb:=r8 (i:Int) 0 (-1) 0 f.body
 have Lp:=Fw ho AJ
 have wa:=HS ho AJ
 have Dx:=fun s=>rY (l:=f.fin) (by omega) label s
 have qY:i<p.procs.length:=(List.getElem?_eq_some_iff.1 hf).1
 generalize hI:Sm.jY (i:Int) 0 (-1) 0 f.body=I at *
 have hIl:I.length≤900000:=by rw[← qb,List.length_map]at Lp;exact Lp
 obtain⟨R,hR⟩ : ∃ R,k8 f.fin label (Sm.dm f.body)=R:=⟨_,rfl⟩
 rw[hR]
 rw[← qb]at hR
 unfold S0
 refine az.go C7 rfl fun B Q hB hQ=>?_
 have⟨hC,hE,hM,hY⟩:=bC
 repeat' (first
 |simp only[go_sem,hC,hE,hM,hY]
 |(with_reducible refine CU (BX _) ?_)
 |(with_reducible refine aB hQ ?_;exact bd))
 refine dQ 0 0 (bg.ind (ι:=List Im×Nat) (fun j=>I.drop j.2=j.1∧k8 f.fin label (j.1.map Im.s)=R) (fun j=>j.1.length)
  (fun j=> [(0, .dL (fw p) 0),(1, .int .i64 (i:Int)),(2, .str label),(12, .slice .shared 17 (I.map dK)),(13, .int .i64 (I.length:Int)),(14, .int .i64 (j.2:Int))]) (fun j=>⟨[],[]⟩) ?_ (I,0) ⟨rfl,hR⟩)
 clear hR
 rintro⟨rest,k⟩ ⟨h1,h2⟩ IH
 dsimp only at h1 h2
 cases rest with
 | nil=>
  have hC:=drop_nil h1
  simp only[List.map_nil,k8]at h2
  rcases Bool.eq_false_or_eq_true (fq f.fin label)with c1|c1
  ·simp only [c1,if_true]at h2
   subst h2
   repeat' (first
 |simp only[go_sem,hC,hE,hM,hY,nY,hf,c1]
 |(with_reducible refine CU (Dx _) ?_)
 | (with_reducible refine aB hQ ?_;exact bd))
  ·simp only [c1,Bool.false_eq_true,if_false]at h2
   subst h2
   repeat' (first
 |simp only[go_sem,hC,hE,hM,hY,nY,hf,c1]
 |(with_reducible refine CU (Dx _) ?_)
 |(with_reducible refine aB hQ ?_;exact bd))
 | cons a rest=>
  obtain⟨hE,g2,hC,g4⟩:=drop_cons h1
  have cj:k<4611686018427387904:=by omega
  have Fo:a.s∈Sm.dm f.body:=by rw[← qb];exact List.mem_map_of_mem (List.mem_of_getElem? hE)
  have nF:=fun s=>rY (l:=a.s.labels) (by have:=Lo ho AJ Fo;omega) label s
  simp only[List.map_cons,k8]at h2
  rcases Bool.eq_false_or_eq_true (fq a.s.labels label)with c1|c1
  ·simp only [c1,if_true]at h2
   subst h2
   repeat' (first
 |simp only[go_sem,hC,hE,hM,hY,c1]
 |(with_reducible refine CU (nF _) ?_)
 | (with_reducible refine aB hQ ?_;exact bd))
  ·simp only [c1,Bool.false_eq_true,if_false]at h2
   repeat' (first
 |simp only[go_sem,hC,hE,hM,hY,c1]
 |(with_reducible refine CU (nF _) ?_)
 | (with_reducible refine aB hQ ?_;exact bd))
   refine eS 0 0 ?_ ?_ (IH (rest,k+1) ⟨g2,h2⟩ (Nat.lt_succ_self _))
   ·(simp only[go_sem,hC,hE,hM,hY,aL cj];try exact cr)
   ·(simp only[go_sem,hC,hE,hM,hY,aL cj];try exact cr)
theorem aa9 {p:Pg} (ho:p.iW) (hb:p.may=true) {i:Nat} {f:Pc} (hf:p.procs[i]? = some f) (m:Im) (hm:m.proc=(i:Int)) (s:St) :
 az Tryz.prog vF [.dL (fw p) 0, .agg (dK m)] s (.bool (qE f.labels m.s m.loop)) s:=by
 refine az.pure ?_ (by simp[D.bH,D.ok,uw,QS]) rfl s
 have rz:=fun s=>ae9 ho hb hf m.s.name s
 have afa:=B8 f.fin m.s.name (Sm.dm f.body)
 rw[← hm]at rz
 obtain⟨A,hA⟩ : ∃ A,k8 f.fin m.s.name (Sm.dm f.body)=A:=⟨_,rfl⟩
 rw[hA]at rz afa
 obtain⟨R,hR⟩ : ∃ R,qE f.labels m.s m.loop=R:=⟨_,rfl⟩
 rw[hR]
 unfold qE Pc.labels at hR
 unfold S0
 rcases Bool.eq_false_or_eq_true (m.s.kind==7)with c1|c1
 ·simp only [c1,Bool.true_or,if_true]at hR
  subst hR
  refine az.go pG rfl fun B Q hB hQ=>?_
  have⟨hC,hE,hM,hY⟩:=bC
  repeat' (first
 |simp only[go_sem,hC,hE,hM,hY,c1]
 |(with_reducible refine aB hQ ?_;exact bd))
 rcases Bool.eq_false_or_eq_true (m.s.kind==8)with c2|c2
 ·simp only [c1,c2,Bool.or_true,if_true]at hR
  subst hR
  refine az.go pG rfl fun B Q hB hQ=>?_
  have⟨hC,hE,hM,hY⟩:=bC
  repeat' (first
 |simp only[go_sem,hC,hE,hM,hY,c1,c2]
 |(with_reducible refine aB hQ ?_;exact bd))
 rcases Bool.eq_false_or_eq_true (m.s.kind==10)with c3|c3
 ·simp only [c1,c2,c3,Bool.or_self,Bool.false_eq_true,if_false,if_true, ← afa]at hR
  subst hR
  refine az.go pG rfl fun B Q hB hQ=>?_
  have⟨hC,hE,hM,hY⟩:=bC
  repeat' (first
 |simp only[go_sem,hC,hE,hM,hY,c1,c2,c3]
 |(with_reducible refine CU (rz _) ?_)
 |(with_reducible refine aB hQ ?_;exact bd))
 ·simp only [c1,c2,c3,Bool.or_self,Bool.false_eq_true,if_false]at hR
  subst hR
  refine az.go pG rfl fun B Q hB hQ=>?_
  have⟨hC,hE,hM,hY⟩:=bC
  repeat' (first
 |simp only[go_sem,hC,hE,hM,hY,c1,c2,c3]
 |(with_reducible refine aB hQ ?_;exact bd))
end Go.Abs
namespace Go.Abs
set_option maxRecDepth 8000
open Go.Proofs
theorem abb {p:Pg} (h:p.iW) (nI:(p.scope.1==0)=true) (s:St):az Tryz.prog rL [.agg (cR p)] s (.dL (fw p) 0) s:=by
 refine az.pure ?_ (by simp[D.bH,D.ok,jT]) (by simp[D.ok,uw]) s
 obtain⟨sh,r7,rZ⟩:=h.procs
 have pQ:=fun s=>vY h s
 have dr:=fun s=>Cz (p:=p) (by omega) s
 have b0:(p.scope.1 != 0) = !(p.scope.1==0):=rfl
 rw[nI]at b0
 unfold S0
 refine az.go yN rfl fun B Q hB hQ=>?_
 have⟨hC,hE,hM,hY⟩:=bC
 repeat' (first
 |simp only[go_sem,hC,hE,hM,hY,b0,Bool.not_true]
 |(with_reducible refine CU (pQ _) ?_)
 |(with_reducible refine CU (dr _) ?_)
 |(with_reducible refine aB hQ ?_;exact bd))
theorem abd {p:Pg} (h:p.iW) (nI:(p.scope.1==0)=false) (s:St):az Tryz.prog rL [.agg (cR p)] s .ek s:=by
 refine az.pure ?_ (by simp[D.bH,D.ok,jT]) rfl s
 have pQ:=fun s=>vY h s
 have b0:(p.scope.1 != 0) = !(p.scope.1==0):=rfl
 rw[nI]at b0
 unfold S0
 refine az.go yN rfl fun B Q hB hQ=>?_
 have⟨hC,hE,hM,hY⟩:=bC
 repeat' (first
 |simp only[go_sem,hC,hE,hM,hY,b0,Bool.not_false]
 |(with_reducible refine CU (pQ _) ?_)
 |(with_reducible refine aB hQ ?_;exact bd))
mutual
theorem Xl {pr up next loop:Int} : ∀ (s:Sm) (m:Im),m∈s.v7 pr up next loop→m.proc=pr
 | ⟨id,kind,labels,name,pc,x,has,args,bm,bc⟩,m,h=>by
  simp only[Sm.v7]at h
  rcases List.mem_cons.1 h with rfl|h
  ·rfl
  ·rcases List.mem_append.1 h with h | h
   ·exact xf bm m h
   ·exact xf bc m h
theorem xf {pr up next loop:Int} : ∀ (l:List Sm) (m:Im),m∈Sm.jY pr up next loop l→m.proc=pr
 |s::l,m,h=>by
  simp only[Sm.jY]at h
  rcases List.mem_append.1 h with h|h
  ·exact Xl s m h
  ·exact xf l m h
end
theorem xR : ∀ a b:List Sm,iA (a++b)=iA a++iA b
 | [],b=>rfl
 |v::a,b=>by simp only[List.cons_append,iA,xR a b,List.append_assoc]
mutual
theorem MP : ∀ s:Sm,(iA s.pre).length≤s.size
 |⟨id,kind,labels,name,pc,x,has,args,bm,bc⟩=>by
  have:=r9 bm;have:=r9 bc
  simp only[Sm.pre,iA,xR,List.length_append,Sm.size];omega
theorem r9 : ∀ l:List Sm,(iA (Sm.dm l)).length≤Sm.br l
 | []=>Nat.le_refl _
 |s::l=>by
  have:=MP s;have:=r9 l
  simp only[Sm.dm,xR,List.length_append,Sm.br];omega
end
theorem Ug (seen l:List aF):(iT seen l).1.length≤seen.length+l.length:=(HR l seen).2
theorem Xm {p:Pg} (h:p.iW) (s:St):az Tryz.prog vC [.agg (cR p)] s (.agg [.int .i64 p.jump.1, .int .i64 p.jump.2]) s:=by
 refine az.pure ?_ (by simp[D.bH,D.ok,jT]) rfl s
 obtain⟨sh,r7,rZ⟩:=h.procs
 obtain⟨R,hR⟩ : ∃ R,p.jump=R:=⟨_,rfl⟩
 rw[hR]
 unfold Pg.jump at hR
 unfold S0
 rcases Bool.eq_false_or_eq_true (p.scope.1==0)with nI|nI
 case inr=>
  have hs:=fun s=>abd h nI s
  simp only[nI,Bool.false_eq_true,if_false]at hR
  subst hR
  refine az.go yw rfl fun B Q hB hQ=>?_
  have⟨hC,hE,hM,hY⟩:=bC
  repeat' (first
 |simp only[go_sem,hC,hE,hM,hY]
 |(with_reducible refine CU (hs _) ?_)
 |(with_reducible refine aB hQ ?_;exact bd))
 have hs:=fun s=>abb h nI s
 have hb:=B0 nI
 simp only[nI,if_true]at hR
 refine az.go yw rfl fun B Q hB hQ=>?_
 have⟨hC,hE,hM,hY⟩:=bC
 repeat' (first
 |simp only[go_sem,hC,hE,hM,hY]
 |(with_reducible refine CU (hs _) ?_)
 |(with_reducible refine aB hQ ?_;exact bd))
 refine dQ 2 0 (bg.ind (ι:=List Pc×Nat) (fun i=>p.procs.drop i.2=i.1∧yX 7 (ti i.1)=R) (fun i=>i.1.length)
  (fun i=> [(1, .ptr 0 0),(2, .ptr 1 0),(3, .dL (fw p) 0),(16, .slice .shared 5 (p.procs.map cH)),(17, .int .i64 (p.procs.length:Int)),(18, .int .i64 (i.2:Int))]) (fun i=>⟨[cR p,[.int .i64 0, .int .i64 0]],[]⟩) ?_ (p.procs,0) ⟨rfl,hR⟩)
 clear hR
 rintro⟨rest,k⟩ ⟨h1,hR⟩ IH
 dsimp only at h1 hR
 cases rest with
 |nil=>
  have hC:=drop_nil h1
  simp only[ti,yX]at hR
  subst hR
  repeat' (first
 |simp only[go_sem,hC,hE,hM,hY]
 |(with_reducible refine aB hQ ?_;exact bd))
 | cons f rest=>
  obtain⟨hE,g2,hC,g4⟩:=drop_cons h1
  have cj:k<4611686018427387904:=by omega
  have AJ:=List.mem_of_getElem? hE
  have BX:=fun s=>ae7 hb hE (by omega) s
  have qb:=r8 (k:Int) 0 (-1) 0 f.body
  have yT:=Ln (k:Int) f
  have QR:=fun m=>xf (pr:=(k:Int)) (up:=0) (next:= -1) (loop:=0) f.body m
  have Lp:=Fw h AJ
  have wa:=HS h AJ
  have afb:(iA (Sm.dm f.body)).length≤900000:=by
   have h1:=r9 f.body
   have h2:=Pc.dd AJ
   simp only[Pc.size]at h2
   omega
  rw[← qb]at afb
  generalize hI:Sm.jY (k:Int) 0 (-1) 0 f.body=I at *
  have hIl:I.length≤900000:=by rw[← qb,List.length_map]at Lp;exact Lp
  simp only[ti, ← yT]at hR
  obtain⟨J,hJ⟩ : ∃ J,tf f.labels f.fin [] (I.map Im.pair)=J:=⟨_,rfl⟩
  rw[hJ]at hR
  have hld:=fun(m:Im) (hm:m∈I) s=>aa9 h hb hE m (QR m hm) s
  repeat' (first
 |simp only[go_sem,hC,hE,hM,hY]
 |(with_reducible refine CU (BX _) ?_)
 | (with_reducible refine aB hQ ?_;exact bd))
  refine bg.pZ 6 1 rfl ?_
  simp only[go_sem,hC,hE,hM,hY]
  refine dQ 3 1 (bg.ind (ι:=List Im×Nat×List aF×Nat) (fun i=>I.drop i.2.1=i.1∧tf f.labels f.fin i.2.2.1 (i.1.map Im.pair)=J∧i.2.2.2=i.2.2.1.length∧i.2.2.1.length+(iA (i.1.map Im.s)).length≤900000) (fun i=>i.1.length)
   (fun i=> [(1, .ptr 0 0),(2, .ptr 1 0),(3, .dL (fw p) 0),(5, .ptr 2 0),(6, .slice (.tok 0) 1 (i.2.2.1.map encStr)),(16, .slice .shared 5 (p.procs.map cH)),(17, .int .i64 (p.procs.length:Int)),(18, .int .i64 (k:Int)),
    (25, .slice .shared 17 (I.map dK)),(26, .int .i64 (I.length:Int)),(27, .int .i64 (i.2.1:Int))]) (fun i=>⟨[cR p,[.int .i64 0, .int .i64 0],cH f],[some i.2.2.2]⟩) ?_ (I,0,[],0) ⟨rfl,hJ,rfl,by simpa using afb⟩)
  clear hJ
  rintro⟨xc,k2,seen,n2⟩ ⟨j1,j2,j3,j4⟩ TI
  dsimp only at j1 j2 j3 j4
  subst j3
  cases xc with
  | nil=>
   have Q6:=drop_nil j1
   simp only[List.map_nil,tf]at j2
   simp only[List.map_nil,iA,List.length_nil,Nat.add_zero]at j4
   have HT:=fun {s:St} {t:Nat} (ht:s.aw[t]? = some (some seen.length))=>Ue (seen:=seen) (l:=f.fin) (by omega) ht
   obtain⟨P1,hP1⟩ : ∃ P1,iT seen f.fin=P1:=⟨_,rfl⟩
   rw[hP1]at j2 HT
   rcases Bool.eq_false_or_eq_true P1.2 with c1|c1
   ·simp only [c1,if_true]at j2
    subst j2
    simp only at hR
    repeat' (first
 |simp only[go_sem,hC,hE,hM,hY,Q6,c1,Bool.not_true]
 |(with_reducible refine CU (HT (by with_unfolding_all rfl)) ?_)
 | (with_reducible refine aB hQ ?_;exact bd))
    refine eS 2 0 ?_ ?_ (IH (rest,k+1) ⟨g2,hR⟩ (Nat.lt_succ_self _))
    ·(simp only[go_sem,hC,hE,hM,hY,aL cj];try exact cr)
    ·(simp only[go_sem,hC,hE,hM,hY,aL cj];try exact cr)
   ·simp only [c1,Bool.false_eq_true,if_false]at j2
    subst j2
    simp only[yX]at hR
    subst hR
    repeat' (first
 |simp only[go_sem,hC,hE,hM,hY,Q6,c1,Bool.not_false]
 |(with_reducible refine CU (HT (by with_unfolding_all rfl)) ?_)
 | (with_reducible refine aB hQ ?_;exact bd))
  | cons m xc=>
   obtain⟨pz,j5,yU,j6⟩:=drop_cons j1
   have tL:k2<4611686018427387904:=by omega
   have Nz:=List.mem_of_getElem? pz
   have Zu:=fun s=>hld m Nz s
   simp only[List.map_cons,Im.pair,tf]at j2
   simp only[List.map_cons,iA,List.length_append]at j4
   have HT:=fun {s:St} {t:Nat} (ht:s.aw[t]? = some (some seen.length))=>Ue (seen:=seen) (l:=m.s.labels) (by omega) ht
   have Yx:=Ug seen m.s.labels
   obtain⟨P1,hP1⟩ : ∃ P1,iT seen m.s.labels=P1:=⟨_,rfl⟩
   rw[hP1]at j2 HT Yx
   rcases Bool.eq_false_or_eq_true P1.2 with c1|c1
   ·rcases Bool.eq_false_or_eq_true (qE f.labels m.s m.loop)with c2 | c2
    ·simp only [c1,c2,if_true]at j2
     repeat' (first
 |simp only[go_sem,hC,hE,hM,hY,pz,yU,c1,c2,Bool.not_true]
 |(with_reducible refine CU (HT (by with_unfolding_all rfl)) ?_)
 |(with_reducible refine CU (Zu _) ?_)
 | (with_reducible refine aB hQ ?_;exact bd))
     refine eS 3 1 ?_ ?_ (TI (xc,k2+1,P1.1,P1.1.length) ⟨j5,j2,rfl,by dsimp only;omega⟩ (Nat.lt_succ_self _))
     ·(simp only[go_sem,hC,hE,hM,hY,aL tL];try exact cr)
     ·(simp only[go_sem,hC,hE,hM,hY,aL tL];try exact cr)
    ·simp only [c1,c2,if_true,Bool.false_eq_true,if_false]at j2
     subst j2
     simp only[yX]at hR
     subst hR
     repeat' (first
 |simp only[go_sem,hC,hE,hM,hY,pz,yU,c1,c2,Bool.not_true,Bool.not_false]
 |(with_reducible refine CU (HT (by with_unfolding_all rfl)) ?_)
 |(with_reducible refine CU (Zu _) ?_)
 | (with_reducible refine aB hQ ?_;exact bd))
   ·simp only [c1,Bool.false_eq_true,if_false]at j2
    subst j2
    simp only[yX]at hR
    subst hR
    repeat' (first
 |simp only[go_sem,hC,hE,hM,hY,pz,yU,c1,Bool.not_false]
 |(with_reducible refine CU (HT (by with_unfolding_all rfl)) ?_)
 |(with_reducible refine CU (Zu _) ?_)
 |(with_reducible refine aB hQ ?_;exact bd))
theorem Xn (x:It):(j8 x)[2]? = some (.slice .shared 1 (x.s.labels.map encStr)):=nd rfl
theorem Uh (x:It):(j8 x)[14]? = some (.int .i64 x.dD):=nd rfl
attribute [go_sem] Xn Uh
end Go.Abs
namespace Go.Abs
def DA (a b t:aF):aF:=if t==a then b else if t==b then a else t
mutual
def Ex.swap (a b:aF):Ex→Ex
 |⟨op,n,name,kids⟩=>⟨op,n,DA a b name,Ex.z6 a b kids⟩
def Ex.z6 (a b:aF):List Ex→List Ex
 | []=> []
 |x::l=>x.swap a b::Ex.z6 a b l
end
def Ar.swap (a b:aF) (x:Ar):Ar:=⟨x.ref,DA a b x.name,x.x.swap a b⟩
mutual
def Sm.swap (a b:aF):Sm→Sm
 |⟨id,kind,labels,name,proc,x,has,args,bm,bc⟩=>⟨id,kind,labels.map (DA a b),DA a b name,DA a b proc,x.swap a b,has,args.map (Ar.swap a b),Sm.z6 a b bm,Sm.z6 a b bc⟩
def Sm.z6 (a b:aF):List Sm→List Sm
 | []=> []
 |s::l=>s.swap a b::Sm.z6 a b l
end
def Pm.swap (a b:aF) (x:Pm):Pm:=⟨DA a b x.name,x.ref⟩
def Pc.swap (a b:aF) (f:Pc):Pc:=⟨DA a b f.name,f.params.map (Pm.swap a b),f.vars.map (DA a b),Sm.z6 a b f.body,f.fin.map (DA a b)⟩
def Pg.swap (a b:aF) (p:Pg):Pg:=⟨p.globals.map (DA a b),p.procs.map (Pc.swap a b)⟩
def It.swap (a b:aF) (i:It):It:=⟨i.s.swap a b,i.deep,i.dD,i.bc⟩
def Zz:List Sm→List aF
 | []=> []
 |v::l=>v.said++Zz l
def aii (p:Pg):List aF→List aF
 | []=> []
 |n::l=>Zz (tT p n)++aii p l
set_option maxRecDepth 8000
open Go.Proofs
def pM (nm:aF) (T:List aF) (seen:List aF):List Ar→Bool
 | []=>true
 |a::l=>if a.ref then(if fq seen a.name ||(a.name==nm ||fq T a.name)then false else pM nm T (seen++ [a.name]) l)else pM nm T seen l
def apM (T:List aF) (seen:List aF):List Ar→Bool
 | []=>true
 |a::l=>if a.ref then(if fq seen a.name ||fq T a.name then false else apM T (seen++ [a.name]) l)else apM T seen l
def Sm.as5 (v:Sm):List aF:=if v.name != []then [v.name]else []
theorem Xo {v:Sm} (Aw:v.args.length<1000000000) {T:List aF} (hT:T.length<4611686018427387904) (s:St) :
 az Tryz.prog sA [.agg (a8 v), .slice .shared 1 (T.map encStr)] s (.bool (pM v.name T [] v.args)) s:=by
 refine az.pure ?_ (by simp[D.bH,D.ok,mZ,Tag.ok,eB]) rfl s
 generalize hR:pM v.name T [] v.args=R
 have ZA:=fun x s=>rY hT x s
 unfold S0
 refine az.go D5 rfl fun B Q hB hQ=>?_
 have⟨hC,hE,hM,hY⟩:=bC
 repeat' (first
 |simp only[go_sem,hC,hE,hM,hY]
 |(with_reducible refine aB hQ ?_;exact bd))
 refine bg.pZ 5 1 rfl ?_
 simp only[go_sem,hC,hE,hM,hY]
 refine dQ 1 1 (bg.ind (ι:=List Ar×Nat×List aF×Nat) (fun i=>v.args.drop i.2.1=i.1∧pM v.name T i.2.2.1 i.1=R∧i.2.2.1.length≤i.2.1∧i.2.2.2=i.2.2.1.length) (fun i=>i.1.length)
  (fun i=> [(1, .slice .shared 1 (T.map encStr)),(2, .ptr 0 0),(5, .slice (.tok 0) 1 (i.2.2.1.map encStr)),(9, .slice .shared 6 (v.args.map eC)),(10, .int .i64 (v.args.length:Int)),(11, .int .i64 (i.2.1:Int))]) (fun i=>⟨[a8 v],[some i.2.2.2]⟩) ?_ (v.args,0,[],0) ⟨rfl,hR,Nat.le_refl _,rfl⟩)
 clear hR
 rintro⟨rest,k,seen,n'⟩ ⟨h1,h2,h3,h4⟩ IH
 dsimp only at h1 h2 h3 h4
 subst h4
 cases rest with
 |nil=>
  have hC:=drop_nil h1
  simp only[pM]at h2
  subst h2
  repeat' (first
 |simp only[go_sem,hC,hE,hM,hY]
 |(with_reducible refine aB hQ ?_;exact bd))
 | cons a rest=>
  obtain⟨hE,g2,hC,g4⟩:=drop_cons h1
  have cj:k<4611686018427387904:=by omega
  have hM:(seen.length+1)*17≤bx:=by unfold bx;omega
  have qW:=fun g s=>jF (l:=seen) (by omega) a.name g s
  simp only[pM]at h2
  rcases Bool.eq_false_or_eq_true a.ref with c1|c1
  case inr=>
   simp only[c1,Bool.false_eq_true,if_false]at h2
   repeat' (first
 |simp only[go_sem,hC,hE,hM,hY,c1,Bool.not_false]
 | (with_reducible refine aB hQ ?_;exact bd))
   refine eS 1 1 ?_ ?_ (IH (rest,k+1,seen,_) ⟨g2,h2,by dsimp only;omega,rfl⟩ (Nat.lt_succ_self _))
   ·(simp only[go_sem,hC,hE,hM,hY,aL cj];try exact cr)
   ·(simp only[go_sem,hC,hE,hM,hY,aL cj];try exact cr)
  simp only[c1,if_true]at h2
  rcases Bool.eq_false_or_eq_true (fq seen a.name)with c2|c2
  ·simp only [c2,Bool.true_or,if_true]at h2
   subst h2
   repeat' (first
 |simp only[go_sem,hC,hE,hM,hY,c1,c2,Bool.not_true]
 |(with_reducible refine CU (qW _ _) ?_)
 |(with_reducible refine CU (ZA _ _) ?_)
 | (with_reducible refine aB hQ ?_;exact bd))
  rcases Bool.eq_false_or_eq_true (a.name==v.name)with c3|c3
  ·simp only [c2,c3,Bool.false_or,Bool.true_or,if_true]at h2
   subst h2
   repeat' (first
 |simp only[go_sem,hC,hE,hM,hY,c1,c2,c3,Bool.not_true]
 |(with_reducible refine CU (qW _ _) ?_)
 |(with_reducible refine CU (ZA _ _) ?_)
 | (with_reducible refine aB hQ ?_;exact bd))
  rcases Bool.eq_false_or_eq_true (fq T a.name)with c4|c4
  ·simp only [c2,c3,c4,Bool.false_or,if_true]at h2
   subst h2
   repeat' (first
 |simp only[go_sem,hC,hE,hM,hY,c1,c2,c3,c4,Bool.not_true]
 |(with_reducible refine CU (qW _ _) ?_)
 |(with_reducible refine CU (ZA _ _) ?_)
 | (with_reducible refine aB hQ ?_;exact bd))
  ·simp only [c2,c3,c4,Bool.false_or,Bool.false_eq_true,if_false]at h2
   repeat' (first
 |simp only[go_sem,hC,hE,hM,hY,c1,c2,c3,c4,Bool.not_true]
 |(with_reducible refine CU (qW _ _) ?_)
 |(with_reducible refine CU (ZA _ _) ?_)
 | (with_reducible refine aB hQ ?_;exact bd))
   refine eS 1 1 ?_ ?_ (IH (rest,k+1,seen++ [a.name],seen.length+1) ⟨g2,h2,by simp;omega,by simp⟩ (Nat.lt_succ_self _))
   ·(simp only[go_sem,hC,hE,hM,hY,aL cj,List.map_append,List.map_cons,List.map_nil,encStr];try exact cr)
   ·(simp only[go_sem,hC,hE,hM,hY,aL cj,List.map_append,List.map_cons,List.map_nil,encStr];try exact cr)
def nA (p:Pg):List Pc→List D
 | []=> []
 |f::l=> .str f.name:: .slice .shared 1 ((p.qt f.name).map encStr)::nA p l
theorem Ui (p:Pg) : ∀ l,D.bH 0 0 (nA p l)=true
 | []=>rfl
 |f::l=>by simp only[nA,D.bH,D.ok,Tag.ok,eB,Ui p l];rfl
theorem abe (n m:Nat) (p:Pg) (l:List Pc):D.gw n m (nA p l)=nA p l:=ic n m _ (Ui p l)
attribute [go_sem] abe
theorem Lq (p:Pg) : ∀ l m,nA p (l++m)=nA p l++nA p m
 | [],m=>rfl
 |f::l,m=>by simp only[List.cons_append,nA,Lq p l m]
theorem Lr {p:Pg} {nm:aF} {d:D} : ∀ {l:List Pc},nm∉l.map (·.name)→xi nm d (nA p l)=some (nA p l++ [.str nm,d])
 | [],_=>rfl
 |f::l,h=>by
  simp only[List.map_cons,List.mem_cons,not_or]at h
  have:(f.name==nm)=false:=by simpa using fun e=>h.1 e.symm
  simp only[nA,xi,this,Bool.false_eq_true,if_false,Lr h.2,List.cons_append]
theorem Ls {p:Pg} {nm:aF} {z:D} : ∀ {l:List Pc} {f:Pc},iS nm l=some f→ze nm z (nA p l)=some (.slice .shared 1 ((p.qt nm).map encStr))
 | g::l,f,h=>by
  simp only[iS]at h
  simp only[nA,ze]
  split at h
  ·rename_i e
   rw[if_pos e,eq_of_beq e]
  ·rename_i e
   rw[if_neg e]
   exact Ls h
theorem abf (l:List aF) : ∀ (s:List aF),qp s l=false→∀ a x b,l=a++x::b→x∉s++a:=by
 induction l with
 |nil=>intro s _ a x b e;cases a<;>cases e
 | cons y l ih=>
  intro s h a x b e
  simp only[qp]at h
  split at h
  ·cases h
  ·rename_i hy
   cases a with
   |nil=>cases e;simpa[← jc]using hy
   |cons z a=>
    cases e
    have:=ih (s++ [y]) h a x b rfl
    simpa using this
end Go.Abs
namespace Go.Abs
set_option maxRecDepth 8000
open Go.Proofs
theorem Lt {p:Pg} (h:(p.arity.1==0)=true):(p.scope.1==0)=true∧∀ v∈p.pre,(v.kind==4)=true→v.qD p=true:=by
 unfold Pg.arity at h
 split at h
 ·rename_i e
  refine⟨e,fun v hv hk=>?_⟩
  have : ∀ l:List Sm,((qq 6 (Ld p l)).1==0)=true→∀ v∈l,(v.kind==4)=true→v.qD p=true:=by
   intro l
   induction l with
   |nil=>intro _ v m;cases m
   | cons a l ih=>
    intro h v m hk
    simp only[Ld]at h
    split at h
    ·cases h
    ·rename_i c
     rcases List.mem_cons.1 m with rfl|m
     ·simpa[hk]using c
     ·exact ih h v m hk
  exact this _ h v hv hk
 ·cases h
theorem HU {p:Pg} {v:Sm} (h:v.qD p=true) : ∃ f,p.find v.proc=some f:=by
 unfold Sm.qD at h
 cases e:p.find v.proc with
 |some f=>exact⟨f,rfl⟩
 |none=>rw[e]at h;simp at h
theorem Lu : ∀ {l:List It} {n:Nat} {i:It},It.fl n l=true→i∈l→i.s.one=true
 | j::l,n,i,h,m=>by
  simp only[It.fl]at h
  split at h
  ·cases h
  ·rename_i c
   simp only[Bool.or_eq_true,not_or,Bool.not_eq_true',Bool.not_eq_false]at c
   rcases List.mem_cons.1 m with rfl|m
   ·exact c.2
   ·exact Lu h m
theorem abg {p:Pg} (h:p.may=true) : ∀ v∈p.pre,v.one=true:=fun v m=>by
 rw[← (La h).2,List.mem_map]at m
 obtain⟨i,hi,rfl⟩:=m
 exact Lu (GG h).2 hi
def Sm.yY (p:Pg) (v:Sm):Bool:=pM v.name (p.qt v.proc) [] v.args
def Lv (p:Pg):List Sm→Option Sm
 | []=>none
 |v::l=>if v.kind==4 && !(v.yY p)then some v else Lv p l
def Pg.alias (p:Pg):Int×Int:=if p.arity.1==0 then qq 8 (Lv p p.pre)else(1,0)
theorem Lw {p:Pg} (h:p.iW) (nm:aF):(p.qt nm).length<4611686018427387904:=by
 unfold Pg.qt
 cases hs:p.zT nm with
 |none=>dsimp only;decide
 |some f=>
  obtain⟨nI,hf⟩:=HP hs
  have h1:=(Lm nI hf).len
  have h2:=h.procs
  have h3:=(zW h (ky (p.work nm)) []).2
  have h4:(ky (p.work nm)).length*1800000≤900000*1800000:=Nat.mul_le_mul_right _ (by omega)
  have h5:(ky (p.sK nm)).length≤(p.sK nm).length:=xa _ _ (u7 (l8 _).1) fun x m=>((l8 _).2 x).1 m
  dsimp only
  unfold Pg.sK at *
  simp only[List.length_nil]at h3
  omega
theorem Q8 {v:Sm} (hv:v.nw):v.args.length<1000000000:=by have:=Ar.ei v.args;have:=hv.2.2;omega
theorem Uj {p:Pg} (h:p.iW) (s:St):az Tryz.prog uh [.agg (cR p)] s (.agg [.int .i64 p.alias.1, .int .i64 p.alias.2]) s:=by
 refine az.pure ?_ (by simp[D.bH,D.ok,jT]) rfl s
 obtain⟨sh,r7,rZ⟩:=h.procs
 have pQ:=fun s=>Lf h s
 have dr:=fun s=>Cz (p:=p) (by omega) s
 have hL:=(nH p).1
 have HF:=px p
 generalize hR:p.alias=R
 simp only[Pg.alias]at hR
 unfold S0
 have b0:(p.arity.1 != 0) = !(p.arity.1==0):=rfl
 rcases Bool.eq_false_or_eq_true (p.arity.1==0)with b1|b1
 case inr=>
  rw[b1]at b0
  simp only[b1,Bool.false_eq_true,if_false]at hR
  subst hR
  refine az.go wR rfl fun B Q hB hQ=>?_
  have⟨hC,hE,hM,hY⟩:=bC
  repeat' (first
 |simp only[go_sem,hC,hE,hM,hY,b0,Bool.not_false]
 |(with_reducible refine CU (pQ _) ?_)
 |(with_reducible refine aB hQ ?_;exact bd))
 rw[b1]at b0
 obtain⟨nI,jl⟩:=Lt b1
 have htw:=(Ed nI).2.1
 simp only[b1,if_true, ← hL]at hR
 refine az.go wR rfl fun B Q hB hQ=>?_
 have⟨hC,hE,hM,hY⟩:=bC
 repeat' (first
 |simp only[go_sem,hC,hE,hM,hY,b0,Bool.not_true]
 |(with_reducible refine CU (pQ _) ?_)
 |(with_reducible refine aB hQ ?_;exact bd))
 refine eS 3 0 ?_ ?_ (bg.ind (ι:=List Pc×Nat×List Pc) (fun i=>p.procs.drop i.2.1=i.1∧p.procs=i.2.2++i.1) (fun i=>i.1.length)
  (fun i=> [(1, .ptr 0 0),(2, .ptr 1 0),(3, .fS 2),(15, .slice .shared 5 (p.procs.map cH)),(16, .int .i64 (p.procs.length:Int)),(17, .int .i64 (i.2.1:Int))]) (fun i=>⟨[cR p,[.int .i64 0, .int .i64 0],nA p i.2.2],[]⟩) ?_ (p.procs,0,[]) ⟨rfl,rfl⟩)
 ·(simp only[go_sem,hC,hE,hM,hY,nA];try exact cr)
 ·(simp only[go_sem,hC,hE,hM,hY,nA];try exact cr)
 rintro⟨rest,k,done⟩ ⟨h1,h2⟩ IH
 dsimp only at h1 h2
 cases rest with
 | cons a rest=>
  obtain⟨hE,g2,hC,g4⟩:=drop_cons h1
  have cj:k<4611686018427387904:=by omega
  have yi:=fun s=>T8 h a.name s
  have hnm:a.name∉done.map (·.name):=by
   have:=abf _ [] htw (done.map (·.name)) a.name (rest.map (·.name)) (by simp[Pg.pn,h2])
   simpa using this
  have hmp:xi a.name (.slice .shared 1 ((p.qt a.name).map encStr)) (nA p done)=some (nA p (done++ [a])):=by
   rw[Lr hnm,Lq];rfl
  repeat' (first
 |simp only[go_sem,hC,hE,hM,hY,hmp]
 |(with_reducible refine CU (yi _) ?_)
 |(with_reducible refine aB hQ ?_;exact bd))
  refine eS 3 0 ?_ ?_ (IH (rest,k+1,done++ [a]) ⟨g2,by rw[h2];simp⟩ (Nat.lt_succ_self _))
  ·(simp only[go_sem,hC,hE,hM,hY,aL cj];try exact cr)
  ·(simp only[go_sem,hC,hE,hM,hY,aL cj];try exact cr)
 |nil=>
  have hC:=drop_nil h1
  rw[List.append_nil]at h2
  subst h2
  repeat' (first
 |simp only[go_sem,hC,hE,hM,hY,nY]
 |(with_reducible refine CU (dr _) ?_)
 | (with_reducible refine aB hQ ?_;exact bd))
  refine dQ 3 0 (bg.ind (ι:=List Im×Nat) (fun i=>p.bh.L.drop i.2=i.1∧qq 8 (Lv p (i.1.map Im.s))=R) (fun i=>i.1.length)
   (fun i=> [(1, .ptr 0 0),(2, .ptr 1 0),(3, .fS 2),(33, .slice .shared 17 (p.bh.L.map dK)),(34, .int .i64 (p.bh.L.length:Int)),(35, .int .i64 (i.2:Int))]) (fun i=>⟨[cR p,[.int .i64 0, .int .i64 0],nA p p.procs],[]⟩) ?_ (p.bh.L,0) ⟨rfl,hR⟩)
  clear hR
  rintro⟨rest,k⟩ ⟨h1,hR⟩ IH
  dsimp only at h1 hR
  cases rest with
  |nil=>
   have hC:=drop_nil h1
   simp only[List.map_nil,Lv,qq]at hR
   subst hR
   repeat' (first
 |simp only[go_sem,hC,hE,hM,hY]
 | (with_reducible refine aB hQ ?_;exact bd))
  | cons a rest=>
   obtain⟨hE,g2,hC,g4⟩:=drop_cons h1
   have cj:k<4611686018427387904:=by omega
   have Fo:a.s∈p.pre:=by rw[← hL];exact List.mem_map_of_mem (List.mem_of_getElem? hE)
   have Al:=fun s=>Xo (Q8 (h.pre _ Fo)) (Lw h a.s.proc) s
   simp only[List.map_cons,Lv,Sm.yY]at hR
   rcases Bool.eq_false_or_eq_true (a.s.kind==4)with c1|c1
   ·obtain⟨f,hf⟩:=HU (jl _ Fo c1)
    have hmg:=fun z=>Ls (p:=p) (z:=z) hf
    rcases Bool.eq_false_or_eq_true (pM a.s.name (p.qt a.s.proc) [] a.s.args)with c2|c2
    ·simp only [c1,c2,Bool.not_true,Bool.and_false,Bool.false_eq_true,if_false]at hR
     repeat' (first
 |simp only[go_sem,hC,hE,hM,hY,c1,c2,hmg]
 |(with_reducible refine CU (Al _) ?_)
 | (with_reducible refine aB hQ ?_;exact bd))
     refine eS 3 0 ?_ ?_ (IH (rest,k+1) ⟨g2,hR⟩ (Nat.lt_succ_self _))
     ·(simp only[go_sem,hC,hE,hM,hY,aL cj];try exact cr)
     ·(simp only[go_sem,hC,hE,hM,hY,aL cj];try exact cr)
    ·simp only [c1,c2,Bool.not_false,Bool.and_true,if_true,qq]at hR
     subst hR
     repeat' (first
 |simp only[go_sem,hC,hE,hM,hY,c1,c2,hmg]
 |(with_reducible refine CU (Al _) ?_)
 | (with_reducible refine aB hQ ?_;exact bd))
   ·simp only [c1,Bool.false_and,Bool.false_eq_true,if_false]at hR
    repeat' (first
 |simp only[go_sem,hC,hE,hM,hY,c1]
 |(with_reducible refine CU (Al _) ?_)
 | (with_reducible refine aB hQ ?_;exact bd))
    refine eS 3 0 ?_ ?_ (IH (rest,k+1) ⟨g2,hR⟩ (Nat.lt_succ_self _))
    ·(simp only[go_sem,hC,hE,hM,hY,aL cj];try exact cr)
    ·(simp only[go_sem,hC,hE,hM,hY,aL cj];try exact cr)
def Sm.aff (p:Pg) (v:Sm):Bool:=v.qD p && apM (p.qt v.proc) v.as5 v.args
def apF (p:Pg):List Sm→Option Sm
 | []=>none
 |v::l=>if v.kind==4 && !(v.aff p)then some v else apF p l
theorem abh {n:Nat} {l:List aF} {gF:Int} {r:Rd} {p:List aF×Rd} (h:Rd.names n l gF r=some p) :
 az Tryz.prog jC [.ptr 0 0, .slice (.tok 0) 1 (l.map encStr), .int .i64 gF] ⟨[cJ r],[some l.length]⟩ (.slice (.tok 0) 1 (p.1.map encStr)) ⟨[cJ p.2],[some p.1.length]⟩:=by
 refine az.go xJ rfl fun B Q hB hQ=>?_
 have⟨hC,hE,hM,hY⟩:=bC
 repeat' (first
 |simp only[go_sem,hC,hE,hM,hY]
 |(with_reducible first|refine aX fun hc=>?_|refine aY fun hc=>?_|refine aZ (fun hc=>?_) fun hc=>?_)<;>(try simp only[hc,bs,↓reduceIte]at h)<;>try simp only[hc]
 |(with_reducible refine aB hQ ?_;exact bd))
 refine dQ 1 1 (bg.ind (ι:=Nat×List aF×Rd×Nat) (fun i=>Rd.names i.1 i.2.1 gF i.2.2.1=some p∧i.2.2.2=i.2.1.length) (fun i=>i.1)
  (fun i=> [(0, .ptr 0 0),(1, .slice (.tok 0) 1 (i.2.1.map encStr)),(2, .int .i64 gF)]) (fun i=>⟨[cJ i.2.2.1],[some i.2.2.2]⟩) ?_ (n,l,r,l.length) ⟨h,rfl⟩)
 rintro⟨n,l,r,k⟩ ⟨h,hk⟩ IH
 dsimp only at hk;subst hk
 cases n with
 |zero=>simp only[Rd.names]at h;cases h
 |succ n=>
  simp only[Rd.names]at h
  repeat' (first
 |simp only[go_sem,hC,hE,hM,hY]
 |(rw[Option.bind_eq_some_iff]at h;obtain⟨_,h1,h⟩:=h;first|(with_reducible refine CU (yP h1 (by with_unfolding_all rfl)) ?_)|(obtain⟨hM,pN⟩:=pd h1;subst pN;simp only[go_sem,hC,hE,hM,hY])|(with_reducible refine CU (tK h1 (by with_unfolding_all rfl)) ?_)|(with_reducible refine CU (qn h1 (by with_unfolding_all rfl)) ?_))
 |(with_reducible refine CU (kT (by with_unfolding_all rfl)) ?_)
 |(with_reducible first|refine aX fun hc=>?_|refine aY fun hc=>?_|refine aZ (fun hc=>?_) fun hc=>?_)<;>(try simp only[hc,bs,↓reduceIte]at h)<;>try simp only[hc]
 |(with_reducible refine aB hQ ?_;exact er))
  refine dQ 1 1 (IH (n,_,_,l.length+1) ⟨h,by simp⟩ (Nat.lt_succ_self _))
theorem NA {n:Nat} {l:List aF} {gF:Int} {r:Rd} {p:List aF×Rd} (h:Rd.names n l gF r=some p) {s:St} {o t:Nat} (ho:s.ah[o]? = some (cJ r)) (ht:s.aw[t]? = some (some l.length)) :
 az Tryz.prog jC [.ptr o 0, .slice (.tok t) 1 (l.map encStr), .int .i64 gF] s (.slice (.tok t) 1 (p.1.map encStr)) ⟨s.ah.set o (cJ p.2),s.aw.set t (some p.1.length)⟩:=
 (abh h).ag6 rfl (fJ r) (fJ p.2) (eB l) (eB p.1) ho ht
theorem Lx {n:Nat} {r:Rd} {p:List aF×Rd} (h:Rd.labels n [] r=some p) {s:St} {o:Nat} (ho:s.ah[o]? = some (cJ r)) :
 az Tryz.prog ni [.ptr o 0] s (.slice .shared 1 (p.1.map encStr)) ⟨s.ah.set o (cJ p.2),s.aw⟩:=by
 refine az.kL ?_ rfl (fJ r) (fJ p.2) (by simp[D.ok,eB,Tag.ok]) ho
 refine az.go wu rfl fun B Q hB hQ=>?_
 have⟨hC,hE,hM,hY⟩:=bC
 repeat' (first
 |simp only[go_sem,hC,hE,hM,hY]
 |(with_reducible first|refine aX fun hc=>?_|refine aY fun hc=>?_|refine aZ (fun hc=>?_) fun hc=>?_)<;>(try simp only[hc,bs,↓reduceIte]at h)<;>try simp only[hc]
 |(with_reducible refine aB hQ ?_;exact bd))
 refine bg.pZ 3 1 rfl ?_
 simp only[go_sem,hC,hE,hM,hY]
 refine dQ 1 1 (bg.ind (ι:=Nat×List aF×Rd×Nat) (fun i=>Rd.labels i.1 i.2.1 i.2.2.1=some p∧i.2.2.2=i.2.1.length) (fun i=>i.1)
  (fun i=> [(0, .ptr 0 0),(3, .slice (.tok 0) 1 (i.2.1.map encStr))]) (fun i=>⟨[cJ i.2.2.1],[some i.2.2.2]⟩) ?_ (n,[],r,0) ⟨h,rfl⟩)
 rintro⟨n,l,r,k⟩ ⟨h,hk⟩ IH
 dsimp only at hk;subst hk
 cases n with
 |zero=>simp only[Rd.labels]at h;cases h
 |succ n=>
  simp only[Rd.labels,Rd.ahead]at h
  repeat' (first
 |simp only[go_sem,hC,hE,hM,hY]
 |(rw[Option.bind_eq_some_iff]at h;obtain⟨_,h1,h⟩:=h;first|(with_reducible refine CU (po h1 (by with_unfolding_all rfl)) ?_;have hC:=sG h1)|(obtain⟨hM,pN⟩:=pd h1;subst pN;simp only[go_sem,hC,hE,hM,hY])|(obtain⟨Q6,hE⟩:=Bx h1;simp only[go_sem,hE,hC,hE,hM,hY]))
 |(with_reducible refine CU (kT (by with_unfolding_all rfl)) ?_)
 |(with_reducible first|refine aX fun hc=>?_|refine aY fun hc=>?_|refine aZ (fun hc=>?_) fun hc=>?_)<;>(try simp only[hc,bs,↓reduceIte]at h)<;>try simp only[hc]
 |(with_reducible refine aB hQ ?_;exact er))
  refine dQ 1 1 (IH (n,_,_,l.length+1) ⟨h,by simp⟩ (Nat.lt_succ_self _))
end Go.Abs
