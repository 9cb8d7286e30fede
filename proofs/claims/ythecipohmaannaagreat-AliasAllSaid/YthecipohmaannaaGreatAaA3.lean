/-
  What is proved here: part 3 of the road to the claim (Sc1, Sc2, Sc3, ScP, Sc4, Rng, FineM, Sc5, Ar1, Ar2, Ar3, Srt1, Shelf, SortR, SrtP, Tc1, Tc2, Tc3, Bsl, Tc4, Tc5, Tc6, Tc7, Al1, Al2, Al3, Prs3, Prs4, Prs5, Prs6, Lex3, MirParse, Prs7, Room1).
  No conditions.
-/
import Derived.Test.YthecipohmaannaaGreatAaA2
import Derived.Shelf.Small.Bits
import Derived.Shelf.Strconv.Itoa0
import Derived.Shelf.Sort.Plain
import Derived.Shelf.Slices.Turned
import Derived.Ground.Names2Prog
import Derived.Shelf.Slices.Clone
import Derived.Shelf.Slices.CompactS
import Derived.Shelf.Slices.Cells
import Derived.Shelf.Slices.In.SortNone
import Derived.Ground.SlgnProg
import Derived.Shelf.SlicesE.Clone
import Derived.Test.YthecipohmaannaaGreatProg
import Derived.Sort.Walk0

set_option linter.unusedSimpArgs false
set_option linter.unusedVariables false

/-! Sc1 -/

namespace Go.Abs
set_option maxRecDepth 8000
open Go.Proofs
def yE (x:aH):List aH→Bool
 | []=>false
 | s::l=>if x==s then true else yE x l
theorem Ev (x:aH) : ∀ l:List aH,yE x l=dv l x
 | []=>rfl
 | s::l=>by
  have h1:=gU (s::l) x
  have h2:=gU l x
  have h3:=Ev x l
  simp only [yE]
  by_cases e:x=s
  ·subst e;simp only [beq_self_eq_true,if_true];exact(h1.2 List.mem_cons_self).symm
  ·have e':(x==s)=false:=by simp [e]
   simp only [e',Bool.false_eq_true,if_false,h3]
   cases ha:dv l x <;> cases hb:dv (s::l) x <;> simp_all
def uA (pre:List aH):List aH→Bool
 | []=>false
 | s::l=>if dv pre s then true else uA (pre++ [s]) l
def ez (l:List aH):Bool:=uA [] l
theorem BX {l:List aH} {k:Nat} {a:aH} (h:l[k]? = some a):l.take (k+1)=l.take k++ [a]:=by rw [List.take_add_one,h];rfl
theorem vi {l:List aH} (hl:l.length<4611686018427387904) (x:aH) (g:Tag) (s:St):aD Tryz.prog jo [.slice g 1 (l.map encStr), .str x] s (.bool (dv l x)) s:=by
 refine aD.BK (d':= .slice .shared 1 (l.map encStr)) ?_ (Wk.shared _ _ _)
 refine aD.pure ?_ (by simp [D.bM,D.ok,Tag.ok,dL]) rfl s
 rw [← w6]
 generalize h:o4 x l=p
 unfold S0
 refine aD.go FA rfl fun B Q hB hQ=> ?_
 have⟨hD,hJ,hP,hY⟩:=bK
 repeat' (first
 | simp only [go_sem,hD,hJ,hP,hY]
 | (with_reducible first | refine ax fun hc=> ?_ | refine ay fun hc=> ?_ | refine az (fun hc=> ?_) fun hc=> ?_) <;> (try simp only [hc,bs, ↓reduceIte]at h) <;> try simp only [hc]
 | (with_reducible refine aA hQ ?_;exact bx)
 | (cases h;done))
 refine cP 0 0 (bl.ind (ι:=List aH×Nat) (fun i=>l.drop i.2=i.1∧o4 x i.1=p) (fun i=>i.1.length)
  (fun i=> [(0, .slice .shared 1 (l.map encStr)),(1, .str x),(7, .int .i64 (l.length:Int)),(8, .int .i64 (i.2:Int))]) (fun i=>⟨[],[]⟩) ?_ (l,0) ⟨rfl,h⟩)
 rintro⟨rest,k⟩ ⟨h1,h⟩ IH
 dsimp only at h1 h
 cases rest with
 | nil=>
  have hD:=drop_nil h1
  simp only [o4]at h
  repeat' (first
 | simp only [go_sem,hD,hJ,hP,hY]
 | (with_reducible first | refine ax fun hc=> ?_ | refine ay fun hc=> ?_ | refine az (fun hc=> ?_) fun hc=> ?_) <;> (try simp only [hc,bs, ↓reduceIte]at h) <;> try simp only [hc]
 | (with_reducible refine aA hQ ?_;exact bx)
 | (cases h;done))
 | cons a rest=>
  obtain⟨hJ,g2,hD,g4⟩:=drop_cons h1
  have bf:k<4611686018427387904:=by omega
  simp only [o4]at h
  repeat' (first
 | simp only [go_sem,hD,hJ,hP,hY]
 | (with_reducible first | refine ax fun hc=> ?_ | refine ay fun hc=> ?_ | refine az (fun hc=> ?_) fun hc=> ?_) <;> (try simp only [hc,bs, ↓reduceIte]at h) <;> try simp only [hc]
 | (with_reducible refine aA hQ ?_;exact bx)
 | (cases h;done))
  refine bX 0 0 ?_ ?_ (IH (rest,k+1) ⟨g2,h⟩ (Nat.lt_succ_self _))
  ·(simp only [go_sem,hD,hJ,hP,hY,au bf];try exact aT)
  ·(simp only [go_sem,hD,hJ,hP,hY,au bf];try exact aT)
theorem yF {l:List aH} (hl:l.length<4611686018427387904) (g:Tag) (s:St):aD Tryz.prog lV [.slice g 1 (l.map encStr)] s (.bool (ez l)) s:=by
 refine aD.BK (d':= .slice .shared 1 (l.map encStr)) ?_ (Wk.shared _ _ _)
 refine aD.pure ?_ (by simp [D.bM,D.ok,Tag.ok,dL]) rfl s
 generalize h:ez l=p
 simp only [ez]at h
 unfold S0
 refine aD.go zB rfl fun B Q hB hQ=> ?_
 have⟨hD,hJ,hP,hY⟩:=bK
 repeat' (first
 | simp only [go_sem,hD,hJ,hP,hY]
 | (with_reducible first | refine ax fun hc=> ?_ | refine ay fun hc=> ?_ | refine az (fun hc=> ?_) fun hc=> ?_) <;> (try simp only [hc,bs, ↓reduceIte]at h) <;> try simp only [hc]
 | (with_reducible refine aA hQ ?_;exact bx)
 | (cases h;done))
 refine cP 0 0 (bl.ind (ι:=List aH×Nat) (fun i=>l.drop i.2=i.1∧uA (l.take i.2) i.1=p) (fun i=>i.1.length)
  (fun i=> [(0, .slice .shared 1 (l.map encStr)),(5, .slice .shared 1 (l.map encStr)),(6, .int .i64 (l.length:Int)),(7, .int .i64 (i.2:Int))]) (fun i=>⟨[],[]⟩) ?_ (l,0) ⟨rfl,h⟩)
 rintro⟨rest,k⟩ ⟨h1,h⟩ IH
 dsimp only at h1 h
 cases rest with
 | nil=>
  have hD:=drop_nil h1
  simp only [uA]at h
  repeat' (first
 | simp only [go_sem,hD,hJ,hP,hY]
 | (with_reducible first | refine ax fun hc=> ?_ | refine ay fun hc=> ?_ | refine az (fun hc=> ?_) fun hc=> ?_) <;> (try simp only [hc,bs, ↓reduceIte]at h) <;> try simp only [hc]
 | (with_reducible refine aA hQ ?_;exact bx)
 | (cases h;done))
 | cons a rest=>
  obtain⟨hJ,g2,hD,g4⟩:=drop_cons h1
  have bf:k<4611686018427387904:=by omega
  simp only [uA]at h
  have hc:=iI (l:=l.take k) (by rw [List.length_take];omega) a
  have e1:List.drop 0 (List.take k (l.map encStr))=(l.take k).map encStr:=by simp [List.map_take]
  have c1:((0:Int)≤(k:Int))=True:=by simp
  have c2:((k:Int)≤(l.length:Int))=True:=by simp only [eq_iff_iff,iff_true];omega
  have e2:List.take k (l.map encStr)=(l.take k).map encStr:=by simp [List.map_take]
  repeat' (first
 | simp only [go_sem,hD,hJ,hP,hY,e1,e2,c1,c2,or_true,true_and,and_self,ite_self,Int.toNat_natCast,List.drop_zero]
 | (with_reducible refine CU (hc _ _) ?_)
 | (with_reducible first | refine ax fun hc=> ?_ | refine ay fun hc=> ?_ | refine az (fun hc=> ?_) fun hc=> ?_) <;> (try simp only [hc,bs, ↓reduceIte]at h) <;> try simp only [hc]
 | (with_reducible refine aA hQ ?_;(try cases h);simp only [aE,aF,aN,aO,go_sem,hD,hJ,hP,hY,e1,e2,c1,c2,or_true,true_and,and_self,ite_self,Int.toNat_natCast,List.drop_zero];try exact aQ)
 | (cases h;done))
  refine bX 0 0 ?_ ?_ (IH (rest,k+1) ⟨g2,by dsimp only;rw [BX (by assumption)];exact h⟩ (Nat.lt_succ_self _))
  ·(simp only [go_sem,hD,hJ,hP,hY,au bf];try exact aT)
  ·(simp only [go_sem,hD,hJ,hP,hY,au bf];try exact aT)
theorem yG {l:List aH} (hl:l.length<4611686018427387904) (g:Tag) (s:St):aD Tryz.prog kX [.slice g 1 (l.map encStr)] s (.bool (ez l)) s:=by
 refine aD.BK (d':= .slice .shared 1 (l.map encStr)) ?_ (Wk.shared _ _ _)
 refine aD.pure ?_ (by simp [D.bM,D.ok,Tag.ok,dL]) rfl s
 generalize h:ez l=p
 simp only [ez]at h
 unfold S0
 refine aD.go AS rfl fun B Q hB hQ=> ?_
 have⟨hD,hJ,hP,hY⟩:=bK
 repeat' (first
 | simp only [go_sem,hD,hJ,hP,hY]
 | (with_reducible first | refine ax fun hc=> ?_ | refine ay fun hc=> ?_ | refine az (fun hc=> ?_) fun hc=> ?_) <;> (try simp only [hc,bs, ↓reduceIte]at h) <;> try simp only [hc]
 | (with_reducible refine aA hQ ?_;exact bx)
 | (cases h;done))
 refine cP 0 0 (bl.ind (ι:=List aH×Nat) (fun i=>l.drop i.2=i.1∧uA (l.take i.2) i.1=p) (fun i=>i.1.length)
  (fun i=> [(0, .slice .shared 1 (l.map encStr)),(6, .int .i64 (l.length:Int)),(7, .int .i64 (i.2:Int))]) (fun i=>⟨[],[]⟩) ?_ (l,0) ⟨rfl,h⟩)
 rintro⟨rest,k⟩ ⟨h1,h⟩ IH
 dsimp only at h1 h
 cases rest with
 | nil=>
  have hD:=drop_nil h1
  simp only [uA]at h
  repeat' (first
 | simp only [go_sem,hD,hJ,hP,hY]
 | (with_reducible first | refine ax fun hc=> ?_ | refine ay fun hc=> ?_ | refine az (fun hc=> ?_) fun hc=> ?_) <;> (try simp only [hc,bs, ↓reduceIte]at h) <;> try simp only [hc]
 | (with_reducible refine aA hQ ?_;exact bx)
 | (cases h;done))
 | cons a rest=>
  obtain⟨hJ,g2,hD,g4⟩:=drop_cons h1
  have bf:k<4611686018427387904:=by omega
  have K1:=hJ
  simp only [uA]at h
  repeat' (first
 | simp only [go_sem,hD,hJ,hP,hY]
 | (with_reducible first | refine ax fun hc=> ?_ | refine ay fun hc=> ?_ | refine az (fun hc=> ?_) fun hc=> ?_) <;> (try simp only [hc,bs, ↓reduceIte]at h) <;> try simp only [hc]
 | (with_reducible refine aA hQ ?_;exact bx)
 | (cases h;done))
  obtain⟨q,hq⟩ : ∃ q,yE a (l.take k)=q:=⟨_,rfl⟩
  rw [← Ev,hq]at h
  refine cP 0 0 (bl.ind (ι:=List aH×Nat) (fun i=>(l.take k).drop i.2=i.1∧yE a i.1=q∧i.2≤k) (fun i=>i.1.length)
   (fun i=> [(0, .slice .shared 1 (l.map encStr)),(3, .int .i64 (k:Int)),(4, .int .i64 (i.2:Int)),(6, .int .i64 (l.length:Int)),(7, .int .i64 (k:Int))]) (fun i=>⟨[],[]⟩) ?_ (l.take k,0) ⟨rfl,hq,Nat.zero_le _⟩)
  rintro⟨nZ,j⟩ ⟨j1,j2,j3⟩ mC
  dsimp only at j1 j2 j3
  cases nZ with
  | nil=>
   have hj:j=k:=by have:=List.drop_eq_nil_iff.1 j1;rw [List.length_take]at this;omega
   subst hj
   simp only [yE]at j2
   subst j2
   simp only [Bool.false_eq_true,if_false]at h
   repeat' (first
 | simp only [go_sem,hD,hJ,hP,hY,Int.lt_irrefl,decide_false]
 | (with_reducible first | refine ax fun hc=> ?_ | refine ay fun hc=> ?_ | refine az (fun hc=> ?_) fun hc=> ?_) <;> (try simp only [hc,bs, ↓reduceIte]at h) <;> try simp only [hc]
 | (with_reducible refine aA hQ ?_;(try cases h);simp only [aE,aF,aN,aO,go_sem,hD,hJ,hP,hY,Int.lt_irrefl,decide_false];try exact aQ)
 | (cases h;done))
   refine bX 0 0 ?_ ?_ (IH (rest,j+1) ⟨g2,by dsimp only;rw [BX K1];exact h⟩ (Nat.lt_succ_self _))
   ·(simp only [go_sem,hD,hJ,hP,hY,au bf];try exact aT)
   ·(simp only [go_sem,hD,hJ,hP,hY,au bf];try exact aT)
  | cons b nZ=>
   obtain⟨dH,kC,fv,zS⟩:=drop_cons j1
   have Xo:j<k:=by rw [List.length_take]at zS;omega
   have fw:j<4611686018427387904:=by omega
   have x5:l[j]? = some b:=by rw [List.getElem?_take]at dH;simpa [Xo]using dH
   have PB:decide ((j:Int)<(k:Int))=true:=by simp;omega
   have hJ':=x5
   simp only [yE]at j2
   cases wW:(a==b)
   ·simp only [wW,Bool.false_eq_true,if_false]at j2
    repeat' (first
 | simp only [go_sem,hD,hJ,hP,hY,PB,x5,K1,wW]
 | (with_reducible first | refine ax fun hc=> ?_ | refine ay fun hc=> ?_ | refine az (fun hc=> ?_) fun hc=> ?_) <;> (try simp only [hc,bs, ↓reduceIte]at h) <;> try simp only [hc]
 | (with_reducible refine aA hQ ?_;(try cases h);simp only [aE,aF,aN,aO,go_sem,hD,hJ,hP,hY,PB,x5,K1,wW];try exact aQ)
 | (cases h;done))
    refine bX 0 0 ?_ ?_ (mC (nZ,j+1) ⟨kC,j2,Xo⟩ (Nat.lt_succ_self _))
    ·(simp only [go_sem,hD,hJ,hP,hY,au fw];try exact aT)
    ·(simp only [go_sem,hD,hJ,hP,hY,au fw];try exact aT)
   ·simp only [wW,if_true]at j2
    subst j2
    simp only [if_true]at h
    repeat' (first
 | simp only [go_sem,hD,hJ,hP,hY,PB,x5,K1,wW]
 | (with_reducible first | refine ax fun hc=> ?_ | refine ay fun hc=> ?_ | refine az (fun hc=> ?_) fun hc=> ?_) <;> (try simp only [hc,bs, ↓reduceIte]at h) <;> try simp only [hc]
 | (with_reducible refine aA hQ ?_;(try cases h);simp only [aE,aF,aN,aO,go_sem,hD,hJ,hP,hY,PB,x5,K1,wW];try exact aQ)
 | (cases h;done))
end Go.Abs

/-! Sc2 -/

namespace Go.Abs
set_option maxRecDepth 8000
open Go.Proofs
theorem gk (a b:Int) (s:St):aD Tryz.prog fU [.int .i64 a, .int .i64 b] s (.agg [.int .i64 a, .int .i64 b]) s:=by
 refine aD.pure ?_ rfl rfl s
 unfold S0
 refine aD.go AN rfl fun B Q hB hQ=> ?_
 have⟨hD,hJ,hP,hY⟩:=bK
 repeat' (first
 | simp only [go_sem,hD,hJ,hP,hY]
 | (with_reducible first | refine ax fun hc=> ?_ | refine ay fun hc=> ?_ | refine az (fun hc=> ?_) fun hc=> ?_) <;> (try simp only [hc,bs, ↓reduceIte]at h) <;> try simp only [hc]
 | (with_reducible refine aA hQ ?_;exact bx)
 | (cases h;done))
def sV (vars globals:List aH) (name:aH):List Pm→Int
 | []=>if dv vars name then 4 else if dv globals name then 1 else 0
 | a::l=>if a.name==name then(if a.ref then 3 else 2)else sV vars globals name l
def Pc.iJ (p:Pg) (f:Pc) (name:aH):Int:=sV f.vars p.globals name f.params
theorem Ew {p:Pg} {f:Pc} (hp:f.params.length<1000000000) (hv:f.vars.length<1000000000) (hg:p.globals.length<1000000000) (name:aH) (s:St):aD Tryz.prog rP [.agg (bD p), .agg (bR f), .str name] s (.int .i64 (f.iJ p name)) s:=by
 refine aD.pure ?_ (by simp [D.bM,D.ok,fT,rH]) rfl s
 have nC:=iI (l:=f.vars) (by omega) name
 have qg:=iI (l:=p.globals) (by omega) name
 generalize h:f.iJ p name=q
 simp only [Pc.iJ]at h
 unfold S0
 refine aD.go AT rfl fun B Q hB hQ=> ?_
 have⟨hD,hJ,hP,hY⟩:=bK
 repeat' (first
 | simp only [go_sem,hD,hJ,hP,hY]
 | (with_reducible first | refine ax fun hc=> ?_ | refine ay fun hc=> ?_ | refine az (fun hc=> ?_) fun hc=> ?_) <;> (try simp only [hc,bs, ↓reduceIte]at h) <;> try simp only [hc]
 | (with_reducible refine aA hQ ?_;exact bx)
 | (cases h;done))
 refine cP 2 0 (bl.ind (ι:=List Pm×Nat) (fun i=>f.params.drop i.2=i.1∧sV f.vars p.globals name i.1=q) (fun i=>i.1.length)
  (fun i=> [(2, .str name),(3, .ptr 0 0),(4, .ptr 1 0),(10, .slice .shared 2 (f.params.map fI)),(11, .int .i64 (f.params.length:Int)),(12, .int .i64 (i.2:Int))]) (fun i=>⟨[bD p,bR f],[]⟩) ?_ (f.params,0) ⟨rfl,h⟩)
 rintro⟨rest,k⟩ ⟨h1,h⟩ IH
 dsimp only at h1 h
 cases rest with
 | nil=>
  have hD:=drop_nil h1
  simp only [sV]at h
  rcases Bool.eq_false_or_eq_true (dv f.vars name)with b1 | b1
  ·simp only [b1,if_true]at h
   subst h
   repeat' (first
 | simp only [go_sem,hD,hJ,hP,hY,b1]
 | (with_reducible refine CU (nC _ _) ?_)
 | (with_reducible refine CU (qg _ _) ?_)
 | (with_reducible first | refine ax fun hc=> ?_ | refine ay fun hc=> ?_ | refine az (fun hc=> ?_) fun hc=> ?_) <;> (try simp only [hc,bs, ↓reduceIte]at h) <;> try simp only [hc]
 | (with_reducible refine aA hQ ?_;(try cases h);simp only [aE,aF,aN,aO,go_sem,hD,hJ,hP,hY,b1];try exact aQ)
 | (cases h;done))
  ·simp only [b1,Bool.false_eq_true,if_false]at h
   rcases Bool.eq_false_or_eq_true (dv p.globals name)with b2 | b2
   ·simp only [b2,if_true]at h
    subst h
    repeat' (first
 | simp only [go_sem,hD,hJ,hP,hY,b1,b2]
 | (with_reducible refine CU (nC _ _) ?_)
 | (with_reducible refine CU (qg _ _) ?_)
 | (with_reducible first | refine ax fun hc=> ?_ | refine ay fun hc=> ?_ | refine az (fun hc=> ?_) fun hc=> ?_) <;> (try simp only [hc,bs, ↓reduceIte]at h) <;> try simp only [hc]
 | (with_reducible refine aA hQ ?_;(try cases h);simp only [aE,aF,aN,aO,go_sem,hD,hJ,hP,hY,b1,b2];try exact aQ)
 | (cases h;done))
   ·simp only [b2,Bool.false_eq_true,if_false]at h
    subst h
    repeat' (first
 | simp only [go_sem,hD,hJ,hP,hY,b1,b2]
 | (with_reducible refine CU (nC _ _) ?_)
 | (with_reducible refine CU (qg _ _) ?_)
 | (with_reducible first | refine ax fun hc=> ?_ | refine ay fun hc=> ?_ | refine az (fun hc=> ?_) fun hc=> ?_) <;> (try simp only [hc,bs, ↓reduceIte]at h) <;> try simp only [hc]
 | (with_reducible refine aA hQ ?_;(try cases h);simp only [aE,aF,aN,aO,go_sem,hD,hJ,hP,hY,b1,b2];try exact aQ)
 | (cases h;done))
 | cons a rest=>
  obtain⟨hJ,g2,hD,g4⟩:=drop_cons h1
  have bf:k<4611686018427387904:=by omega
  simp only [sV]at h
  rcases Bool.eq_false_or_eq_true (a.name==name)with b1 | b1
  ·simp only [b1,if_true]at h
   rcases Bool.eq_false_or_eq_true a.ref with b2 | b2
   ·simp only [b2,if_true]at h
    subst h
    repeat' (first
 | simp only [go_sem,hD,hJ,hP,hY,b1,b2]
 | (with_reducible first | refine ax fun hc=> ?_ | refine ay fun hc=> ?_ | refine az (fun hc=> ?_) fun hc=> ?_) <;> (try simp only [hc,bs, ↓reduceIte]at h) <;> try simp only [hc]
 | (with_reducible refine aA hQ ?_;(try cases h);simp only [aE,aF,aN,aO,go_sem,hD,hJ,hP,hY,b1,b2];try exact aQ)
 | (cases h;done))
   ·simp only [b2,Bool.false_eq_true,if_false]at h
    subst h
    repeat' (first
 | simp only [go_sem,hD,hJ,hP,hY,b1,b2]
 | (with_reducible first | refine ax fun hc=> ?_ | refine ay fun hc=> ?_ | refine az (fun hc=> ?_) fun hc=> ?_) <;> (try simp only [hc,bs, ↓reduceIte]at h) <;> try simp only [hc]
 | (with_reducible refine aA hQ ?_;(try cases h);simp only [aE,aF,aN,aO,go_sem,hD,hJ,hP,hY,b1,b2];try exact aQ)
 | (cases h;done))
  ·simp only [b1,Bool.false_eq_true,if_false]at h
   repeat' (first
 | simp only [go_sem,hD,hJ,hP,hY,b1]
 | (with_reducible first | refine ax fun hc=> ?_ | refine ay fun hc=> ?_ | refine az (fun hc=> ?_) fun hc=> ?_) <;> (try simp only [hc,bs, ↓reduceIte]at h) <;> try simp only [hc]
 | (with_reducible refine aA hQ ?_;(try cases h);simp only [aE,aF,aN,aO,go_sem,hD,hJ,hP,hY,b1];try exact aQ)
 | (cases h;done))
   refine bX 2 0 ?_ ?_ (IH (rest,k+1) ⟨g2,h⟩ (Nat.lt_succ_self _))
   ·(simp only [go_sem,hD,hJ,hP,hY,au bf];try exact aT)
   ·(simp only [go_sem,hD,hJ,hP,hY,au bf];try exact aT)
theorem FC {p:Pg} {f:Pc} (hp:f.params.length<1000000000) (hv:f.vars.length<1000000000) (hg:p.globals.length<1000000000) (name:aH) (s:St):aD Tryz.prog tw [.agg (bD p), .agg (bR f), .str name] s (.int .i64 (f.iJ p name)) s:=by
 refine aD.pure ?_ (by simp [D.bM,D.ok,fT,rH]) rfl s
 have nC:=vi (l:=f.vars) (by omega) name
 have qg:=vi (l:=p.globals) (by omega) name
 generalize h:f.iJ p name=q
 simp only [Pc.iJ]at h
 unfold S0
 refine aD.go CG rfl fun B Q hB hQ=> ?_
 have⟨hD,hJ,hP,hY⟩:=bK
 repeat' (first
 | simp only [go_sem,hD,hJ,hP,hY]
 | (with_reducible first | refine ax fun hc=> ?_ | refine ay fun hc=> ?_ | refine az (fun hc=> ?_) fun hc=> ?_) <;> (try simp only [hc,bs, ↓reduceIte]at h) <;> try simp only [hc]
 | (with_reducible refine aA hQ ?_;exact bx)
 | (cases h;done))
 refine cP 2 0 (bl.ind (ι:=List Pm×Nat) (fun i=>f.params.drop i.2=i.1∧sV f.vars p.globals name i.1=q) (fun i=>i.1.length)
  (fun i=> [(2, .str name),(3, .ptr 0 0),(4, .ptr 1 0),(10, .slice .shared 2 (f.params.map fI)),(11, .int .i64 (f.params.length:Int)),(12, .int .i64 (i.2:Int))]) (fun i=>⟨[bD p,bR f],[]⟩) ?_ (f.params,0) ⟨rfl,h⟩)
 rintro⟨rest,k⟩ ⟨h1,h⟩ IH
 dsimp only at h1 h
 cases rest with
 | nil=>
  have hD:=drop_nil h1
  simp only [sV]at h
  rcases Bool.eq_false_or_eq_true (dv f.vars name)with b1 | b1
  ·simp only [b1,if_true]at h
   subst h
   repeat' (first
 | simp only [go_sem,hD,hJ,hP,hY,b1]
 | (with_reducible refine CU (nC _ _) ?_)
 | (with_reducible refine CU (qg _ _) ?_)
 | (with_reducible first | refine ax fun hc=> ?_ | refine ay fun hc=> ?_ | refine az (fun hc=> ?_) fun hc=> ?_) <;> (try simp only [hc,bs, ↓reduceIte]at h) <;> try simp only [hc]
 | (with_reducible refine aA hQ ?_;(try cases h);simp only [aE,aF,aN,aO,go_sem,hD,hJ,hP,hY,b1];try exact aQ)
 | (cases h;done))
  ·simp only [b1,Bool.false_eq_true,if_false]at h
   rcases Bool.eq_false_or_eq_true (dv p.globals name)with b2 | b2
   ·simp only [b2,if_true]at h
    subst h
    repeat' (first
 | simp only [go_sem,hD,hJ,hP,hY,b1,b2]
 | (with_reducible refine CU (nC _ _) ?_)
 | (with_reducible refine CU (qg _ _) ?_)
 | (with_reducible first | refine ax fun hc=> ?_ | refine ay fun hc=> ?_ | refine az (fun hc=> ?_) fun hc=> ?_) <;> (try simp only [hc,bs, ↓reduceIte]at h) <;> try simp only [hc]
 | (with_reducible refine aA hQ ?_;(try cases h);simp only [aE,aF,aN,aO,go_sem,hD,hJ,hP,hY,b1,b2];try exact aQ)
 | (cases h;done))
   ·simp only [b2,Bool.false_eq_true,if_false]at h
    subst h
    repeat' (first
 | simp only [go_sem,hD,hJ,hP,hY,b1,b2]
 | (with_reducible refine CU (nC _ _) ?_)
 | (with_reducible refine CU (qg _ _) ?_)
 | (with_reducible first | refine ax fun hc=> ?_ | refine ay fun hc=> ?_ | refine az (fun hc=> ?_) fun hc=> ?_) <;> (try simp only [hc,bs, ↓reduceIte]at h) <;> try simp only [hc]
 | (with_reducible refine aA hQ ?_;(try cases h);simp only [aE,aF,aN,aO,go_sem,hD,hJ,hP,hY,b1,b2];try exact aQ)
 | (cases h;done))
 | cons a rest=>
  obtain⟨hJ,g2,hD,g4⟩:=drop_cons h1
  have bf:k<4611686018427387904:=by omega
  simp only [sV]at h
  rcases Bool.eq_false_or_eq_true (a.name==name)with b1 | b1
  ·simp only [b1,if_true]at h
   rcases Bool.eq_false_or_eq_true a.ref with b2 | b2
   ·simp only [b2,if_true]at h
    subst h
    repeat' (first
 | simp only [go_sem,hD,hJ,hP,hY,b1,b2]
 | (with_reducible first | refine ax fun hc=> ?_ | refine ay fun hc=> ?_ | refine az (fun hc=> ?_) fun hc=> ?_) <;> (try simp only [hc,bs, ↓reduceIte]at h) <;> try simp only [hc]
 | (with_reducible refine aA hQ ?_;(try cases h);simp only [aE,aF,aN,aO,go_sem,hD,hJ,hP,hY,b1,b2];try exact aQ)
 | (cases h;done))
   ·simp only [b2,Bool.false_eq_true,if_false]at h
    subst h
    repeat' (first
 | simp only [go_sem,hD,hJ,hP,hY,b1,b2]
 | (with_reducible first | refine ax fun hc=> ?_ | refine ay fun hc=> ?_ | refine az (fun hc=> ?_) fun hc=> ?_) <;> (try simp only [hc,bs, ↓reduceIte]at h) <;> try simp only [hc]
 | (with_reducible refine aA hQ ?_;(try cases h);simp only [aE,aF,aN,aO,go_sem,hD,hJ,hP,hY,b1,b2];try exact aQ)
 | (cases h;done))
  ·simp only [b1,Bool.false_eq_true,if_false]at h
   repeat' (first
 | simp only [go_sem,hD,hJ,hP,hY,b1]
 | (with_reducible first | refine ax fun hc=> ?_ | refine ay fun hc=> ?_ | refine az (fun hc=> ?_) fun hc=> ?_) <;> (try simp only [hc,bs, ↓reduceIte]at h) <;> try simp only [hc]
 | (with_reducible refine aA hQ ?_;(try cases h);simp only [aE,aF,aN,aO,go_sem,hD,hJ,hP,hY,b1];try exact aQ)
 | (cases h;done))
   refine bX 2 0 ?_ ?_ (IH (rest,k+1) ⟨g2,h⟩ (Nat.lt_succ_self _))
   ·(simp only [go_sem,hD,hJ,hP,hY,au bf];try exact aT)
   ·(simp only [go_sem,hD,hJ,hP,hY,au bf];try exact aT)
def gV (name:aH):List Pc→Option Pc
 | []=>none
 | f::l=>if f.name==name then some f else gV name l
def Pg.find (p:Pg) (name:aH):Option Pc:=gV name p.procs
def Xp:Pc:=⟨[],[],[],[],[]⟩
theorem K3:bR Xp = [.str [], .slice .shared 2 [], .slice .shared 1 [], .slice .shared 13 [], .slice .shared 1 []]:=nd rfl
def gY (r:Option Pc):D:= .tuple [.agg (bR (r.getD Xp)), .bool r.isSome]
theorem Tf (r:Option Pc):D.ok 0 0 (gY r)=true:=by simp [gY,D.ok,D.bM,rH]
theorem zT (f:Pc):bR f = [.str f.name, .slice .shared 2 (f.params.map fI), .slice .shared 1 (f.vars.map encStr), .slice .shared 13 (f.body.map bn), .slice .shared 1 (f.fin.map encStr)]:=nd rfl
theorem xD {p:Pg} (hl:p.procs.length<1000000000) (name:aH) (s:St):aD Tryz.prog jE [.agg (bD p), .str name] s (gY (p.find name)) s:=by
 refine aD.pure ?_ (by simp [D.bM,D.ok,fT]) (Tf _) s
 unfold Pg.find
 generalize h:gV name p.procs=q
 unfold S0
 refine aD.go AR rfl fun B Q hB hQ=> ?_
 have⟨hD,hJ,hP,hY⟩:=bK
 repeat' (first
 | simp only [go_sem,hD,hJ,hP,hY,zT]
 | (with_reducible first | refine ax fun hc=> ?_ | refine ay fun hc=> ?_ | refine az (fun hc=> ?_) fun hc=> ?_) <;> (try simp only [hc,bs, ↓reduceIte]at h) <;> try simp only [hc]
 | (with_reducible refine aA hQ ?_;(try cases h);simp only [aE,aF,aN,aO,go_sem,hD,hJ,hP,hY,zT];try exact aQ)
 | (cases h;done))
 refine cP 2 0 (bl.ind (ι:=List Pc×Nat) (fun i=>p.procs.drop i.2=i.1∧gV name i.1=q) (fun i=>i.1.length)
  (fun i=> [(1, .str name),(4, .ptr 1 0),(9, .slice .shared 5 (p.procs.map bR)),(10, .int .i64 (p.procs.length:Int)),(11, .int .i64 (i.2:Int))]) (fun i=>⟨[bD p,[.str [], .slice .full 0 [], .slice .full 0 [], .slice .full 0 [], .slice .full 0 []]],[]⟩) ?_ (p.procs,0) ⟨rfl,h⟩)
 rintro⟨rest,k⟩ ⟨h1,h⟩ IH
 dsimp only at h1 h
 cases rest with
 | nil=>
  have hD:=drop_nil h1
  simp only [gV]at h
  subst h
  repeat' (first
 | simp only [go_sem,hD,hJ,hP,hY,gY,Option.getD_none,Option.isSome_none,K3]
 | (with_reducible first | refine ax fun hc=> ?_ | refine ay fun hc=> ?_ | refine az (fun hc=> ?_) fun hc=> ?_) <;> (try simp only [hc,bs, ↓reduceIte]at h) <;> try simp only [hc]
 | (with_reducible refine aA hQ ?_;(try cases h);simp only [aE,aF,aN,aO,go_sem,hD,hJ,hP,hY,gY,Option.getD_none,Option.isSome_none,K3];try exact aQ)
 | (cases h;done))
 | cons a rest=>
  obtain⟨hJ,g2,hD,g4⟩:=drop_cons h1
  have bf:k<4611686018427387904:=by omega
  simp only [gV]at h
  rcases Bool.eq_false_or_eq_true (a.name==name)with b1 | b1
  ·simp only [b1,if_true]at h
   subst h
   repeat' (first
 | simp only [go_sem,hD,hJ,hP,hY,b1,gY,Option.getD_some,Option.isSome_some]
 | (with_reducible first | refine ax fun hc=> ?_ | refine ay fun hc=> ?_ | refine az (fun hc=> ?_) fun hc=> ?_) <;> (try simp only [hc,bs, ↓reduceIte]at h) <;> try simp only [hc]
 | (with_reducible refine aA hQ ?_;(try cases h);simp only [aE,aF,aN,aO,go_sem,hD,hJ,hP,hY,b1,gY,Option.getD_some,Option.isSome_some];try exact aQ)
 | (cases h;done))
  ·simp only [b1,Bool.false_eq_true,if_false]at h
   repeat' (first
 | simp only [go_sem,hD,hJ,hP,hY,b1]
 | (with_reducible first | refine ax fun hc=> ?_ | refine ay fun hc=> ?_ | refine az (fun hc=> ?_) fun hc=> ?_) <;> (try simp only [hc,bs, ↓reduceIte]at h) <;> try simp only [hc]
 | (with_reducible refine aA hQ ?_;(try cases h);simp only [aE,aF,aN,aO,go_sem,hD,hJ,hP,hY,b1];try exact aQ)
 | (cases h;done))
   refine bX 2 0 ?_ ?_ (IH (rest,k+1) ⟨g2,h⟩ (Nat.lt_succ_self _))
   ·(simp only [go_sem,hD,hJ,hP,hY,au bf];try exact aT)
   ·(simp only [go_sem,hD,hJ,hP,hY,au bf];try exact aT)
end Go.Abs

/-! Sc3 -/

namespace Go.Abs
set_option maxRecDepth 8000
open Go.Proofs
def Pc.nj (f:Pc):List aH:=f.params.map (·.name)
def Pc.own (f:Pc):List aH:=f.nj++f.vars
theorem Wq {f:Pc} (hp:f.params.length<1000000) (hv:f.vars.length<1000000) (s:St):aD Tryz.prog tu [.agg (bR f)] s (.slice .shared 1 (f.own.map encStr)) s:=by
 refine aD.pure ?_ (by simp [D.bM,D.ok,rH]) (by simp only [D.ok,Tag.ok,dL];rfl) s
 generalize hR:f.own=R
 simp only [Pc.own]at hR
 unfold S0
 refine aD.go CC rfl fun B Q hB hQ=> ?_
 have⟨hD,hJ,hP,hY⟩:=bK
 repeat' (first
 | simp only [go_sem,hD,hJ,hP,hY]
 | (with_reducible first | refine ax fun hc=> ?_ | refine ay fun hc=> ?_ | refine az (fun hc=> ?_) fun hc=> ?_) <;> (try simp only [hc,bs, ↓reduceIte]at h) <;> try simp only [hc]
 | (with_reducible refine aA hQ ?_;exact bx)
 | (cases h;done))
 refine bl.kT 3 1 rfl ?_
 simp only [go_sem,hD,hJ,hP,hY]
 refine cP 1 1 (bl.ind (ι:=List Pm×Nat×List aH×Nat) (fun i=>f.params.drop i.2.1=i.1∧i.2.2.1++i.1.map (·.name)=f.nj∧i.2.2.2=i.2.2.1.length) (fun i=>i.1.length)
  (fun i=> [(1, .ptr 0 0),(3, .slice (.tok 0) 1 (i.2.2.1.map encStr)),(7, .slice .shared 2 (f.params.map fI)),(8, .int .i64 (f.params.length:Int)),(9, .int .i64 (i.2.1:Int))]) (fun i=>⟨[bR f],[some i.2.2.2]⟩) ?_ (f.params,0,[],0) ⟨rfl,rfl,rfl⟩)
 rintro⟨rest,k,out,n⟩ ⟨h1,h2,h3⟩ IH
 dsimp only at h1 h2 h3
 subst h3
 have Xq:out.length+rest.length<1000000:=by
  have:=congrArg List.length h2
  simp only [List.length_append,List.length_map,Pc.nj]at this
  omega
 cases rest with
 | nil=>
  have hD:=drop_nil h1
  simp only [List.map_nil,List.append_nil]at h2
  subst hR
  rw [← h2]at hQ
  have cf:=ey (l:=out) (nx:=f.vars) rfl (by omega) (g:= .shared)
  repeat' (first
 | simp only [go_sem,hD,hJ,hP,hY,cf]
 | (with_reducible first | refine ax fun hc=> ?_ | refine ay fun hc=> ?_ | refine az (fun hc=> ?_) fun hc=> ?_) <;> (try simp only [hc,bs, ↓reduceIte]at h) <;> try simp only [hc]
 | (with_reducible refine aA hQ ?_;(try cases h);simp only [aE,aF,aN,aO,go_sem,hD,hJ,hP,hY,cf];try exact aQ)
 | (cases h;done))
 | cons a rest=>
  obtain⟨hJ,g2,hD,g4⟩:=drop_cons h1
  have bf:k<4611686018427387904:=by omega
  have hP:(out.length+1)*17≤bk:=by unfold bk;omega
  repeat' (first
 | simp only [go_sem,hD,hJ,hP,hY]
 | (with_reducible first | refine ax fun hc=> ?_ | refine ay fun hc=> ?_ | refine az (fun hc=> ?_) fun hc=> ?_) <;> (try simp only [hc,bs, ↓reduceIte]at h) <;> try simp only [hc]
 | (with_reducible refine aA hQ ?_;exact bx)
 | (cases h;done))
  refine bX 1 1 ?_ ?_ (IH (rest,k+1,out++ [a.name],out.length+1) ⟨g2,by rw [← h2];simp,by simp⟩ (Nat.lt_succ_self _))
  ·(simp only [go_sem,hD,hJ,hP,hY,au bf,List.map_append,List.map_cons,List.map_nil,encStr];try exact aT)
  ·(simp only [go_sem,hD,hJ,hP,hY,au bf,List.map_append,List.map_cons,List.map_nil,encStr];try exact aT)
theorem NM {f:Pc} (hp:f.params.length<1000000) (s:St):aD Tryz.prog qE [.agg (bR f)] s (.slice .shared 1 (f.nj.map encStr)) s:=by
 refine aD.pure ?_ (by simp [D.bM,D.ok,rH]) (by simp only [D.ok,Tag.ok,dL];rfl) s
 generalize hR:f.nj=R
 unfold S0
 refine aD.go zD rfl fun B Q hB hQ=> ?_
 have⟨hD,hJ,hP,hY⟩:=bK
 repeat' (first
 | simp only [go_sem,hD,hJ,hP,hY]
 | (with_reducible first | refine ax fun hc=> ?_ | refine ay fun hc=> ?_ | refine az (fun hc=> ?_) fun hc=> ?_) <;> (try simp only [hc,bs, ↓reduceIte]at h) <;> try simp only [hc]
 | (with_reducible refine aA hQ ?_;exact bx)
 | (cases h;done))
 refine bl.kT 3 1 rfl ?_
 simp only [go_sem,hD,hJ,hP,hY]
 refine cP 1 1 (bl.ind (ι:=List Pm×Nat×List aH×Nat) (fun i=>f.params.drop i.2.1=i.1∧i.2.2.1++i.1.map (·.name)=R∧i.2.2.2=i.2.2.1.length∧i.2.2.1.length+i.1.length=f.params.length) (fun i=>i.1.length)
  (fun i=> [(1, .ptr 0 0),(3, .slice (.tok 0) 1 (i.2.2.1.map encStr)),(7, .slice .shared 2 (f.params.map fI)),(8, .int .i64 (f.params.length:Int)),(9, .int .i64 (i.2.1:Int))]) (fun i=>⟨[bR f],[some i.2.2.2]⟩) ?_ (f.params,0,[],0) ⟨rfl,hR,rfl,by simp⟩)
 rintro⟨rest,k,out,n⟩ ⟨h1,h2,h3,h4⟩ IH
 dsimp only at h1 h2 h3 h4
 subst h3
 cases rest with
 | nil=>
  have hD:=drop_nil h1
  simp only [List.map_nil,List.append_nil]at h2
  subst h2
  repeat' (first
 | simp only [go_sem,hD,hJ,hP,hY]
 | (with_reducible first | refine ax fun hc=> ?_ | refine ay fun hc=> ?_ | refine az (fun hc=> ?_) fun hc=> ?_) <;> (try simp only [hc,bs, ↓reduceIte]at h) <;> try simp only [hc]
 | (with_reducible refine aA hQ ?_;exact bx)
 | (cases h;done))
 | cons a rest=>
  obtain⟨hJ,g2,hD,g4⟩:=drop_cons h1
  have bf:k<4611686018427387904:=by omega
  simp only [List.length_cons]at h4
  have hP:(out.length+1)*17≤bk:=by unfold bk;omega
  repeat' (first
 | simp only [go_sem,hD,hJ,hP,hY]
 | (with_reducible first | refine ax fun hc=> ?_ | refine ay fun hc=> ?_ | refine az (fun hc=> ?_) fun hc=> ?_) <;> (try simp only [hc,bs, ↓reduceIte]at h) <;> try simp only [hc]
 | (with_reducible refine aA hQ ?_;exact bx)
 | (cases h;done))
  refine bX 1 1 ?_ ?_ (IH (rest,k+1,out++ [a.name],out.length+1) ⟨g2,by rw [← h2];simp,by simp,by simp;omega⟩ (Nat.lt_succ_self _))
  ·(simp only [go_sem,hD,hJ,hP,hY,au bf,List.map_append,List.map_cons,List.map_nil,encStr];try exact aT)
  ·(simp only [go_sem,hD,hJ,hP,hY,au bf,List.map_append,List.map_cons,List.map_nil,encStr];try exact aT)
def jL:aH:= [109,97,105,110]
def Sm.known (p:Pg) (f:Pc) (procs:List aH) (v:Sm):Bool:=
 !(v.said.any fun n=>f.iJ p n==0) && (v.kind != 4 || (v.proc != jL && dv procs v.proc))
structure Pc.Small (p:Pg) (f:Pc):Prop where
 par:f.params.length<1000000
 vars:f.vars.length<1000000
 A8:p.globals.length<1000000
def p9 (p:Pg) (f:Pc):List aH→Bool
 | []=>true
 | n::l=>if f.iJ p n==0 then false else p9 p f l
theorem xb (p:Pg) (f:Pc) : ∀ l,p9 p f l = !(l.any fun n=>f.iJ p n==0)
 | []=>rfl
 | n::l=>by
  simp only [p9,List.any_cons,xb p f l]
  cases (f.iJ p n==0) <;> simp
theorem vj (v:Sm) (h:v.jf):v.said.length<3000000:=by
 have : ∀ (l:List Ar) (out:List aH),(Ar.said out l).length≤out.length+2*Ar.aU l:=by
  intro l
  induction l with
  | nil=>intro out;simp [Ar.said]
  | cons a l ih=>
   intro out
   simp only [Ar.said,Ar.aU]
   refine Nat.le_trans (ih _) ?_
   have:=fB a.x
   have:1≤a.x.size:=by obtain⟨_,_,_,_⟩:=a.x;simp [Ex.size]
   simp only [List.length_append]
   split <;> simp <;> omega
 have h1:=this v.args (v.o5++v.x.names)
 have h2:=fB v.x
 have h3:=h.2.2
 have h4:v.o5.length≤1:=by unfold Sm.o5;split <;> simp
 simp only [List.length_append]at h1
 unfold Sm.said
 omega
theorem QN {p:Pg} {f:Pc} {procs:List aH} {v:Sm} (hs:f.Small p) (BY:procs.length<1000000) (hv:v.jf) (s:St):aD Tryz.prog nX [.agg (bD p), .agg (bR f), .slice .shared 1 (procs.map encStr), .agg (bn v)] s (.bool (v.known p f procs)) s:=by
 refine aD.pure ?_ (by simp [D.bM,D.ok,fT,rH,kV,Tag.ok,dL]) rfl s
 have hn:=fun s=>w7 hv s
 have hk:=fun n s=>Ew (p:=p) (f:=f) (by have:=hs.par;omega) (by have:=hs.vars;omega) (by have:=hs.A8;omega) n s
 have Tg:=iI (l:=procs) (by omega) v.proc
 have hl:=vj v hv
 generalize h:v.known p f procs=q
 simp only [Sm.known, ← xb]at h
 unfold S0
 refine aD.go zC rfl fun B Q hB hQ=> ?_
 have⟨hD,hJ,hP,hY⟩:=bK
 repeat' (first
 | simp only [go_sem,hD,hJ,hP,hY]
 | (with_reducible refine CU (hn _) ?_)
 | (with_reducible first | refine ax fun hc=> ?_ | refine ay fun hc=> ?_ | refine az (fun hc=> ?_) fun hc=> ?_) <;> (try simp only [hc,bs, ↓reduceIte]at h) <;> try simp only [hc]
 | (with_reducible refine aA hQ ?_;exact bx)
 | (cases h;done))
 refine cP 3 0 (bl.ind (ι:=List aH×Nat) (fun i=>v.said.drop i.2=i.1∧(p9 p f i.1 && (v.kind != 4 || (v.proc != jL && dv procs v.proc)))=q) (fun i=>i.1.length)
  (fun i=> [(2, .slice .shared 1 (procs.map encStr)),(4, .ptr 0 0),(5, .ptr 1 0),(7, .ptr 2 0),(12, .slice .shared 1 (v.said.map encStr)),(13, .int .i64 (v.said.length:Int)),(14, .int .i64 (i.2:Int))]) (fun i=>⟨[bD p,bR f,bn v],[]⟩) ?_ (v.said,0) ⟨rfl,h⟩)
 rintro⟨rest,k⟩ ⟨h1,h⟩ IH
 dsimp only at h1 h
 cases rest with
 | nil=>
  have hD:=drop_nil h1
  simp only [p9,Bool.true_and]at h
  rcases Bool.eq_false_or_eq_true (v.kind != 4)with b1 | b1
  ·simp only [b1,Bool.true_or]at h
   subst h
   repeat' (first
 | simp only [go_sem,hD,hJ,hP,hY,b1]
 | (with_reducible first | refine ax fun hc=> ?_ | refine ay fun hc=> ?_ | refine az (fun hc=> ?_) fun hc=> ?_) <;> (try simp only [hc,bs, ↓reduceIte]at h) <;> try simp only [hc]
 | (with_reducible refine aA hQ ?_;(try cases h);simp only [aE,aF,aN,aO,go_sem,hD,hJ,hP,hY,b1];try exact aQ)
 | (cases h;done))
  ·simp only [b1,Bool.false_or]at h
   rcases Bool.eq_false_or_eq_true (v.proc != jL)with b2 | b2
   ·simp only [b2,Bool.true_and]at h
    unfold jL at b2
    have b3:(v.proc == [109,97,105,110]) = !(v.proc != [109,97,105,110]):=by simp only [bne,Bool.not_not]
    rw [b2]at b3
    simp only [Bool.not_true,Bool.not_false]at b3
    subst h
    repeat' (first
 | simp only [go_sem,hD,hJ,hP,hY,b1,b2,b3]
 | (with_reducible refine CU (Tg _ _) ?_)
 | (with_reducible first | refine ax fun hc=> ?_ | refine ay fun hc=> ?_ | refine az (fun hc=> ?_) fun hc=> ?_) <;> (try simp only [hc,bs, ↓reduceIte]at h) <;> try simp only [hc]
 | (with_reducible refine aA hQ ?_;(try cases h);simp only [aE,aF,aN,aO,go_sem,hD,hJ,hP,hY,b1,b2,b3];try exact aQ)
 | (cases h;done))
   ·simp only [b2,Bool.false_and]at h
    unfold jL at b2
    have b3:(v.proc == [109,97,105,110]) = !(v.proc != [109,97,105,110]):=by simp only [bne,Bool.not_not]
    rw [b2]at b3
    simp only [Bool.not_true,Bool.not_false]at b3
    subst h
    repeat' (first
 | simp only [go_sem,hD,hJ,hP,hY,b1,b2,b3]
 | (with_reducible refine CU (Tg _ _) ?_)
 | (with_reducible first | refine ax fun hc=> ?_ | refine ay fun hc=> ?_ | refine az (fun hc=> ?_) fun hc=> ?_) <;> (try simp only [hc,bs, ↓reduceIte]at h) <;> try simp only [hc]
 | (with_reducible refine aA hQ ?_;(try cases h);simp only [aE,aF,aN,aO,go_sem,hD,hJ,hP,hY,b1,b2,b3];try exact aQ)
 | (cases h;done))
 | cons a rest=>
  obtain⟨hJ,g2,hD,g4⟩:=drop_cons h1
  have bf:k<4611686018427387904:=by omega
  simp only [p9]at h
  rcases Bool.eq_false_or_eq_true (f.iJ p a==0)with b1 | b1
  ·simp only [b1,if_true,Bool.false_and]at h
   subst h
   repeat' (first
 | simp only [go_sem,hD,hJ,hP,hY,b1]
 | (with_reducible refine CU (hk _ _) ?_)
 | (with_reducible first | refine ax fun hc=> ?_ | refine ay fun hc=> ?_ | refine az (fun hc=> ?_) fun hc=> ?_) <;> (try simp only [hc,bs, ↓reduceIte]at h) <;> try simp only [hc]
 | (with_reducible refine aA hQ ?_;(try cases h);simp only [aE,aF,aN,aO,go_sem,hD,hJ,hP,hY,b1];try exact aQ)
 | (cases h;done))
  ·simp only [b1,Bool.false_eq_true,if_false]at h
   repeat' (first
 | simp only [go_sem,hD,hJ,hP,hY,b1]
 | (with_reducible refine CU (hk _ _) ?_)
 | (with_reducible first | refine ax fun hc=> ?_ | refine ay fun hc=> ?_ | refine az (fun hc=> ?_) fun hc=> ?_) <;> (try simp only [hc,bs, ↓reduceIte]at h) <;> try simp only [hc]
 | (with_reducible refine aA hQ ?_;(try cases h);simp only [aE,aF,aN,aO,go_sem,hD,hJ,hP,hY,b1];try exact aQ)
 | (cases h;done))
   refine bX 3 0 ?_ ?_ (IH (rest,k+1) ⟨g2,h⟩ (Nat.lt_succ_self _))
   ·(simp only [go_sem,hD,hJ,hP,hY,au bf];try exact aT)
   ·(simp only [go_sem,hD,hJ,hP,hY,au bf];try exact aT)
end Go.Abs

/-! ScP -/

namespace Go.Abs
theorem F8 : ∀ (l pre:List aH),uA pre l=true↔(∃ x∈l,x∈pre)∨¬ l.Nodup
 | [],pre=>by simp [uA]
 | s::l,pre=>by
  simp only [uA]
  by_cases h:dv pre s=true
  ·simp only [h,if_true,true_iff]
   exact .inl ⟨s,List.mem_cons_self,(gU _ _).1 h⟩
  ·have h':s∉pre:=fun m=>h ((gU _ _).2 m)
   simp only [h,if_false,Bool.false_eq_true]
   rw [F8 l (pre++ [s])]
   simp only [List.mem_append,List.mem_singleton,List.mem_cons,List.nodup_cons,exists_eq_or_imp]
   constructor
   ·rintro(⟨x,m,h1 | h1⟩ | h1)
    ·exact .inl (.inr ⟨x,m,h1⟩)
    ·have h1:x=s:=by simpa using h1
     subst h1;exact .inr fun h=>h.1 m
    ·exact .inr fun h=>h1 h.2
   ·rintro((h1 | ⟨x,m,h1⟩) | h1)
    ·exact absurd h1 h'
    ·exact .inl ⟨x,m, .inl h1⟩
    ·by_cases m:s∈l
     ·exact .inl ⟨s,m, .inr (.inl rfl)⟩
     ·exact .inr fun h=>h1 ⟨m,h⟩
theorem B0 (l:List aH):ez l=true↔¬ l.Nodup:=by
 unfold ez;rw [F8];simp
theorem K4 (a b:List aH):ez (a++b)=(ez a || (ez b || b.any (dv a))):=by
 have h:ez (a++b)=true↔(ez a || (ez b || b.any (dv a)))=true:=by
  rw [B0,List.nodup_append]
  simp only [Bool.or_eq_true,B0,List.any_eq_true,gU]
  constructor
  ·intro h
   by_cases ha:a.Nodup
   ·by_cases hb:b.Nodup
    ·refine .inr (.inr (Classical.byContradiction fun hn=>h ⟨ha,hb,fun x hx y hy e=>hn ⟨y,hy,e ▸ hx⟩⟩))
    ·exact .inr (.inl hb)
   ·exact .inl ha
  ·rintro(h | h | ⟨x,h1,h2⟩) ⟨h3,h4,h5⟩
   ·exact h h3
   ·exact h h4
   ·exact h5 x h2 x h1 rfl
 cases h1:ez (a++b) <;> cases h2:(ez a || (ez b || b.any (dv a))) <;> simp_all
theorem Ey (name:aH) : ∀ (l:List Pc) (k:Nat),(gV name l=none∧mc name (k:Int) (l.map (·.name)) = -1)∨∃ f j,gV name l=some f∧l[j]? = some f∧mc name (k:Int) (l.map (·.name))=((k+j:Nat):Int)
 | [],k=> .inl ⟨rfl,rfl⟩
 | f::l,k=>by
  by_cases h:f.name=name
  ·subst h
   refine .inr ⟨f,0,by simp [gV],rfl,by simp [mc]⟩
  ·have h1:(f.name==name)=false:=by simp [h]
   have h2:(name==f.name)=false:=by simp [Ne.symm h]
   simp only [gV,h1,Bool.false_eq_true,if_false,List.map_cons,mc,h2]
   rcases Ey name l (k+1)with ⟨g1,g2⟩ | ⟨g,j,g1,g2,g3⟩
   ·exact .inl ⟨g1,by rw [← g2];rfl⟩
   ·refine .inr ⟨g,j+1,g1,by simpa using g2, ?_⟩
    rw [show((k:Int)+1)=((k+1:Nat):Int)from rfl,g3]
    congr 1;omega
theorem ky {name:aH} {f:Pc} : ∀ {l:List Pc},gV name l=some f→f∈l∧f.name=name
 | g::l,h=>by
  simp only [gV]at h
  split at h
  ·rename_i e;cases h;exact⟨List.mem_cons_self,by simpa using e⟩
  ·have:=ky h;exact⟨List.mem_cons_of_mem _ this.1,this.2⟩
mutual
theorem K5 (deep b8:Int) (bc:Bool) (out:List It) : ∀ s:Sm,∃ e,ga deep b8 bc out s=out++e
 | ⟨id,kind,labels,name,proc,x,has,args,bp,e⟩=>by
  simp only [ga]
  split
  ·obtain⟨e1,h1⟩:=qs (deep+1) id false (out++ [⟨⟨id,kind,labels,name,proc,x,has,args,bp,e⟩,deep,b8,bc⟩]) bp
   obtain⟨e2,h2⟩:=qs (deep+1) id true (de (deep+1) id false (out++ [⟨⟨id,kind,labels,name,proc,x,has,args,bp,e⟩,deep,b8,bc⟩]) bp) e
   rw [h2,h1]
   exact⟨_,by rw [List.append_assoc,List.append_assoc]⟩
  ·exact⟨_,rfl⟩
theorem qs (deep b8:Int) (bc:Bool) (out:List It) : ∀ l:List Sm,∃ e,de deep b8 bc out l=out++e
 | []=>⟨[],by simp [de]⟩
 | s::l=>by
  simp only [de]
  split
  ·obtain⟨e1,h1⟩:=K5 deep b8 bc out s
   obtain⟨e2,h2⟩:=qs deep b8 bc (ga deep b8 bc out s) l
   rw [h2,h1]
   exact⟨_,by rw [List.append_assoc]⟩
  ·exact⟨[],by simp⟩
end
mutual
theorem K6 (deep b8:Int) (bc:Bool) (out:List It) : ∀ s:Sm,(ga deep b8 bc out s).length≤200→(∀ i∈ga deep b8 bc out s,i.deep≤12)→(ga deep b8 bc out s).map It.s=out.map It.s++s.pre
 | ⟨id,kind,labels,name,proc,x,has,args,bp,e⟩,h1,h2=>by
  simp only [ga,Sm.pre]at h1 h2 ⊢
  by_cases hd:deep≤12
  ·simp only [hd,decide_true,if_true]at h1 h2 ⊢
   obtain⟨e2,g2⟩:=qs (deep+1) id true (de (deep+1) id false (out++ [⟨⟨id,kind,labels,name,proc,x,has,args,bp,e⟩,deep,b8,bc⟩]) bp) e
   have k1:(de (deep+1) id false (out++ [⟨⟨id,kind,labels,name,proc,x,has,args,bp,e⟩,deep,b8,bc⟩]) bp).length≤200:=by
    rw [g2,List.length_append]at h1;omega
   have k2 : ∀ i∈de (deep+1) id false (out++ [⟨⟨id,kind,labels,name,proc,x,has,args,bp,e⟩,deep,b8,bc⟩]) bp,i.deep≤12:=fun i m=>h2 i (by rw [g2];exact List.mem_append_left _ m)
   rw [sW (deep+1) id true _ e h1 h2,sW (deep+1) id false _ bp k1 k2]
   simp
  ·simp only [hd,decide_false,Bool.false_eq_true,if_false]at h1 h2
   exact absurd (h2 _ (List.mem_append_right _ (List.mem_singleton.2 rfl))) (by simpa using hd)
theorem sW (deep b8:Int) (bc:Bool) (out:List It) : ∀ l:List Sm,(de deep b8 bc out l).length≤200→(∀ i∈de deep b8 bc out l,i.deep≤12)→(de deep b8 bc out l).map It.s=out.map It.s++Sm.fk l
 | [],h1,h2=>by simp [de,Sm.fk]
 | s::l,h1,h2=>by
  simp only [de,Sm.fk]at h1 h2 ⊢
  by_cases hc:(out.length:Int)≤200
  ·simp only [hc,decide_true,if_true]at h1 h2 ⊢
   obtain⟨e2,g2⟩:=qs deep b8 bc (ga deep b8 bc out s) l
   have k1:(ga deep b8 bc out s).length≤200:=by rw [g2,List.length_append]at h1;omega
   have k2 : ∀ i∈ga deep b8 bc out s,i.deep≤12:=fun i m=>h2 i (by rw [g2];exact List.mem_append_left _ m)
   rw [sW deep b8 bc _ l h1 h2,K6 deep b8 bc out s k1 k2]
   simp
  ·simp only [hc,decide_false,Bool.false_eq_true,if_false]at h1
   omega
end
theorem Ez : ∀ (l:List Pc) (out:List It),(allM out l).length≤200→(∀ i∈allM out l,i.deep≤12)→(∀ f∈l,f.flat.map It.s=Sm.fk f.body)∧(allM out l).map It.s=out.map It.s++(l.map fun f=>Sm.fk f.body).flatten
 | [],out,h1,h2=>⟨fun f m=>(by cases m),by simp [allM]⟩
 | f::l,out,h1,h2=>by
  simp only [allM]at h1 h2 ⊢
  by_cases hc:(((out++f.flat).length:Nat):Int) > 200
  ·simp only [hc,decide_true,if_true]at h1;omega
  ·simp only [hc,decide_false,Bool.false_eq_true,if_false]at h1 h2 ⊢
   obtain⟨k1,k2⟩:=Ez l (out++f.flat) h1 h2
   have NL : ∀ (l:List Pc) (out:List It),∃ e,allM out l=out++e:=by
    intro l
    induction l with
    | nil=>intro out;exact⟨[],by simp [allM]⟩
    | cons g l ih=>
     intro out
     simp only [allM]
     split
     ·exact⟨_,rfl⟩
     ·obtain⟨e,h⟩:=ih (out++g.flat);exact⟨g.flat++e,by rw [h];simp⟩
   obtain⟨e,he⟩:=NL l (out++f.flat)
   have k3:f.flat.map It.s=Sm.fk f.body:=by
    have:=sW 1 0 false [] f.body (by
     have:f.flat.length≤200:=by simp only [List.length_append]at hc;omega
     exact this) (fun i m=>h2 i (by rw [he];exact List.mem_append_left _ (List.mem_append_right _ m)))
    simpa [Pc.flat]using this
   refine⟨fun g m=> ?_, ?_⟩
   ·rcases List.mem_cons.1 m with rfl | m
    ·exact k3
    ·exact k1 g m
   ·rw [k2];simp [k3]
theorem B1 : ∀ (l:List It) (n:Nat),It.dz n l=true→(∀ i∈l,i.deep≤12)∧∀ (j:Nat) (i:It),l[j]? = some i→i.s.id=((n+j+1:Nat):Int)
 | [],n,h=>⟨fun i m=>(by cases m),fun j i h=>by simp at h⟩
 | a::l,n,h=>by
  simp only [It.dz]at h
  split at h
  ·cases h
  ·rename_i c
   simp only [Bool.or_eq_true,not_or,bne_iff_ne,ne_eq,Decidable.not_not,decide_eq_true_eq,Int.not_lt,gt_iff_lt]at c
   obtain⟨k1,k2⟩:=B1 l (n+1) h
   refine⟨fun i m=> ?_,fun j i hj=> ?_⟩
   ·rcases List.mem_cons.1 m with rfl | m
    ·exact c.1.2
    ·exact k1 i m
   ·cases j with
    | zero=>simp at hj;subst hj;rw [c.1.1]
    | succ j=>simp at hj;rw [k2 j i hj];congr 1;omega
theorem uB {p:Pg} (h:p.may=true):p.all.length≤200∧It.dz 0 p.all=true:=by
 unfold Pg.may at h
 split at h
 ·cases h
 ·split at h
  ·cases h
  ·split at h
   ·cases h
   ·rename_i c
    exact⟨by simp only [decide_eq_true_eq,Int.not_lt,gt_iff_lt]at c;omega,h⟩
theorem nk {p:Pg} (h:p.may=true):(∀ f∈p.procs,f.flat.map It.s=Sm.fk f.body)∧p.all.map It.s=p.pre:=by
 obtain⟨h1,h2⟩:=uB h
 have:=Ez p.procs [] h1 (B1 _ 0 h2).1
 simpa [Pg.pre,Pg.all]using this
end Go.Abs

/-! Sc4 -/

namespace Go.Abs
set_option maxRecDepth 8000
open Go.Proofs
structure Pg.iQ (p:Pg):Prop where
 IQ:p.zM
 sz:p.size≤900000
mutual
theorem Ti : ∀ s:Sm,s.p8→s.size<1000000→∀ v∈s.pre,v.jf∧v.ik
 | ⟨id,kind,labels,name,proc,x,has,args,bp,bc⟩,h,hs,v,m=>by
  simp only [Sm.p8]at h
  simp only [Sm.size]at hs
  simp only [Sm.pre,List.mem_cons,List.mem_append]at m
  rcases m with rfl | m | m
  ·exact⟨⟨h.1.xt,fun a ha=>(h.1.arg a ha).2.1,by dsimp only;omega⟩,h.1⟩
  ·exact xE bp h.2.1 (by omega) v m
  ·exact xE bc h.2.2 (by omega) v m
theorem xE : ∀ l:List Sm,Sm.gJ l→Sm.aU l<1000000→∀ v∈Sm.fk l,v.jf∧v.ik
 | [],h,hs,v,m=>by simp [Sm.fk]at m
 | s::l,h,hs,v,m=>by
  simp only [Sm.gJ]at h
  simp only [Sm.aU]at hs
  simp only [Sm.fk,List.mem_append]at m
  rcases m with m | m
  ·exact Ti s h.1 (by omega) v m
  ·exact xE l h.2 (by omega) v m
end
theorem Pg.iQ.said {p:Pg} (h:p.iQ) {f:Pc} (hf:f∈p.procs) : ∀ v∈Sm.fk f.body,v.jf:=fun v m=>by
 have h1:=Pc.bS hf
 have h2:=h.sz
 simp only [Pg.size]at h2
 simp only [Pc.size]at h1
 exact(xE f.body (h.IQ.body f hf) (by omega) v m).1
theorem Pg.iQ.small {p:Pg} (h:p.iQ) {f:Pc} (hf:f∈p.procs):f.Small p:=by
 have h1:=Pc.bS hf
 have h2:=h.sz
 simp only [Pg.size]at h2
 simp only [Pc.size]at h1
 exact⟨by omega,by omega,by omega⟩
theorem Pg.iQ.procs {p:Pg} (h:p.iQ):p.procs.length≤900000∧Pc.aU p.procs≤900000∧p.globals.length≤900000:=by
 have h2:=h.sz
 have h3:=Pc.c7 p.procs
 simp only [Pg.size]at h2
 omega
def Pg.pn (p:Pg):List aH:=p.procs.map (·.name)
def qN (p:Pg) (f:Pc) (procs:List aH):List Sm→Option Sm
 | []=>none
 | v::l=>if v.known p f procs then qN p f procs l else some v
def nR (p:Pg) (procs:List aH):List Pc→Int×Int
 | []=>(0,0)
 | f::l=>if ez (p.globals++f.own)then(5,0)else match qN p f procs (Sm.fk f.body)with | some v=>(5,v.id) | none=>nR p procs l
def Pg.nS (p:Pg):Bool:=match p.find jL with | none=>true | some m=>decide ((m.params.length:Int) > 0)
def Pg.scope (p:Pg):Int×Int:=
 if p.may then if ez p.globals || (ez p.pn || p.nS)then(5,0)else nR p p.pn p.procs else(1,0)
theorem NN (p:Pg) (hl:p.globals.length<1000000) (n:aH):aD Tryz.prog mz ([.str n]++ [.ptr 0 0]) ⟨[bD p],[]⟩ (.bool (dv p.globals n)) ⟨[bD p],[]⟩:=by
 show aD Tryz.prog mz [.str n, .ptr 0 0] _ _ _
 have ll:=iI (l:=p.globals) (by omega) n
 refine aD.go xM rfl fun B Q hB hQ=> ?_
 have⟨hD,hJ,hP,hY⟩:=bK
 repeat' (first
 | simp only [go_sem,hD,hJ,hP,hY]
 | (with_reducible refine CU (ll _ _) ?_)
 | (with_reducible first | refine ax fun hc=> ?_ | refine ay fun hc=> ?_ | refine az (fun hc=> ?_) fun hc=> ?_) <;> (try simp only [hc,bs, ↓reduceIte]at h) <;> try simp only [hc]
 | (with_reducible refine aA hQ ?_;exact bx)
 | (cases h;done))
theorem Wr (n m:Nat) (p:Pg):D.gd n m (jK p)=jK p:=gp n m _ (A5 p)
attribute [go_sem] Wr
theorem QO {p:Pg} {f:Pc} {procs:List aH} {v:Sm} (hs:f.Small p) (BY:procs.length<1000000) (hv:v.jf) (g:Tag) (s:St):aD Tryz.prog nX [.agg (bD p), .agg (bR f), .slice g 1 (procs.map encStr), .agg (bn v)] s (.bool (v.known p f procs)) s:=
 ej.DA (.cons (Wk.refl _) (.cons (Wk.refl _) (.cons (Wk.shared g 1 _) (kP.refl _)))) (QN hs BY hv s)
theorem yH {p:Pg} (h:p.iQ) (s:St):aD Tryz.prog lU [.agg (bD p)] s (.agg [.int .i64 p.scope.1, .int .i64 p.scope.2]) s:=by
 refine aD.pure ?_ (by simp [D.bM,D.ok,fT]) rfl s
 have hm:=fun s=>KO h.IQ s
 simp only [Bd]at hm
 obtain⟨oj,ng,oZ⟩:=h.procs
 have dN:=fun s=>C2 (p:=p) (by omega) s
 have kB:=fun s=>yF (l:=p.globals) (by omega) .shared s
 have hpn:p.pn.length=p.procs.length:=by simp [Pg.pn]
 have rC:=fun g s=>yF (l:=p.pn) (by omega) g s
 have hix:=fun g s=>(F4 (l:=p.pn) (by omega) jL s).BK (Wk.shared g 1 (p.pn.map encStr))
 have yI:=fun g s=>(show aD Tryz.prog gI [.slice g 1 (p.pn.map encStr), .str [109,97,105,110]] s (.int .i64 (mc jL 0 p.pn)) s from hix g s)
 generalize hR:p.scope=R
 simp only [Pg.scope]at hR
 unfold S0
 rcases Bool.eq_false_or_eq_true p.may with hb | hb
 case inr=>
  simp only [hb]at hm
  simp only [hb,Bool.false_eq_true,if_false]at hR
  subst hR
  refine aD.go sJ rfl fun B Q hB hQ=> ?_
  have⟨hD,hJ,hP,hY⟩:=bK
  repeat' (first
 | simp only [go_sem,hD,hJ,hP,hY]
 | (with_reducible refine CU (hm _) ?_)
 | (with_reducible first | refine ax fun hc=> ?_ | refine ay fun hc=> ?_ | refine az (fun hc=> ?_) fun hc=> ?_) <;> (try simp only [hc,bs, ↓reduceIte]at h) <;> try simp only [hc]
 | (with_reducible refine aA hQ ?_;exact bx)
 | (cases h;done))
 simp only [hb]at hm
 simp only [hb,if_true]at hR
 refine aD.go sJ rfl fun B Q hB hQ=> ?_
 have⟨hD,hJ,hP,hY⟩:=bK
 repeat' (first
 | simp only [go_sem,hD,hJ,hP,hY]
 | (with_reducible refine CU (hm _) ?_)
 | (with_reducible first | refine ax fun hc=> ?_ | refine ay fun hc=> ?_ | refine az (fun hc=> ?_) fun hc=> ?_) <;> (try simp only [hc,bs, ↓reduceIte]at h) <;> try simp only [hc]
 | (with_reducible refine aA hQ ?_;exact bx)
 | (cases h;done))
 refine bl.kT 3 1 rfl ?_
 simp only [go_sem,hD,hJ,hP,hY]
 refine cP 2 1 (bl.ind (ι:=List Pc×Nat×List aH×Nat) (fun i=>p.procs.drop i.2.1=i.1∧i.2.2.1++i.1.map (·.name)=p.pn∧i.2.2.2=i.2.2.1.length) (fun i=>i.1.length)
  (fun i=> [(1, .ptr 0 0),(2, .ptr 1 0),(3, .slice (.tok 0) 1 (i.2.2.1.map encStr)),(18, .slice .shared 5 (p.procs.map bR)),(19, .int .i64 (p.procs.length:Int)),(20, .int .i64 (i.2.1:Int))]) (fun i=>⟨[bD p,[.int .i64 0, .int .i64 0]],[some i.2.2.2]⟩) ?_ (p.procs,0,[],0) ⟨rfl,rfl,rfl⟩)
 rintro⟨rest,k,out,n⟩ ⟨h1,h2,h3⟩ IH
 dsimp only at h1 h2 h3
 subst h3
 have Xq:out.length+rest.length≤900000:=by
  have:=congrArg List.length h2
  simp only [List.length_append,List.length_map]at this
  omega
 cases rest with
 | cons a rest=>
  obtain⟨hJ,g2,hD,g4⟩:=drop_cons h1
  have bf:k<4611686018427387904:=by omega
  have hP:(out.length+1)*17≤bk:=by unfold bk;omega
  repeat' (first
 | simp only [go_sem,hD,hJ,hP,hY]
 | (with_reducible first | refine ax fun hc=> ?_ | refine ay fun hc=> ?_ | refine az (fun hc=> ?_) fun hc=> ?_) <;> (try simp only [hc,bs, ↓reduceIte]at h) <;> try simp only [hc]
 | (with_reducible refine aA hQ ?_;exact bx)
 | (cases h;done))
  refine bX 2 1 ?_ ?_ (IH (rest,k+1,out++ [a.name],out.length+1) ⟨g2,by rw [← h2];simp,by simp⟩ (Nat.lt_succ_self _))
  ·(simp only [go_sem,hD,hJ,hP,hY,au bf,List.map_append,List.map_cons,List.map_nil,encStr];try exact aT)
  ·(simp only [go_sem,hD,hJ,hP,hY,au bf,List.map_append,List.map_cons,List.map_nil,encStr];try exact aT)
 | nil=>
  have hD:=drop_nil h1
  simp only [List.map_nil,List.append_nil]at h2
  subst h2
  rcases Bool.eq_false_or_eq_true (ez p.globals)with b1 | b1
  ·simp only [b1,Bool.true_or,if_true]at hR
   subst hR
   repeat' (first
 | simp only [go_sem,hD,hJ,hP,hY,b1]
 | (with_reducible refine CU (yI _ _) ?_)
 | (with_reducible refine CU (kB _) ?_)
 | (with_reducible refine CU (rC _ _) ?_)
 | (with_reducible first | refine ax fun hc=> ?_ | refine ay fun hc=> ?_ | refine az (fun hc=> ?_) fun hc=> ?_) <;> (try simp only [hc,bs, ↓reduceIte]at h) <;> try simp only [hc]
 | (with_reducible refine aA hQ ?_;(try cases h);simp only [aE,aF,aN,aO,go_sem,hD,hJ,hP,hY,b1];try exact aQ)
 | (cases h;done))
  rcases Bool.eq_false_or_eq_true (ez p.pn)with b2 | b2
  ·simp only [b1,b2,Bool.true_or,Bool.or_true,if_true]at hR
   subst hR
   repeat' (first
 | simp only [go_sem,hD,hJ,hP,hY,b1,b2]
 | (with_reducible refine CU (yI _ _) ?_)
 | (with_reducible refine CU (kB _) ?_)
 | (with_reducible refine CU (rC _ _) ?_)
 | (with_reducible first | refine ax fun hc=> ?_ | refine ay fun hc=> ?_ | refine az (fun hc=> ?_) fun hc=> ?_) <;> (try simp only [hc,bs, ↓reduceIte]at h) <;> try simp only [hc]
 | (with_reducible refine aA hQ ?_;(try cases h);simp only [aE,aF,aN,aO,go_sem,hD,hJ,hP,hY,b1,b2];try exact aQ)
 | (cases h;done))
  rcases Ey jL p.procs 0 with ⟨e1,e2⟩ | ⟨m,j,e1,e2,e3⟩
  ·have b3:p.nS=true:=by unfold Pg.nS Pg.find;rw [e1]
   have hi:mc jL 0 p.pn = -1:=e2
   simp only [b1,b2,b3,Bool.or_true,if_true]at hR
   subst hR
   simp only [hi]at yI
   have d1:decide ((-1:Int)<0)=true:=by decide
   repeat' (first
 | simp only [go_sem,hD,hJ,hP,hY,b1,b2,d1]
 | (with_reducible refine CU (yI _ _) ?_)
 | (with_reducible refine CU (kB _) ?_)
 | (with_reducible refine CU (rC _ _) ?_)
 | (with_reducible first | refine ax fun hc=> ?_ | refine ay fun hc=> ?_ | refine az (fun hc=> ?_) fun hc=> ?_) <;> (try simp only [hc,bs, ↓reduceIte]at h) <;> try simp only [hc]
 | (with_reducible refine aA hQ ?_;(try cases h);simp only [aE,aF,aN,aO,go_sem,hD,hJ,hP,hY,b1,b2,d1];try exact aQ)
 | (cases h;done))
  have hi:mc jL 0 p.pn=((j:Nat):Int):=by rw [show p.pn=p.procs.map (·.name)from rfl];simpa using e3
  simp only [hi]at yI
  have d1:decide (((j:Nat):Int)<0)=false:=by simp
  have hj:j<p.procs.length:=(List.getElem?_eq_some_iff.1 e2).1
  have b3:p.nS=decide ((m.params.length:Int) > 0):=by unfold Pg.nS Pg.find;rw [e1]
  rw [b3]at hR
  rcases Bool.eq_false_or_eq_true (decide ((m.params.length:Int) > 0))with b4 | b4
  ·simp only [b1,b2,b4,Bool.or_true,if_true]at hR
   subst hR
   repeat' (first
 | simp only [go_sem,hD,hJ,hP,hY,b1,b2,d1,e2,b4]
 | (with_reducible refine CU (yI _ _) ?_)
 | (with_reducible refine CU (kB _) ?_)
 | (with_reducible refine CU (rC _ _) ?_)
 | (with_reducible first | refine ax fun hc=> ?_ | refine ay fun hc=> ?_ | refine az (fun hc=> ?_) fun hc=> ?_) <;> (try simp only [hc,bs, ↓reduceIte]at h) <;> try simp only [hc]
 | (with_reducible refine aA hQ ?_;(try cases h);simp only [aE,aF,aN,aO,go_sem,hD,hJ,hP,hY,b1,b2,d1,e2,b4];try exact aQ)
 | (cases h;done))
  simp only [b1,b2,b4,Bool.or_false,Bool.false_eq_true,if_false]at hR
  repeat' (first
 | simp only [go_sem,hD,hJ,hP,hY,b1,b2,d1,e2,b4]
 | (with_reducible refine CU (yI _ _) ?_)
 | (with_reducible refine CU (kB _) ?_)
 | (with_reducible refine CU (rC _ _) ?_)
 | (with_reducible refine CU (dN _) ?_)
 | (with_reducible first | refine ax fun hc=> ?_ | refine ay fun hc=> ?_ | refine az (fun hc=> ?_) fun hc=> ?_) <;> (try simp only [hc,bs, ↓reduceIte]at h) <;> try simp only [hc]
 | (with_reducible refine aA hQ ?_;(try cases h);simp only [aE,aF,aN,aO,go_sem,hD,hJ,hP,hY,b1,b2,d1,e2,b4];try exact aQ)
 | (cases h;done))
  refine cP 2 1 (bl.ind (ι:=List Pc×Nat) (fun i=>p.procs.drop i.2=i.1∧nR p p.pn i.1=R) (fun i=>i.1.length)
   (fun i=> [(1, .ptr 0 0),(2, .ptr 1 0),(3, .slice (.tok 0) 1 (p.pn.map encStr)),(7, .dJ (jK p) 0),(57, .slice .shared 5 (p.procs.map bR)),(58, .int .i64 (p.procs.length:Int)),(59, .int .i64 (i.2:Int))]) (fun i=>⟨[bD p,[.int .i64 0, .int .i64 0]],[some p.pn.length]⟩) ?_ (p.procs,0) ⟨rfl,hR⟩)
  clear IH h1 hD hR
  rintro⟨rest,k⟩ ⟨h1,hR⟩ IH
  dsimp only at h1 hR
  cases rest with
  | nil=>
   have hD:=drop_nil h1
   simp only [nR]at hR
   subst hR
   repeat' (first
 | simp only [go_sem,hD,hJ,hP,hY]
 | (with_reducible first | refine ax fun hc=> ?_ | refine ay fun hc=> ?_ | refine az (fun hc=> ?_) fun hc=> ?_) <;> (try simp only [hc,bs, ↓reduceIte]at h) <;> try simp only [hc]
 | (with_reducible refine aA hQ ?_;exact bx)
 | (cases h;done))
  | cons f rest=>
   obtain⟨hJ,g2,hD,g4⟩:=drop_cons h1
   have bf:k<4611686018427387904:=by omega
   have sQ:=List.mem_of_getElem? hJ
   have sd:=h.small sQ
   have EA:=fun s=>Wq (f:=f) sd.par sd.vars s
   have mj:f.own.length<4611686018427387904:=by have h1:=sd.par;have h2:=sd.vars;unfold Pc.own Pc.nj;simp;omega
   have B2:=fun s=>yF (l:=f.own) mj .shared s
   have xc:=fun {s:St} {o:Nat} (ho:s.aw[o]? = some (bD p))=>uy (l:=f.own) mj (f:=mz) (row:=bD p) (b:=dv p.globals) (fT p) (by with_unfolding_all rfl) (fun x _=>NN p sd.A8 x) ho
   have NO:=fun {s:St} {o:Nat} (ho:s.aw[o]? = some (bD p))=>(show aD Tryz.prog fa [.slice .shared 1 (f.own.map encStr), .fM 55 [.ptr o 0]] s (.bool (f.own.any (dv p.globals))) s from xc ho)
   simp only [nR,K4,b1,Bool.false_or]at hR
   rcases Bool.eq_false_or_eq_true (ez f.own)with c1 | c1
   ·simp only [c1,Bool.true_or,if_true]at hR
    subst hR
    repeat' (first
 | simp only [go_sem,hD,hJ,hP,hY,c1]
 | (with_reducible refine CU (EA _) ?_)
 | (with_reducible refine CU (B2 _) ?_)
 | (with_reducible refine CU (NO (by with_unfolding_all rfl)) ?_)
 | (with_reducible first | refine ax fun hc=> ?_ | refine ay fun hc=> ?_ | refine az (fun hc=> ?_) fun hc=> ?_) <;> (try simp only [hc,bs, ↓reduceIte]at h) <;> try simp only [hc]
 | (with_reducible refine aA hQ ?_;(try cases h);simp only [aE,aF,aN,aO,go_sem,hD,hJ,hP,hY,c1];try exact aQ)
 | (cases h;done))
   rcases Bool.eq_false_or_eq_true (f.own.any (dv p.globals))with c2 | c2
   ·simp only [c1,c2,Bool.false_or,if_true]at hR
    subst hR
    repeat' (first
 | simp only [go_sem,hD,hJ,hP,hY,c1,c2]
 | (with_reducible refine CU (EA _) ?_)
 | (with_reducible refine CU (B2 _) ?_)
 | (with_reducible refine CU (NO (by with_unfolding_all rfl)) ?_)
 | (with_reducible first | refine ax fun hc=> ?_ | refine ay fun hc=> ?_ | refine az (fun hc=> ?_) fun hc=> ?_) <;> (try simp only [hc,bs, ↓reduceIte]at h) <;> try simp only [hc]
 | (with_reducible refine aA hQ ?_;(try cases h);simp only [aE,aF,aN,aO,go_sem,hD,hJ,hP,hY,c1,c2];try exact aQ)
 | (cases h;done))
   simp only [c1,c2,Bool.or_self,Bool.false_eq_true,if_false]at hR
   obtain⟨it,ni,K7⟩:=Nn hJ (by omega)
   rw [← ni]at hR
   have Be:it.length≤900000:=by
    have e:=congrArg List.length ni
    have e2:=(ou p).2 k f hJ
    obtain⟨a,b,e',_,_,e3,e4⟩:=e2
    have e5:=ov p
    have e6:=congrArg List.length e3
    rw [e4]at e5
    simp only [List.length_map,List.length_append]at e e5 e6
    omega
   repeat' (first
 | simp only [go_sem,hD,hJ,hP,hY,c1,c2]
 | (with_reducible refine CU (EA _) ?_)
 | (with_reducible refine CU (B2 _) ?_)
 | (with_reducible refine CU (NO (by with_unfolding_all rfl)) ?_)
 | (with_reducible refine CU (K7 _) ?_)
 | (with_reducible first | refine ax fun hc=> ?_ | refine ay fun hc=> ?_ | refine az (fun hc=> ?_) fun hc=> ?_) <;> (try simp only [hc,bs, ↓reduceIte]at h) <;> try simp only [hc]
 | (with_reducible refine aA hQ ?_;(try cases h);simp only [aE,aF,aN,aO,go_sem,hD,hJ,hP,hY,c1,c2];try exact aQ)
 | (cases h;done))
   obtain⟨q,hq⟩ : ∃ q,qN p f p.pn (it.map Im.s)=q:=⟨_,rfl⟩
   rw [hq]at hR
   refine cP 3 1 (bl.ind (ι:=List Im×Nat) (fun i=>it.drop i.2=i.1∧qN p f p.pn (i.1.map Im.s)=q) (fun i=>i.1.length)
    (fun i=> [(1, .ptr 0 0),(2, .ptr 1 0),(3, .slice (.tok 0) 1 (p.pn.map encStr)),(7, .dJ (jK p) 0),(9, .ptr 2 0),(57, .slice .shared 5 (p.procs.map bR)),(58, .int .i64 (p.procs.length:Int)),(59, .int .i64 (k:Int)),(76, .slice .shared 17 (it.map e8)),(77, .int .i64 (it.length:Int)),(78, .int .i64 (i.2:Int))]) (fun i=>⟨[bD p,[.int .i64 0, .int .i64 0],bR f],[some p.pn.length]⟩) ?_ (it,0) ⟨rfl,hq⟩)
   rintro⟨nZ,n⟩ ⟨j1,j2⟩ mC
   dsimp only at j1 j2
   have tZ:=hD
   cases nZ with
   | nil=>
    have EB:=drop_nil j1
    simp only [List.map_nil,qN]at j2
    subst j2
    simp only at hR
    repeat' (first
 | simp only [go_sem,hD,hJ,hP,hY,EB]
 | (with_reducible first | refine ax fun hc=> ?_ | refine ay fun hc=> ?_ | refine az (fun hc=> ?_) fun hc=> ?_) <;> (try simp only [hc,bs, ↓reduceIte]at h) <;> try simp only [hc]
 | (with_reducible refine aA hQ ?_;(try cases h);simp only [aE,aF,aN,aO,go_sem,hD,hJ,hP,hY,EB];try exact aQ)
 | (cases h;done))
    refine bX 2 1 ?_ ?_ (IH (rest,k+1) ⟨g2,hR⟩ (Nat.lt_succ_self _))
    ·(simp only [go_sem,hD,hJ,hP,hY,au bf];try exact aT)
    ·(simp only [go_sem,hD,hJ,hP,hY,au bf];try exact aT)
   | cons i nZ=>
    obtain⟨dH,kC,fv,zS⟩:=drop_cons j1
    have fw:n<4611686018427387904:=by omega
    have vO:i.s∈Sm.fk f.body:=by rw [← ni];exact List.mem_map_of_mem (List.mem_of_getElem? dH)
    have PC:=QO (v:=i.s) sd (procs:=p.pn) (by omega) (h.said sQ _ vO)
    simp only [List.map_cons,qN]at j2
    rcases Bool.eq_false_or_eq_true (i.s.known p f p.pn)with c3 | c3
    ·simp only [c3,if_true]at j2
     repeat' (first
 | simp only [go_sem,hD,hJ,hP,hY,fv,dH,c3]
 | (with_reducible refine CU (PC _ _) ?_)
 | (with_reducible first | refine ax fun hc=> ?_ | refine ay fun hc=> ?_ | refine az (fun hc=> ?_) fun hc=> ?_) <;> (try simp only [hc,bs, ↓reduceIte]at h) <;> try simp only [hc]
 | (with_reducible refine aA hQ ?_;(try cases h);simp only [aE,aF,aN,aO,go_sem,hD,hJ,hP,hY,fv,dH,c3];try exact aQ)
 | (cases h;done))
     refine bX 3 1 ?_ ?_ (mC (nZ,n+1) ⟨kC,j2⟩ (Nat.lt_succ_self _))
     ·(simp only [go_sem,hD,hJ,hP,hY,au fw];try exact aT)
     ·(simp only [go_sem,hD,hJ,hP,hY,au fw];try exact aT)
    ·simp only [c3,Bool.false_eq_true,if_false]at j2
     subst j2
     simp only at hR
     subst hR
     repeat' (first
 | simp only [go_sem,hD,hJ,hP,hY,fv,dH,c3]
 | (with_reducible refine CU (PC _ _) ?_)
 | (with_reducible first | refine ax fun hc=> ?_ | refine ay fun hc=> ?_ | refine az (fun hc=> ?_) fun hc=> ?_) <;> (try simp only [hc,bs, ↓reduceIte]at h) <;> try simp only [hc]
 | (with_reducible refine aA hQ ?_;(try cases h);simp only [aE,aF,aN,aO,go_sem,hD,hJ,hP,hY,fv,dH,c3];try exact aQ)
 | (cases h;done))
end Go.Abs

/-! Rng -/

namespace Go.Abs
mutual
def Ex.o6:Ex→Prop
 | ⟨_,n,_,kids⟩=>n≤9223372036854775807∧Ex.tC kids
def Ex.tC:List Ex→Prop
 | []=>True
 | x::l=>x.o6∧Ex.tC l
end
end Go.Abs

/-! FineM -/

namespace Go.Abs
mutual
def Sm.o6:Sm→Prop
 | ⟨_,_,_,_,_,x,_,args,bp,bc⟩=>x.o6∧(∀ a∈args,a.x.o6)∧Sm.tC bp∧Sm.tC bc
def Sm.tC:List Sm→Prop
 | []=>True
 | s::l=>s.o6∧Sm.tC l
end
def Pg.o6 (p:Pg):Prop:=∀ f∈p.procs,Sm.tC f.body
theorem B3 {f:Pc} : ∀ {l:List Pc} {n:Nat},Pc.eg n l=true→f∈l→(isName f.name=true∧dm f.vars=true∧dm f.fin=true∧Pm.dz f.params=true)∧∃ n,(Sm.fu 1 n f.body).1=true
 | g::l,n,h,m=>by
  simp only [Pc.eg]at h
  split at h
  ·cases h
  rename_i c1
  split at h
  ·cases h
  rename_i c2
  split at h
  ·cases h
  rename_i c3
  simp only [Bool.or_eq_true,Bool.not_eq_true',not_or,Bool.not_eq_false]at c1 c2 c3
  rcases List.mem_cons.1 m with rfl | m
  ·exact⟨⟨c1.1.1.2,c1.1.2,c1.2,c2⟩,n,c3⟩
  ·exact B3 h m
mutual
theorem IS : ∀ (s:Sm) (nest:Int) (n:Nat),(Sm.nG nest n s).1=true→s.size<4611686018427387000→s.p8
 | ⟨id,kind,labels,name,proc,x,has,args,bp,bc⟩,nest,n,hm,hs=>by
  obtain⟨_,_,h1,h2,h3,_⟩:=BW hm
  rw [yD]
  rw [(qq h2).2]at h2
  rw [(qq h3).2]at h3
  refine⟨Es h1 hs,rf bp _ _ h2 ?_,rf bc _ _ h3 ?_⟩ <;> simp only [Sm.size]at hs <;> omega
theorem rf : ∀ (l:List Sm) (nest:Int) (n:Nat),(Sm.eg nest n l).1=true→Sm.aU l<4611686018427387000→Sm.gJ l
 | [],_,_,_,_=>by simp only [Sm.gJ]
 | s::l,nest,n,hm,hs=>by
  simp only [Sm.eg]at hm
  simp only [Sm.aU]at hs
  split at hm
  ·cases hm
  rename_i hc
  simp only [Bool.not_eq_true',Bool.not_eq_false]at hc
  exact⟨IS s nest n hc (by omega),rf l nest _ hm (by omega)⟩
end
theorem B4 {p:Pg} (h:p.may=true) (hs:p.size<4611686018427387000):p.zM:=by
 have hf:=Nz h hs
 rw [← Bd]at h
 unfold Pg.Bb at h
 split at h
 ·cases h
 refine⟨hf.sz,hf.A8,hf.kc,fun f m=> ?_⟩
 obtain⟨_,n,e⟩:=B3 h m
 rw [(qq e).2]at e
 have:=Pc.bS m
 simp only [Pg.size]at hs
 exact rf f.body 1 n e (by unfold Pc.size at this;omega)
mutual
theorem IT {deep b8:Int} {bc:Bool} {out:List It} {i:It} : ∀ s:Sm,s.p8→i∈ga deep b8 bc out s→i∈out∨i.s.ik
 | ⟨id,kind,labels,name,proc,x,has,args,bp,e⟩,hf,h=>by
  simp only [ga]at h
  simp only [Sm.p8]at hf
  have key:i∈out++ [(⟨⟨id,kind,labels,name,proc,x,has,args,bp,e⟩,deep,b8,bc⟩:It)]→i∈out∨i.s.ik:=by
   intro h
   rcases List.mem_append.1 h with h | h
   ·exact .inl h
   ·simp at h;subst h;exact .inr hf.1
  split at h
  ·rcases rh e hf.2.2 h with h | h
   ·rcases rh bp hf.2.1 h with h | h
    ·exact key h
    ·exact .inr h
   ·exact .inr h
  ·exact key h
theorem rh {deep b8:Int} {bc:Bool} {out:List It} {i:It} : ∀ l:List Sm,Sm.gJ l→i∈de deep b8 bc out l→i∈out∨i.s.ik
 | [],_,h=>by simp only [de]at h;exact .inl h
 | s::l,hf,h=>by
  simp only [de]at h
  simp only [Sm.gJ]at hf
  split at h
  ·rcases rh l hf.2 h with h | h
   ·exact IT s hf.1 h
   ·exact .inr h
  ·exact .inl h
end
theorem B5 {i:It} : ∀ (l:List Pc) (out:List It),(∀ f∈l,Sm.gJ f.body)→i∈allM out l→i∈out∨i.s.ik
 | [],out,_,h=>by simp only [allM]at h;exact .inl h
 | f::l,out,hf,h=>by
  have key:i∈out++f.flat→i∈out∨i.s.ik:=by
   intro h
   rcases List.mem_append.1 h with h | h
   ·exact .inl h
   ·rcases rh _ (hf f (List.mem_cons_self ..)) h with h | h
    ·simp at h
    ·exact .inr h
  simp only [allM]at h
  split at h
  ·exact key h
  ·rcases B5 l _ (fun g m=>hf g (List.mem_cons_of_mem _ m)) h with h | h
   ·exact key h
   ·exact .inr h
theorem IU {p:Pg} (h:p.zM):p.ik:=⟨h.sz,h.A8,h.kc,fun i hi=>(B5 p.procs [] h.body hi).resolve_left (by simp)⟩
end Go.Abs

/-! Sc5 -/

namespace Go.Abs
set_option maxRecDepth 8000
open Go.Proofs
theorem NP (x:It):(dO x)[1]? = some (.int .i64 x.s.kind):=nd rfl
theorem NQ (x:It):(dO x)[3]? = some (.str x.s.name):=nd rfl
theorem NR (x:It):(dO x)[4]? = some (.str x.s.proc):=nd rfl
theorem QP (x:It):List.take 16 (dO x)=dO x:=nd rfl
attribute [go_sem] NP NQ NR QP
theorem Bf {a:List aH} (h:a≠ []) (hl:a.length≤1000000000) {z:Nat} {g:Tag} (o:List (List D)) (T:List (Option Nat)) :
 gC 1 16 (.slice .full z []) (.slice g 1 (a.map encStr)) ⟨o,T⟩=some (.slice (.tok T.length) 1 (a.map encStr),⟨o,T++ [some a.length]⟩):=by
 have:a.length*17≤bk:=by unfold bk;omega
 cases a with
 | nil=>exact absurd rfl h
 | cons x r=>simp only [List.length_cons]at this;simp [gC,this]
theorem rl {z:Nat} {g:Tag} (o:List (List D)) (T:List (Option Nat)) :
 gC 1 16 (.slice .full z []) (.slice g 1 []) ⟨o,T⟩=some (.slice .full z [],⟨o,T⟩):=by simp [gC,bk]
theorem xd {l nx:List aH} (h:l.length+nx.length≤1000000000) {g:Tag} {n0:Option Nat} (o:List (List D)) :
 gC 1 16 (.slice (.tok 1) 1 (l.map encStr)) (.slice g 1 (nx.map encStr)) ⟨o,[n0,some l.length]⟩=some (.slice (.tok 1) 1 ((l++nx).map encStr),⟨o,[n0,some (l++nx).length]⟩):=by
 have:=yp (size:=1) (bytes:=16) (t:=1) (rows:=l.map encStr) (new:=nx.map encStr) (g:=g) (s:=⟨o,[n0,some l.length]⟩) (by simp only [List.length_map];unfold bk;omega) (by simp)
 rw [this]
 simp
theorem FD {p:Pg} (h:p.iQ):p.ik:=IU h.IQ
theorem NS {p:Pg} (h:p.iQ) (s:St):aD Tryz.prog rM [.agg (bD p)] s (.agg [.int .i64 p.scope.1, .int .i64 p.scope.2]) s:=by
 refine aD.pure ?_ (by simp [D.bM,D.ok,fT]) rfl s
 have hm:=fun s=>Wl (FD h) s
 obtain⟨oj,ng,oZ⟩:=h.procs
 have kB:=fun s=>yG (l:=p.globals) (by omega) .shared s
 have hpn:p.pn.length=p.procs.length:=by simp [Pg.pn]
 have rC:=fun g s=>yG (l:=p.pn) (by omega) g s
 have o3:=fun s=>xD (p:=p) (by omega) jL s
 have vk:=fun s=>(show aD Tryz.prog jE [.agg (bD p), .str [109,97,105,110]] s (gY (p.find jL)) s from o3 s)
 clear o3
 generalize hR:p.scope=R
 simp only [Pg.scope]at hR
 unfold S0
 rcases Bool.eq_false_or_eq_true p.may with hb | hb
 case inr=>
  simp only [hb]at hm
  simp only [hb,Bool.false_eq_true,if_false]at hR
  subst hR
  refine aD.go uh rfl fun B Q hB hQ=> ?_
  have⟨hD,hJ,hP,hY⟩:=bK
  repeat' (first
 | simp only [go_sem,hD,hJ,hP,hY]
 | (with_reducible refine CU (hm _) ?_)
 | (with_reducible refine CU (gk _ _ _) ?_)
 | (with_reducible first | refine ax fun hc=> ?_ | refine ay fun hc=> ?_ | refine az (fun hc=> ?_) fun hc=> ?_) <;> (try simp only [hc,bs, ↓reduceIte]at h) <;> try simp only [hc]
 | (with_reducible refine aA hQ ?_;exact bx)
 | (cases h;done))
 have Ws:=(nk hb).1
 simp only [hb]at hm
 simp only [hb,if_true]at hR
 refine aD.go uh rfl fun B Q hB hQ=> ?_
 have⟨hD,hJ,hP,hY⟩:=bK
 repeat' (first
 | simp only [go_sem,hD,hJ,hP,hY]
 | (with_reducible refine CU (hm _) ?_)
 | (with_reducible first | refine ax fun hc=> ?_ | refine ay fun hc=> ?_ | refine az (fun hc=> ?_) fun hc=> ?_) <;> (try simp only [hc,bs, ↓reduceIte]at h) <;> try simp only [hc]
 | (with_reducible refine aA hQ ?_;exact bx)
 | (cases h;done))
 refine bl.kT 3 1 rfl ?_
 simp only [go_sem,hD,hJ,hP,hY]
 refine cP 2 1 (bl.ind (ι:=List Pc×Nat×List aH×Nat) (fun i=>p.procs.drop i.2.1=i.1∧i.2.2.1++i.1.map (·.name)=p.pn∧i.2.2.2=i.2.2.1.length) (fun i=>i.1.length)
  (fun i=> [(1, .ptr 0 0),(2, .ptr 1 0),(3, .slice (.tok 0) 1 (i.2.2.1.map encStr)),(19, .slice .shared 5 (p.procs.map bR)),(20, .int .i64 (p.procs.length:Int)),(21, .int .i64 (i.2.1:Int))]) (fun i=>⟨[bD p,[.int .i64 0, .int .i64 0]],[some i.2.2.2]⟩) ?_ (p.procs,0,[],0) ⟨rfl,rfl,rfl⟩)
 rintro⟨rest,k,out,n⟩ ⟨h1,h2,h3⟩ IH
 dsimp only at h1 h2 h3
 subst h3
 have Xq:out.length+rest.length≤900000:=by
  have:=congrArg List.length h2
  simp only [List.length_append,List.length_map]at this
  omega
 cases rest with
 | cons a rest=>
  obtain⟨hJ,g2,hD,g4⟩:=drop_cons h1
  have bf:k<4611686018427387904:=by omega
  have hP:(out.length+1)*17≤bk:=by unfold bk;omega
  repeat' (first
 | simp only [go_sem,hD,hJ,hP,hY]
 | (with_reducible first | refine ax fun hc=> ?_ | refine ay fun hc=> ?_ | refine az (fun hc=> ?_) fun hc=> ?_) <;> (try simp only [hc,bs, ↓reduceIte]at h) <;> try simp only [hc]
 | (with_reducible refine aA hQ ?_;exact bx)
 | (cases h;done))
  refine bX 2 1 ?_ ?_ (IH (rest,k+1,out++ [a.name],out.length+1) ⟨g2,by rw [← h2];simp,by simp⟩ (Nat.lt_succ_self _))
  ·(simp only [go_sem,hD,hJ,hP,hY,au bf,List.map_append,List.map_cons,List.map_nil,encStr];try exact aT)
  ·(simp only [go_sem,hD,hJ,hP,hY,au bf,List.map_append,List.map_cons,List.map_nil,encStr];try exact aT)
 | nil=>
  have hD:=drop_nil h1
  simp only [List.map_nil,List.append_nil]at h2
  subst h2
  rcases Bool.eq_false_or_eq_true (ez p.globals)with b1 | b1
  ·simp only [b1,Bool.true_or,if_true]at hR
   subst hR
   cases qR:p.find jL <;> simp only [qR,gY,Option.getD_none,Option.getD_some,Option.isSome_none,Option.isSome_some]at vk
   all_goals
    repeat' (first
 | simp only [go_sem,hD,hJ,hP,hY,b1]
 | (with_reducible refine CU (vk _) ?_)
 | (with_reducible refine CU (kB _) ?_)
 | (with_reducible refine CU (rC _ _) ?_)
 | (with_reducible refine CU (gk _ _ _) ?_)
 | (with_reducible first | refine ax fun hc=> ?_ | refine ay fun hc=> ?_ | refine az (fun hc=> ?_) fun hc=> ?_) <;> (try simp only [hc,bs, ↓reduceIte]at h) <;> try simp only [hc]
 | (with_reducible refine aA hQ ?_;(try cases h);simp only [aE,aF,aN,aO,go_sem,hD,hJ,hP,hY,b1];try exact aQ)
 | (cases h;done))
  rcases Bool.eq_false_or_eq_true (ez p.pn)with b2 | b2
  ·simp only [b1,b2,Bool.true_or,Bool.or_true,if_true]at hR
   subst hR
   cases qR:p.find jL <;> simp only [qR,gY,Option.getD_none,Option.getD_some,Option.isSome_none,Option.isSome_some]at vk
   all_goals
    repeat' (first
 | simp only [go_sem,hD,hJ,hP,hY,b1,b2]
 | (with_reducible refine CU (vk _) ?_)
 | (with_reducible refine CU (kB _) ?_)
 | (with_reducible refine CU (rC _ _) ?_)
 | (with_reducible refine CU (gk _ _ _) ?_)
 | (with_reducible first | refine ax fun hc=> ?_ | refine ay fun hc=> ?_ | refine az (fun hc=> ?_) fun hc=> ?_) <;> (try simp only [hc,bs, ↓reduceIte]at h) <;> try simp only [hc]
 | (with_reducible refine aA hQ ?_;(try cases h);simp only [aE,aF,aN,aO,go_sem,hD,hJ,hP,hY,b1,b2];try exact aQ)
 | (cases h;done))
  cases qR:p.find jL with
  | none=>
   simp only [qR,gY,Option.getD_none,Option.isSome_none]at vk
   have b3:p.nS=true:=by unfold Pg.nS;rw [qR]
   simp only [b1,b2,b3,Bool.or_true,if_true]at hR
   subst hR
   repeat' (first
 | simp only [go_sem,hD,hJ,hP,hY,b1,b2]
 | (with_reducible refine CU (vk _) ?_)
 | (with_reducible refine CU (kB _) ?_)
 | (with_reducible refine CU (rC _ _) ?_)
 | (with_reducible refine CU (gk _ _ _) ?_)
 | (with_reducible first | refine ax fun hc=> ?_ | refine ay fun hc=> ?_ | refine az (fun hc=> ?_) fun hc=> ?_) <;> (try simp only [hc,bs, ↓reduceIte]at h) <;> try simp only [hc]
 | (with_reducible refine aA hQ ?_;(try cases h);simp only [aE,aF,aN,aO,go_sem,hD,hJ,hP,hY,b1,b2];try exact aQ)
 | (cases h;done))
  | some m=>
  simp only [qR,gY,Option.getD_some,Option.isSome_some]at vk
  have b3:p.nS=decide ((m.params.length:Int) > 0):=by unfold Pg.nS;rw [qR]
  rw [b3]at hR
  rcases Bool.eq_false_or_eq_true (decide ((m.params.length:Int) > 0))with b4 | b4
  ·simp only [b1,b2,b4,Bool.or_true,if_true]at hR
   subst hR
   repeat' (first
 | simp only [go_sem,hD,hJ,hP,hY,b1,b2,b4]
 | (with_reducible refine CU (vk _) ?_)
 | (with_reducible refine CU (kB _) ?_)
 | (with_reducible refine CU (rC _ _) ?_)
 | (with_reducible refine CU (gk _ _ _) ?_)
 | (with_reducible first | refine ax fun hc=> ?_ | refine ay fun hc=> ?_ | refine az (fun hc=> ?_) fun hc=> ?_) <;> (try simp only [hc,bs, ↓reduceIte]at h) <;> try simp only [hc]
 | (with_reducible refine aA hQ ?_;(try cases h);simp only [aE,aF,aN,aO,go_sem,hD,hJ,hP,hY,b1,b2,b4];try exact aQ)
 | (cases h;done))
  simp only [b1,b2,b4,Bool.or_false,Bool.false_eq_true,if_false]at hR
  repeat' (first
 | simp only [go_sem,hD,hJ,hP,hY,b1,b2,b4]
 | (with_reducible refine CU (vk _) ?_)
 | (with_reducible refine CU (kB _) ?_)
 | (with_reducible refine CU (rC _ _) ?_)
 | (with_reducible refine CU (gk _ _ _) ?_)
 | (with_reducible first | refine ax fun hc=> ?_ | refine ay fun hc=> ?_ | refine az (fun hc=> ?_) fun hc=> ?_) <;> (try simp only [hc,bs, ↓reduceIte]at h) <;> try simp only [hc]
 | (with_reducible refine aA hQ ?_;(try cases h);simp only [aE,aF,aN,aO,go_sem,hD,hJ,hP,hY,b1,b2,b4];try exact aQ)
 | (cases h;done))
  refine cP 2 1 (bl.ind (ι:=List Pc×Nat) (fun i=>p.procs.drop i.2=i.1∧nR p p.pn i.1=R) (fun i=>i.1.length)
   (fun i=> [(1, .ptr 0 0),(2, .ptr 1 0),(3, .slice (.tok 0) 1 (p.pn.map encStr)),(55, .slice .shared 5 (p.procs.map bR)),(56, .int .i64 (p.procs.length:Int)),(57, .int .i64 (i.2:Int))]) (fun i=>⟨[bD p,[.int .i64 0, .int .i64 0]],[some p.pn.length]⟩) ?_ (p.procs,0) ⟨rfl,hR⟩)
  clear IH h1 hD hR
  rintro⟨rest,k⟩ ⟨h1,hR⟩ IH
  dsimp only at h1 hR
  cases rest with
  | nil=>
   have hD:=drop_nil h1
   simp only [nR]at hR
   subst hR
   repeat' (first
 | simp only [go_sem,hD,hJ,hP,hY]
 | (with_reducible first | refine ax fun hc=> ?_ | refine ay fun hc=> ?_ | refine az (fun hc=> ?_) fun hc=> ?_) <;> (try simp only [hc,bs, ↓reduceIte]at h) <;> try simp only [hc]
 | (with_reducible refine aA hQ ?_;exact bx)
 | (cases h;done))
  | cons f rest=>
   obtain⟨hJ,g2,hD,g4⟩:=drop_cons h1
   have bf:k<4611686018427387904:=by omega
   have sQ:=List.mem_of_getElem? hJ
   have sd:=h.small sQ
   have Xr:=fun s=>NM (f:=f) sd.par s
   have ajU:f.nj.length<1000000:=by have h1:=sd.par;unfold Pc.nj;simpa using h1
   have hvl:=sd.vars
   have hxl:(p.globals++f.own).length<4611686018427387904:=by unfold Pc.own;simp;omega
   have IV:=fun g s=>yG (l:=p.globals++f.own) hxl g s
   have rA:Sm.aU f.body<4611686018427387000:=by have:=Pc.bS sQ;simp only [Pc.size]at this;omega
   have iZ:=fun s=>w5 (f:=f) rA s
   have ni:=Ws f sQ
   have Be:f.flat.length≤201:=f.pM
   simp only [nR]at hR
   rw [← ni]at hR
   obtain⟨q,hq⟩ : ∃ q,qN p f p.pn (f.flat.map It.s)=q:=⟨_,rfl⟩
   rw [hq]at hR
   have hc4 : ∃ (dA dB dC:D) (T1 T2 T3:List (Option Nat)),(∀ s,aD Tryz.prog kX [dC] s (.bool (ez (p.globals++f.own))) s)∧
    (∀ o,gC 1 16 (.slice .full 1 []) (.slice .shared 1 (p.globals.map encStr)) ⟨o,[some p.pn.length]⟩=some (dA,⟨o,some p.pn.length::T1⟩))∧
    (∀ o,gC 1 16 dA (.slice .shared 1 (f.nj.map encStr)) ⟨o,some p.pn.length::T1⟩=some (dB,⟨o,some p.pn.length::T2⟩))∧
    (∀ o,gC 1 16 dB (.slice .shared 1 (f.vars.map encStr)) ⟨o,some p.pn.length::T2⟩=some (dC,⟨o,some p.pn.length::T3⟩)):=by
    have xe:f.own=f.nj++f.vars:=rfl
    by_cases z1:p.globals = []
    ·rw [z1]
     by_cases z2:f.nj = []
     ·rw [z2]
      by_cases z3:f.vars = []
      ·rw [z3]
       refine⟨.slice .full 1 [], .slice .full 1 [], .slice .full 1 [],[],[],[],fun s=> ?_,fun o=>rl o _,fun o=>rl o _,fun o=>rl o _⟩
       have:=IV .full s
       rw [xe,z1,z2,z3]at this
       rw [xe,z2,z3]
       exact this
      ·refine⟨.slice .full 1 [], .slice .full 1 [],_,[],[],_,fun s=> ?_,fun o=>rl o _,fun o=>rl o _,fun o=>Bf z3 (by omega) o _⟩
       have:=IV (.tok 1) s
       rw [xe,z1,z2]at this
       rw [xe,z2]
       exact this
     ·refine⟨.slice .full 1 [],_,_,[],_,_,fun s=> ?_,fun o=>rl o _,fun o=>Bf z2 (by omega) o _,fun o=>xd (by omega) o⟩
      have:=IV (.tok 1) s
      rw [xe,z1]at this
      rw [xe]
      exact this
    ·refine⟨_,_,_,_,_,_,fun s=> ?_,fun o=>Bf z1 (by omega) o _,fun o=>xd (by omega) o,fun o=>xd (by simp;omega) o⟩
     have:=IV (.tok 1) s
     rw [xe, ← List.append_assoc]at this
     rw [xe, ← List.append_assoc]
     exact this
   obtain⟨dA,dB,dC,T1,T2,T3,F9,eA,eB,eC⟩:=hc4
   rcases Bool.eq_false_or_eq_true (ez (p.globals++f.own))with c1 | c1
   ·simp only [c1,if_true]at F9 hR
    subst hR
    repeat' (first
 | simp only [go_sem,hD,hJ,hP,hY,eA,eB,eC]
 | (with_reducible refine CU (Xr _) ?_)
 | (with_reducible refine CU (F9 _) ?_)
 | (with_reducible refine CU (gk _ _ _) ?_)
 | (with_reducible refine CU (iZ _) ?_)
 | (with_reducible first | refine ax fun hc=> ?_ | refine ay fun hc=> ?_ | refine az (fun hc=> ?_) fun hc=> ?_) <;> (try simp only [hc,bs, ↓reduceIte]at h) <;> try simp only [hc]
 | (with_reducible refine aA hQ ?_;(try cases h);simp only [aE,aF,aN,aO,go_sem,hD,hJ,hP,hY,eA,eB,eC];try exact aQ)
 | (cases h;done))
   simp only [c1,Bool.false_eq_true,if_false]at F9 hR
   repeat' (first
 | simp only [go_sem,hD,hJ,hP,hY,eA,eB,eC]
 | (with_reducible refine CU (Xr _) ?_)
 | (with_reducible refine CU (F9 _) ?_)
 | (with_reducible refine CU (gk _ _ _) ?_)
 | (with_reducible refine CU (iZ _) ?_)
 | (with_reducible first | refine ax fun hc=> ?_ | refine ay fun hc=> ?_ | refine az (fun hc=> ?_) fun hc=> ?_) <;> (try simp only [hc,bs, ↓reduceIte]at h) <;> try simp only [hc]
 | (with_reducible refine aA hQ ?_;(try cases h);simp only [aE,aF,aN,aO,go_sem,hD,hJ,hP,hY,eA,eB,eC];try exact aQ)
 | (cases h;done))
   refine cP 3 1 (bl.ind (ι:=List It×Nat) (fun i=>f.flat.drop i.2=i.1∧qN p f p.pn (i.1.map It.s)=q) (fun i=>i.1.length)
    (fun i=> [(1, .ptr 0 0),(2, .ptr 1 0),(3, .slice (.tok 0) 1 (p.pn.map encStr)),(9, .ptr 2 0),(55, .slice .shared 5 (p.procs.map bR)),(56, .int .i64 (p.procs.length:Int)),(57, .int .i64 (k:Int)),(74, .slice .shared 16 (f.flat.map dO)),(75, .int .i64 (f.flat.length:Int)),(76, .int .i64 (i.2:Int))]) (fun i=>⟨[bD p,[.int .i64 0, .int .i64 0],bR f],[some p.pn.length]⟩) ?_ (f.flat,0) ⟨rfl,hq⟩)
   rintro⟨nZ,n⟩ ⟨j1,j2⟩ mC
   dsimp only at j1 j2
   cases nZ with
   | nil=>
    have EB:=drop_nil j1
    simp only [List.map_nil,qN]at j2
    subst j2
    simp only at hR
    repeat' (first
 | simp only [go_sem,hD,hJ,hP,hY,EB]
 | (with_reducible first | refine ax fun hc=> ?_ | refine ay fun hc=> ?_ | refine az (fun hc=> ?_) fun hc=> ?_) <;> (try simp only [hc,bs, ↓reduceIte]at h) <;> try simp only [hc]
 | (with_reducible refine aA hQ ?_;(try cases h);simp only [aE,aF,aN,aO,go_sem,hD,hJ,hP,hY,EB];try exact aQ)
 | (cases h;done))
    refine bX 2 1 ?_ ?_ (IH (rest,k+1) ⟨g2,hR⟩ (Nat.lt_succ_self _))
    ·(simp only [go_sem,hD,hJ,hP,hY,au bf];try exact aT)
    ·(simp only [go_sem,hD,hJ,hP,hY,au bf];try exact aT)
   | cons i nZ=>
    obtain⟨dH,kC,fv,zS⟩:=drop_cons j1
    have fw:n<4611686018427387904:=by omega
    have vO:i.s∈Sm.fk f.body:=by rw [← ni];exact List.mem_map_of_mem (List.mem_of_getElem? dH)
    have xV:=h.said sQ _ vO
    have BQ:=fun s=>x8 xV s
    have xf:=vj _ xV
    have Xs:=fun nm s=>FC (p:=p) (f:=f) (by have:=sd.par;omega) (by have:=sd.vars;omega) (by omega) nm s
    have kD:=vi (l:=p.pn) (by omega) i.s.proc
    simp only [List.map_cons,qN]at j2
    repeat' (first
 | simp only [go_sem,hD,hJ,hP,hY,fv,dH]
 | (with_reducible refine CU (BQ _) ?_)
 | (with_reducible first | refine ax fun hc=> ?_ | refine ay fun hc=> ?_ | refine az (fun hc=> ?_) fun hc=> ?_) <;> (try simp only [hc,bs, ↓reduceIte]at h) <;> try simp only [hc]
 | (with_reducible refine aA hQ ?_;(try cases h);simp only [aE,aF,aN,aO,go_sem,hD,hJ,hP,hY,fv,dH];try exact aQ)
 | (cases h;done))
    obtain⟨q2,JB⟩ : ∃ q2,p9 p f i.s.said=q2:=⟨_,rfl⟩
    have PC:i.s.known p f p.pn=(q2 && (i.s.kind != 4 || (i.s.proc != jL && dv p.pn i.s.proc))):=by rw [← JB,xb];rfl
    rw [PC]at j2
    refine cP 4 1 (bl.ind (ι:=List aH×Nat) (fun j=>i.s.said.drop j.2=j.1∧p9 p f j.1=q2) (fun j=>j.1.length)
     (fun j=> [(1, .ptr 0 0),(2, .ptr 1 0),(3, .slice (.tok 0) 1 (p.pn.map encStr)),(9, .ptr 2 0),(11, .ptr 3 0),(55, .slice .shared 5 (p.procs.map bR)),(56, .int .i64 (p.procs.length:Int)),(57, .int .i64 (k:Int)),(74, .slice .shared 16 (f.flat.map dO)),(75, .int .i64 (f.flat.length:Int)),(76, .int .i64 (n:Int)),(82, .slice .shared 1 (i.s.said.map encStr)),(83, .int .i64 (i.s.said.length:Int)),(84, .int .i64 (j.2:Int))]) (fun j=>⟨[bD p,[.int .i64 0, .int .i64 0],bR f,dO i],[some p.pn.length]⟩) ?_ (i.s.said,0) ⟨rfl,JB⟩)
    rintro⟨kg,m2⟩ ⟨l1,l2⟩ sc
    dsimp only at l1 l2
    cases kg with
    | cons a kg=>
     obtain⟨o7,EC,sX,Xt⟩:=drop_cons l1
     have vP:m2<4611686018427387904:=by omega
     simp only [p9]at l2
     rcases Bool.eq_false_or_eq_true (f.iJ p a==0)with d1 | d1
     ·simp only [d1,if_true]at l2
      subst l2
      simp only [Bool.false_and,Bool.false_eq_true,if_false]at j2
      subst j2
      simp only at hR
      subst hR
      repeat' (first
 | simp only [go_sem,hD,hJ,hP,hY,sX,o7,d1]
 | (with_reducible refine CU (Xs _ _) ?_)
 | (with_reducible refine CU (gk _ _ _) ?_)
 | (with_reducible first | refine ax fun hc=> ?_ | refine ay fun hc=> ?_ | refine az (fun hc=> ?_) fun hc=> ?_) <;> (try simp only [hc,bs, ↓reduceIte]at h) <;> try simp only [hc]
 | (with_reducible refine aA hQ ?_;(try cases h);simp only [aE,aF,aN,aO,go_sem,hD,hJ,hP,hY,sX,o7,d1];try exact aQ)
 | (cases h;done))
     ·simp only [d1,Bool.false_eq_true,if_false]at l2
      repeat' (first
 | simp only [go_sem,hD,hJ,hP,hY,sX,o7,d1]
 | (with_reducible refine CU (Xs _ _) ?_)
 | (with_reducible refine CU (gk _ _ _) ?_)
 | (with_reducible first | refine ax fun hc=> ?_ | refine ay fun hc=> ?_ | refine az (fun hc=> ?_) fun hc=> ?_) <;> (try simp only [hc,bs, ↓reduceIte]at h) <;> try simp only [hc]
 | (with_reducible refine aA hQ ?_;(try cases h);simp only [aE,aF,aN,aO,go_sem,hD,hJ,hP,hY,sX,o7,d1];try exact aQ)
 | (cases h;done))
      refine bX 4 1 ?_ ?_ (sc (kg,m2+1) ⟨EC,l2⟩ (Nat.lt_succ_self _))
      ·(simp only [go_sem,hD,hJ,hP,hY,au vP];try exact aT)
      ·(simp only [go_sem,hD,hJ,hP,hY,au vP];try exact aT)
    | nil=>
     have xg:=drop_nil l1
     simp only [p9]at l2
     subst l2
     simp only [Bool.true_and]at j2
     unfold jL at j2
     have b5:(i.s.kind==4) = !(i.s.kind != 4):=by simp only [bne,Bool.not_not]
     have b6:(i.s.proc == [109,97,105,110]) = !(i.s.proc != [109,97,105,110]):=by simp only [bne,Bool.not_not]
     rcases Bool.eq_false_or_eq_true (i.s.kind != 4)with d1 | d1
     ·simp only [d1,Bool.true_or,if_true]at j2
      simp only [d1,Bool.not_true]at b5
      repeat' (first
 | simp only [go_sem,hD,hJ,hP,hY,xg,b5,d1]
 | (with_reducible refine CU (kD _ _) ?_)
 | (with_reducible refine CU (gk _ _ _) ?_)
 | (with_reducible first | refine ax fun hc=> ?_ | refine ay fun hc=> ?_ | refine az (fun hc=> ?_) fun hc=> ?_) <;> (try simp only [hc,bs, ↓reduceIte]at h) <;> try simp only [hc]
 | (with_reducible refine aA hQ ?_;(try cases h);simp only [aE,aF,aN,aO,go_sem,hD,hJ,hP,hY,xg,b5,d1];try exact aQ)
 | (cases h;done))
      refine bX 3 1 ?_ ?_ (mC (nZ,n+1) ⟨kC,j2⟩ (Nat.lt_succ_self _))
      ·(simp only [go_sem,hD,hJ,hP,hY,au fw];try exact aT)
      ·(simp only [go_sem,hD,hJ,hP,hY,au fw];try exact aT)
     ·simp only [d1,Bool.false_or]at j2
      simp only [d1,Bool.not_false]at b5
      rcases Bool.eq_false_or_eq_true (i.s.proc != [109,97,105,110])with d2 | d2
      ·simp only [d2,Bool.true_and]at j2
       simp only [d2,Bool.not_true]at b6
       rcases Bool.eq_false_or_eq_true (dv p.pn i.s.proc)with d3 | d3
       ·simp only [d3,if_true]at j2
        repeat' (first
 | simp only [go_sem,hD,hJ,hP,hY,xg,b5,d1,b6,d2,d3]
 | (with_reducible refine CU (kD _ _) ?_)
 | (with_reducible refine CU (gk _ _ _) ?_)
 | (with_reducible first | refine ax fun hc=> ?_ | refine ay fun hc=> ?_ | refine az (fun hc=> ?_) fun hc=> ?_) <;> (try simp only [hc,bs, ↓reduceIte]at h) <;> try simp only [hc]
 | (with_reducible refine aA hQ ?_;(try cases h);simp only [aE,aF,aN,aO,go_sem,hD,hJ,hP,hY,xg,b5,d1,b6,d2,d3];try exact aQ)
 | (cases h;done))
        refine bX 3 1 ?_ ?_ (mC (nZ,n+1) ⟨kC,j2⟩ (Nat.lt_succ_self _))
        ·(simp only [go_sem,hD,hJ,hP,hY,au fw];try exact aT)
        ·(simp only [go_sem,hD,hJ,hP,hY,au fw];try exact aT)
       ·simp only [d3,Bool.false_eq_true,if_false]at j2
        subst j2
        simp only at hR
        subst hR
        repeat' (first
 | simp only [go_sem,hD,hJ,hP,hY,xg,b5,d1,b6,d2,d3]
 | (with_reducible refine CU (kD _ _) ?_)
 | (with_reducible refine CU (gk _ _ _) ?_)
 | (with_reducible first | refine ax fun hc=> ?_ | refine ay fun hc=> ?_ | refine az (fun hc=> ?_) fun hc=> ?_) <;> (try simp only [hc,bs, ↓reduceIte]at h) <;> try simp only [hc]
 | (with_reducible refine aA hQ ?_;(try cases h);simp only [aE,aF,aN,aO,go_sem,hD,hJ,hP,hY,xg,b5,d1,b6,d2,d3];try exact aQ)
 | (cases h;done))
      ·simp only [d2,Bool.false_and,Bool.false_eq_true,if_false]at j2
       simp only [d2,Bool.not_false]at b6
       subst j2
       simp only at hR
       subst hR
       repeat' (first
 | simp only [go_sem,hD,hJ,hP,hY,xg,b5,d1,b6,d2]
 | (with_reducible refine CU (kD _ _) ?_)
 | (with_reducible refine CU (gk _ _ _) ?_)
 | (with_reducible first | refine ax fun hc=> ?_ | refine ay fun hc=> ?_ | refine az (fun hc=> ?_) fun hc=> ?_) <;> (try simp only [hc,bs, ↓reduceIte]at h) <;> try simp only [hc]
 | (with_reducible refine aA hQ ?_;(try cases h);simp only [aE,aF,aN,aO,go_sem,hD,hJ,hP,hY,xg,b5,d1,b6,d2];try exact aQ)
 | (cases h;done))
end Go.Abs

/-! Ar1 -/

namespace Go.Abs
set_option maxRecDepth 8000
open Go.Proofs
def sY:List Pm→List Ar→Bool
 | [],_=>true
 | _,[]=>true
 | a::l,b::m=>if a.ref==b.ref then sY l m else false
def xF (l:List Pm) (m:List Ar):Bool:=if(l.length:Int)==(m.length:Int)then sY l m else false
def Sm.gL (p:Pg) (v:Sm):Bool:=v.kind==4 && match p.find v.proc with | none=>false | some q=>xF q.params v.args
theorem Tl {l:List Pm} {m:List Ar} (hl:l.length<1000000000) (hm:m.length<1000000000) (s:St):aD Tryz.prog rR [.slice .shared 2 (l.map fI), .slice .shared 6 (m.map dt)] s (.bool (xF l m)) s:=by
 refine aD.pure ?_ (by simp [D.bM,D.ok,Tag.ok,UY,CZ]) rfl s
 generalize h:xF l m=q
 simp only [xF]at h
 unfold S0
 have b0:((l.length:Int) != (m.length:Int)) = !((l.length:Int)==(m.length:Int)):=rfl
 rcases Bool.eq_false_or_eq_true ((l.length:Int)==(m.length:Int))with b1 | b1
 case inr=>
  rw [b1]at b0
  simp only [b1,Bool.false_eq_true,if_false]at h
  subst h
  refine aD.go uu rfl fun B Q hB hQ=> ?_
  have⟨hD,hJ,hP,hY⟩:=bK
  repeat' (first
 | simp only [go_sem,hD,hJ,hP,hY,b0,Bool.not_false]
 | (with_reducible first | refine ax fun hc=> ?_ | refine ay fun hc=> ?_ | refine az (fun hc=> ?_) fun hc=> ?_) <;> (try simp only [hc,bs, ↓reduceIte]at h) <;> try simp only [hc]
 | (with_reducible refine aA hQ ?_;(try cases h);simp only [aE,aF,aN,aO,go_sem,hD,hJ,hP,hY,b0,Bool.not_false];try exact aQ)
 | (cases h;done))
 rw [b1]at b0
 simp only [b1,if_true]at h
 have Xu:l.length=m.length:=by have:=eq_of_beq b1;omega
 refine aD.go uu rfl fun B Q hB hQ=> ?_
 have⟨hD,hJ,hP,hY⟩:=bK
 repeat' (first
 | simp only [go_sem,hD,hJ,hP,hY,b0,Bool.not_true]
 | (with_reducible first | refine ax fun hc=> ?_ | refine ay fun hc=> ?_ | refine az (fun hc=> ?_) fun hc=> ?_) <;> (try simp only [hc,bs, ↓reduceIte]at h) <;> try simp only [hc]
 | (with_reducible refine aA hQ ?_;(try cases h);simp only [aE,aF,aN,aO,go_sem,hD,hJ,hP,hY,b0,Bool.not_true];try exact aQ)
 | (cases h;done))
 refine cP 0 0 (bl.ind (ι:=List Pm×List Ar×Nat) (fun i=>l.drop i.2.2=i.1∧m.drop i.2.2=i.2.1∧sY i.1 i.2.1=q) (fun i=>i.1.length)
  (fun i=> [(1, .slice .shared 6 (m.map dt)),(12, .slice .shared 2 (l.map fI)),(13, .int .i64 (l.length:Int)),(14, .int .i64 (i.2.2:Int))]) (fun i=>⟨[],[]⟩) ?_ (l,m,0) ⟨rfl,rfl,h⟩)
 rintro⟨r1,r2,k⟩ ⟨h1,h2,h⟩ IH
 dsimp only at h1 h2 h
 cases r1 with
 | nil=>
  have hD:=drop_nil h1
  simp only [sY]at h
  subst h
  repeat' (first
 | simp only [go_sem,hD,hJ,hP,hY]
 | (with_reducible first | refine ax fun hc=> ?_ | refine ay fun hc=> ?_ | refine az (fun hc=> ?_) fun hc=> ?_) <;> (try simp only [hc,bs, ↓reduceIte]at h) <;> try simp only [hc]
 | (with_reducible refine aA hQ ?_;exact bx)
 | (cases h;done))
 | cons a r1=>
  obtain⟨hJ,g2,hD,g4⟩:=drop_cons h1
  cases r2 with
  | nil=>have:=List.drop_eq_nil_iff.1 h2;omega
  | cons b r2=>
   obtain⟨qt,b2,nn,_⟩:=drop_cons h2
   have bf:k<4611686018427387904:=by omega
   simp only [sY]at h
   have w1:(true==true)=true:=rfl
   have w2:(false==false)=true:=rfl
   have w3:(true==false)=false:=rfl
   have w4:(false==true)=false:=rfl
   have v1:(true != true)=false:=rfl
   have v2:(false != false)=false:=rfl
   have v3:(true != false)=true:=rfl
   have v4:(false != true)=true:=rfl
   rcases Bool.eq_false_or_eq_true a.ref with ea | ea
   ·rcases Bool.eq_false_or_eq_true b.ref with eb | eb
    ·simp only [ea,eb,w1,w2,if_true]at h
     repeat' (first
 | simp only [go_sem,hD,hJ,hP,hY,qt,nn,ea,eb,w1,w2,v1,v2]
 | (with_reducible first | refine ax fun hc=> ?_ | refine ay fun hc=> ?_ | refine az (fun hc=> ?_) fun hc=> ?_) <;> (try simp only [hc,bs, ↓reduceIte]at h) <;> try simp only [hc]
 | (with_reducible refine aA hQ ?_;(try cases h);simp only [aE,aF,aN,aO,go_sem,hD,hJ,hP,hY,qt,nn,ea,eb,w1,w2,v1,v2];try exact aQ)
 | (cases h;done))
     refine bX 0 0 ?_ ?_ (IH (r1,r2,k+1) ⟨g2,b2,h⟩ (Nat.lt_succ_self _))
     ·(simp only [go_sem,hD,hJ,hP,hY,au bf];try exact aT)
     ·(simp only [go_sem,hD,hJ,hP,hY,au bf];try exact aT)
    ·simp only [ea,eb,w3,w4,Bool.false_eq_true,if_false]at h
     subst h
     repeat' (first
 | simp only [go_sem,hD,hJ,hP,hY,qt,nn,ea,eb,w3,w4,v3,v4]
 | (with_reducible first | refine ax fun hc=> ?_ | refine ay fun hc=> ?_ | refine az (fun hc=> ?_) fun hc=> ?_) <;> (try simp only [hc,bs, ↓reduceIte]at h) <;> try simp only [hc]
 | (with_reducible refine aA hQ ?_;(try cases h);simp only [aE,aF,aN,aO,go_sem,hD,hJ,hP,hY,qt,nn,ea,eb,w3,w4,v3,v4];try exact aQ)
 | (cases h;done))
   ·rcases Bool.eq_false_or_eq_true b.ref with eb | eb
    ·simp only [ea,eb,w3,w4,Bool.false_eq_true,if_false]at h
     subst h
     repeat' (first
 | simp only [go_sem,hD,hJ,hP,hY,qt,nn,ea,eb,w3,w4,v3,v4]
 | (with_reducible first | refine ax fun hc=> ?_ | refine ay fun hc=> ?_ | refine az (fun hc=> ?_) fun hc=> ?_) <;> (try simp only [hc,bs, ↓reduceIte]at h) <;> try simp only [hc]
 | (with_reducible refine aA hQ ?_;(try cases h);simp only [aE,aF,aN,aO,go_sem,hD,hJ,hP,hY,qt,nn,ea,eb,w3,w4,v3,v4];try exact aQ)
 | (cases h;done))
    ·simp only [ea,eb,w1,w2,if_true]at h
     repeat' (first
 | simp only [go_sem,hD,hJ,hP,hY,qt,nn,ea,eb,w1,w2,v1,v2]
 | (with_reducible first | refine ax fun hc=> ?_ | refine ay fun hc=> ?_ | refine az (fun hc=> ?_) fun hc=> ?_) <;> (try simp only [hc,bs, ↓reduceIte]at h) <;> try simp only [hc]
 | (with_reducible refine aA hQ ?_;(try cases h);simp only [aE,aF,aN,aO,go_sem,hD,hJ,hP,hY,qt,nn,ea,eb,w1,w2,v1,v2];try exact aQ)
 | (cases h;done))
     refine bX 0 0 ?_ ?_ (IH (r1,r2,k+1) ⟨g2,b2,h⟩ (Nat.lt_succ_self _))
     ·(simp only [go_sem,hD,hJ,hP,hY,au bf];try exact aT)
     ·(simp only [go_sem,hD,hJ,hP,hY,au bf];try exact aT)
end Go.Abs

/-! Ar2 -/

namespace Go.Abs
set_option maxRecDepth 8000
open Go.Proofs
theorem K9 {p:Pg} {v:Sm} (h:p.iQ) (hv:v.jf) (s:St):aD Tryz.prog oR [.agg (bD p), .agg (bn v)] s (.bool (v.gL p)) s:=by
 refine aD.pure ?_ (by simp [D.bM,D.ok,fT,kV]) rfl s
 obtain⟨oj,ng,oZ⟩:=h.procs
 have pw:v.args.length<1000000000:=by have:=Ar.c7 v.args;have:=hv.2.2;omega
 generalize hR:v.gL p=R
 simp only [Sm.gL]at hR
 unfold S0
 have b0:(v.kind != 4) = !(v.kind==4):=rfl
 rcases Bool.eq_false_or_eq_true (v.kind==4)with b1 | b1
 case inr=>
  rw [b1]at b0
  simp only [b1,Bool.false_and]at hR
  subst hR
  refine aD.go ur rfl fun B Q hB hQ=> ?_
  have⟨hD,hJ,hP,hY⟩:=bK
  repeat' (first
 | simp only [go_sem,hD,hJ,hP,hY,b0,Bool.not_false]
 | (with_reducible first | refine ax fun hc=> ?_ | refine ay fun hc=> ?_ | refine az (fun hc=> ?_) fun hc=> ?_) <;> (try simp only [hc,bs, ↓reduceIte]at h) <;> try simp only [hc]
 | (with_reducible refine aA hQ ?_;(try cases h);simp only [aE,aF,aN,aO,go_sem,hD,hJ,hP,hY,b0,Bool.not_false];try exact aQ)
 | (cases h;done))
 rw [b1]at b0
 simp only [b1,Bool.true_and,Pg.find]at hR
 refine aD.go ur rfl fun B Q hB hQ=> ?_
 have⟨hD,hJ,hP,hY⟩:=bK
 repeat' (first
 | simp only [go_sem,hD,hJ,hP,hY,b0,Bool.not_true]
 | (with_reducible first | refine ax fun hc=> ?_ | refine ay fun hc=> ?_ | refine az (fun hc=> ?_) fun hc=> ?_) <;> (try simp only [hc,bs, ↓reduceIte]at h) <;> try simp only [hc]
 | (with_reducible refine aA hQ ?_;(try cases h);simp only [aE,aF,aN,aO,go_sem,hD,hJ,hP,hY,b0,Bool.not_true];try exact aQ)
 | (cases h;done))
 refine cP 2 0 (bl.ind (ι:=List Pc×Nat) (fun i=>p.procs.drop i.2=i.1∧(match gV v.proc i.1 with | none=>false | some q=>xF q.params v.args)=R) (fun i=>i.1.length)
  (fun i=> [(3, .ptr 1 0),(11, .slice .shared 5 (p.procs.map bR)),(12, .int .i64 (p.procs.length:Int)),(13, .int .i64 (i.2:Int))]) (fun i=>⟨[bD p,bn v],[]⟩) ?_ (p.procs,0) ⟨rfl,hR⟩)
 clear hR
 rintro⟨rest,k⟩ ⟨h1,hR⟩ IH
 dsimp only at h1 hR
 cases rest with
 | nil=>
  have hD:=drop_nil h1
  simp only [gV]at hR
  subst hR
  repeat' (first
 | simp only [go_sem,hD,hJ,hP,hY]
 | (with_reducible first | refine ax fun hc=> ?_ | refine ay fun hc=> ?_ | refine az (fun hc=> ?_) fun hc=> ?_) <;> (try simp only [hc,bs, ↓reduceIte]at h) <;> try simp only [hc]
 | (with_reducible refine aA hQ ?_;exact bx)
 | (cases h;done))
 | cons a rest=>
  obtain⟨hJ,g2,hD,g4⟩:=drop_cons h1
  have bf:k<4611686018427387904:=by omega
  have sd:=h.small (List.mem_of_getElem? hJ)
  have BQ:=fun s=>Tl (l:=a.params) (m:=v.args) (by have:=sd.par;omega) pw s
  simp only [gV]at hR
  rcases Bool.eq_false_or_eq_true (a.name==v.proc)with c1 | c1
  ·simp only [c1,if_true]at hR
   subst hR
   repeat' (first
 | simp only [go_sem,hD,hJ,hP,hY,c1]
 | (with_reducible refine CU (BQ _) ?_)
 | (with_reducible first | refine ax fun hc=> ?_ | refine ay fun hc=> ?_ | refine az (fun hc=> ?_) fun hc=> ?_) <;> (try simp only [hc,bs, ↓reduceIte]at h) <;> try simp only [hc]
 | (with_reducible refine aA hQ ?_;(try cases h);simp only [aE,aF,aN,aO,go_sem,hD,hJ,hP,hY,c1];try exact aQ)
 | (cases h;done))
  ·simp only [c1,Bool.false_eq_true,if_false]at hR
   repeat' (first
 | simp only [go_sem,hD,hJ,hP,hY,c1]
 | (with_reducible first | refine ax fun hc=> ?_ | refine ay fun hc=> ?_ | refine az (fun hc=> ?_) fun hc=> ?_) <;> (try simp only [hc,bs, ↓reduceIte]at h) <;> try simp only [hc]
 | (with_reducible refine aA hQ ?_;(try cases h);simp only [aE,aF,aN,aO,go_sem,hD,hJ,hP,hY,c1];try exact aQ)
 | (cases h;done))
   refine bX 2 0 ?_ ?_ (IH (rest,k+1) ⟨g2,hR⟩ (Nat.lt_succ_self _))
   ·(simp only [go_sem,hD,hJ,hP,hY,au bf];try exact aT)
   ·(simp only [go_sem,hD,hJ,hP,hY,au bf];try exact aT)
theorem QQ {p:Pg} {v:Sm} (h:p.iQ) (hv:v.jf) (s:St):aD Tryz.prog rO [.agg (bD p), .agg (bn v)] s (.bool (p.scope.1==0 && v.gL p)) s:=by
 refine aD.pure ?_ (by simp [D.bM,D.ok,fT,kV]) rfl s
 have ll:=fun s=>yH h s
 have mD:=fun s=>K9 h hv s
 unfold S0
 rcases Bool.eq_false_or_eq_true (p.scope.1==0)with b1 | b1
 all_goals
  simp only [b1,Bool.true_and,Bool.false_and]
  refine aD.go AQ rfl fun B Q hB hQ=> ?_
  have⟨hD,hJ,hP,hY⟩:=bK
  repeat' (first
 | simp only [go_sem,hD,hJ,hP,hY,b1]
 | (with_reducible refine CU (ll _) ?_)
 | (with_reducible refine CU (mD _) ?_)
 | (with_reducible first | refine ax fun hc=> ?_ | refine ay fun hc=> ?_ | refine az (fun hc=> ?_) fun hc=> ?_) <;> (try simp only [hc,bs, ↓reduceIte]at h) <;> try simp only [hc]
 | (with_reducible refine aA hQ ?_;(try cases h);simp only [aE,aF,aN,aO,go_sem,hD,hJ,hP,hY,b1];try exact aQ)
 | (cases h;done))
def uC (p:Pg):List Sm→Option Sm
 | []=>none
 | v::l=>if v.kind==4 && !(v.gL p)then some v else uC p l
def gu (c:Int):Option Sm→Int×Int
 | some v=>(c,v.id)
 | none=>(0,0)
def Pg.arity (p:Pg):Int×Int:=if p.scope.1==0 then gu 6 (uC p p.pre)else(1,0)
theorem Pg.iQ.pre {p:Pg} (h:p.iQ) : ∀ v∈p.pre,v.jf:=fun v m=>by
 simp only [Pg.pre,List.mem_flatten,List.mem_map]at m
 obtain⟨l,⟨f,hf,rfl⟩,m⟩:=m
 exact h.said hf v m
theorem ED {p:Pg} (h:p.iQ) (s:St):aD Tryz.prog nY [.agg (bD p)] s (.agg [.int .i64 p.arity.1, .int .i64 p.arity.2]) s:=by
 refine aD.pure ?_ (by simp [D.bM,D.ok,fT]) rfl s
 obtain⟨oj,ng,oZ⟩:=h.procs
 have ll:=fun s=>yH h s
 have dN:=fun s=>C2 (p:=p) (by omega) s
 have hL:=(ou p).1
 have Ga:=ov p
 generalize hR:p.arity=R
 simp only [Pg.arity]at hR
 unfold S0
 have b0:(p.scope.1 != 0) = !(p.scope.1==0):=rfl
 rcases Bool.eq_false_or_eq_true (p.scope.1==0)with b1 | b1
 case inr=>
  rw [b1]at b0
  simp only [b1,Bool.false_eq_true,if_false]at hR
  subst hR
  refine aD.go sM rfl fun B Q hB hQ=> ?_
  have⟨hD,hJ,hP,hY⟩:=bK
  repeat' (first
 | simp only [go_sem,hD,hJ,hP,hY,b0,Bool.not_false]
 | (with_reducible refine CU (ll _) ?_)
 | (with_reducible first | refine ax fun hc=> ?_ | refine ay fun hc=> ?_ | refine az (fun hc=> ?_) fun hc=> ?_) <;> (try simp only [hc,bs, ↓reduceIte]at h) <;> try simp only [hc]
 | (with_reducible refine aA hQ ?_;(try cases h);simp only [aE,aF,aN,aO,go_sem,hD,hJ,hP,hY,b0,Bool.not_false];try exact aQ)
 | (cases h;done))
 rw [b1]at b0
 simp only [b1,if_true, ← hL]at hR
 refine aD.go sM rfl fun B Q hB hQ=> ?_
 have⟨hD,hJ,hP,hY⟩:=bK
 repeat' (first
 | simp only [go_sem,hD,hJ,hP,hY,b0,Bool.not_true,pL]
 | (with_reducible refine CU (ll _) ?_)
 | (with_reducible refine CU (dN _) ?_)
 | (with_reducible first | refine ax fun hc=> ?_ | refine ay fun hc=> ?_ | refine az (fun hc=> ?_) fun hc=> ?_) <;> (try simp only [hc,bs, ↓reduceIte]at h) <;> try simp only [hc]
 | (with_reducible refine aA hQ ?_;(try cases h);simp only [aE,aF,aN,aO,go_sem,hD,hJ,hP,hY,b0,Bool.not_true,pL];try exact aQ)
 | (cases h;done))
 refine cP 2 0 (bl.ind (ι:=List Im×Nat) (fun i=>p.eO.L.drop i.2=i.1∧gu 6 (uC p (i.1.map Im.s))=R) (fun i=>i.1.length)
  (fun i=> [(1, .ptr 0 0),(2, .ptr 1 0),(14, .slice .shared 17 (p.eO.L.map e8)),(15, .int .i64 (p.eO.L.length:Int)),(16, .int .i64 (i.2:Int))]) (fun i=>⟨[bD p,[.int .i64 0, .int .i64 0]],[]⟩) ?_ (p.eO.L,0) ⟨rfl,hR⟩)
 clear hR
 rintro⟨rest,k⟩ ⟨h1,hR⟩ IH
 dsimp only at h1 hR
 cases rest with
 | nil=>
  have hD:=drop_nil h1
  simp only [List.map_nil,uC,gu]at hR
  subst hR
  repeat' (first
 | simp only [go_sem,hD,hJ,hP,hY]
 | (with_reducible first | refine ax fun hc=> ?_ | refine ay fun hc=> ?_ | refine az (fun hc=> ?_) fun hc=> ?_) <;> (try simp only [hc,bs, ↓reduceIte]at h) <;> try simp only [hc]
 | (with_reducible refine aA hQ ?_;exact bx)
 | (cases h;done))
 | cons a rest=>
  obtain⟨hJ,g2,hD,g4⟩:=drop_cons h1
  have bf:k<4611686018427387904:=by omega
  have vO:a.s∈p.pre:=by rw [← hL];exact List.mem_map_of_mem (List.mem_of_getElem? hJ)
  have mD:=fun s=>K9 h (h.pre _ vO) s
  simp only [List.map_cons,uC]at hR
  rcases Bool.eq_false_or_eq_true (a.s.kind==4)with c1 | c1
  ·rcases Bool.eq_false_or_eq_true (a.s.gL p)with c2 | c2
   ·simp only [c1,c2,Bool.not_true,Bool.and_false,Bool.false_eq_true,if_false]at hR
    repeat' (first
 | simp only [go_sem,hD,hJ,hP,hY,c1,c2]
 | (with_reducible refine CU (mD _) ?_)
 | (with_reducible first | refine ax fun hc=> ?_ | refine ay fun hc=> ?_ | refine az (fun hc=> ?_) fun hc=> ?_) <;> (try simp only [hc,bs, ↓reduceIte]at h) <;> try simp only [hc]
 | (with_reducible refine aA hQ ?_;(try cases h);simp only [aE,aF,aN,aO,go_sem,hD,hJ,hP,hY,c1,c2];try exact aQ)
 | (cases h;done))
    refine bX 2 0 ?_ ?_ (IH (rest,k+1) ⟨g2,hR⟩ (Nat.lt_succ_self _))
    ·(simp only [go_sem,hD,hJ,hP,hY,au bf];try exact aT)
    ·(simp only [go_sem,hD,hJ,hP,hY,au bf];try exact aT)
   ·simp only [c1,c2,Bool.not_false,Bool.and_true,if_true,gu]at hR
    subst hR
    repeat' (first
 | simp only [go_sem,hD,hJ,hP,hY,c1,c2]
 | (with_reducible refine CU (mD _) ?_)
 | (with_reducible first | refine ax fun hc=> ?_ | refine ay fun hc=> ?_ | refine az (fun hc=> ?_) fun hc=> ?_) <;> (try simp only [hc,bs, ↓reduceIte]at h) <;> try simp only [hc]
 | (with_reducible refine aA hQ ?_;(try cases h);simp only [aE,aF,aN,aO,go_sem,hD,hJ,hP,hY,c1,c2];try exact aQ)
 | (cases h;done))
  ·simp only [c1,Bool.false_and,Bool.false_eq_true,if_false]at hR
   repeat' (first
 | simp only [go_sem,hD,hJ,hP,hY,c1]
 | (with_reducible refine CU (mD _) ?_)
 | (with_reducible first | refine ax fun hc=> ?_ | refine ay fun hc=> ?_ | refine az (fun hc=> ?_) fun hc=> ?_) <;> (try simp only [hc,bs, ↓reduceIte]at h) <;> try simp only [hc]
 | (with_reducible refine aA hQ ?_;(try cases h);simp only [aE,aF,aN,aO,go_sem,hD,hJ,hP,hY,c1];try exact aQ)
 | (cases h;done))
   refine bX 2 0 ?_ ?_ (IH (rest,k+1) ⟨g2,hR⟩ (Nat.lt_succ_self _))
   ·(simp only [go_sem,hD,hJ,hP,hY,au bf];try exact aT)
   ·(simp only [go_sem,hD,hJ,hP,hY,au bf];try exact aT)
end Go.Abs

/-! Ar3 -/

namespace Go.Abs
set_option maxRecDepth 8000
open Go.Proofs
theorem zU {p:Pg} {v:Sm} (h:p.iQ) (hv:v.jf) (s:St):aD Tryz.prog mB [.agg (bD p), .agg (bn v)] s (.bool (v.gL p)) s:=by
 refine aD.pure ?_ (by simp [D.bM,D.ok,fT,kV]) rfl s
 obtain⟨oj,ng,oZ⟩:=h.procs
 have pw:v.args.length<1000000000:=by have:=Ar.c7 v.args;have:=hv.2.2;omega
 have o3:=fun s=>xD (p:=p) (by omega) v.proc s
 generalize hR:v.gL p=R
 simp only [Sm.gL]at hR
 unfold S0
 have b0:(v.kind != 4) = !(v.kind==4):=rfl
 cases qR:p.find v.proc with
 | none=>
  simp only [qR,gY,Option.getD_none,Option.isSome_none]at o3
  simp only [qR,Bool.and_false]at hR
  subst hR
  refine aD.go kK rfl fun B Q hB hQ=> ?_
  have⟨hD,hJ,hP,hY⟩:=bK
  repeat' (first
 | simp only [go_sem,hD,hJ,hP,hY]
 | (with_reducible refine CU (o3 _) ?_)
 | (with_reducible first | refine ax fun hc=> ?_ | refine ay fun hc=> ?_ | refine az (fun hc=> ?_) fun hc=> ?_) <;> (try simp only [hc,bs, ↓reduceIte]at h) <;> try simp only [hc]
 | (with_reducible refine aA hQ ?_;exact bx)
 | (cases h;done))
 | some f=>
 have sd:=h.small (ky qR).1
 simp only [qR,gY,Option.getD_some,Option.isSome_some]at o3
 simp only [qR]at hR
 rcases Bool.eq_false_or_eq_true (v.kind==4)with b1 | b1
 case inr=>
  rw [b1]at b0
  simp only [b1,Bool.false_and]at hR
  subst hR
  refine aD.go kK rfl fun B Q hB hQ=> ?_
  have⟨hD,hJ,hP,hY⟩:=bK
  repeat' (first
 | simp only [go_sem,hD,hJ,hP,hY,b0,Bool.not_false]
 | (with_reducible refine CU (o3 _) ?_)
 | (with_reducible first | refine ax fun hc=> ?_ | refine ay fun hc=> ?_ | refine az (fun hc=> ?_) fun hc=> ?_) <;> (try simp only [hc,bs, ↓reduceIte]at h) <;> try simp only [hc]
 | (with_reducible refine aA hQ ?_;(try cases h);simp only [aE,aF,aN,aO,go_sem,hD,hJ,hP,hY,b0,Bool.not_false];try exact aQ)
 | (cases h;done))
 rw [b1]at b0
 simp only [b1,Bool.true_and,xF]at hR
 have b4:((v.args.length:Int) != (f.params.length:Int)) = !((f.params.length:Int)==(v.args.length:Int)):=by
  rw [bne,show((v.args.length:Int)==(f.params.length:Int))=((f.params.length:Int)==(v.args.length:Int))from Bool.beq_comm]
 rcases Bool.eq_false_or_eq_true ((f.params.length:Int)==(v.args.length:Int))with b2 | b2
 case inr=>
  rw [b2]at b4
  simp only [b2,Bool.false_eq_true,if_false]at hR
  subst hR
  refine aD.go kK rfl fun B Q hB hQ=> ?_
  have⟨hD,hJ,hP,hY⟩:=bK
  repeat' (first
 | simp only [go_sem,hD,hJ,hP,hY,b0,b4,Bool.not_true,Bool.not_false]
 | (with_reducible refine CU (o3 _) ?_)
 | (with_reducible first | refine ax fun hc=> ?_ | refine ay fun hc=> ?_ | refine az (fun hc=> ?_) fun hc=> ?_) <;> (try simp only [hc,bs, ↓reduceIte]at h) <;> try simp only [hc]
 | (with_reducible refine aA hQ ?_;(try cases h);simp only [aE,aF,aN,aO,go_sem,hD,hJ,hP,hY,b0,b4,Bool.not_true,Bool.not_false];try exact aQ)
 | (cases h;done))
 rw [b2]at b4
 simp only [b2,if_true]at hR
 have Xu:f.params.length=v.args.length:=by have:=eq_of_beq b2;omega
 refine aD.go kK rfl fun B Q hB hQ=> ?_
 have⟨hD,hJ,hP,hY⟩:=bK
 repeat' (first
 | simp only [go_sem,hD,hJ,hP,hY,b0,b4,Bool.not_true]
 | (with_reducible refine CU (o3 _) ?_)
 | (with_reducible first | refine ax fun hc=> ?_ | refine ay fun hc=> ?_ | refine az (fun hc=> ?_) fun hc=> ?_) <;> (try simp only [hc,bs, ↓reduceIte]at h) <;> try simp only [hc]
 | (with_reducible refine aA hQ ?_;(try cases h);simp only [aE,aF,aN,aO,go_sem,hD,hJ,hP,hY,b0,b4,Bool.not_true];try exact aQ)
 | (cases h;done))
 refine cP 3 0 (bl.ind (ι:=List Pm×List Ar×Nat) (fun i=>f.params.drop i.2.2=i.1∧v.args.drop i.2.2=i.2.1∧sY i.1 i.2.1=R) (fun i=>i.1.length)
  (fun i=> [(3, .ptr 1 0),(5, .ptr 2 0),(33, .int .i64 (v.args.length:Int)),(34, .int .i64 (i.2.2:Int))]) (fun i=>⟨[bD p,bn v,bR f],[]⟩) ?_ (f.params,v.args,0) ⟨rfl,rfl,hR⟩)
 clear hR
 rintro⟨r1,r2,k⟩ ⟨h1,h2,hR⟩ IH
 dsimp only at h1 h2 hR
 cases r1 with
 | nil=>
  have hD:=drop_nil h1
  rw [Xu]at hD
  simp only [sY]at hR
  subst hR
  repeat' (first
 | simp only [go_sem,hD,hJ,hP,hY]
 | (with_reducible first | refine ax fun hc=> ?_ | refine ay fun hc=> ?_ | refine az (fun hc=> ?_) fun hc=> ?_) <;> (try simp only [hc,bs, ↓reduceIte]at h) <;> try simp only [hc]
 | (with_reducible refine aA hQ ?_;exact bx)
 | (cases h;done))
 | cons a r1=>
  obtain⟨hJ,g2,hD,g4⟩:=drop_cons h1
  cases r2 with
  | nil=>have:=List.drop_eq_nil_iff.1 h2;omega
  | cons b r2=>
   obtain⟨qt,Xv,nn,_⟩:=drop_cons h2
   have bf:k<4611686018427387904:=by omega
   simp only [sY]at hR
   have w1:(true==true)=true:=rfl
   have w2:(false==false)=true:=rfl
   have w3:(true==false)=false:=rfl
   have w4:(false==true)=false:=rfl
   have v1:(true != true)=false:=rfl
   have v2:(false != false)=false:=rfl
   have v3:(true != false)=true:=rfl
   have v4:(false != true)=true:=rfl
   rcases Bool.eq_false_or_eq_true a.ref with ea | ea
   ·rcases Bool.eq_false_or_eq_true b.ref with eb | eb
    ·simp only [ea,eb,w1,w2,if_true]at hR
     repeat' (first
 | simp only [go_sem,hD,hJ,hP,hY,qt,nn,ea,eb,w1,w2,v1,v2]
 | (with_reducible first | refine ax fun hc=> ?_ | refine ay fun hc=> ?_ | refine az (fun hc=> ?_) fun hc=> ?_) <;> (try simp only [hc,bs, ↓reduceIte]at h) <;> try simp only [hc]
 | (with_reducible refine aA hQ ?_;(try cases h);simp only [aE,aF,aN,aO,go_sem,hD,hJ,hP,hY,qt,nn,ea,eb,w1,w2,v1,v2];try exact aQ)
 | (cases h;done))
     refine bX 3 0 ?_ ?_ (IH (r1,r2,k+1) ⟨g2,Xv,hR⟩ (Nat.lt_succ_self _))
     ·(simp only [go_sem,hD,hJ,hP,hY,au bf];try exact aT)
     ·(simp only [go_sem,hD,hJ,hP,hY,au bf];try exact aT)
    ·simp only [ea,eb,w3,w4,Bool.false_eq_true,if_false]at hR
     subst hR
     repeat' (first
 | simp only [go_sem,hD,hJ,hP,hY,qt,nn,ea,eb,w3,w4,v3,v4]
 | (with_reducible first | refine ax fun hc=> ?_ | refine ay fun hc=> ?_ | refine az (fun hc=> ?_) fun hc=> ?_) <;> (try simp only [hc,bs, ↓reduceIte]at h) <;> try simp only [hc]
 | (with_reducible refine aA hQ ?_;(try cases h);simp only [aE,aF,aN,aO,go_sem,hD,hJ,hP,hY,qt,nn,ea,eb,w3,w4,v3,v4];try exact aQ)
 | (cases h;done))
   ·rcases Bool.eq_false_or_eq_true b.ref with eb | eb
    ·simp only [ea,eb,w3,w4,Bool.false_eq_true,if_false]at hR
     subst hR
     repeat' (first
 | simp only [go_sem,hD,hJ,hP,hY,qt,nn,ea,eb,w3,w4,v3,v4]
 | (with_reducible first | refine ax fun hc=> ?_ | refine ay fun hc=> ?_ | refine az (fun hc=> ?_) fun hc=> ?_) <;> (try simp only [hc,bs, ↓reduceIte]at h) <;> try simp only [hc]
 | (with_reducible refine aA hQ ?_;(try cases h);simp only [aE,aF,aN,aO,go_sem,hD,hJ,hP,hY,qt,nn,ea,eb,w3,w4,v3,v4];try exact aQ)
 | (cases h;done))
    ·simp only [ea,eb,w1,w2,if_true]at hR
     repeat' (first
 | simp only [go_sem,hD,hJ,hP,hY,qt,nn,ea,eb,w1,w2,v1,v2]
 | (with_reducible first | refine ax fun hc=> ?_ | refine ay fun hc=> ?_ | refine az (fun hc=> ?_) fun hc=> ?_) <;> (try simp only [hc,bs, ↓reduceIte]at h) <;> try simp only [hc]
 | (with_reducible refine aA hQ ?_;(try cases h);simp only [aE,aF,aN,aO,go_sem,hD,hJ,hP,hY,qt,nn,ea,eb,w1,w2,v1,v2];try exact aQ)
 | (cases h;done))
     refine bX 3 0 ?_ ?_ (IH (r1,r2,k+1) ⟨g2,Xv,hR⟩ (Nat.lt_succ_self _))
     ·(simp only [go_sem,hD,hJ,hP,hY,au bf];try exact aT)
     ·(simp only [go_sem,hD,hJ,hP,hY,au bf];try exact aT)
theorem NT {p:Pg} (h:p.iQ) (hb:p.may=true) (s:St):aD Tryz.prog rQ [.agg (bD p)] s (.agg [.int .i64 (gu 6 (uC p p.pre)).1, .int .i64 (gu 6 (uC p p.pre)).2]) s:=by
 refine aD.pure ?_ (by simp [D.bM,D.ok,fT]) rfl s
 obtain⟨oj,ng,oZ⟩:=h.procs
 have pw:=fun s=>C5 (p:=p) (by omega) s
 have hL:=(nk hb).2
 have Ga:=(uB hb).1
 generalize hR:gu 6 (uC p p.pre)=R
 rw [← hL]at hR
 unfold S0
 refine aD.go AU rfl fun B Q hB hQ=> ?_
 have⟨hD,hJ,hP,hY⟩:=bK
 repeat' (first
 | simp only [go_sem,hD,hJ,hP,hY]
 | (with_reducible refine CU (pw _) ?_)
 | (with_reducible first | refine ax fun hc=> ?_ | refine ay fun hc=> ?_ | refine az (fun hc=> ?_) fun hc=> ?_) <;> (try simp only [hc,bs, ↓reduceIte]at h) <;> try simp only [hc]
 | (with_reducible refine aA hQ ?_;exact bx)
 | (cases h;done))
 refine cP 2 0 (bl.ind (ι:=List It×Nat) (fun i=>p.all.drop i.2=i.1∧gu 6 (uC p (i.1.map It.s))=R) (fun i=>i.1.length)
  (fun i=> [(1, .ptr 0 0),(2, .ptr 1 0),(6, .slice .shared 16 (p.all.map dO)),(7, .int .i64 (p.all.length:Int)),(8, .int .i64 (i.2:Int))]) (fun i=>⟨[bD p,[.int .i64 0, .int .i64 0]],[]⟩) ?_ (p.all,0) ⟨rfl,hR⟩)
 clear hR
 rintro⟨rest,k⟩ ⟨h1,hR⟩ IH
 dsimp only at h1 hR
 cases rest with
 | nil=>
  have hD:=drop_nil h1
  simp only [List.map_nil,uC,gu]at hR
  subst hR
  repeat' (first
 | simp only [go_sem,hD,hJ,hP,hY]
 | (with_reducible first | refine ax fun hc=> ?_ | refine ay fun hc=> ?_ | refine az (fun hc=> ?_) fun hc=> ?_) <;> (try simp only [hc,bs, ↓reduceIte]at h) <;> try simp only [hc]
 | (with_reducible refine aA hQ ?_;exact bx)
 | (cases h;done))
 | cons a rest=>
  obtain⟨hJ,g2,hD,g4⟩:=drop_cons h1
  have bf:k<4611686018427387904:=by omega
  have vO:a.s∈p.pre:=by rw [← hL];exact List.mem_map_of_mem (List.mem_of_getElem? hJ)
  have mD:=fun s=>zU h (h.pre _ vO) s
  simp only [List.map_cons,uC]at hR
  rcases Bool.eq_false_or_eq_true (a.s.kind==4)with c1 | c1
  ·rcases Bool.eq_false_or_eq_true (a.s.gL p)with c2 | c2
   ·simp only [c1,c2,Bool.not_true,Bool.and_false,Bool.false_eq_true,if_false]at hR
    repeat' (first
 | simp only [go_sem,hD,hJ,hP,hY,c1,c2]
 | (with_reducible refine CU (mD _) ?_)
 | (with_reducible first | refine ax fun hc=> ?_ | refine ay fun hc=> ?_ | refine az (fun hc=> ?_) fun hc=> ?_) <;> (try simp only [hc,bs, ↓reduceIte]at h) <;> try simp only [hc]
 | (with_reducible refine aA hQ ?_;(try cases h);simp only [aE,aF,aN,aO,go_sem,hD,hJ,hP,hY,c1,c2];try exact aQ)
 | (cases h;done))
    refine bX 2 0 ?_ ?_ (IH (rest,k+1) ⟨g2,hR⟩ (Nat.lt_succ_self _))
    ·(simp only [go_sem,hD,hJ,hP,hY,au bf];try exact aT)
    ·(simp only [go_sem,hD,hJ,hP,hY,au bf];try exact aT)
   ·simp only [c1,c2,Bool.not_false,Bool.and_true,if_true,gu]at hR
    subst hR
    repeat' (first
 | simp only [go_sem,hD,hJ,hP,hY,c1,c2]
 | (with_reducible refine CU (mD _) ?_)
 | (with_reducible refine CU (gk _ _ _) ?_)
 | (with_reducible first | refine ax fun hc=> ?_ | refine ay fun hc=> ?_ | refine az (fun hc=> ?_) fun hc=> ?_) <;> (try simp only [hc,bs, ↓reduceIte]at h) <;> try simp only [hc]
 | (with_reducible refine aA hQ ?_;(try cases h);simp only [aE,aF,aN,aO,go_sem,hD,hJ,hP,hY,c1,c2];try exact aQ)
 | (cases h;done))
  ·simp only [c1,Bool.false_and,Bool.false_eq_true,if_false]at hR
   repeat' (first
 | simp only [go_sem,hD,hJ,hP,hY,c1]
 | (with_reducible refine CU (mD _) ?_)
 | (with_reducible first | refine ax fun hc=> ?_ | refine ay fun hc=> ?_ | refine az (fun hc=> ?_) fun hc=> ?_) <;> (try simp only [hc,bs, ↓reduceIte]at h) <;> try simp only [hc]
 | (with_reducible refine aA hQ ?_;(try cases h);simp only [aE,aF,aN,aO,go_sem,hD,hJ,hP,hY,c1];try exact aQ)
 | (cases h;done))
   refine bX 2 0 ?_ ?_ (IH (rest,k+1) ⟨g2,hR⟩ (Nat.lt_succ_self _))
   ·(simp only [go_sem,hD,hJ,hP,hY,au bf];try exact aT)
   ·(simp only [go_sem,hD,hJ,hP,hY,au bf];try exact aT)
theorem lp {p:Pg} (h:(p.scope.1==0)=true):p.may=true:=by
 unfold Pg.scope at h
 split at h
 ·assumption
 ·cases h
theorem EE {p:Pg} (h:p.iQ) (s:St):aD Tryz.prog oM [.agg (bD p)] s (.agg [.int .i64 p.arity.1, .int .i64 p.arity.2]) s:=by
 refine aD.pure ?_ (by simp [D.bM,D.ok,fT]) rfl s
 have ll:=fun s=>NS h s
 have b0:(p.scope.1 != 0) = !(p.scope.1==0):=rfl
 unfold S0
 rcases Bool.eq_false_or_eq_true (p.scope.1==0)with b1 | b1
 ·have mD:=fun s=>NT h (lp b1) s
  rw [b1]at b0
  simp only [Pg.arity,b1,if_true]
  refine aD.go uj rfl fun B Q hB hQ=> ?_
  have⟨hD,hJ,hP,hY⟩:=bK
  repeat' (first
 | simp only [go_sem,hD,hJ,hP,hY,b0,Bool.not_true]
 | (with_reducible refine CU (ll _) ?_)
 | (with_reducible refine CU (mD _) ?_)
 | (with_reducible first | refine ax fun hc=> ?_ | refine ay fun hc=> ?_ | refine az (fun hc=> ?_) fun hc=> ?_) <;> (try simp only [hc,bs, ↓reduceIte]at h) <;> try simp only [hc]
 | (with_reducible refine aA hQ ?_;(try cases h);simp only [aE,aF,aN,aO,go_sem,hD,hJ,hP,hY,b0,Bool.not_true];try exact aQ)
 | (cases h;done))
 ·rw [b1]at b0
  simp only [Pg.arity,b1,Bool.false_eq_true,if_false]
  refine aD.go uj rfl fun B Q hB hQ=> ?_
  have⟨hD,hJ,hP,hY⟩:=bK
  repeat' (first
 | simp only [go_sem,hD,hJ,hP,hY,b0,Bool.not_false]
 | (with_reducible refine CU (ll _) ?_)
 | (with_reducible refine CU (gk _ _ _) ?_)
 | (with_reducible first | refine ax fun hc=> ?_ | refine ay fun hc=> ?_ | refine az (fun hc=> ?_) fun hc=> ?_) <;> (try simp only [hc,bs, ↓reduceIte]at h) <;> try simp only [hc]
 | (with_reducible refine aA hQ ?_;(try cases h);simp only [aE,aF,aN,aO,go_sem,hD,hJ,hP,hY,b0,Bool.not_false];try exact aQ)
 | (cases h;done))
end Go.Abs

/-! Srt1 -/

namespace Go.Abs
set_option maxRecDepth 8000
open Go.Proofs
def iR (out:List aH):List aH→aH→Bool→aH×Bool
 | [],c,a=>(c,a)
 | s::l,c,a=>if !(dv out s) && (!a || bytesLess s c)then iR out l s true else iR out l c a
def EF (l out:List aH):List aH:=if(iR out l [] false).2 then out++ [(iR out l [] false).1]else out
def jV (l:List aH):Nat→List aH→List aH
 | 0,out=>out
 | n+1,out=>jV l n (EF l out)
def fK (l:List aH):List aH:=jV l l.length []
theorem yJ {l:List aH} (hl:l.length<100000000) (g:Tag) (s:St):aD Tryz.prog lW [.slice g 1 (l.map encStr)] s (.slice .shared 1 ((fK l).map encStr)) s:=by
 refine aD.BK (d':= .slice .shared 1 (l.map encStr)) ?_ (Wk.shared _ _ _)
 refine aD.pure ?_ (by simp [D.bM,D.ok,Tag.ok,dL]) (by simp only [D.ok,Tag.ok,dL];rfl) s
 generalize hR:fK l=R
 simp only [fK]at hR
 unfold S0
 refine aD.go zE rfl fun B Q hB hQ=> ?_
 have⟨hD,hJ,hP,hY⟩:=bK
 repeat' (first
 | simp only [go_sem,hD,hJ,hP,hY]
 | (with_reducible first | refine ax fun hc=> ?_ | refine ay fun hc=> ?_ | refine az (fun hc=> ?_) fun hc=> ?_) <;> (try simp only [hc,bs, ↓reduceIte]at h) <;> try simp only [hc]
 | (with_reducible refine aA hQ ?_;exact bx)
 | (cases h;done))
 refine bl.kT 3 1 rfl ?_
 simp only [go_sem,hD,hJ,hP,hY]
 refine cP 0 1 (bl.ind (ι:=Nat×Nat×List aH×Nat) (fun i=>i.1+i.2.1=l.length∧jV l i.1 i.2.2.1=R∧i.2.2.1.length≤i.2.1∧i.2.2.2=i.2.2.1.length) (fun i=>i.1)
  (fun i=> [(0, .slice .shared 1 (l.map encStr)),(3, .slice (.tok 0) 1 (i.2.2.1.map encStr)),(9, .int .i64 (l.length:Int)),(10, .int .i64 (i.2.1:Int))]) (fun i=>⟨[],[some i.2.2.2]⟩) ?_ (l.length,0,[],0) ⟨rfl,hR,Nat.le_refl _,rfl⟩)
 rintro⟨n,k,out,no⟩ ⟨h1,h2,h3,h4⟩ IH
 dsimp only at h1 h2 h3 h4
 subst h4
 cases n with
 | zero=>
  have hD:decide ((k:Int)<(l.length:Int))=false:=by simp;omega
  simp only [jV]at h2
  subst h2
  repeat' (first
 | simp only [go_sem,hD,hJ,hP,hY]
 | (with_reducible first | refine ax fun hc=> ?_ | refine ay fun hc=> ?_ | refine az (fun hc=> ?_) fun hc=> ?_) <;> (try simp only [hc,bs, ↓reduceIte]at h) <;> try simp only [hc]
 | (with_reducible refine aA hQ ?_;exact bx)
 | (cases h;done))
 | succ n=>
  have hD:decide ((k:Int)<(l.length:Int))=true:=by simp;omega
  have bf:k<4611686018427387904:=by omega
  have hP:(out.length+1)*17≤bk:=by unfold bk;omega
  have kD:=fun x g s=>vi (l:=out) (by omega) x g s
  simp only [jV,EF]at h2
  repeat' (first
 | simp only [go_sem,hD,hJ,hP,hY]
 | (with_reducible first | refine ax fun hc=> ?_ | refine ay fun hc=> ?_ | refine az (fun hc=> ?_) fun hc=> ?_) <;> (try simp only [hc,bs, ↓reduceIte]at h) <;> try simp only [hc]
 | (with_reducible refine aA hQ ?_;exact bx)
 | (cases h;done))
  obtain⟨q,hq⟩ : ∃ q,iR out l [] false=q:=⟨_,rfl⟩
  rw [hq]at h2
  refine cP 0 1 (bl.ind (ι:=List aH×Nat×aH×Bool) (fun i=>l.drop i.2.1=i.1∧iR out i.1 i.2.2.1 i.2.2.2=q) (fun i=>i.1.length)
   (fun i=> [(0, .slice .shared 1 (l.map encStr)),(3, .slice (.tok 0) 1 (out.map encStr)),(4, .str i.2.2.1),(5, .bool i.2.2.2),(9, .int .i64 (l.length:Int)),(10, .int .i64 (k:Int)),(12, .slice .shared 1 (l.map encStr)),(13, .int .i64 (l.length:Int)),(14, .int .i64 (i.2.1:Int))]) (fun i=>⟨[],[some out.length]⟩) ?_ (l,0,[],false) ⟨rfl,hq⟩)
  rintro⟨rest,j,c,a⟩ ⟨j1,j2⟩ mC
  dsimp only at j1 j2
  cases rest with
  | nil=>
   have IW:=drop_nil j1
   simp only [iR]at j2
   subst j2
   cases a
   ·simp only [Bool.false_eq_true,if_false]at h2
    repeat' (first
 | simp only [go_sem,hD,hJ,hP,hY,IW]
 | (with_reducible first | refine ax fun hc=> ?_ | refine ay fun hc=> ?_ | refine az (fun hc=> ?_) fun hc=> ?_) <;> (try simp only [hc,bs, ↓reduceIte]at h) <;> try simp only [hc]
 | (with_reducible refine aA hQ ?_;(try cases h);simp only [aE,aF,aN,aO,go_sem,hD,hJ,hP,hY,IW];try exact aQ)
 | (cases h;done))
    refine bX 0 1 ?_ ?_ (IH (n,k+1,out,_) ⟨by dsimp only;omega,h2,by dsimp only;omega,rfl⟩ (Nat.lt_succ_self _))
    ·(simp only [go_sem,hD,hJ,hP,hY,au bf];try exact aT)
    ·(simp only [go_sem,hD,hJ,hP,hY,au bf];try exact aT)
   ·simp only [if_true]at h2
    repeat' (first
 | simp only [go_sem,hD,hJ,hP,hY,IW]
 | (with_reducible first | refine ax fun hc=> ?_ | refine ay fun hc=> ?_ | refine az (fun hc=> ?_) fun hc=> ?_) <;> (try simp only [hc,bs, ↓reduceIte]at h) <;> try simp only [hc]
 | (with_reducible refine aA hQ ?_;(try cases h);simp only [aE,aF,aN,aO,go_sem,hD,hJ,hP,hY,IW];try exact aQ)
 | (cases h;done))
    refine bX 0 1 ?_ ?_ (IH (n,k+1,out++ [c],out.length+1) ⟨by dsimp only;omega,h2,by simp;omega,by simp⟩ (Nat.lt_succ_self _))
    ·(simp only [go_sem,hD,hJ,hP,hY,au bf,List.map_append,List.map_cons,List.map_nil,encStr];try exact aT)
    ·(simp only [go_sem,hD,hJ,hP,hY,au bf,List.map_append,List.map_cons,List.map_nil,encStr];try exact aT)
  | cons x rest=>
   obtain⟨dH,kC,fv,zS⟩:=drop_cons j1
   have fw:j<4611686018427387904:=by omega
   simp only [iR]at j2
   rcases Bool.eq_false_or_eq_true (dv out x)with c1 | c1
   ·simp only [c1,Bool.not_true,Bool.false_and,Bool.false_eq_true,if_false]at j2
    repeat' (first
 | simp only [go_sem,hD,hJ,hP,hY,fv,dH,c1]
 | (with_reducible refine CU (kD _ _ _) ?_)
 | (with_reducible first | refine ax fun hc=> ?_ | refine ay fun hc=> ?_ | refine az (fun hc=> ?_) fun hc=> ?_) <;> (try simp only [hc,bs, ↓reduceIte]at h) <;> try simp only [hc]
 | (with_reducible refine aA hQ ?_;(try cases h);simp only [aE,aF,aN,aO,go_sem,hD,hJ,hP,hY,fv,dH,c1];try exact aQ)
 | (cases h;done))
    refine bX 0 1 ?_ ?_ (mC (rest,j+1,c,a) ⟨kC,j2⟩ (Nat.lt_succ_self _))
    ·(simp only [go_sem,hD,hJ,hP,hY,au fw];try exact aT)
    ·(simp only [go_sem,hD,hJ,hP,hY,au fw];try exact aT)
   ·cases a
    ·simp only [c1,Bool.not_false,Bool.true_or,Bool.and_self,if_true]at j2
     repeat' (first
 | simp only [go_sem,hD,hJ,hP,hY,fv,dH,c1]
 | (with_reducible refine CU (kD _ _ _) ?_)
 | (with_reducible first | refine ax fun hc=> ?_ | refine ay fun hc=> ?_ | refine az (fun hc=> ?_) fun hc=> ?_) <;> (try simp only [hc,bs, ↓reduceIte]at h) <;> try simp only [hc]
 | (with_reducible refine aA hQ ?_;(try cases h);simp only [aE,aF,aN,aO,go_sem,hD,hJ,hP,hY,fv,dH,c1];try exact aQ)
 | (cases h;done))
     refine bX 0 1 ?_ ?_ (mC (rest,j+1,x,true) ⟨kC,j2⟩ (Nat.lt_succ_self _))
     ·(simp only [go_sem,hD,hJ,hP,hY,au fw];try exact aT)
     ·(simp only [go_sem,hD,hJ,hP,hY,au fw];try exact aT)
    ·rcases Bool.eq_false_or_eq_true (bytesLess x c)with c2 | c2
     ·simp only [c1,c2,Bool.not_false,Bool.not_true,Bool.or_true,Bool.and_self,if_true]at j2
      repeat' (first
 | simp only [go_sem,hD,hJ,hP,hY,fv,dH,c1,c2]
 | (with_reducible refine CU (kD _ _ _) ?_)
 | (with_reducible first | refine ax fun hc=> ?_ | refine ay fun hc=> ?_ | refine az (fun hc=> ?_) fun hc=> ?_) <;> (try simp only [hc,bs, ↓reduceIte]at h) <;> try simp only [hc]
 | (with_reducible refine aA hQ ?_;(try cases h);simp only [aE,aF,aN,aO,go_sem,hD,hJ,hP,hY,fv,dH,c1,c2];try exact aQ)
 | (cases h;done))
      refine bX 0 1 ?_ ?_ (mC (rest,j+1,x,true) ⟨kC,j2⟩ (Nat.lt_succ_self _))
      ·(simp only [go_sem,hD,hJ,hP,hY,au fw];try exact aT)
      ·(simp only [go_sem,hD,hJ,hP,hY,au fw];try exact aT)
     ·simp only [c1,c2,Bool.not_false,Bool.not_true,Bool.or_false,Bool.and_false,Bool.false_eq_true,if_false]at j2
      repeat' (first
 | simp only [go_sem,hD,hJ,hP,hY,fv,dH,c1,c2]
 | (with_reducible refine CU (kD _ _ _) ?_)
 | (with_reducible first | refine ax fun hc=> ?_ | refine ay fun hc=> ?_ | refine az (fun hc=> ?_) fun hc=> ?_) <;> (try simp only [hc,bs, ↓reduceIte]at h) <;> try simp only [hc]
 | (with_reducible refine aA hQ ?_;(try cases h);simp only [aE,aF,aN,aO,go_sem,hD,hJ,hP,hY,fv,dH,c1,c2];try exact aQ)
 | (cases h;done))
      refine bX 0 1 ?_ ?_ (mC (rest,j+1,c,true) ⟨kC,j2⟩ (Nat.lt_succ_self _))
      ·(simp only [go_sem,hD,hJ,hP,hY,au fw];try exact aT)
      ·(simp only [go_sem,hD,hJ,hP,hY,au fw];try exact aT)
end Go.Abs

/-! Shelf -/

namespace Go.Proofs
open Go.Shelf
def Tryz.FE:Go.Shelf.Ren:=⟨fun | 190=>48 | 125=>89 | 258=>88 | 128=>119 | 129=>120 | 302=>110 | 303=>111 | 304=>112 | 305=>113 | 306=>114 | 307=>115 | 308=>116 | 309=>117 | 310=>118 | 333=>136 | 329=>137 | 330=>138 | 334=>139 | 335=>140 | 336=>141 | 344=>146 | n=>n,fun | 31=>22 | 9=>9 | 3=>3 | 46=>111 | 0=>0 | 51=>131 | 53=>133 | 4=>4 | 183=>123 | 182=>122 | 131=>128 | 5=>5 | 218=>142 | 222=>146 | 228=>150 | 229=>151 | n=>n,fun | n=>n⟩
theorem Tryz.Gb:Go.Proofs.Lays.n190 Tryz.prog Tryz.FE:= {
 mixed:=by kernel_rfl
 f125:=Tryz.func89.trans (congrArg some (by kernel_rfl))
 f128:=Tryz.func119.trans (congrArg some (by kernel_rfl))
 f129:=Tryz.func120.trans (congrArg some (by kernel_rfl))
 f190:=Tryz.func48.trans (congrArg some (by kernel_rfl))
 f258:=Tryz.func88.trans (congrArg some (by kernel_rfl))
 f302:=Tryz.func110.trans (congrArg some (by kernel_rfl))
 f303:=Tryz.func111.trans (congrArg some (by kernel_rfl))
 f304:=Tryz.func112.trans (congrArg some (by kernel_rfl))
 f305:=Tryz.func113.trans (congrArg some (by kernel_rfl))
 f306:=Tryz.func114.trans (congrArg some (by kernel_rfl))
 f307:=Tryz.func115.trans (congrArg some (by kernel_rfl))
 f308:=Tryz.func116.trans (congrArg some (by kernel_rfl))
 f309:=Tryz.func117.trans (congrArg some (by kernel_rfl))
 f310:=Tryz.func118.trans (congrArg some (by kernel_rfl))
 f329:=Tryz.func137.trans (congrArg some (by kernel_rfl))
 f330:=Tryz.func138.trans (congrArg some (by kernel_rfl))
 f333:=Tryz.func136.trans (congrArg some (by kernel_rfl))
 f334:=Tryz.func139.trans (congrArg some (by kernel_rfl))
 f335:=Tryz.func140.trans (congrArg some (by kernel_rfl))
 f336:=Tryz.func141.trans (congrArg some (by kernel_rfl))
 f344:=Tryz.func146.trans (congrArg some (by kernel_rfl))
 t0:=Tryz.underlying0
 a0:=Tryz.isAgg0
 z0:=Tryz.sizeOf0
 v0:=Tryz.zeroValue0
 t3:=Tryz.underlying3
 a3:=Tryz.isAgg3
 z3:=Tryz.sizeOf3
 v3:=Tryz.zeroValue3
 t4:=Tryz.underlying4
 a4:=Tryz.isAgg4
 z4:=Tryz.sizeOf4
 v4:=Tryz.zeroValue4
 t5:=Tryz.underlying5
 a5:=Tryz.isAgg5
 z5:=Tryz.sizeOf5
 v5:=Tryz.zeroValue5
 t9:=Tryz.underlying9
 a9:=Tryz.isAgg9
 z9:=Tryz.sizeOf9
 v9:=Tryz.zeroValue9
 t31:=Tryz.underlying22
 a31:=Tryz.isAgg22
 z31:=Tryz.sizeOf22
 v31:=Tryz.zeroValue22
 t46:=Tryz.underlying111
 a46:=Tryz.isAgg111
 z46:=Tryz.sizeOf111
 v46:=Tryz.zeroValue111
 t51:=Tryz.underlying131
 a51:=Tryz.isAgg131
 z51:=Tryz.sizeOf131
 v51:=Tryz.zeroValue131
 t53:=Tryz.underlying133
 a53:=Tryz.isAgg133
 z53:=Tryz.sizeOf133
 v53:=Tryz.zeroValue133
 t131:=Tryz.underlying128
 a131:=Tryz.isAgg128
 z131:=Tryz.sizeOf128
 v131:=Tryz.zeroValue128
 t182:=Tryz.underlying122
 a182:=Tryz.isAgg122
 z182:=Tryz.sizeOf122
 v182:=Tryz.zeroValue122
 t183:=Tryz.underlying123
 a183:=Tryz.isAgg123
 z183:=Tryz.sizeOf123
 v183:=Tryz.zeroValue123
 t218:=Tryz.underlying142
 a218:=Tryz.isAgg142
 z218:=Tryz.sizeOf142
 v218:=Tryz.zeroValue142
 t222:=Tryz.underlying146
 a222:=Tryz.isAgg146
 z222:=Tryz.sizeOf146
 v222:=Tryz.zeroValue146
 t228:=Tryz.underlying150
 a228:=Tryz.isAgg150
 z228:=Tryz.sizeOf150
 v228:=Tryz.zeroValue150
 t229:=Tryz.underlying151
 a229:=Tryz.isAgg151
 z229:=Tryz.sizeOf151
 v229:=Tryz.zeroValue151}
open Go.Sort Go.RowKit in
theorem Tryz.slices_Sort_string (xh off cap:Nat) (ss:List (List UInt8)) (w:World) (hH:Holds encStr w xh off ss.toArray) (acO:xh<w.heap.size) (ek:ss.length<4611686018427387904) :
 Calls Tryz.prog 48 #[.slice (some ⟨xh,off,none⟩) ss.length cap] w fun e w'=>
  e = .returned (.tuple #[])∧∃ n os,w'=grow (putRow encStr (Sort.ahead w n) xh off (ss.mergeSort fun x y=>decide (x≤y)).toArray) os:=Any.slices_Sort_string Tryz.Gb xh off cap ss w hH acO ek
def Tryz.FF:Go.Shelf.Ren:=⟨fun | 194=>49 | n=>n,fun | 31=>22 | 9=>9 | 3=>3 | 4=>4 | 0=>0 | n=>n,fun | n=>n⟩
theorem Tryz.Gc:Go.Proofs.Lays.n194 Tryz.prog Tryz.FF:= {
 mixed:=by kernel_rfl
 f194:=Tryz.func49.trans (congrArg some (by kernel_rfl))
 t0:=Tryz.underlying0
 a0:=Tryz.isAgg0
 z0:=Tryz.sizeOf0
 v0:=Tryz.zeroValue0
 t3:=Tryz.underlying3
 a3:=Tryz.isAgg3
 z3:=Tryz.sizeOf3
 v3:=Tryz.zeroValue3
 t4:=Tryz.underlying4
 a4:=Tryz.isAgg4
 z4:=Tryz.sizeOf4
 v4:=Tryz.zeroValue4
 t9:=Tryz.underlying9
 a9:=Tryz.isAgg9
 z9:=Tryz.sizeOf9
 v9:=Tryz.zeroValue9
 t31:=Tryz.underlying22
 a31:=Tryz.isAgg22
 z31:=Tryz.sizeOf22
 v31:=Tryz.zeroValue22}
open Go.RowKit Go.Lib Go.Sort in
theorem Tryz.slices_Compact_string (xh off cap:Nat) (zs:List (List UInt8)) (w:World) (hH:Holds encStr w xh off zs.toArray) (ek:zs.length≤9223372036854775807) (qy:zs.length≤cap) :
 Calls Tryz.prog 49 #[.slice (some ⟨xh,off,none⟩) zs.length cap] w fun e w'=>e = .returned (.slice (some ⟨xh,off,none⟩) (Lib.compact zs).length cap)∧∃ q,w'=putRow encStr (Sort.ahead w q) xh off (Lib.compact zs++List.replicate (zs.length - (Lib.compact zs).length) []).toArray:=Any.slices_Compact_string Tryz.Gc xh off cap zs w hH ek qy
open Go.RowKit Go.Lib Go.Sort in
theorem Tryz.slices_Compact_string_empty (a:Option Addr) (cap:Nat) (w:World) :
 Calls Tryz.prog 49 #[.slice a 0 cap] w fun e w'=>e = .returned (.slice a 0 cap)∧w'=w:=Any.slices_Compact_string_empty Tryz.Gc a cap w
open Go.RowKit Go.Sort in
theorem Tryz.slices_Sort_string_none (p:Option Addr) (cap:Nat) (w:World) :
 Calls Tryz.prog 48 #[.slice p 0 cap] w fun e w'=>e = .returned (.tuple #[])∧w'=w:=Any.slices_Sort_string_none Tryz.Gb p cap w
end Go.Proofs

/-! SortR -/

namespace Go.Abs
open Go.Proofs
section
variable {P:Program} {B:fY} {nt:Nat}
theorem QR {x:Operand} {t:Nat} (h:cX x=some (.s t)):x = .tmp t:=by
 unfold cX at h
 split at h
 ·cases h;rfl
 ·obtain⟨d,_,h⟩:=map_some h;cases h
 ·cases h
 ·cases h
theorem IX {ops:Array Oper} {o:Oper} {g g':Option (Nat×Bool)} {dst:Option Nat} {f:Nat} {xs:List X} (h:pR P ops o g=some (.call dst g' f xs)) :
 g'=g∧∃ args lP,o.op = .call ⟨.value (.func f),args,lP⟩∧enters P f=true∧tT args.toList=some xs:=by
 unfold pR at h
 split at h
 ·rename_i f' args lP kA
  split at h
  ·rename_i he
   obtain⟨xs',h1,h2⟩:=map_some h
   cases h2
   exact⟨rfl,args,lP,kA,he,h1⟩
  ·cases h
 ·obtain⟨_,_,h⟩:=map_some h;cases h
 ·split at h
  ·cases h
  ·split at h <;> cases h
theorem La {ops:Array Oper} {o:Oper} {tmps:Array Value} (hg:rq ops o.guard=some none):Region.wanted o (yielded ops tmps)=true:=by
 have:o.guard=none:=by
  cases Bq:o.guard with
  | none=>rfl
  | some p=>
   obtain⟨j,b⟩:=p
   rw [Bq]at hg
   unfold rq at hg
   simp only at hg
   split at hg <;> cases hg
 simp [Region.wanted,this]
theorem Sem.To {a k b f:Nat} {is:List AI} {Q:Exit→Tm→St→Prop} {tm:Tm} {s:St}
 (Ww : ∀ act w,Holds B nt (tm.put (some a) (tm.get k)) s act w→Calls P f #[act.tmps.getD a Go.undef] w fun e w'=>∃ v,e = .returned v∧∃ bJ s',Holds B nt bJ s' (act.put (some b) v) w'∧gy P is (Q .normal) bJ s') :
 Sem P B nt (.run (.op (some a) none (.mv (.s k)):: .call (some b) none f [.s a]::is)) Q tm s:=by
 intro c hc act w hh
 obtain⟨id,ops,rfl,hi⟩:=j6 hc
 refine wp_region ?_
 have key : ∀ (l:List Nat) (ol:List Oper),l.map (ops[·]?)=ol.map some→oB P nt ops ol=some (.op (some a) none (.mv (.s k)):: .call (some b) none f [.s a]::is)→wpOps P ops (nE B nt Q) l act w:=by
  intro l ol hl tj
  match ol,l,hl with
  | [],_,_=>simp [oB]at tj
  | o0::ol,[],hl=>simp at hl
  | o0::ol,j0::l,hl=>
   simp only [List.map_cons,List.cons.injEq]at hl
   obtain⟨hj0,hl⟩:=hl
   unfold oB at tj
   split at tj
   ·rename_i i0 is0 h1 h2
    cases tj
    match ol,l,hl,h2 with
    | [],_,_,h2=>simp [oB]at h2
    | o1::ol,[],hl,_=>simp at hl
    | o1::ol,j1::l,hl,h2=>
     simp only [List.map_cons,List.cons.injEq]at hl
     obtain⟨hj1,hl⟩:=hl
     unfold oB at h2
     split at h2
     ·rename_i i1 is1 h3 h4
      cases h2
      obtain⟨M,e,r,ht,hn,hd⟩:=hh
      have BM:=qi h1
      have PD:=qi h3
      simp only [AI.dst]at BM PD
      refine ti (K':=fun bJ s'=>bJ=tm.put (some a) (tm.get k)∧s'=s) hj0 h1 r (B.laid.ext e) ht (by simp only [gy,guarded,aP,X.ev,and_self]) (fun d v s1 w1 M1 hk e1 r1 hv=> ?_)
      obtain⟨xS,rfl⟩:=hk
      have hH:=Holds.put e ht hn hd (tY h1) e1 r1 hv
      simp only [AI.dst]at xS
      rw [← BM]at hH ⊢
      rw [xS]at hH
      obtain⟨g,hg,_,hb⟩:=wD h3
      obtain⟨rfl,args,lP,kA,uQ,ml⟩:=IX hb
      simp only [wpOps,hj1,La hg,if_true]
      left
      have Ng:args.map (act.put (some a) v).eval = #[(act.put (some a) v).tmps.getD a Go.undef]:=by
       have:args.toList = [.tmp a]:=by
        match hA:args.toList with
        | []=>rw [hA]at ml;simp [tT]at ml
        | [x]=>
         rw [hA]at ml
         simp only [tT]at ml
         split at ml
         ·rename_i x' r' hx hr
          cases ml
          rw [QR hx]
         ·cases ml
        | x::y::z=>
         rw [hA]at ml
         simp only [tT]at ml
         split at ml
         ·rename_i x' r' hx hr
          cases ml
          split at hr
          ·cases hr
          ·cases hr
         ·cases ml
       have:args = #[.tmp a]:=by rw [← Array.toArray_toList (xs:=args),this]
       rw [this]
       simp only [List.map_toArray,List.map_cons,List.map_nil]
       rfl
      have hex:(execOp (act.put (some a) v).eval o1).run P w1 = .ok (.enter f #[(act.put (some a) v).tmps.getD a Go.undef]) w1:=by
       obtain⟨dst,op,type,pos,after,guard⟩:=o1
       simp only at kA
       subst kA
       rw [← Ng]
       exact ta (act.put (some a) v).eval dst f args lP type pos after guard rfl uQ w1
      unfold Oper.wp
      rw [hex,Oper.upon_enter]
      refine(Ww _ _ hH).mono ?_
      rintro en w' ⟨v',rfl,bJ,s',hH',hvc⟩
      rw [← PD]
      exact wy (Q:=Q) l ol _ hl h4 bJ s' _ w' hvc hH'
     ·cases h2
   ·cases tj
 exact key _ _ (wz ops) hi
theorem B6 (hB:B.s = ⟨[],[]⟩) {tm:Tm} {s:St} {act:Act} {w:World} (h:Holds B nt tm s act w) {t:Nat} {l:List aH} (ht:s.aB[t]? = some (some l.length)) {k0:Nat} (KV:tm.get k0 = .slice (.tok t) 1 (l.map encStr)) :
 (l = []∧∀ k,tm.get k = .slice (.tok t) 1 (l.map encStr)→(act.tmps.getD k Go.undef = .slice none 0 0∨∃ b q,act.tmps.getD k Go.undef = .slice (some ⟨b,q,none⟩) 0 0))∨
 ∃ (b cap:Nat) (vs:Array Value) (T:TypeId),(∀ k,tm.get k = .slice (.tok t) 1 (l.map encStr)→act.tmps.getD k Go.undef = .slice (some ⟨b,0,none⟩) l.length cap)∧l.length≤cap∧w.heap[b]? = some (.cells vs T (0,0))∧vs.size=cap∧B.w.heap.size≤b∧
  ∀ j (hj:j<l.length),vs[j]? = some (.string ⟨⟨l[j]⟩⟩):=by
 obtain⟨M,e,r,hr,_,_⟩:=h
 rcases r.tok t _ ht with ⟨h3,h4⟩ | ⟨b,cap,z,vs,T,h3,h4,h5,h6,h7⟩
 ·have hl:l = []:=List.eq_nil_of_length_eq_zero h4
  subst hl
  refine .inl ⟨rfl,fun k hk=> ?_⟩
  have hv:=hr k
  rw [hk]at hv
  generalize act.tmps.getD k Go.undef=v at hv
  cases hv with
  | iz _ _ cap hc kB=>subst hc;exact .inl rfl
  | slice _ _ _ b q cap hl hs h1 h2 kB=>
   rcases(kB.2 _ ht).2 rfl with ⟨_,h0,_⟩ | ⟨b',_,iY⟩
   ·subst h0;exact .inr ⟨b,q,rfl⟩
   ·rw [h3]at iY;cases iY
 ·right
  have each : ∀ k,tm.get k = .slice (.tok t) 1 (l.map encStr)→z=1∧act.tmps.getD k Go.undef = .slice (some ⟨b,0,none⟩) l.length cap∧l.length≤cap∧∀ j (hj:j<l.length),∃ u,M.G b j=some u∧RD M s (.str l[j]) u:=by
   intro k hk
   have hv:=hr k
   rw [hk]at hv
   generalize act.tmps.getD k Go.undef=v at hv
   generalize jH:l.map encStr=rows at hv
   cases hv with
   | iz _ _ cap hc kB=>
    have hl:l = []:=by cases l <;> simp at jH;rfl
    subst hl
    rcases(kB.2 _ ht).2 rfl with ⟨h0,_⟩ | ⟨b',h0,_⟩
    ·rw [h3]at h0;cases h0
    ·cases h0
   | slice _ _ _ b2 q ajV hl hs h1 h2 kB=>
    subst jH
    rw [List.length_map]at hl kB
    rcases(kB.2 _ ht).2 rfl with ⟨h0,_⟩ | ⟨b',hb,iY⟩
    ·rw [h3]at h0;cases h0
    ·cases hb
     rw [h3]at iY
     cases iY
     refine⟨rfl,by rw [List.length_map],hl,fun j hj=> ?_⟩
     have e1:(l.map encStr)[j]? = some [.str l[j]]:=by rw [List.getElem?_map,List.getElem?_eq_getElem hj];rfl
     obtain⟨u,hu⟩:=h1 j _ 0 _ e1 rfl
     refine⟨u,by simpa using hu,h2 j _ 0 _ u e1 rfl hu⟩
  obtain⟨rfl,_,qy,j5⟩:=each k0 KV
  have dN:B.w.heap.size≤b:=by
   rcases e.oz t b cap 1 ⟨_,ht⟩ h3 with ⟨⟨n,hn⟩,_⟩ | h
   ·rw [hB]at hn;simp at hn
   ·exact h
  refine⟨b,cap,vs,T,fun k hk=>(each k hk).2.1,qy,h4,by simpa [zs]using h5,dN,fun j hj=> ?_⟩
  obtain⟨u,hu,nK⟩:=j5 j hj
  have:=(r.comm _ _ _ hu).1
  rw [jm h4,nK.jx]at this
  exact this
theorem EG (hB:B.s = ⟨[],[]⟩) {tm:Tm} {s:St} {act qO:Act} {w w':World} (h:Holds B nt tm s act w) {b cap:Nat} {vs:Array Value} {T:TypeId} (ek:vs.size=cap) (sO:B.w.heap.size≤b)
 (jY : ∀ q,q<B.w.heap.size→w'.heap[q]? = w.heap[q]?) (dQ:w'.heap[b]? = some (.cells vs T (0,0))) (FO:w.heap.size≤w'.heap.size) (By:w'.os=w.os) (rC:w'.tape=w.tape) (LQ:w'.output=w.output)
 {l:List aH} (hl:l.length≤cap) (j5 : ∀ j (hj:j<l.length),vs[j]? = some (.string ⟨⟨l[j]⟩⟩)) {k:Nat} (IY:qO.tmps.getD k Go.undef = .slice (some ⟨b,0,none⟩) l.length cap) (hn:qO.tmps.size=nt) (hd:qO.defers = []) :
 Holds B nt [(k, .slice (.tok 0) 1 (l.map encStr))] ⟨[],[some l.length]⟩ qO w':=by
 obtain⟨M,e,r,hr,_,_⟩:=h
 let M':Map:=⟨fun q o=>if q=b then(if o<l.length then(l[o]?).map fun x=>Value.string ⟨⟨x⟩⟩else none)else B.M.G q o,B.M.loc,fun _=>some (b,cap,1)⟩
 have Xw : ∀ q o v,B.M.G q o=some v→q<B.w.heap.size∧w'.cell? ⟨q,o,none⟩=some v∧v.oneCell'=true:=by
  intro q o v hq
  obtain⟨h1,h2⟩:=r.comm q o v (e.le.G q o v hq)
  have hD:=B.old q o v hq
  refine⟨hD, ?_,h2⟩
  rw [← h1]
  simp [World.cell?,jY q hD]
 have sw : ∀ j (hj:j<l.length),w'.cell? ⟨b,j,none⟩=some (.string ⟨⟨l[j]⟩⟩):=fun j hj=>by rw [jm dQ];exact j5 j hj
 have hJ : ∀ (j:Nat) v,(if j<l.length then(l[j]?).map fun x=>Value.string ⟨⟨x⟩⟩else none)=some v→∃ hj:j<l.length,v = .string ⟨⟨l[j]⟩⟩:=by
  intro j v hv
  split at hv
  ·rename_i hj
   rw [List.getElem?_eq_getElem hj]at hv
   exact⟨hj,by simpa using hv.symm⟩
  ·cases hv
 refine⟨M',⟨⟨fun q o v hq=> ?_,by simp [hB],fun o ho=>rfl,by rw [hB];exact Nat.zero_le _,fun t n' ht _=>by rw [hB]at ht;exact absurd ht (Nat.not_lt_zero _)⟩,fun q hq _ _=> ?_,fun o _ h2=>absurd h2 (Nat.not_lt_zero _),fun t q c z _ hb=> ?_,fun q o eQ=> ?_,Nat.le_trans e.size FO,By.trans e.os,rC.trans e.tape,LQ.trans e.output⟩,
  ⟨fun q o v hq=> ?_,fun o ds ho=>by simp at ho,fun o ho=>absurd ho (Nat.not_lt_zero _),fun o o' ho=>absurd ho (Nat.not_lt_zero _),fun t n ht=> ?_,fun t q c z o _ _ ho=>absurd ho (Nat.not_lt_zero _),fun t t' q c z c' z' KI mh _ _=> ?_⟩,fun u=> ?_,hn,hd⟩
 ·show(if q=b then _ else B.M.G q o)=some v
  rw [if_neg (by have:=(Xw q o v hq).1;omega)]
  exact hq
 ·rw [jY q hq]
  exact e.kept q hq (fun o ho=>by rw [hB]at ho;exact absurd ho (Nat.not_lt_zero _)) (fun t c z mh=>by rw [hB]at mh;obtain⟨n,vM⟩:=mh;simp at vM)
 ·cases hb;exact .inr sO
 ·by_cases hq:q=b
  ·subst hq;exact .inl sO
  ·exact absurd (show(if q=b then _ else B.M.G q o)=B.M.G q o from if_neg hq) eQ
 ·have po:(if q=b then(if o<l.length then(l[o]?).map fun x=>Value.string ⟨⟨x⟩⟩else none)else B.M.G q o)=some v:=hq
  by_cases Tp:q=b
  ·rw [if_pos Tp]at po
   obtain⟨hj,rfl⟩:=hJ o v po
   rw [Tp]
   exact⟨sw o hj,rfl⟩
  ·rw [if_neg Tp]at po
   exact(Xw q o v po).2
 ·match t with
  | 0=>
   simp at ht
   subst ht
   refine .inr ⟨b,cap,1,vs,T,rfl,dQ,by simp [zs,ek],hl,fun off ho=> ?_,fun h=>by cases h⟩
   show(if b=b then(if off<l.length then _ else none)else B.M.G b off)=none
   rw [if_pos rfl,if_neg (by simp [zs]at ho;omega)]
  | t+1=>simp at ht
 ·obtain⟨n1,h1⟩:=KI
  obtain⟨n2,h2⟩:=mh
  have a1:=(List.getElem?_eq_some_iff.1 h1).1
  have a2:=(List.getElem?_eq_some_iff.1 h2).1
  simp at a1 a2
  omega
 ·simp only [Tm.get]
  split
  ·rename_i Tq
   subst Tq
   rw [IY]
   have:=RD.slice (M:=M') (s:=⟨[],[some l.length]⟩) (.tok 0) 1 (l.map encStr) b 0 cap (by simpa using hl) (fun row hr=>by
    obtain⟨x,_,rfl⟩:=List.mem_map.1 hr;rfl) (fun i row j d e1 e2=> ?_) (fun i row j d u e1 e2 eu=> ?_) ⟨by simp,fun n vM=>by
    simp at vM
    subst vM
    exact⟨by simp,fun _=> .inr ⟨b,rfl,rfl⟩⟩⟩
   ·simpa using this
   ·rw [List.getElem?_map]at e1
    cases vC:l[i]? with
    | none=>rw [vC]at e1;cases e1
    | some x=>
     have nM:=(List.getElem?_eq_some_iff.1 vC).1
     rw [vC]at e1
     cases e1
     have hj:j=0:=by cases j with | zero=>rfl | succ j=>simp [encStr]at e2
     subst hj
     refine⟨.string ⟨⟨x⟩⟩, ?_⟩
     show(if b=b then(if 0+(i*1+0)<l.length then _ else none)else _)=_
     rw [if_pos rfl,if_pos (by omega)]
     simp [vC]
   ·rw [List.getElem?_map]at e1
    cases vC:l[i]? with
    | none=>rw [vC]at e1;cases e1
    | some x=>
     have nM:=(List.getElem?_eq_some_iff.1 vC).1
     rw [vC]at e1
     cases e1
     have hj:j=0:=by cases j with | zero=>rfl | succ j=>simp [encStr]at e2
     subst hj
     have F2:(if b=b then(if 0+(i*1+0)<l.length then(l[0+(i*1+0)]?).map fun x=>Value.string ⟨⟨x⟩⟩else none)else B.M.G b (0+(i*1+0)))=some u:=eu
     rw [if_pos rfl,if_pos (by omega)]at F2
     simp [vC]at F2
     subst F2
     simp [encStr]at e2
     subst e2
     exact .str x
  ·exact .junk _
theorem Gd (hB:B.s = ⟨[],[]⟩) {tm:Tm} {s:St} {act qO:Act} {w:World} (h:Holds B nt tm s act w) {k:Nat} (IY:qO.tmps.getD k Go.undef = .slice none 0 0∨∃ b q,qO.tmps.getD k Go.undef = .slice (some ⟨b,q,none⟩) 0 0) (hn:qO.tmps.size=nt) (hd:qO.defers = []) :
 Holds B nt [(k, .slice (.tok 0) 1 (([] : List aH).map encStr))] ⟨[],[some 0]⟩ qO w:=by
 obtain⟨M,e,r,hr,_,_⟩:=h
 let M':Map:=⟨B.M.G,B.M.loc,fun _=>none⟩
 refine⟨M',⟨⟨fun q o v hq=>hq,by simp [hB],fun o ho=>rfl,by rw [hB];exact Nat.zero_le _,fun t n' ht _=>by rw [hB]at ht;exact absurd ht (Nat.not_lt_zero _)⟩,fun q hq _ _=> ?_,fun o _ h2=>absurd h2 (Nat.not_lt_zero _),fun t q c z _ hb=>(by cases hb),fun q o eQ=>absurd rfl eQ,e.size,e.os,e.tape,e.output⟩,
  ⟨fun q o v hq=>r.comm q o v (e.le.G q o v hq),fun o ds ho=>by simp at ho,fun o ho=>absurd ho (Nat.not_lt_zero _),fun o o' ho=>absurd ho (Nat.not_lt_zero _),fun t n ht=> ?_,fun t q c z o _ _ ho=>absurd ho (Nat.not_lt_zero _),fun t t' q c z c' z' KI mh h1 _=>by cases h1⟩,fun u=> ?_,hn,hd⟩
 ·exact e.kept q hq (fun o ho=>by rw [hB]at ho;exact absurd ho (Nat.not_lt_zero _)) (fun t c z mh=>by rw [hB]at mh;obtain⟨n,vM⟩:=mh;simp at vM)
 ·match t with
  | 0=>simp at ht;subst ht;exact .inl ⟨rfl,rfl⟩
  | t+1=>simp at ht
 ·simp only [Tm.get]
  split
  ·rename_i Tq
   subst Tq
   have kB : ∀ base,gv M' ⟨[],[some 0]⟩ (.tok 0) 1 0 base 0:=fun base=>⟨by simp,fun n vM=>by
    simp at vM
    subst vM
    exact⟨Nat.le_refl _,fun _=> .inl ⟨rfl,rfl,fun h=>by cases h⟩⟩⟩
   rcases IY with h | ⟨b,q,h⟩
   ·rw [h];exact .iz _ _ 0 rfl (kB none)
   ·rw [h];exact .slice (.tok 0) 1 [] b q 0 (Nat.le_refl _) (by simp) (by simp) (by simp) (kB _)
  ·exact .junk _
theorem EH {α:Type} [Inhabited α] (enc:α→Value) (d:Array α) (c:Array Value) (j:Nat):(Sort.putCells enc 0 d c)[j]? = if j<d.size then(c[j]?).map fun _=>enc d[j]! else c[j]? :=by
 simp only [Sort.putCells,Array.getElem?_mapIdx]
 cases h:c[j]? with
 | none=>simp
 | some x=>by_cases hj:j<d.size <;> simp [hj]
theorem B7 {w:World} {b n cap:Nat} {vs:Array Value} {T:TypeId} (dQ:w.heap[b]? = some (.cells vs T (0,0))) (ek:vs.size=cap) (l:List aH) (hl:l.length≤cap) (os:Array Obj) :
 (∀ q,q≠b→q<w.heap.size→(Sort.grow (Sort.putRow Go.Proofs.encStr (Sort.ahead w n) b 0 l.toArray) os).heap[q]? = w.heap[q]?)∧
 (Sort.grow (Sort.putRow Go.Proofs.encStr (Sort.ahead w n) b 0 l.toArray) os).heap[b]? = some (.cells (Sort.putCells Go.Proofs.encStr 0 l.toArray vs) T (0,0))∧w.heap.size≤(Sort.grow (Sort.putRow Go.Proofs.encStr (Sort.ahead w n) b 0 l.toArray) os).heap.size∧
 (Sort.putCells Go.Proofs.encStr 0 l.toArray vs).size=cap∧∀ j (hj:j<l.length),(Sort.putCells Go.Proofs.encStr 0 l.toArray vs)[j]? = some (.string ⟨⟨l[j]⟩⟩):=by
 have hb:b<w.heap.size:=(Array.getElem?_eq_some_iff.1 dQ).1
 refine⟨fun q hq hD=> ?_, ?_, ?_, ?_,fun j hj=> ?_⟩
 ·simp only [Sort.grow,Sort.putRow,Sort.mapBlock,Sort.ahead]
  rw [Array.getElem?_append_left (by simpa using hD),Array.getElem?_modify]
  simp [Ne.symm hq]
 ·simp only [Sort.grow,Sort.putRow,Sort.mapBlock,Sort.ahead]
  rw [Array.getElem?_append_left (by simpa using hb),Array.getElem?_modify]
  simp [dQ,Sort.onCells]
 ·simp [Sort.grow,Sort.putRow,Sort.mapBlock,Sort.ahead]
 ·simp [Sort.putCells,ek]
 ·rw [EH]
  have h1:j<l.toArray.size:=by simpa using hj
  have h2:vs[j]? = some vs[j]:=Array.getElem?_eq_getElem (by omega)
  rw [if_pos h1,h2]
  simp [hj]
def kh (l:List aH):List aH:=l.mergeSort fun x y=>decide (x≤y)
theorem EI {act:Act} {b:Nat} {v:Value} {u:Nat} (h:u≠b):(act.put (some b) v).tmps.getD u Go.undef=act.tmps.getD u Go.undef:=by
 simp only [Act.put,Array.getD_eq_getD_getElem?]
 rw [Array.getElem?_setIfInBounds_ne (fun e=>h e.symm)]
theorem B8 {act:Act} {b:Nat} {v:Value} (h:b<act.tmps.size):(act.put (some b) v).tmps.getD b Go.undef=v:=by
 simp only [Act.put,Array.getD_eq_getD_getElem?]
 simp [h]
theorem Sem.sort (hB:B.s = ⟨[],[]⟩) {a k b t:Nat} {l:List aH} {is:List AI} {Q:Exit→Tm→St→Prop} {tm:Tm} {s:St} (hak:a≠k) (Xx:b≠k) (wW:a≠b)
 (hk:tm.get k = .slice (.tok t) 1 (l.map encStr)) (ht:s.aB[t]? = some (some l.length)) (hl:l.length<4611686018427387904)
 (h:gy Tryz.prog is (Q .normal) [(k, .slice (.tok 0) 1 ((kh l).map encStr))] ⟨[],[some l.length]⟩) :
 Sem Tryz.prog B nt (.run (.op (some a) none (.mv (.s k)):: .call (some b) none gT [.s a]::is)) Q tm s:=by
 refine Sem.To fun act w hh=> ?_
 have vx:(tm.put (some a) (tm.get k)).get k = .slice (.tok t) 1 (l.map encStr):=by rw [Tm.jz,if_neg (by simpa using hak)];exact hk
 have EJ:(tm.put (some a) (tm.get k)).get a = .slice (.tok t) 1 (l.map encStr):=by rw [Tm.jz,if_pos rfl];exact hk
 have xf:(kh l).length=l.length:=List.length_mergeSort l
 have hn:(act.put (some b) (.tuple #[])).tmps.size=nt:=by obtain⟨_,_,_,_,h1,_⟩:=hh;simpa [Act.put]using h1
 have hd:(act.put (some b) (.tuple #[])).defers = []:=by obtain⟨_,_,_,_,_,h1⟩:=hh;simpa [Act.put]using h1
 have ek:(act.tmps).size=nt:=by obtain⟨_,_,_,_,h1,_⟩:=hh;exact h1
 rcases B6 hB hh ht EJ with ⟨rfl,hv⟩ | ⟨b',cap,vs,T,hv,qy,dQ,mO,sO,j5⟩
 ·rw [show kh [] = [] by simp [kh]]at h
  have call : ∀ p,act.tmps.getD a Go.undef = .slice p 0 0→Calls Tryz.prog gT #[act.tmps.getD a Go.undef] w fun e w'=>∃ v,e = .returned v∧∃ bJ s',Holds B nt bJ s' (act.put (some b) v) w'∧gy Tryz.prog is (Q .normal) bJ s':=by
   intro p hp
   rw [hp]
   refine(Tryz.slices_Sort_string_none p 0 w).mono ?_
   rintro e w' ⟨rfl,rfl⟩
   refine⟨_,rfl,_,_,Gd hB hh (k:=k) ?_ hn hd,h⟩
   rw [EI (Ne.symm Xx)]
   exact hv k vx
  rcases hv a EJ with h1 | ⟨b',q,h1⟩
  ·exact call _ h1
  ·exact call _ h1
 ·rw [hv a EJ]
  have hD:b'<w.heap.size:=(Array.getElem?_eq_some_iff.1 dQ).1
  refine(Tryz.slices_Sort_string b' 0 cap l w (fun j hj=> ?_) hD hl).mono ?_
  ·have Lb:j<l.length:=by simpa using hj
   refine⟨?_,by simp [World.frozen?,dQ]⟩
   rw [Nat.zero_add,jm dQ,j5 j Lb]
   simp [Lb]
  ·rintro e w' ⟨rfl,n,os,rfl⟩
   obtain⟨p1,p2,p3,p4,p5⟩:=B7 (n:=n) dQ mO (kh l) (by omega) os
   have hH:=EG hB hh (qO:=act.put (some b) (.tuple #[])) (l:=kh l) (k:=k) p4 sO (fun q hq=>p1 q (by omega) (by obtain⟨M,e,_⟩:=hh;exact Nat.lt_of_lt_of_le hq e.size)) p2 p3 rfl rfl rfl (by omega) p5 (by rw [EI (Ne.symm Xx),hv k vx,xf]) hn hd
   rw [xf]at hH
   exact⟨_,rfl,_,_,hH,h⟩
theorem FG (l:List aH):(Lib.compact l).length≤l.length:=by
 unfold Lib.compact Lib.compactUpTo
 rw [List.length_map]
 exact Nat.le_trans (List.length_filter_le _ _) (by simp)
theorem Sem.compact (hB:B.s = ⟨[],[]⟩) {a k b t:Nat} {l:List aH} {is:List AI} {Q:Exit→Tm→St→Prop} {tm:Tm} {s:St} (hbt:b<nt)
 (hk:tm.get k = .slice (.tok t) 1 (l.map encStr)) (ht:s.aB[t]? = some (some l.length)) (hl:l.length<4611686018427387904)
 (h:gy Tryz.prog is (Q .normal) [(b, .slice (.tok 0) 1 ((Lib.compact l).map encStr))] ⟨[],[some (Lib.compact l).length]⟩) :
 Sem Tryz.prog B nt (.run (.op (some a) none (.mv (.s k)):: .call (some b) none im [.s a]::is)) Q tm s:=by
 refine Sem.To fun act w hh=> ?_
 have EJ:(tm.put (some a) (tm.get k)).get a = .slice (.tok t) 1 (l.map encStr):=by rw [Tm.jz,if_pos rfl];exact hk
 have ek:(act.tmps).size=nt:=by obtain⟨_,_,_,_,h1,_⟩:=hh;exact h1
 have hn : ∀ v,(act.put (some b) v).tmps.size=nt:=fun v=>by simpa [Act.put]using ek
 have hd : ∀ v,(act.put (some b) v).defers = []:=by obtain⟨_,_,_,_,_,h1⟩:=hh;intro v;simpa [Act.put]using h1
 rcases B6 hB hh ht EJ with ⟨rfl,hv⟩ | ⟨b',cap,vs,T,hv,qy,dQ,mO,sO,j5⟩
 ·rw [show Lib.compact ([] : List aH) = []from rfl]at h
  have call : ∀ p,act.tmps.getD a Go.undef = .slice p 0 0→(p=none∨∃ b q,p=some ⟨b,q,none⟩)→Calls Tryz.prog im #[act.tmps.getD a Go.undef] w fun e w'=>∃ v,e = .returned v∧∃ bJ s',Holds B nt bJ s' (act.put (some b) v) w'∧gy Tryz.prog is (Q .normal) bJ s':=by
   intro p hp hq
   rw [hp]
   refine(Tryz.slices_Compact_string_empty p 0 w).mono ?_
   rintro e w' ⟨rfl,rfl⟩
   refine⟨_,rfl,_,_,Gd hB hh (k:=b) ?_ (hn _) (hd _),h⟩
   rw [B8 (by omega)]
   rcases hq with rfl | ⟨x,y,rfl⟩
   ·exact .inl rfl
   ·exact .inr ⟨x,y,rfl⟩
  rcases hv a EJ with h1 | ⟨b',q,h1⟩
  ·exact call _ h1 (.inl rfl)
  ·exact call _ h1 (.inr ⟨b',q,rfl⟩)
 ·rw [hv a EJ]
  have Dr:(Lib.compact l).length≤l.length:=FG l
  refine(Tryz.slices_Compact_string b' 0 cap l w (fun j hj=> ?_) (by omega) qy).mono ?_
  ·have Lb:j<l.length:=by simpa using hj
   refine⟨?_,by simp [World.frozen?,dQ]⟩
   rw [Nat.zero_add,jm dQ,j5 j Lb]
   simp [Lb]
  ·rintro e w' ⟨rfl,q,rfl⟩
   obtain⟨p1,p2,p3,p4,p5⟩:=B7 (n:=q) dQ mO (Lib.compact l++List.replicate (l.length - (Lib.compact l).length) []) (by simp;omega) #[]
   rw [Sort.grow_empty]at p1 p2 p3
   have hH:=EG hB hh (qO:=act.put (some b) (.slice (some ⟨b',0,none⟩) (Lib.compact l).length cap)) (l:=Lib.compact l) (k:=b) p4 sO (fun q hq=>p1 q (by omega) (by obtain⟨M,e,_⟩:=hh;exact Nat.lt_of_lt_of_le hq e.size)) p2 p3 rfl rfl rfl (by omega)
    (fun j hj=>by
     have:=p5 j (by simp;omega)
     rw [List.getElem_append_left hj]at this
     exact this) (B8 (by omega)) (hn _) (hd _)
   exact⟨_,rfl,_,_,hH,h⟩
end
end Go.Abs

/-! SrtP -/

namespace Go.Abs
theorem zV {a b:UInt8} : a<b↔a.toNat<b.toNat:=UInt8.lt_iff_toNat_lt
theorem uD : ∀ a:aH,bytesLess a a=false
 | []=>rfl
 | x::a=>by
  show Go.Op.bytesLess (x::a) (x::a)=false
  have h:=uD a
  have h:Go.Op.bytesLess a a=false:=h
  simp [Go.Op.bytesLess,h]
theorem uE : ∀ a b:aH,bytesLess a b=true∨a=b∨bytesLess b a=true
 | [],[]=> .inr (.inl rfl)
 | [],y::b=> .inl rfl
 | x::a,[]=> .inr (.inr rfl)
 | x::a,y::b=>by
  show Go.Op.bytesLess (x::a) (y::b)=true∨_∨Go.Op.bytesLess (y::b) (x::a)=true
  have h:Go.Op.bytesLess a b=true∨a=b∨Go.Op.bytesLess b a=true:=uE a b
  simp only [Go.Op.bytesLess,Bool.or_eq_true,Bool.and_eq_true,decide_eq_true_eq,beq_iff_eq,List.cons.injEq]
  by_cases e:x=y
  ·subst e
   rcases h with h | h | h
   ·exact .inl (.inr ⟨rfl,h⟩)
   ·exact .inr (.inl ⟨rfl,h⟩)
   ·exact .inr (.inr (.inr ⟨rfl,h⟩))
  ·have:x.toNat≠y.toNat:=fun h=>e (UInt8.toNat_inj.1 h)
   rcases Nat.lt_or_gt_of_ne this with h | h
   ·exact .inl (.inl (zV.2 h))
   ·exact .inr (.inr (.inl (zV.2 h)))
theorem zW : ∀ a b c:aH,bytesLess a b=true→bytesLess b c=true→bytesLess a c=true
 | a,b,[],h1,h2=>by cases b <;> cases h2
 | a,[],z::c,h1,h2=>by cases a <;> cases h1
 | [],y::b,z::c,h1,h2=>rfl
 | x::a,y::b,z::c,h1,h2=>by
  have h1:Go.Op.bytesLess (x::a) (y::b)=true:=h1
  have h2:Go.Op.bytesLess (y::b) (z::c)=true:=h2
  show Go.Op.bytesLess (x::a) (z::c)=true
  simp only [Go.Op.bytesLess,Bool.or_eq_true,Bool.and_eq_true,decide_eq_true_eq,beq_iff_eq]at h1 h2 ⊢
  rcases h1 with e1 | ⟨i1,e1⟩
  ·rcases h2 with e2 | ⟨i2,e2⟩
   ·exact .inl (zV.2 (Nat.lt_trans (zV.1 e1) (zV.1 e2)))
   ·exact .inl (i2 ▸ e1)
  ·rcases h2 with e2 | ⟨i2,e2⟩
   ·exact .inl (i1 ▸ e2)
   ·exact .inr ⟨i1.trans i2,zW a b c e1 e2⟩
def xi (l:List aH):Prop:=l.Pairwise fun a b=>bytesLess a b=true
theorem tD : ∀ {a b:List aH},xi a→xi b→(∀ x,x∈a↔x∈b)→a=b
 | [],[],_,_,_=>rfl
 | [],y::b,_,_,h=>absurd ((h y).2 List.mem_cons_self) (by simp)
 | x::a,[],_,_,h=>absurd ((h x).1 List.mem_cons_self) (by simp)
 | x::a,y::b,h1,h2,h=>by
  obtain⟨g1,g2⟩:=List.pairwise_cons.1 h1
  obtain⟨g3,g4⟩:=List.pairwise_cons.1 h2
  have e:x=y:=by
   rcases List.mem_cons.1 ((h x).1 List.mem_cons_self)with e | m
   ·exact e
   ·rcases List.mem_cons.1 ((h y).2 List.mem_cons_self)with e | m'
    ·exact e.symm
    ·have:=zW _ _ _ (g3 x m) (g1 y m');rw [uD]at this;cases this
  subst e
  rw [tD g2 g4 fun z=> ?_]
  constructor
  ·intro m
   rcases List.mem_cons.1 ((h z).1 (List.mem_cons_of_mem _ m))with e | m'
   ·subst e;have:=g1 z m;rw [uD]at this;cases this
   ·exact m'
  ·intro m
   rcases List.mem_cons.1 ((h z).2 (List.mem_cons_of_mem _ m))with e | m'
   ·subst e;have:=g3 z m;rw [uD]at this;cases this
   ·exact m'
theorem ri (out:List aH) : ∀ (l:List aH) (c:aH) (a:Bool),
 let q:=iR out l c a
 (q.2=false↔a=false∧∀ x∈l,x∈out)∧(q.2=true→((a=true∧q.1=c)∨(q.1∈l∧q.1∉out))∧(a=true→bytesLess c q.1=false)∧∀ x∈l,x∉out→bytesLess x q.1=false)
 | [],c,a=>by
  simp only [iR]
  refine⟨by simp,fun h=>⟨.inl ⟨h,by trivial⟩,fun _=>uD c,fun x m=>(by cases m)⟩⟩
 | s::l,c,a=>by
  simp only [iR]
  by_cases h1:dv out s=true
  ·have m:=(gU _ _).1 h1
   simp only [h1,Bool.not_true,Bool.false_and,Bool.false_eq_true,if_false]
   obtain⟨k1,k2⟩:=ri out l c a
   refine⟨k1.trans ⟨fun h=>⟨h.1,fun x hx=> ?_⟩,fun h=>⟨h.1,fun x hx=>h.2 x (List.mem_cons_of_mem _ hx)⟩⟩,fun h=> ?_⟩
   ·rcases List.mem_cons.1 hx with rfl | hx
    ·exact m
    ·exact h.2 x hx
   ·obtain⟨g1,g2,g3⟩:=k2 h
    refine⟨g1.imp_right fun h=>⟨List.mem_cons_of_mem _ h.1,h.2⟩,g2,fun x hx hn=> ?_⟩
    rcases List.mem_cons.1 hx with rfl | hx
    ·exact absurd m hn
    ·exact g3 x hx hn
  ·have m:s∉out:=fun m=>h1 ((gU _ _).2 m)
   have nC:dv out s=false:=by simpa using h1
   by_cases h2:(!a || bytesLess s c)=true
   ·simp only [nC,h2,Bool.not_false,Bool.and_self,if_true]
    obtain⟨k1,k2⟩:=ri out l s true
    refine⟨⟨fun h=>absurd (k1.1 h).1 (by simp),fun h=>absurd (h.2 s List.mem_cons_self) m⟩,fun h=> ?_⟩
    obtain⟨g1,g2,g3⟩:=k2 h
    have g4:=g2 rfl
    refine⟨.inr ?_,fun ha=> ?_,fun x hx hn=> ?_⟩
    ·rcases g1 with ⟨_,e⟩ | g1
     ·rw [e];exact⟨List.mem_cons_self,m⟩
     ·exact⟨List.mem_cons_of_mem _ g1.1,g1.2⟩
    ·have h3:bytesLess s c=true:=by simpa [ha]using h2
     cases hh:bytesLess c (iR out l s true).1
     ·rfl
     ·have:=zW _ _ _ h3 hh;rw [g4]at this;cases this
    ·rcases List.mem_cons.1 hx with rfl | hx
     ·exact g4
     ·exact g3 x hx hn
   ·have qg:(!a || bytesLess s c)=false:=by simpa using h2
    have ha:a=true:=by cases a <;> simp_all
    have h3:bytesLess s c=false:=by cases a <;> simp_all
    simp only [nC,qg,Bool.not_false,Bool.and_false,Bool.false_eq_true,if_false]
    obtain⟨k1,k2⟩:=ri out l c a
    refine⟨⟨fun h=>absurd (k1.1 h).1 (by simp [ha]),fun h=>absurd h.1 (by simp [ha])⟩,fun h=> ?_⟩
    obtain⟨g1,g2,g3⟩:=k2 h
    refine⟨g1.imp_right fun h=>⟨List.mem_cons_of_mem _ h.1,h.2⟩,g2,fun x hx hn=> ?_⟩
    rcases List.mem_cons.1 hx with rfl | hx
    ·cases hh:bytesLess x (iR out l c a).1
     ·rfl
     ·have g4:=g2 ha
      rcases uE x c with e | e | e
      ·rw [h3]at e;cases e
      ·subst e;rw [g4]at hh;cases hh
      ·have:=zW _ _ _ e hh;rw [g4]at this;cases this
    ·exact g3 x hx hn
theorem tF (l:List aH) : ∀ (n:Nat) (out:List aH),xi out→(∀ x∈out,x∈l)→(∀ x∈out,∀ y∈l,y∉out→bytesLess x y=true)→
 xi (jV l n out)∧(∀ x∈jV l n out,x∈l)∧(∀ x∈out,x∈jV l n out)∧((∀ x∈l,x∈jV l n out)∨(jV l n out).length=out.length+n)
 | 0,out,h1,h2,h3=>⟨h1,h2,fun x m=>m, .inr rfl⟩
 | n+1,out,h1,h2,h3=>by
  simp only [jV,EF]
  obtain⟨k1,k2⟩:=ri out l [] false
  cases hq:(iR out l [] false).2
  ·simp only [Bool.false_eq_true,if_false]
   obtain⟨g1,g2,g3,g4⟩:=tF l n out h1 h2 h3
   exact⟨g1,g2,g3, .inl fun x m=>g3 x ((k1.1 hq).2 x m)⟩
  ·simp only [if_true]
   obtain⟨g1,_,g3⟩:=k2 hq
   have g1:(iR out l [] false).1∈l∧(iR out l [] false).1∉out:=by
    rcases g1 with ⟨h,_⟩ | g1
    ·cases h
    ·exact g1
   generalize (iR out l [] false).1=c at g1 g3
   obtain⟨r1,r2,r3,r4⟩:=tF l n (out++ [c])
    (by
     refine List.pairwise_append.2 ⟨h1,by simp,fun x hx y hy=> ?_⟩
     have:y=c:=by simpa using hy
     subst this
     exact h3 x hx y g1.1 g1.2)
    (fun x hx=>by
     rcases List.mem_append.1 hx with hx | hx
     ·exact h2 x hx
     ·have:x=c:=by simpa using hx
      subst this;exact g1.1)
    (fun x hx y hy hn=>by
     have Xy:y∉out:=fun m=>hn (List.mem_append_left _ m)
     have hyc:y≠c:=fun e=>hn (List.mem_append_right _ (by simp [e]))
     rcases List.mem_append.1 hx with hx | hx
     ·exact h3 x hx y hy Xy
     ·have:x=c:=by simpa using hx
      subst this
      rcases uE x y with h | h | h
      ·exact h
      ·exact absurd h.symm hyc
      ·rw [g3 y hy Xy]at h;cases h)
   refine⟨r1,r2,fun x m=>r3 x (List.mem_append_left _ m),r4.imp_right fun h=> ?_⟩
   rw [h];simp;omega
theorem sZ : ∀ (a l:List aH),a.Nodup→(∀ x∈a,x∈l)→a.length≤l.length
 | [],l,_,_=>Nat.zero_le _
 | x::a,l,h,hm=>by
  obtain⟨h1,h2⟩:=List.nodup_cons.1 h
  have m:=hm x List.mem_cons_self
  have:=sZ a (l.erase x) h2 fun y hy=>(List.mem_erase_of_ne (fun e=>h1 (by rw [← e];exact hy))).2 (hm y (List.mem_cons_of_mem _ hy))
  rw [List.length_erase_of_mem m]at this
  have:0<l.length:=List.length_pos_of_mem m
  simp only [List.length_cons];omega
theorem o8 {l:List aH} (h:xi l):l.Nodup:=h.imp fun {a b} h e=>by subst e;rw [uD]at h;cases h
theorem jt (l:List aH):xi (fK l)∧∀ x,x∈fK l↔x∈l:=by
 obtain⟨h1,h2,h3,h4⟩:=tF l l.length [] List.Pairwise.nil (fun x m=>(by cases m)) (fun x m=>(by cases m))
 refine⟨h1,fun x=>⟨h2 x,fun m=> ?_⟩⟩
 rcases h4 with h4 | h4
 ·exact h4 x m
 ·refine Classical.byContradiction fun hn=> ?_
  have:=sZ (x::jV l l.length []) l (List.nodup_cons.2 ⟨hn,o8 h1⟩) fun y hy=>by
   rcases List.mem_cons.1 hy with rfl | hy
   ·exact m
   ·exact h2 y hy
  simp only [List.length_cons,h4,List.length_nil]at this
  omega
theorem FI (zs:List aH) (hs:zs.Pairwise fun a b=>bytesLess b a=false) : ∀ m,m≤zs.length→
 xi (Lib.compactUpTo zs.toArray m)∧(∀ x,x∈Lib.compactUpTo zs.toArray m↔x∈zs.take m):=by
 intro m
 induction m with
 | zero=>intro _;exact⟨by simp [Lib.compactUpTo,xi],fun x=>by simp [Lib.compactUpTo]⟩
 | succ m ih=>
  intro hm
  obtain⟨h1,h2⟩:=ih (by omega)
  have hz:zs[m]? = some zs[m]:=List.getElem?_eq_getElem (by omega)
  have e1:zs.toArray[m]! = zs[m]:=by simp [hm,Nat.lt_of_succ_le hm]
  have et:zs.take (m+1)=zs.take m++ [zs[m]]:=by rw [List.take_add_one,hz];rfl
  rw [Lib.compactUpTo_succ,e1,et]
  by_cases hk:Lib.keeps zs.toArray m=true
  ·rw [if_pos hk]
   refine⟨List.pairwise_append.2 ⟨h1,by simp,fun x hx y hy=> ?_⟩,fun x=>by rw [List.mem_append,List.mem_append,h2]⟩
   have hy:y=zs[m]:=by simpa using hy
   subst hy
   have hx:=(h2 x).1 hx
   simp only [Lib.keeps,decide_eq_true_eq]at hk
   rcases hk with rfl | hk
   ·simp at hx
   ·have Eu:m - 1<zs.length:=by omega
    have e2:zs.toArray[m - 1]! = zs[m - 1]:=by simp [Eu]
    rw [e1,e2]at hk
    have h0:0<m:=by
     cases m with
     | zero=>simp at hx
     | succ m=>omega
    have hle : ∀ i j (hi:i<zs.length) (hj:j<zs.length),i<j→bytesLess zs[j] zs[i] = false:=fun i j hi hj Oy=>List.pairwise_iff_getElem.1 hs i j hi hj Oy
    have g1:bytesLess zs[m] zs[m - 1] = false:=hle (m - 1) m Eu (by omega) (by omega)
    have g2:bytesLess zs[m - 1] zs[m] = true:=by
     rcases uE zs[m - 1] zs[m]with h | h | h
     ·exact h
     ·exact absurd h.symm hk
     ·rw [g1]at h;cases h
    obtain⟨i,hi,rfl⟩:=List.mem_iff_getElem.1 hx
    rw [List.length_take]at hi
    rw [List.getElem_take]
    by_cases oE:i=m - 1
    ·subst oE;exact g2
    ·have g3:=hle i (m - 1) (by omega) Eu (by omega)
     rcases uE zs[i] zs[m - 1]with h | h | h
     ·exact zW _ _ _ h g2
     ·rw [h];exact g2
     ·rw [g3]at h;cases h
  ·rw [if_neg hk]
   simp only [List.append_nil]
   refine⟨h1,fun x=> ?_⟩
   rw [h2]
   simp only [Lib.keeps,decide_eq_true_eq,not_or,ne_eq,Decidable.not_not]at hk
   obtain⟨k1,k2⟩:=hk
   have Eu:m - 1<zs.length:=by omega
   have e2:zs.toArray[m - 1]! = zs[m - 1]:=by simp [Eu]
   rw [e1,e2]at k2
   simp only [List.mem_append,List.mem_singleton]
   constructor
   ·exact .inl
   ·rintro(h | rfl)
    ·exact h
    ·rw [k2]
     exact List.mem_iff_getElem.2 ⟨m - 1,by rw [List.length_take];omega,by rw [List.getElem_take]⟩
theorem B9 (l:List aH):(kh l).Pairwise fun a b=>bytesLess b a=false:=by
 have h:=List.pairwise_mergeSort (le:=fun x y:aH=>decide (x≤y)) (fun a b c h1 h2=> ?_) (fun a b=> ?_) l
 ·refine h.imp fun {a b} h=> ?_
  rw [decide_eq_true_eq]at h
  show Go.Op.bytesLess b a=false
  rw [Go.Proofs.bytesLess_eq]
  simpa using h
 ·rw [decide_eq_true_eq]at h1 h2 ⊢
  exact List.le_trans h1 h2
 ·have:=List.le_total a b
  simpa using this
theorem xj (l:List aH):Lib.compact (kh l)=fK l:=by
 obtain⟨h1,h2⟩:=FI (kh l) (B9 l) (kh l).length (Nat.le_refl _)
 obtain⟨h3,h4⟩:=jt l
 refine tD h1 h3 fun x=> ?_
 rw [h4]
 refine(h2 x).trans ?_
 rw [List.take_length]
 exact(List.mergeSort_perm _ _).mem_iff
end Go.Abs

/-! Tc1 -/

namespace Go.Abs
set_option maxRecDepth 8000
open Go.Proofs
def gZ:List Sm→List aH
 | []=> []
 | v::l=>if v.kind==4 then v.proc::gZ l else gZ l
theorem tG : ∀ l:List Sm,(gZ l).length≤l.length
 | []=>Nat.le_refl _
 | v::l=>by
  simp only [gZ]
  have:=tG l
  split <;> simp <;> omega
def Pc.calls (f:Pc):List aH:=fK (gZ (Sm.fk f.body))
theorem xk {name:aH} : ∀ {l:List Pc} {k:Nat} {f:Pc},gV name l=some f→∃ j,l[j]? = some f∧kv (fun f:Pc=>f.name==name) (k:Int) l=((k+j:Nat):Int)
 | g::l,k,f,h=>by
  simp only [gV]at h
  cases e:(g.name==name)
  ·rw [e]at h
   simp only [Bool.false_eq_true,if_false]at h
   obtain⟨j,h1,h2⟩:=xk (k:=k+1) h
   refine⟨j+1,by simpa using h1, ?_⟩
   simp only [kv,e,Bool.false_eq_true,if_false]
   rw [show((k:Int)+1)=((k+1:Nat):Int)from rfl,h2]
   congr 1;omega
  ·rw [e]at h
   simp only [if_true,Option.some.injEq]at h
   exact⟨0,by simpa using h,by simp [kv,e]⟩
theorem QS {p:Pg} (h:p.iQ) {name:aH} {f:Pc} (hf:p.find name=some f) (s:St):aD Tryz.prog qC [.dJ (jK p) 0, .str name] s (.slice .shared 1 (f.calls.map encStr)) s:=by
 refine aD.pure ?_ (by simp [D.bM,D.ok,A5]) (by simp only [D.ok,Tag.ok,dL];rfl) s
 obtain⟨oj,ng,oZ⟩:=h.procs
 obtain⟨j,hj,vz⟩:=xk (k:=0) hf
 have vz:p.at name=((j:Nat):Int):=by unfold Pg.at;simpa using vz
 have BY:=fun s=>KF (p:=p) (by omega) name s
 rw [vz]at BY
 obtain⟨it,ni,K7⟩:=Nn hj (by omega)
 have Be:it.length≤900000:=by
  have e:=congrArg List.length ni
  obtain⟨a,b,e',_,_,e3,e4⟩:=(ou p).2 j f hj
  have e5:=ov p
  have e6:=congrArg List.length e3
  rw [e4]at e5
  simp only [List.length_map,List.length_append]at e e5 e6
  omega
 unfold S0
 obtain⟨fn,sR,xc⟩:=zz
 refine aD.intro ⟨fn,sR,xc⟩ (Nat.le_of_ble_eq_true rfl) fun B hB=> ?_
 generalize hQ:kQ (⟨[],[]⟩:St).aw.length (⟨[],[]⟩:St).aB.length _ _ (⟨[],[]⟩:St)=Q
 have⟨hD,hJ,hP,hY⟩:=bK
 refine Sem.lz ?_
 repeat' (first
 | simp only [go_sem,hD,hJ,hP,hY]
 | (with_reducible first | refine ax fun hc=> ?_ | refine ay fun hc=> ?_ | refine az (fun hc=> ?_) fun hc=> ?_) <;> (try simp only [hc,bs, ↓reduceIte]at h) <;> try simp only [hc]
 | (with_reducible refine aA hQ ?_;exact bx)
 | (cases h;done))
 refine Sem.lz ?_
 repeat' (first
 | simp only [go_sem,hD,hJ,hP,hY]
 | (with_reducible first | refine ax fun hc=> ?_ | refine ay fun hc=> ?_ | refine az (fun hc=> ?_) fun hc=> ?_) <;> (try simp only [hc,bs, ↓reduceIte]at h) <;> try simp only [hc]
 | (with_reducible refine aA hQ ?_;exact bx)
 | (cases h;done))
 refine Sem.lz ?_
 repeat' (first
 | simp only [go_sem,hD,hJ,hP,hY]
 | (with_reducible refine CU (BY _) ?_)
 | (with_reducible refine CU (K7 _) ?_)
 | (with_reducible first | refine ax fun hc=> ?_ | refine ay fun hc=> ?_ | refine az (fun hc=> ?_) fun hc=> ?_) <;> (try simp only [hc,bs, ↓reduceIte]at h) <;> try simp only [hc]
 | (with_reducible refine aA hQ ?_;exact bx)
 | (cases h;done))
 refine bl.kT 5 1 rfl ?_
 simp only [go_sem,hD,hJ,hP,hY]
 obtain⟨R,hR⟩ : ∃ R,R=gZ (Sm.fk f.body):=⟨_,rfl⟩
 have Lc:R.length≤900000:=by rw [hR, ← ni];have:=tG (it.map Im.s);rw [List.length_map]at this;omega
 refine cP 0 1 (bl.ind (ι:=List Im×Nat×List aH×Nat) (fun i=>it.drop i.2.1=i.1∧i.2.2.1++gZ (i.1.map Im.s)=R∧i.2.2.2=i.2.2.1.length) (fun i=>i.1.length)
  (fun i=> [(5, .slice (.tok 0) 1 (i.2.2.1.map encStr)),(12, .slice .shared 17 (it.map e8)),(13, .int .i64 (it.length:Int)),(14, .int .i64 (i.2.1:Int))]) (fun i=>⟨[],[some i.2.2.2]⟩) ?_ (it,0,[],0) ⟨rfl,by rw [hR,ni];rfl,rfl⟩)
 rintro⟨rest,k,out,n⟩ ⟨h1,h2,h3⟩ IH
 dsimp only at h1 h2 h3
 subst h3
 have mj:out.length≤900000:=by have:=congrArg List.length h2;rw [List.length_append]at this;omega
 cases rest with
 | cons a rest=>
  obtain⟨hJ,g2,hD,g4⟩:=drop_cons h1
  have bf:k<4611686018427387904:=by omega
  have hP:(out.length+1)*17≤bk:=by unfold bk;omega
  simp only [List.map_cons,gZ]at h2
  rcases Bool.eq_false_or_eq_true (a.s.kind==4)with c1 | c1
  ·simp only [c1,if_true]at h2
   repeat' (first
 | simp only [go_sem,hD,hJ,hP,hY,c1]
 | (with_reducible first | refine ax fun hc=> ?_ | refine ay fun hc=> ?_ | refine az (fun hc=> ?_) fun hc=> ?_) <;> (try simp only [hc,bs, ↓reduceIte]at h) <;> try simp only [hc]
 | (with_reducible refine aA hQ ?_;(try cases h);simp only [aE,aF,aN,aO,go_sem,hD,hJ,hP,hY,c1];try exact aQ)
 | (cases h;done))
   refine bX 0 1 ?_ ?_ (IH (rest,k+1,out++ [a.s.proc],out.length+1) ⟨g2,by rw [← h2];simp,by simp⟩ (Nat.lt_succ_self _))
   ·(simp only [go_sem,hD,hJ,hP,hY,au bf,List.map_append,List.map_cons,List.map_nil,encStr];try exact aT)
   ·(simp only [go_sem,hD,hJ,hP,hY,au bf,List.map_append,List.map_cons,List.map_nil,encStr];try exact aT)
  ·simp only [c1,Bool.false_eq_true,if_false]at h2
   repeat' (first
 | simp only [go_sem,hD,hJ,hP,hY,c1]
 | (with_reducible first | refine ax fun hc=> ?_ | refine ay fun hc=> ?_ | refine az (fun hc=> ?_) fun hc=> ?_) <;> (try simp only [hc,bs, ↓reduceIte]at h) <;> try simp only [hc]
 | (with_reducible refine aA hQ ?_;(try cases h);simp only [aE,aF,aN,aO,go_sem,hD,hJ,hP,hY,c1];try exact aQ)
 | (cases h;done))
   refine bX 0 1 ?_ ?_ (IH (rest,k+1,out,_) ⟨g2,h2,rfl⟩ (Nat.lt_succ_self _))
   ·(simp only [go_sem,hD,hJ,hP,hY,au bf];try exact aT)
   ·(simp only [go_sem,hD,hJ,hP,hY,au bf];try exact aT)
 | nil=>
  have hD:=drop_nil h1
  simp only [List.map_nil,gZ,List.append_nil]at h2
  subst h2
  have xf:(kh out).length=out.length:=List.length_mergeSort out
  repeat' (first
 | simp only [go_sem,hD,hJ,hP,hY]
 | (with_reducible first | refine ax fun hc=> ?_ | refine ay fun hc=> ?_ | refine az (fun hc=> ?_) fun hc=> ?_) <;> (try simp only [hc,bs, ↓reduceIte]at h) <;> try simp only [hc]
 | (with_reducible refine aA hQ ?_;exact bx)
 | (cases h;done))
  refine Sem.seq (Sem.sort (k:=5) (t:=0) (l:=out) hB (by decide) (by decide) (by decide) rfl rfl (by omega) ?_)
  show Sem _ _ _ _ _ _ _
  refine Sem.seq (Sem.compact (k:=5) (t:=0) (l:=kh out) hB (by decide) rfl (by rw [xf];rfl) (by rw [xf];omega) ?_)
  rw [xj]
  have NV:f.calls=fK out:=by unfold Pc.calls;rw [hR]
  rw [NV]at hQ
  refine ib (ac:= .ret) (Q:=Q) (tm:= [(32, .slice (.tok 0) 1 ((fK out).map encStr)),(4, .slice (.tok 0) 1 ((fK out).map encStr))]) (s:=⟨[],[some (fK out).length]⟩) ?_
  repeat' (first
 | simp only [go_sem,hD,hJ,hP,hY]
 | (with_reducible first | refine ax fun hc=> ?_ | refine ay fun hc=> ?_ | refine az (fun hc=> ?_) fun hc=> ?_) <;> (try simp only [hc,bs, ↓reduceIte]at h) <;> try simp only [hc]
 | (with_reducible refine aA hQ ?_;exact bx)
 | (cases h;done))
end Go.Abs

/-! Tc2 -/

namespace Go.Abs
set_option maxRecDepth 8000
open Go.Proofs
theorem NW {p:Pg} (h:p.iQ) (hb:p.may=true) {name:aH} {f:Pc} (hf:p.find name=some f) (s:St):aD Tryz.prog rN [.agg (bD p), .str name] s (.slice .shared 1 (f.calls.map encStr)) s:=by
 refine aD.pure ?_ (by simp [D.bM,D.ok,fT]) (by simp only [D.ok,Tag.ok,dL];rfl) s
 obtain⟨oj,ng,oZ⟩:=h.procs
 have o3:=fun s=>xD (p:=p) (by omega) name s
 have sQ:=(ky hf).1
 have rA:Sm.aU f.body<4611686018427387000:=by have:=Pc.bS sQ;simp only [Pc.size]at this;omega
 have iZ:=fun s=>w5 (f:=f) rA s
 have ni:=(nk hb).1 f sQ
 have Be:f.flat.length≤201:=f.pM
 simp only [hf,gY,Option.getD_some,Option.isSome_some]at o3
 obtain⟨R,hR⟩ : ∃ R,R=gZ (Sm.fk f.body):=⟨_,rfl⟩
 have Lc:R.length≤201:=by rw [hR, ← ni];have:=tG (f.flat.map It.s);rw [List.length_map]at this;omega
 have NV:f.calls=fK R:=by unfold Pc.calls;rw [hR]
 rw [NV]
 unfold S0
 refine aD.go AJ rfl fun B Q hB hQ=> ?_
 have⟨hD,hJ,hP,hY⟩:=bK
 repeat' (first
 | simp only [go_sem,hD,hJ,hP,hY]
 | (with_reducible refine CU (o3 _) ?_)
 | (with_reducible refine CU (iZ _) ?_)
 | (with_reducible first | refine ax fun hc=> ?_ | refine ay fun hc=> ?_ | refine az (fun hc=> ?_) fun hc=> ?_) <;> (try simp only [hc,bs, ↓reduceIte]at h) <;> try simp only [hc]
 | (with_reducible refine aA hQ ?_;exact bx)
 | (cases h;done))
 refine bl.kT 7 1 rfl ?_
 simp only [go_sem,hD,hJ,hP,hY]
 refine cP 0 1 (bl.ind (ι:=List It×Nat×List aH×Nat) (fun i=>f.flat.drop i.2.1=i.1∧i.2.2.1++gZ (i.1.map It.s)=R∧i.2.2.2=i.2.2.1.length) (fun i=>i.1.length)
  (fun i=> [(7, .slice (.tok 0) 1 (i.2.2.1.map encStr)),(17, .slice .shared 16 (f.flat.map dO)),(18, .int .i64 (f.flat.length:Int)),(19, .int .i64 (i.2.1:Int))]) (fun i=>⟨[],[some i.2.2.2]⟩) ?_ (f.flat,0,[],0) ⟨rfl,by rw [hR,ni];rfl,rfl⟩)
 rintro⟨rest,k,out,n⟩ ⟨h1,h2,h3⟩ IH
 dsimp only at h1 h2 h3
 subst h3
 have mj:out.length≤201:=by have:=congrArg List.length h2;rw [List.length_append]at this;omega
 cases rest with
 | cons a rest=>
  obtain⟨hJ,g2,hD,g4⟩:=drop_cons h1
  have bf:k<4611686018427387904:=by omega
  have hP:(out.length+1)*17≤bk:=by unfold bk;omega
  simp only [List.map_cons,gZ]at h2
  rcases Bool.eq_false_or_eq_true (a.s.kind==4)with c1 | c1
  ·simp only [c1,if_true]at h2
   repeat' (first
 | simp only [go_sem,hD,hJ,hP,hY,c1]
 | (with_reducible first | refine ax fun hc=> ?_ | refine ay fun hc=> ?_ | refine az (fun hc=> ?_) fun hc=> ?_) <;> (try simp only [hc,bs, ↓reduceIte]at h) <;> try simp only [hc]
 | (with_reducible refine aA hQ ?_;(try cases h);simp only [aE,aF,aN,aO,go_sem,hD,hJ,hP,hY,c1];try exact aQ)
 | (cases h;done))
   refine bX 0 1 ?_ ?_ (IH (rest,k+1,out++ [a.s.proc],out.length+1) ⟨g2,by rw [← h2];simp,by simp⟩ (Nat.lt_succ_self _))
   ·(simp only [go_sem,hD,hJ,hP,hY,au bf,List.map_append,List.map_cons,List.map_nil,encStr];try exact aT)
   ·(simp only [go_sem,hD,hJ,hP,hY,au bf,List.map_append,List.map_cons,List.map_nil,encStr];try exact aT)
  ·simp only [c1,Bool.false_eq_true,if_false]at h2
   repeat' (first
 | simp only [go_sem,hD,hJ,hP,hY,c1]
 | (with_reducible first | refine ax fun hc=> ?_ | refine ay fun hc=> ?_ | refine az (fun hc=> ?_) fun hc=> ?_) <;> (try simp only [hc,bs, ↓reduceIte]at h) <;> try simp only [hc]
 | (with_reducible refine aA hQ ?_;(try cases h);simp only [aE,aF,aN,aO,go_sem,hD,hJ,hP,hY,c1];try exact aQ)
 | (cases h;done))
   refine bX 0 1 ?_ ?_ (IH (rest,k+1,out,_) ⟨g2,h2,rfl⟩ (Nat.lt_succ_self _))
   ·(simp only [go_sem,hD,hJ,hP,hY,au bf];try exact aT)
   ·(simp only [go_sem,hD,hJ,hP,hY,au bf];try exact aT)
 | nil=>
  have hD:=drop_nil h1
  simp only [List.map_nil,gZ,List.append_nil]at h2
  subst h2
  have Ld:=fun s=>yJ (l:=out) (by omega) (.tok 0) s
  repeat' (first
 | simp only [go_sem,hD,hJ,hP,hY]
 | (with_reducible refine CU (Ld _) ?_)
 | (with_reducible first | refine ax fun hc=> ?_ | refine ay fun hc=> ?_ | refine az (fun hc=> ?_) fun hc=> ?_) <;> (try simp only [hc,bs, ↓reduceIte]at h) <;> try simp only [hc]
 | (with_reducible refine aA hQ ?_;exact bx)
 | (cases h;done))
theorem Ca {name:aH} : ∀ {l:List Pc},name∈l.map (·.name)→∃ f,gV name l=some f
 | f::l,h=>by
  simp only [gV]
  cases e:(f.name==name)
  ·simp only [Bool.false_eq_true,if_false]
   refine Ca ?_
   rcases List.mem_cons.1 h with h | h
   ·rw [h]at e;simp at e
   ·exact h
  ·exact⟨f,rfl⟩
theorem Cb {p:Pg} {f:Pc} {procs:List aH} : ∀ {l:List Sm},qN p f procs l=none→∀ v∈l,v.known p f procs=true
 | v::l,h,w,m=>by
  simp only [qN]at h
  split at h
  ·rename_i e
   rcases List.mem_cons.1 m with rfl | m
   ·exact e
   ·exact Cb h w m
  ·cases h
theorem Cc {p:Pg} {procs:List aH} : ∀ {l:List Pc},((nR p procs l).1==0)=true→∀ f∈l,ez (p.globals++f.own)=false∧∀ v∈Sm.fk f.body,v.known p f procs=true
 | g::l,h,f,m=>by
  simp only [nR]at h
  split at h
  ·cases h
  ·rename_i e
   split at h
   ·cases h
   ·rename_i e2
    rcases List.mem_cons.1 m with rfl | m
    ·exact⟨by simpa using e,Cb e2⟩
    ·exact Cc h f m
theorem EK {p:Pg} (h:(p.scope.1==0)=true):ez p.globals=false∧ez p.pn=false∧p.nS=false∧∀ f∈p.procs,ez (p.globals++f.own)=false∧∀ v∈Sm.fk f.body,v.known p f p.pn=true:=by
 unfold Pg.scope at h
 split at h
 ·split at h
  ·cases h
  ·rename_i e
   simp only [Bool.or_eq_true,not_or,Bool.not_eq_true]at e
   exact⟨e.1,e.2.1,e.2.2,Cc h⟩
 ·cases h
theorem tH {x:aH} : ∀ {l:List Sm},x∈gZ l↔∃ v∈l,v.kind=4∧v.proc=x
 | []=>by simp [gZ]
 | v::l=>by
  simp only [gZ]
  cases e:(v.kind==4)
  ·have:v.kind≠4:=by simpa using e
   simp [this,tH (l:=l)]
  ·have:v.kind=4:=by simpa using e
   simp only [if_true,List.mem_cons,tH (l:=l),exists_eq_or_imp,this,true_and]
   constructor
   ·rintro(h | h)
    ·exact .inl h.symm
    ·exact .inr h
   ·rintro(h | h)
    ·exact .inl h.symm
    ·exact .inr h
theorem Lf {f:Pc} {x:aH} : x∈f.calls↔∃ v∈Sm.fk f.body,v.kind=4∧v.proc=x:=by
 unfold Pc.calls;rw [(jt _).2,tH]
theorem tJ {p:Pg} (h:(p.scope.1==0)=true) {f:Pc} (hf:f∈p.procs) {x:aH} (m:x∈f.calls) : ∃ g,p.find x=some g:=by
 obtain⟨v,hv,h4,rfl⟩:=Lf.1 m
 have hk:=((EK h).2.2.2 f hf).2 v hv
 simp only [Sm.known,h4,Bool.and_eq_true,Bool.or_eq_true]at hk
 rcases hk.2 with h | ⟨_,h⟩
 ·simp at h
 ·exact Ca ((gU _ _).1 h)
def uF (p:Pg) (x:aH):List aH:=match p.find x with | some f=>f.calls | none=> []
def o9 (out:List aH):List aH→List aH
 | []=>out
 | x::l=>o9 (ke out x) l
def n3 (p:Pg):Nat→Nat→List aH→List aH
 | 0,_,out=>out
 | n+1,i,out=>match out[i]? with
  | some x=>n3 p n (i+1) (o9 out (uF p x))
  | none=>out
def Pg.work (p:Pg) (name:aH):List aH:=n3 p (p.procs.length+1) 0 [name]
def Good (p:Pg) (out:List aH):Prop:=out.Nodup∧∀ x∈out,∃ f,p.find x=some f
theorem Good.len {p:Pg} {out:List aH} (h:Good p out):out.length≤p.procs.length:=by
 have:=sZ out p.pn h.1 fun x m=>by
  obtain⟨f,hf⟩:=h.2 x m
  obtain⟨h1,h2⟩:=ky hf
  rw [← h2];exact List.mem_map_of_mem h1
 simpa [Pg.pn]using this
theorem Good.PE {p:Pg} {out:List aH} (h:Good p out) {x:aH} (hx : ∃ f,p.find x=some f):Good p (ke out x):=by
 unfold ke
 split
 ·exact h
 ·rename_i e
  have:x∉out:=fun m=>e ((gU _ _).2 m)
  refine⟨List.nodup_append.2 ⟨h.1,by simp,fun a ha b hb e'=> ?_⟩,fun y hy=> ?_⟩
  ·have hbx:b=x:=by simpa using hb
   rw [e',hbx]at ha;exact this ha
  ·rcases List.mem_append.1 hy with hy | hy
   ·exact h.2 y hy
   ·have:y=x:=by simpa using hy
    subst this;exact hx
theorem Good.add {p:Pg} : ∀ {l out:List aH},Good p out→(∀ x∈l,∃ f,p.find x=some f)→Good p (o9 out l)
 | [],out,h,_=>h
 | x::l,out,h,hx=>Good.add (l:=l) (out:=ke out x) (Good.PE h (hx x List.mem_cons_self)) fun y m=>hx y (List.mem_cons_of_mem _ m)
end Go.Abs

/-! Tc3 -/

namespace Go.Abs
set_option maxRecDepth 8000
open Go.Proofs
def Lg:Bool→Tag
 | true=> .tok 0
 | false=> .full
def Lh:Bool→Nat→List (Option Nat)
 | true,n=> [some n]
 | false,_=> []
theorem cW:Lg true = .tok 0:=rfl
theorem cY:Lg false = .full:=rfl
theorem fy (n:Nat):Lh true n = [some n]:=rfl
theorem fz (n:Nat):Lh false n = []:=rfl
theorem EL {l:List aH} {x:aH} (h:(l.length+1)*17≤bk) {g:Tag} (o:List (List D)) :
 gC 1 16 (.slice .full 1 (l.map encStr)) (.slice g 1 [[.str x]]) ⟨o,[]⟩=some (.slice (.tok 0) 1 (l.map encStr++ [[.str x]]),⟨o,[some (l.length+1)]⟩):=by
 simp [gC,h]
theorem Li {p:Pg} (h:p.iQ) (iS:(p.scope.1==0)=true) {name:aH} {f:Pc} (hf:p.find name=some f) (s:St):aD Tryz.prog qD [.agg (bD p), .str name] s (.slice .shared 1 ((fK (p.work name)).map encStr)) s:=by
 refine aD.pure ?_ (by simp [D.bM,D.ok,fT]) (by simp only [D.ok,Tag.ok,dL];rfl) s
 obtain⟨oj,ng,oZ⟩:=h.procs
 have hb:=lp iS
 obtain⟨R,hR⟩ : ∃ R,p.work name=R:=⟨_,rfl⟩
 rw [hR]
 unfold Pg.work at hR
 have Ts:Good p [name]:=⟨by simp,fun x m=>by
  have:x=name:=by simpa using m
  subst this;exact⟨f,hf⟩⟩
 unfold S0
 refine aD.go zA rfl fun B Q hB hQ=> ?_
 have⟨hD,hJ,hP,hY⟩:=bK
 repeat' (first
 | simp only [go_sem,hD,hJ,hP,hY]
 | (with_reducible first | refine ax fun hc=> ?_ | refine ay fun hc=> ?_ | refine az (fun hc=> ?_) fun hc=> ?_) <;> (try simp only [hc,bs, ↓reduceIte]at h) <;> try simp only [hc]
 | (with_reducible refine aA hQ ?_;exact bx)
 | (cases h;done))
 refine bX 1 0 ?_ ?_ (bl.ind (ι:=Nat×Nat×List aH×Bool×Nat) (fun i=>n3 p i.1 i.2.1 i.2.2.1=R∧Good p i.2.2.1∧i.1+i.2.1=p.procs.length+1∧i.2.2.2.2=i.2.2.1.length) (fun i=>i.1)
  (fun i=> [(2, .ptr 0 0),(5, .slice (Lg i.2.2.2.1) 1 (i.2.2.1.map encStr)),(6, .int .i64 (i.2.1:Int))]) (fun i=>⟨[bD p],Lh i.2.2.2.1 i.2.2.2.2⟩) ?_ (p.procs.length+1,0,[name],false,1) ⟨hR,Ts,rfl,rfl⟩)
 ·(simp only [go_sem,hD,hJ,hP,hY,cY,cW];try exact aT)
 ·(simp only [go_sem,hD,hJ,hP,hY,cY,cW];try exact aT)
 rintro⟨n,i,out,b,no⟩ ⟨h1,h2,h3,h4⟩ IH
 dsimp only at h1 h2 h3 h4
 subst h4
 have mj:=h2.len
 cases hx:out[i]? with
 | none=>
  have hD:decide ((i:Int)<(out.length:Int))=false:=by have:=List.getElem?_eq_none_iff.1 hx;simp;omega
  have:R=out:=by
   cases n with
   | zero=>simpa [n3]using h1.symm
   | succ n=>simp only [n3,hx]at h1;exact h1.symm
  subst this
  cases b
  all_goals
   have Ld:=fun g s=>yJ (l:=R) (by omega) g s
   repeat' (first
 | simp only [go_sem,hD,hJ,hP,hY,cW,cY,fy,fz]
 | (with_reducible refine CU (Ld _ _) ?_)
 | (with_reducible first | refine ax fun hc=> ?_ | refine ay fun hc=> ?_ | refine az (fun hc=> ?_) fun hc=> ?_) <;> (try simp only [hc,bs, ↓reduceIte]at h) <;> try simp only [hc]
 | (with_reducible refine aA hQ ?_;(try cases h);simp only [aE,aF,aN,aO,go_sem,hD,hJ,hP,hY,cW,cY,fy,fz];try exact aQ)
 | (cases h;done))
 | some x=>
  have nM:=(List.getElem?_eq_some_iff.1 hx).1
  have hD:decide ((i:Int)<(out.length:Int))=true:=by simp;omega
  have oE:i<4611686018427387904:=by omega
  cases n with
  | zero=>omega
  | succ n=>
  simp only [n3,hx]at h1
  obtain⟨g,se⟩:=h2.2 x (List.mem_of_getElem? hx)
  have zX:=(ky se).1
  have x9:=fun s=>NW h hb se s
  have Tt:uF p x=g.calls:=by unfold uF;rw [se]
  rw [Tt]at h1
  have EM : ∀ y∈g.calls,∃ f,p.find y=some f:=fun y m=>tJ iS zX m
  have acR:g.calls.length≤p.procs.length:=Good.len ⟨o8 (jt _).1,EM⟩
  obtain⟨W,hW⟩ : ∃ W,o9 out g.calls=W:=⟨_,rfl⟩
  have hWg:Good p W:=hW ▸ h2.add EM
  rw [hW]at h1
  cases b
  ·repeat' (first
 | simp only [go_sem,hD,hJ,hP,hY,cW,cY,fy,fz,hx]
 | (with_reducible refine CU (x9 _) ?_)
 | (with_reducible first | refine ax fun hc=> ?_ | refine ay fun hc=> ?_ | refine az (fun hc=> ?_) fun hc=> ?_) <;> (try simp only [hc,bs, ↓reduceIte]at h) <;> try simp only [hc]
 | (with_reducible refine aA hQ ?_;(try cases h);simp only [aE,aF,aN,aO,go_sem,hD,hJ,hP,hY,cW,cY,fy,fz,hx];try exact aQ)
 | (cases h;done))
   refine bX 1 0 ?_ ?_ (bl.ind (ι:=List aH×Nat×List aH×Bool×Nat) (fun j=>g.calls.drop j.2.1=j.1∧o9 j.2.2.1 j.1=W∧Good p j.2.2.1∧j.2.2.2.2=j.2.2.1.length) (fun j=>j.1.length)
    (fun j=> [(2, .ptr 0 0),(5, .slice (Lg j.2.2.2.1) 1 (j.2.2.1.map encStr)),(6, .int .i64 (i:Int)),(22, .slice .shared 1 (g.calls.map encStr)),(23, .int .i64 (g.calls.length:Int)),(24, .int .i64 (j.2.1:Int))]) (fun j=>⟨[bD p],Lh j.2.2.2.1 j.2.2.2.2⟩) ?_ (g.calls,0,out,false,out.length) ⟨rfl,hW,h2,rfl⟩)
   ·(simp only [go_sem,hD,hJ,hP,hY,cY,cW];try exact aT)
   ·(simp only [go_sem,hD,hJ,hP,hY,cY,cW];try exact aT)
   clear hW
   rintro⟨rest,k,bo,b',n'⟩ ⟨j1,j2,j3,j4⟩ mC
   dsimp only at j1 j2 j3 j4
   subst j4
   have Tv:=j3.len
   cases rest with
   | nil=>
    have qP:=drop_nil j1
    simp only [o9]at j2
    subst j2
    cases b'
    ·repeat' (first
 | simp only [go_sem,hD,hJ,hP,hY,cW,cY,fy,fz,qP]
 | (with_reducible first | refine ax fun hc=> ?_ | refine ay fun hc=> ?_ | refine az (fun hc=> ?_) fun hc=> ?_) <;> (try simp only [hc,bs, ↓reduceIte]at h) <;> try simp only [hc]
 | (with_reducible refine aA hQ ?_;(try cases h);simp only [aE,aF,aN,aO,go_sem,hD,hJ,hP,hY,cW,cY,fy,fz,qP];try exact aQ)
 | (cases h;done))
     refine bX 1 0 ?_ ?_ (IH (n,i+1,bo,false,bo.length) ⟨h1,j3,by dsimp only;omega,rfl⟩ (Nat.lt_succ_self _))
     ·(simp only [go_sem,hD,hJ,hP,hY,cY,cW,au oE];try exact aT)
     ·(simp only [go_sem,hD,hJ,hP,hY,cY,cW,au oE];try exact aT)
    ·repeat' (first
 | simp only [go_sem,hD,hJ,hP,hY,cW,cY,fy,fz,qP]
 | (with_reducible first | refine ax fun hc=> ?_ | refine ay fun hc=> ?_ | refine az (fun hc=> ?_) fun hc=> ?_) <;> (try simp only [hc,bs, ↓reduceIte]at h) <;> try simp only [hc]
 | (with_reducible refine aA hQ ?_;(try cases h);simp only [aE,aF,aN,aO,go_sem,hD,hJ,hP,hY,cW,cY,fy,fz,qP];try exact aQ)
 | (cases h;done))
     refine bX 1 1 ?_ ?_ (IH (n,i+1,bo,true,_) ⟨h1,j3,by dsimp only;omega,rfl⟩ (Nat.lt_succ_self _))
     ·(simp only [go_sem,hD,hJ,hP,hY,cY,cW,au oE];try exact aT)
     ·(simp only [go_sem,hD,hJ,hP,hY,cY,cW,au oE];try exact aT)
   | cons y rest=>
    obtain⟨dH,kC,fv,zS⟩:=drop_cons j1
    have fw:k<4611686018427387904:=by omega
    have hP:(bo.length+1)*17≤bk:=by unfold bk;omega
    have kD:=fun g s=>vi (l:=bo) (by omega) y g s
    have cf:=fun o=>EL (l:=bo) (x:=y) hP (g:= .full) o
    have hy:=EM y (List.mem_of_getElem? dH)
    have mS:=j3.PE hy
    simp only [o9]at j2
    rcases Bool.eq_false_or_eq_true (dv bo y)with c1 | c1
    ·simp only [ke,c1,if_true]at j2
     cases b'
     ·repeat' (first
 | simp only [go_sem,hD,hJ,hP,hY,cW,cY,fy,fz,fv,dH,c1]
 | (with_reducible refine CU (kD _ _) ?_)
 | (with_reducible first | refine ax fun hc=> ?_ | refine ay fun hc=> ?_ | refine az (fun hc=> ?_) fun hc=> ?_) <;> (try simp only [hc,bs, ↓reduceIte]at h) <;> try simp only [hc]
 | (with_reducible refine aA hQ ?_;(try cases h);simp only [aE,aF,aN,aO,go_sem,hD,hJ,hP,hY,cW,cY,fy,fz,fv,dH,c1];try exact aQ)
 | (cases h;done))
      refine bX 1 0 ?_ ?_ (mC (rest,k+1,bo,false,bo.length) ⟨kC,j2,j3,rfl⟩ (Nat.lt_succ_self _))
      ·(simp only [go_sem,hD,hJ,hP,hY,cY,cW,au fw];try exact aT)
      ·(simp only [go_sem,hD,hJ,hP,hY,cY,cW,au fw];try exact aT)
     ·repeat' (first
 | simp only [go_sem,hD,hJ,hP,hY,cW,cY,fy,fz,fv,dH,c1]
 | (with_reducible refine CU (kD _ _) ?_)
 | (with_reducible first | refine ax fun hc=> ?_ | refine ay fun hc=> ?_ | refine az (fun hc=> ?_) fun hc=> ?_) <;> (try simp only [hc,bs, ↓reduceIte]at h) <;> try simp only [hc]
 | (with_reducible refine aA hQ ?_;(try cases h);simp only [aE,aF,aN,aO,go_sem,hD,hJ,hP,hY,cW,cY,fy,fz,fv,dH,c1];try exact aQ)
 | (cases h;done))
      refine bX 1 1 ?_ ?_ (mC (rest,k+1,bo,true,_) ⟨kC,j2,j3,rfl⟩ (Nat.lt_succ_self _))
      ·(simp only [go_sem,hD,hJ,hP,hY,cY,cW,au fw];try exact aT)
      ·(simp only [go_sem,hD,hJ,hP,hY,cY,cW,au fw];try exact aT)
    ·simp only [ke,c1,Bool.false_eq_true,if_false]at j2 mS
     cases b'
     ·repeat' (first
 | simp only [go_sem,hD,hJ,hP,hY,cW,cY,fy,fz,fv,dH,c1,cf]
 | (with_reducible refine CU (kD _ _) ?_)
 | (with_reducible first | refine ax fun hc=> ?_ | refine ay fun hc=> ?_ | refine az (fun hc=> ?_) fun hc=> ?_) <;> (try simp only [hc,bs, ↓reduceIte]at h) <;> try simp only [hc]
 | (with_reducible refine aA hQ ?_;(try cases h);simp only [aE,aF,aN,aO,go_sem,hD,hJ,hP,hY,cW,cY,fy,fz,fv,dH,c1,cf];try exact aQ)
 | (cases h;done))
      refine bX 1 1 ?_ ?_ (mC (rest,k+1,bo++ [y],true,bo.length+1) ⟨kC,j2,mS,by simp⟩ (Nat.lt_succ_self _))
      ·(simp only [go_sem,hD,hJ,hP,hY,cY,cW,au fw,List.map_append,List.map_cons,List.map_nil,encStr];try exact aT)
      ·(simp only [go_sem,hD,hJ,hP,hY,cY,cW,au fw,List.map_append,List.map_cons,List.map_nil,encStr];try exact aT)
     ·repeat' (first
 | simp only [go_sem,hD,hJ,hP,hY,cW,cY,fy,fz,fv,dH,c1]
 | (with_reducible refine CU (kD _ _) ?_)
 | (with_reducible first | refine ax fun hc=> ?_ | refine ay fun hc=> ?_ | refine az (fun hc=> ?_) fun hc=> ?_) <;> (try simp only [hc,bs, ↓reduceIte]at h) <;> try simp only [hc]
 | (with_reducible refine aA hQ ?_;(try cases h);simp only [aE,aF,aN,aO,go_sem,hD,hJ,hP,hY,cW,cY,fy,fz,fv,dH,c1];try exact aQ)
 | (cases h;done))
      refine bX 1 1 ?_ ?_ (mC (rest,k+1,bo++ [y],true,bo.length+1) ⟨kC,j2,mS,by simp⟩ (Nat.lt_succ_self _))
      ·(simp only [go_sem,hD,hJ,hP,hY,cY,cW,au fw,List.map_append,List.map_cons,List.map_nil,encStr];try exact aT)
      ·(simp only [go_sem,hD,hJ,hP,hY,cY,cW,au fw,List.map_append,List.map_cons,List.map_nil,encStr];try exact aT)
  ·repeat' (first
 | simp only [go_sem,hD,hJ,hP,hY,cW,cY,fy,fz,hx]
 | (with_reducible refine CU (x9 _) ?_)
 | (with_reducible first | refine ax fun hc=> ?_ | refine ay fun hc=> ?_ | refine az (fun hc=> ?_) fun hc=> ?_) <;> (try simp only [hc,bs, ↓reduceIte]at h) <;> try simp only [hc]
 | (with_reducible refine aA hQ ?_;(try cases h);simp only [aE,aF,aN,aO,go_sem,hD,hJ,hP,hY,cW,cY,fy,fz,hx];try exact aQ)
 | (cases h;done))
   refine bX 1 1 ?_ ?_ (bl.ind (ι:=List aH×Nat×List aH×Bool×Nat) (fun j=>g.calls.drop j.2.1=j.1∧o9 j.2.2.1 j.1=W∧Good p j.2.2.1∧j.2.2.2.2=j.2.2.1.length) (fun j=>j.1.length)
    (fun j=> [(2, .ptr 0 0),(5, .slice (Lg j.2.2.2.1) 1 (j.2.2.1.map encStr)),(6, .int .i64 (i:Int)),(22, .slice .shared 1 (g.calls.map encStr)),(23, .int .i64 (g.calls.length:Int)),(24, .int .i64 (j.2.1:Int))]) (fun j=>⟨[bD p],Lh j.2.2.2.1 j.2.2.2.2⟩) ?_ (g.calls,0,out,true,out.length) ⟨rfl,hW,h2,rfl⟩)
   ·(simp only [go_sem,hD,hJ,hP,hY,cY,cW];try exact aT)
   ·(simp only [go_sem,hD,hJ,hP,hY,cY,cW];try exact aT)
   clear hW
   rintro⟨rest,k,bo,b',n'⟩ ⟨j1,j2,j3,j4⟩ mC
   dsimp only at j1 j2 j3 j4
   subst j4
   have Tv:=j3.len
   cases rest with
   | nil=>
    have qP:=drop_nil j1
    simp only [o9]at j2
    subst j2
    cases b'
    ·repeat' (first
 | simp only [go_sem,hD,hJ,hP,hY,cW,cY,fy,fz,qP]
 | (with_reducible first | refine ax fun hc=> ?_ | refine ay fun hc=> ?_ | refine az (fun hc=> ?_) fun hc=> ?_) <;> (try simp only [hc,bs, ↓reduceIte]at h) <;> try simp only [hc]
 | (with_reducible refine aA hQ ?_;(try cases h);simp only [aE,aF,aN,aO,go_sem,hD,hJ,hP,hY,cW,cY,fy,fz,qP];try exact aQ)
 | (cases h;done))
     refine bX 1 0 ?_ ?_ (IH (n,i+1,bo,false,bo.length) ⟨h1,j3,by dsimp only;omega,rfl⟩ (Nat.lt_succ_self _))
     ·(simp only [go_sem,hD,hJ,hP,hY,cY,cW,au oE];try exact aT)
     ·(simp only [go_sem,hD,hJ,hP,hY,cY,cW,au oE];try exact aT)
    ·repeat' (first
 | simp only [go_sem,hD,hJ,hP,hY,cW,cY,fy,fz,qP]
 | (with_reducible first | refine ax fun hc=> ?_ | refine ay fun hc=> ?_ | refine az (fun hc=> ?_) fun hc=> ?_) <;> (try simp only [hc,bs, ↓reduceIte]at h) <;> try simp only [hc]
 | (with_reducible refine aA hQ ?_;(try cases h);simp only [aE,aF,aN,aO,go_sem,hD,hJ,hP,hY,cW,cY,fy,fz,qP];try exact aQ)
 | (cases h;done))
     refine bX 1 1 ?_ ?_ (IH (n,i+1,bo,true,_) ⟨h1,j3,by dsimp only;omega,rfl⟩ (Nat.lt_succ_self _))
     ·(simp only [go_sem,hD,hJ,hP,hY,cY,cW,au oE];try exact aT)
     ·(simp only [go_sem,hD,hJ,hP,hY,cY,cW,au oE];try exact aT)
   | cons y rest=>
    obtain⟨dH,kC,fv,zS⟩:=drop_cons j1
    have fw:k<4611686018427387904:=by omega
    have hP:(bo.length+1)*17≤bk:=by unfold bk;omega
    have kD:=fun g s=>vi (l:=bo) (by omega) y g s
    have cf:=fun o=>EL (l:=bo) (x:=y) hP (g:= .full) o
    have hy:=EM y (List.mem_of_getElem? dH)
    have mS:=j3.PE hy
    simp only [o9]at j2
    rcases Bool.eq_false_or_eq_true (dv bo y)with c1 | c1
    ·simp only [ke,c1,if_true]at j2
     cases b'
     ·repeat' (first
 | simp only [go_sem,hD,hJ,hP,hY,cW,cY,fy,fz,fv,dH,c1]
 | (with_reducible refine CU (kD _ _) ?_)
 | (with_reducible first | refine ax fun hc=> ?_ | refine ay fun hc=> ?_ | refine az (fun hc=> ?_) fun hc=> ?_) <;> (try simp only [hc,bs, ↓reduceIte]at h) <;> try simp only [hc]
 | (with_reducible refine aA hQ ?_;(try cases h);simp only [aE,aF,aN,aO,go_sem,hD,hJ,hP,hY,cW,cY,fy,fz,fv,dH,c1];try exact aQ)
 | (cases h;done))
      refine bX 1 0 ?_ ?_ (mC (rest,k+1,bo,false,bo.length) ⟨kC,j2,j3,rfl⟩ (Nat.lt_succ_self _))
      ·(simp only [go_sem,hD,hJ,hP,hY,cY,cW,au fw];try exact aT)
      ·(simp only [go_sem,hD,hJ,hP,hY,cY,cW,au fw];try exact aT)
     ·repeat' (first
 | simp only [go_sem,hD,hJ,hP,hY,cW,cY,fy,fz,fv,dH,c1]
 | (with_reducible refine CU (kD _ _) ?_)
 | (with_reducible first | refine ax fun hc=> ?_ | refine ay fun hc=> ?_ | refine az (fun hc=> ?_) fun hc=> ?_) <;> (try simp only [hc,bs, ↓reduceIte]at h) <;> try simp only [hc]
 | (with_reducible refine aA hQ ?_;(try cases h);simp only [aE,aF,aN,aO,go_sem,hD,hJ,hP,hY,cW,cY,fy,fz,fv,dH,c1];try exact aQ)
 | (cases h;done))
      refine bX 1 1 ?_ ?_ (mC (rest,k+1,bo,true,_) ⟨kC,j2,j3,rfl⟩ (Nat.lt_succ_self _))
      ·(simp only [go_sem,hD,hJ,hP,hY,cY,cW,au fw];try exact aT)
      ·(simp only [go_sem,hD,hJ,hP,hY,cY,cW,au fw];try exact aT)
    ·simp only [ke,c1,Bool.false_eq_true,if_false]at j2 mS
     cases b'
     ·repeat' (first
 | simp only [go_sem,hD,hJ,hP,hY,cW,cY,fy,fz,fv,dH,c1,cf]
 | (with_reducible refine CU (kD _ _) ?_)
 | (with_reducible first | refine ax fun hc=> ?_ | refine ay fun hc=> ?_ | refine az (fun hc=> ?_) fun hc=> ?_) <;> (try simp only [hc,bs, ↓reduceIte]at h) <;> try simp only [hc]
 | (with_reducible refine aA hQ ?_;(try cases h);simp only [aE,aF,aN,aO,go_sem,hD,hJ,hP,hY,cW,cY,fy,fz,fv,dH,c1,cf];try exact aQ)
 | (cases h;done))
      refine bX 1 1 ?_ ?_ (mC (rest,k+1,bo++ [y],true,bo.length+1) ⟨kC,j2,mS,by simp⟩ (Nat.lt_succ_self _))
      ·(simp only [go_sem,hD,hJ,hP,hY,cY,cW,au fw,List.map_append,List.map_cons,List.map_nil,encStr];try exact aT)
      ·(simp only [go_sem,hD,hJ,hP,hY,cY,cW,au fw,List.map_append,List.map_cons,List.map_nil,encStr];try exact aT)
     ·repeat' (first
 | simp only [go_sem,hD,hJ,hP,hY,cW,cY,fy,fz,fv,dH,c1]
 | (with_reducible refine CU (kD _ _) ?_)
 | (with_reducible first | refine ax fun hc=> ?_ | refine ay fun hc=> ?_ | refine az (fun hc=> ?_) fun hc=> ?_) <;> (try simp only [hc,bs, ↓reduceIte]at h) <;> try simp only [hc]
 | (with_reducible refine aA hQ ?_;(try cases h);simp only [aE,aF,aN,aO,go_sem,hD,hJ,hP,hY,cW,cY,fy,fz,fv,dH,c1];try exact aQ)
 | (cases h;done))
      refine bX 1 1 ?_ ?_ (mC (rest,k+1,bo++ [y],true,bo.length+1) ⟨kC,j2,mS,by simp⟩ (Nat.lt_succ_self _))
      ·(simp only [go_sem,hD,hJ,hP,hY,cY,cW,au fw,List.map_append,List.map_cons,List.map_nil,encStr];try exact aT)
      ·(simp only [go_sem,hD,hJ,hP,hY,cY,cW,au fw,List.map_append,List.map_cons,List.map_nil,encStr];try exact aT)
end Go.Abs

/-! Bsl -/

namespace Go.Abs
def vm:AI→AI
 | .op d g (.cT z k n ps)=> .op d g (.rm z k n ps)
 | a=>a
section
variable {P:Program}
theorem FJ {nt:Nat} {ops:Array Oper} {i:Nat} {o:Oper} {ai:AI} (hi:ops[i]? = some o) (hc:cI P nt ops o=some ai)
 {M:Map} {s:St} {w:World} {tm:Tm} {act:Act} (r:Rel M s w) (jI:Laid M s w) (ht:jZ M s tm act.tmps) {K':Tm→St→Prop} (h:gy P [vm ai] K' tm s)
 {K:Act→World→Prop} {Q:Exit→Act→World→Prop}
 (hK : ∀ d v s1 w1 M1,K' (tm.put ai.dst d) s1→Ext M s w M1 s1 w1→Rel M1 s1 w1→RD M1 s1 d v→K (act.put o.dst v) w1):wpOp P ops Q i K act w:=by
 by_cases hb : ∃ d g z k n ps,ai = .op d g (.cT z k n ps)
 ·obtain⟨d0,g0,z,k,n,ps,rfl⟩:=hb
  obtain⟨g,hg,_,hb⟩:=wD hc
  rw [qh hb]at hK
  simp only [wpOp,hi]
  have skip:K' (tm.put o.dst (.tuple [])) s→K (act.put o.dst Go.undef) w:=fun hk=>hK _ _ _ _ _ hk (Ext.refl M s w) r .undef
  have hd:=qh hb
  simp only [AI.dst]at hd
  subst hd
  have lQ:yW P o=some (.cT z k n ps)∧g0=g:=by
   unfold pR at hb
   split at hb
   ·split at hb
    ·obtain⟨xs,_,h⟩:=map_some hb;cases h
    ·cases hb
   ·obtain⟨xs,_,h⟩:=map_some hb;cases h
   ·split at hb
    ·cases hb
    ·split at hb
     ·rename_i lQ
      simp only [Option.some.injEq,AI.op.injEq,true_and]at hb
      obtain⟨h1,h2⟩:=hb
      split at h2
      ·cases h2
      ·cases h2;exact⟨lQ,h1.symm⟩
     ·rename_i ao eQ lQ
      simp only [Option.some.injEq,AI.op.injEq,true_and]at hb
      obtain⟨h1,h2⟩:=hb
      subst h2
      exact⟨lQ,h1.symm⟩
     ·cases hb
  obtain⟨lQ,rfl⟩:=lQ
  simp only [vm,gy]at h
  rcases iG hg ht h with ⟨hw,hA⟩ | ⟨hw,hB⟩
  ·simp only [hw,if_true]
   left
   split at hA
   ·rename_i d s' oo
    obtain⟨v,w',M',dK,r',hv,e'⟩:=uP lQ r ht oo
    unfold Oper.wp
    rcases dK with dK | ⟨dK,rfl⟩
    ·rw [dK,Oper.upon_value]
     exact hK _ _ _ _ _ hA e' r' hv
    ·rw [dK,Oper.upon_skip]
     exact hK _ _ _ _ _ hA e' r' hv
   ·exact hA.elim
  ·simp only [hw]
   exact skip hB
 ·have hs:vm ai=ai:=by
   unfold vm
   split
   ·rename_i d g z k n ps;exact absurd ⟨d,g,z,k,n,ps,rfl⟩ hb
   ·rfl
  rw [hs]at h
  exact ti hi hc r jI ht h hK
theorem QT {a:AI} {r:List AI} {K:Tm→St→Prop} {tm:Tm} {s:St} (h:gy P (a::r) K tm s):gy P [a] (gy P r K) tm s:=by
 cases a <;> exact h
theorem Cd {B:fY} {nt:Nat} {ops:Array Oper} {Q:Exit→Tm→St→Prop} : ∀ (l:List Nat) (ol:List Oper) (is:List AI),l.map (ops[·]?)=ol.map some→oB P nt ops ol=some is→
 ∀ (tm:Tm) (s:St) (act:Act) (w:World),gy P (is.map vm) (Q .normal) tm s→Holds B nt tm s act w→wpOps P ops (nE B nt Q) l act w
 | [],[],is,_,hc,tm,s,act,w,h,hh=>by cases hc;exact⟨tm,s,h,hh⟩
 | [],_::_,_,hl,_,_,_,_,_,_,_=>by simp at hl
 | _::_,[],_,hl,_,_,_,_,_,_,_=>by simp at hl
 | i::l,o::ol,is,hl,hc,tm,s,act,w,h,hh=>by
  simp only [List.map_cons,List.cons.injEq]at hl
  obtain⟨hi,hl⟩:=hl
  unfold oB at hc
  split at hc
  ·rename_i ai Jw h1 h2
   cases hc
   obtain⟨M,e,r,ht,hn,hd⟩:=hh
   have n6:=tY h1
   have hdd:=qi h1
   rw [List.map_cons]at h
   have key:=FJ (K:=fun act w=>wpOps P ops (nE B nt Q) l act w) (Q:=nE B nt Q) hi h1 r (B.laid.ext e) ht (QT h) (fun d v s1 w1 M1 hk e1 r1 hv=>
    Cd (Q:=Q) l ol Jw hl h2 _ _ _ _ hk (hdd ▸ Holds.put e ht hn hd n6 e1 r1 hv))
   simpa only [wpOps,wpOp,hi]using key
  ·cases hc
theorem Sem.swap {B:fY} {nt:Nat} {is:List AI} {Q:Exit→Tm→St→Prop} {tm:Tm} {s:St} (h:jn P B nt (.run (is.map vm)) Q tm s):Sem P B nt (.run is) Q tm s:=by
 intro c hc act w hh
 obtain⟨id,ops,rfl,hi⟩:=j6 hc
 refine wp_region ?_
 exact Cd _ _ is (wz ops) hi tm s act w (l5 h) hh
end
end Go.Abs

/-! Tc4 -/

namespace Go.Abs
set_option maxRecDepth 8000
open Go.Proofs
theorem IZ {l:List aH} (h:l.Nodup):kh l=fK l:=by
 refine tD ?_ (jt l).1 fun x=> ?_
 ·have h1:=B9 l
  have h2:(kh l).Nodup:=(List.mergeSort_perm l _).nodup_iff.2 h
  refine(List.pairwise_and_iff.2 ⟨h1,h2⟩).imp fun {a b} wW=> ?_
  rcases uE a b with e | e | e
  ·exact e
  ·exact absurd e wW.2
  ·rw [wW.1]at e;cases e
 ·rw [(jt l).2];exact(List.mergeSort_perm l _).mem_iff
theorem xl {p:Pg} (iS:(p.scope.1==0)=true) : ∀ (n i:Nat) (out:List aH),Good p out→Good p (n3 p n i out)
 | 0,i,out,h=>h
 | n+1,i,out,h=>by
  simp only [n3]
  split
  ·rename_i x hx
   obtain⟨g,hg⟩:=h.2 x (List.mem_of_getElem? hx)
   refine xl iS n _ _ (h.add fun y m=> ?_)
   unfold uF at m
   rw [hg]at m
   exact tJ iS (ky hg).1 m
  ·exact h
theorem yK {p:Pg} {name:aH} {f:Pc} (hf:p.find name=some f):Good p [name]:=
 ⟨by simp,fun x m=>by
  have:x=name:=by simpa using m
  subst this;exact⟨f,hf⟩⟩
theorem Wx {p:Pg} (h:p.iQ) (iS:(p.scope.1==0)=true) {name:aH} {f:Pc} (hf:p.find name=some f) (s:St):aD Tryz.prog tt [.dJ (jK p) 0, .str name] s (.slice .shared 1 ((fK (p.work name)).map encStr)) s:=by
 refine aD.pure ?_ (by simp [D.bM,D.ok,A5]) (by simp only [D.ok,Tag.ok,dL];rfl) s
 obtain⟨oj,ng,oZ⟩:=h.procs
 obtain⟨R,hR⟩ : ∃ R,p.work name=R:=⟨_,rfl⟩
 have Xz:Good p R:=hR ▸ xl iS _ _ _ (yK hf)
 rw [hR, ← IZ Xz.1]
 unfold Pg.work at hR
 have Ts:Good p [name]:=yK hf
 have Lc:=Xz.len
 unfold S0
 obtain⟨fn,sR,xc⟩:=CA
 refine aD.intro ⟨fn,sR,xc⟩ (Nat.le_of_ble_eq_true rfl) fun B hB=> ?_
 generalize hQ:kQ (⟨[],[]⟩:St).aw.length (⟨[],[]⟩:St).aB.length _ _ (⟨[],[]⟩:St)=Q
 have⟨hD,hJ,hP,hY⟩:=bK
 refine Sem.lz ?_
 repeat' (first
 | simp only [go_sem,hD,hJ,hP,hY]
 | (with_reducible first | refine ax fun hc=> ?_ | refine ay fun hc=> ?_ | refine az (fun hc=> ?_) fun hc=> ?_) <;> (try simp only [hc,bs, ↓reduceIte]at h) <;> try simp only [hc]
 | (with_reducible refine aA hQ ?_;exact bx)
 | (cases h;done))
 refine Sem.seq (Sem.swap ?_)
 simp only [List.map_cons,List.map_nil,vm]
 repeat' (first
 | simp only [go_sem,hD,hJ,hP,hY]
 | (with_reducible first | refine ax fun hc=> ?_ | refine ay fun hc=> ?_ | refine az (fun hc=> ?_) fun hc=> ?_) <;> (try simp only [hc,bs, ↓reduceIte]at h) <;> try simp only [hc]
 | (with_reducible refine aA hQ ?_;exact bx)
 | (cases h;done))
 refine Sem.lz ?_
 repeat' (first
 | simp only [go_sem,hD,hJ,hP,hY]
 | (with_reducible first | refine ax fun hc=> ?_ | refine ay fun hc=> ?_ | refine az (fun hc=> ?_) fun hc=> ?_) <;> (try simp only [hc,bs, ↓reduceIte]at h) <;> try simp only [hc]
 | (with_reducible refine aA hQ ?_;exact bx)
 | (cases h;done))
 refine cP 0 1 (bl.ind (ι:=Nat×Nat×List aH×Nat) (fun i=>n3 p i.1 i.2.1 i.2.2.1=R∧Good p i.2.2.1∧i.1+i.2.1=p.procs.length+1∧i.2.2.2=i.2.2.1.length) (fun i=>i.1)
  (fun i=> [(0, .dJ (jK p) 0),(5, .slice (.tok 0) 1 (i.2.2.1.map encStr)),(6, .int .i64 (i.2.1:Int))]) (fun i=>⟨[],[some i.2.2.2]⟩) ?_ (p.procs.length+1,0,[name],1) ⟨hR,Ts,rfl,rfl⟩)
 rintro⟨n,i,out,no⟩ ⟨h1,h2,h3,h4⟩ IH
 dsimp only at h1 h2 h3 h4
 subst h4
 have mj:=h2.len
 cases hx:out[i]? with
 | none=>
  have hD:decide ((i:Int)<(out.length:Int))=false:=by have:=List.getElem?_eq_none_iff.1 hx;simp;omega
  have:R=out:=by
   cases n with
   | zero=>simpa [n3]using h1.symm
   | succ n=>simp only [n3,hx]at h1;exact h1.symm
  subst this
  repeat' (first
 | simp only [go_sem,hD,hJ,hP,hY]
 | (with_reducible first | refine ax fun hc=> ?_ | refine ay fun hc=> ?_ | refine az (fun hc=> ?_) fun hc=> ?_) <;> (try simp only [hc,bs, ↓reduceIte]at h) <;> try simp only [hc]
 | (with_reducible refine aA hQ ?_;exact bx)
 | (cases h;done))
  refine Sem.seq (Sem.sort (k:=5) (t:=0) (l:=R) hB (by decide) (by decide) (by decide) rfl rfl (by omega) ?_)
  refine ib (ac:=Xh) (Q:=Q) (tm:= [(5, .slice (.tok 0) 1 ((kh R).map encStr))]) (s:=⟨[],[some R.length]⟩) ?_
  repeat' (first
 | simp only [go_sem,hD,hJ,hP,hY]
 | (with_reducible first | refine ax fun hc=> ?_ | refine ay fun hc=> ?_ | refine az (fun hc=> ?_) fun hc=> ?_) <;> (try simp only [hc,bs, ↓reduceIte]at h) <;> try simp only [hc]
 | (with_reducible refine aA hQ ?_;exact bx)
 | (cases h;done))
 | some x=>
  have nM:=(List.getElem?_eq_some_iff.1 hx).1
  have hD:decide ((i:Int)<(out.length:Int))=true:=by simp;omega
  have oE:i<4611686018427387904:=by omega
  cases n with
  | zero=>omega
  | succ n=>
  simp only [n3,hx]at h1
  obtain⟨g,se⟩:=h2.2 x (List.mem_of_getElem? hx)
  have zX:=(ky se).1
  have x9:=fun s=>QS h se s
  have Tt:uF p x=g.calls:=by unfold uF;rw [se]
  rw [Tt]at h1
  have EM : ∀ y∈g.calls,∃ f,p.find y=some f:=fun y m=>tJ iS zX m
  have acR:g.calls.length≤p.procs.length:=Good.len ⟨o8 (jt _).1,EM⟩
  obtain⟨W,hW⟩ : ∃ W,o9 out g.calls=W:=⟨_,rfl⟩
  rw [hW]at h1
  repeat' (first
 | simp only [go_sem,hD,hJ,hP,hY,hx]
 | (with_reducible refine CU (x9 _) ?_)
 | (with_reducible first | refine ax fun hc=> ?_ | refine ay fun hc=> ?_ | refine az (fun hc=> ?_) fun hc=> ?_) <;> (try simp only [hc,bs, ↓reduceIte]at h) <;> try simp only [hc]
 | (with_reducible refine aA hQ ?_;(try cases h);simp only [aE,aF,aN,aO,go_sem,hD,hJ,hP,hY,hx];try exact aQ)
 | (cases h;done))
  refine cP 0 1 (bl.ind (ι:=List aH×Nat×List aH×Nat) (fun j=>g.calls.drop j.2.1=j.1∧o9 j.2.2.1 j.1=W∧Good p j.2.2.1∧j.2.2.2=j.2.2.1.length) (fun j=>j.1.length)
   (fun j=> [(0, .dJ (jK p) 0),(5, .slice (.tok 0) 1 (j.2.2.1.map encStr)),(6, .int .i64 (i:Int)),(22, .slice .shared 1 (g.calls.map encStr)),(23, .int .i64 (g.calls.length:Int)),(24, .int .i64 (j.2.1:Int))]) (fun j=>⟨[],[some j.2.2.2]⟩) ?_ (g.calls,0,out,out.length) ⟨rfl,hW,h2,rfl⟩)
  clear hW
  rintro⟨rest,k,bo,n'⟩ ⟨j1,j2,j3,j4⟩ mC
  dsimp only at j1 j2 j3 j4
  subst j4
  have Tv:=j3.len
  cases rest with
  | nil=>
   have qP:=drop_nil j1
   simp only [o9]at j2
   subst j2
   repeat' (first
 | simp only [go_sem,hD,hJ,hP,hY,qP]
 | (with_reducible first | refine ax fun hc=> ?_ | refine ay fun hc=> ?_ | refine az (fun hc=> ?_) fun hc=> ?_) <;> (try simp only [hc,bs, ↓reduceIte]at h) <;> try simp only [hc]
 | (with_reducible refine aA hQ ?_;(try cases h);simp only [aE,aF,aN,aO,go_sem,hD,hJ,hP,hY,qP];try exact aQ)
 | (cases h;done))
   refine bX 0 1 ?_ ?_ (IH (n,i+1,bo,bo.length) ⟨h1,j3,by dsimp only;omega,rfl⟩ (Nat.lt_succ_self _))
   ·(simp only [go_sem,hD,hJ,hP,hY,au oE];try exact aT)
   ·(simp only [go_sem,hD,hJ,hP,hY,au oE];try exact aT)
  | cons y rest=>
   obtain⟨dH,kC,fv,zS⟩:=drop_cons j1
   have fw:k<4611686018427387904:=by omega
   have hP:(bo.length+1)*17≤bk:=by unfold bk;omega
   have kD:=fun g s=>iI (l:=bo) (by omega) y g s
   have hy:=EM y (List.mem_of_getElem? dH)
   have mS:=j3.PE hy
   simp only [o9]at j2
   rcases Bool.eq_false_or_eq_true (dv bo y)with c1 | c1
   ·simp only [ke,c1,if_true]at j2
    repeat' (first
 | simp only [go_sem,hD,hJ,hP,hY,fv,dH,c1]
 | (with_reducible refine CU (kD _ _) ?_)
 | (with_reducible first | refine ax fun hc=> ?_ | refine ay fun hc=> ?_ | refine az (fun hc=> ?_) fun hc=> ?_) <;> (try simp only [hc,bs, ↓reduceIte]at h) <;> try simp only [hc]
 | (with_reducible refine aA hQ ?_;(try cases h);simp only [aE,aF,aN,aO,go_sem,hD,hJ,hP,hY,fv,dH,c1];try exact aQ)
 | (cases h;done))
    refine bX 0 1 ?_ ?_ (mC (rest,k+1,bo,bo.length) ⟨kC,j2,j3,rfl⟩ (Nat.lt_succ_self _))
    ·(simp only [go_sem,hD,hJ,hP,hY,au fw];try exact aT)
    ·(simp only [go_sem,hD,hJ,hP,hY,au fw];try exact aT)
   ·simp only [ke,c1,Bool.false_eq_true,if_false]at j2 mS
    repeat' (first
 | simp only [go_sem,hD,hJ,hP,hY,fv,dH,c1]
 | (with_reducible refine CU (kD _ _) ?_)
 | (with_reducible first | refine ax fun hc=> ?_ | refine ay fun hc=> ?_ | refine az (fun hc=> ?_) fun hc=> ?_) <;> (try simp only [hc,bs, ↓reduceIte]at h) <;> try simp only [hc]
 | (with_reducible refine aA hQ ?_;(try cases h);simp only [aE,aF,aN,aO,go_sem,hD,hJ,hP,hY,fv,dH,c1];try exact aQ)
 | (cases h;done))
    refine bX 0 1 ?_ ?_ (mC (rest,k+1,bo++ [y],bo.length+1) ⟨kC,j2,mS,by simp⟩ (Nat.lt_succ_self _))
    ·(simp only [go_sem,hD,hJ,hP,hY,au fw,List.map_append,List.map_cons,List.map_nil,encStr];try exact aT)
    ·(simp only [go_sem,hD,hJ,hP,hY,au fw,List.map_append,List.map_cons,List.map_nil,encStr];try exact aT)
end Go.Abs

/-! Tc5 -/

namespace Go.Abs
set_option maxRecDepth 8000
open Go.Proofs
theorem EN (name:aH) : ∀ l:List Pc,l.any (fun f=>f.name==name)=(gV name l).isSome
 | []=>rfl
 | f::l=>by
  simp only [List.any_cons,gV]
  cases e:(f.name==name)
  ·simp [EN name l]
  ·simp
theorem NY (name:aH) (f:Pc):aD Tryz.prog mA ([.agg (bR f)]++ [.ptr 0 0]) ⟨[[.str name]],[]⟩ (.bool (f.name==name)) ⟨[[.str name]],[]⟩:=by
 show aD Tryz.prog mA [.agg (bR f), .ptr 0 0] _ _ _
 refine aD.go xO rfl fun B Q hB hQ=> ?_
 have⟨hD,hJ,hP,hY⟩:=bK
 repeat' (first
 | simp only [go_sem,hD,hJ,hP,hY]
 | (with_reducible first | refine ax fun hc=> ?_ | refine ay fun hc=> ?_ | refine az (fun hc=> ?_) fun hc=> ?_) <;> (try simp only [hc,bs, ↓reduceIte]at h) <;> try simp only [hc]
 | (with_reducible refine aA hQ ?_;exact bx)
 | (cases h;done))
def Pg.tL (p:Pg) (name:aH):Option Pc:=if p.scope.1==0 then p.find name else none
theorem NZ {p:Pg} (h:p.iQ) (name:aH) (s:St):aD Tryz.prog qB [.agg (bD p), .str name] s (.bool (p.tL name).isSome) s:=by
 refine aD.pure ?_ (by simp [D.bM,D.ok,fT]) rfl s
 obtain⟨oj,ng,oZ⟩:=h.procs
 have ll:=fun s=>yH h s
 have hi:=fun {s:St} {o:Nat} (ho:s.aw[o]? = some [.str name])=>wV (vV (l:=p.procs) (f:=mA) (row:= [.str name]) (b:=fun f:Pc=>f.name==name) (by omega) rfl (by with_unfolding_all rfl) (fun x _=>NY name x)) rfl (C0 _) rfl ho
 have hZ:=fun {s:St} {o:Nat} (ho:s.aw[o]? = some [.str name])=>(show aD Tryz.prog fJ [.slice .shared 5 (p.procs.map bR), .fM 77 [.ptr o 0]] s (.bool (p.procs.any fun f:Pc=>f.name==name)) s from hi ho)
 simp only [EN]at hZ
 unfold Pg.tL Pg.find
 unfold S0
 rcases Bool.eq_false_or_eq_true (p.scope.1==0)with b1 | b1
 ·simp only [b1,if_true]
  refine aD.go sL rfl fun B Q hB hQ=> ?_
  have⟨hD,hJ,hP,hY⟩:=bK
  repeat' (first
 | simp only [go_sem,hD,hJ,hP,hY,b1]
 | (with_reducible refine CU (ll _) ?_)
 | (with_reducible refine CU (hZ (by with_unfolding_all rfl)) ?_)
 | (with_reducible first | refine ax fun hc=> ?_ | refine ay fun hc=> ?_ | refine az (fun hc=> ?_) fun hc=> ?_) <;> (try simp only [hc,bs, ↓reduceIte]at h) <;> try simp only [hc]
 | (with_reducible refine aA hQ ?_;(try cases h);simp only [aE,aF,aN,aO,go_sem,hD,hJ,hP,hY,b1];try exact aQ)
 | (cases h;done))
 ·simp only [b1,Bool.false_eq_true,if_false,Option.isSome_none]
  refine aD.go sL rfl fun B Q hB hQ=> ?_
  have⟨hD,hJ,hP,hY⟩:=bK
  repeat' (first
 | simp only [go_sem,hD,hJ,hP,hY,b1]
 | (with_reducible refine CU (ll _) ?_)
 | (with_reducible refine CU (hZ (by with_unfolding_all rfl)) ?_)
 | (with_reducible first | refine ax fun hc=> ?_ | refine ay fun hc=> ?_ | refine az (fun hc=> ?_) fun hc=> ?_) <;> (try simp only [hc,bs, ↓reduceIte]at h) <;> try simp only [hc]
 | (with_reducible refine aA hQ ?_;(try cases h);simp only [aE,aF,aN,aO,go_sem,hD,hJ,hP,hY,b1];try exact aQ)
 | (cases h;done))
def Pg.ai1 (p:Pg) (name:aH):List aH:=match p.tL name with | some f=>f.calls | none=> []
def Pg.acS (p:Pg) (name:aH):List aH:=match p.tL name with | some _=>fK (p.work name) | none=> []
theorem Ce {p:Pg} {name:aH} {f:Pc} (h:p.tL name=some f):(p.scope.1==0)=true∧p.find name=some f:=by
 unfold Pg.tL at h
 split at h
 ·exact⟨by assumption,h⟩
 ·cases h
end Go.Abs

/-! Tc6 -/

namespace Go.Abs
set_option maxRecDepth 8000
open Go.Proofs
def mE (p:Pg) (out:List aH):List aH→List aH
 | []=>out
 | v::l=>mE p (if dv p.globals v then out++ [v]else out) l
def mF (p:Pg) (out:List aH):List Sm→List aH
 | []=>out
 | v::l=>mF p (mE p out v.said) l
def pb (p:Pg) (n:aH):List Sm:=match p.find n with | some f=>Sm.fk f.body | none=> []
def n4 (p:Pg) (out:List aH):List aH→List aH
 | []=>out
 | n::l=>n4 p (mF p out (pb p n)) l
theorem pO (p:Pg) : ∀ (l out:List aH),out.length≤(mE p out l).length∧(mE p out l).length≤out.length+l.length
 | [],out=>⟨Nat.le_refl _,Nat.le_refl _⟩
 | v::l,out=>by
  simp only [mE]
  have h:=pO p l (if dv p.globals v then out++ [v]else out)
  have h2:out.length≤(if dv p.globals v then out++ [v]else out).length∧(if dv p.globals v then out++ [v]else out).length≤out.length+1:=by split <;> simp
  simp only [List.length_cons]
  omega
def mH:List Sm→Nat
 | []=>0
 | v::l=>v.said.length+mH l
theorem xm : ∀ a b:List Sm,mH (a++b)=mH a+mH b
 | [],b=>by simp [mH]
 | v::a,b=>by simp only [List.cons_append,mH,xm a b];omega
theorem QU (v:Sm):v.said.length≤1+v.x.size+2*Ar.aU v.args:=by
 have : ∀ (l:List Ar) (out:List aH),(Ar.said out l).length≤out.length+2*Ar.aU l:=by
  intro l
  induction l with
  | nil=>intro out;simp [Ar.said]
  | cons a l ih=>
   intro out
   simp only [Ar.said,Ar.aU]
   refine Nat.le_trans (ih _) ?_
   have:=fB a.x
   have:1≤a.x.size:=by obtain⟨_,_,_,_⟩:=a.x;simp [Ex.size]
   simp only [List.length_append]
   split <;> simp <;> omega
 have h1:=this v.args (v.o5++v.x.names)
 have h2:=fB v.x
 have h4:v.o5.length≤1:=by unfold Sm.o5;split <;> simp
 simp only [List.length_append]at h1
 unfold Sm.said
 omega
mutual
theorem Lj : ∀ s:Sm,mH s.pre≤2*s.size
 | ⟨id,kind,labels,name,proc,x,has,args,bp,bc⟩=>by
  simp only [Sm.pre,mH,xm,Sm.size]
  have h1:=QU ⟨id,kind,labels,name,proc,x,has,args,bp,bc⟩
  have h2:=rj bp
  have h3:=rj bc
  dsimp only at h1
  omega
theorem rj : ∀ l:List Sm,mH (Sm.fk l)≤2*Sm.aU l
 | []=>by simp [Sm.fk,mH,Sm.aU]
 | s::l=>by
  simp only [Sm.fk,xm,Sm.aU]
  have:=Lj s;have:=rj l;omega
end
theorem pP (p:Pg) : ∀ (l:List Sm) (out:List aH),out.length≤(mF p out l).length∧(mF p out l).length≤out.length+mH l
 | [],out=>⟨Nat.le_refl _,Nat.le_refl _⟩
 | v::l,out=>by
  simp only [mF,mH]
  have h:=pP p l (mE p out v.said)
  have h2:=pO p v.said out
  omega
theorem pQ {p:Pg} (h:p.iQ) : ∀ (l out:List aH),out.length≤(n4 p out l).length∧(n4 p out l).length≤out.length+l.length*1800000
 | [],out=>⟨Nat.le_refl _,by simp [n4]⟩
 | n::l,out=>by
  simp only [n4]
  have h1:=pQ h l (mF p out (pb p n))
  have h2:=pP p (pb p n) out
  have h3:mH (pb p n)≤1800000:=by
   unfold pb
   split
   ·rename_i f hf
    have:=rj f.body
    have h4:=Pc.bS (ky hf).1
    have h5:=h.procs.2.1
    simp only [Pc.size]at h4
    omega
   ·simp [mH]
  simp only [List.length_cons]
  omega
theorem Cf {p:Pg} (h:p.may=true):p.procs.length≤16:=by
 unfold Pg.may at h
 split at h
 ·cases h
 ·rename_i c
  simp only [Bool.or_eq_true,decide_eq_true_eq,not_or,Int.not_lt,gt_iff_lt]at c
  have:=c.1.2
  omega
def Pg.kz (p:Pg) (name:aH):List aH:=n4 p [] (fK (p.work name))
def Pg.lY (p:Pg) (name:aH):List aH:=match p.tL name with | some _=>fK (p.kz name) | none=> []
theorem yL {p:Pg} (iS:(p.scope.1==0)=true) {name:aH} {f:Pc} (hf:p.find name=some f):Good p (fK (p.work name)):=by
 have h:=xl iS (p.procs.length+1) 0 [name] (yK hf)
 refine⟨o8 (jt _).1,fun x m=>h.2 x ?_⟩
 exact((jt _).2 x).1 m
theorem I0 {p:Pg} (h:p.iQ) (iS:(p.scope.1==0)=true) {name:aH} {f:Pc} (hf:p.find name=some f) (s:St):aD Tryz.prog pI [.agg (bD p), .str name] s (.slice .shared 1 ((fK (p.kz name)).map encStr)) s:=by
 refine aD.pure ?_ (by simp [D.bM,D.ok,fT]) (by simp only [D.ok,Tag.ok,dL];rfl) s
 have hb:=lp iS
 obtain⟨oj,ng,oZ⟩:=h.procs
 have hN:=yL iS hf
 obtain⟨N,EO⟩ : ∃ N,fK (p.work name)=N:=⟨_,rfl⟩
 rw [EO]at hN
 have hNl:=hN.len
 obtain⟨R,hR⟩ : ∃ R,p.kz name=R:=⟨_,rfl⟩
 rw [hR]
 unfold Pg.kz at hR
 rw [EO]at hR
 have Lc:R.length≤28800000:=by
  have:=(pQ h N []).2
  rw [hR]at this
  have h4:=Cf (lp iS)
  have h3:N.length*1800000≤16*1800000:=Nat.mul_le_mul_right _ (by omega)
  simp only [List.length_nil]at this
  omega
 have x9:=fun s=>Li h iS hf s
 simp only [EO]at x9
 unfold S0
 refine aD.go yy rfl fun B Q hB hQ=> ?_
 have⟨hD,hJ,hP,hY⟩:=bK
 repeat' (first
 | simp only [go_sem,hD,hJ,hP,hY]
 | (with_reducible refine CU (x9 _) ?_)
 | (with_reducible first | refine ax fun hc=> ?_ | refine ay fun hc=> ?_ | refine az (fun hc=> ?_) fun hc=> ?_) <;> (try simp only [hc,bs, ↓reduceIte]at h) <;> try simp only [hc]
 | (with_reducible refine aA hQ ?_;exact bx)
 | (cases h;done))
 refine bl.kT 5 1 rfl ?_
 simp only [go_sem,hD,hJ,hP,hY]
 refine cP 1 1 (bl.ind (ι:=List aH×Nat×List aH×Nat) (fun i=>N.drop i.2.1=i.1∧n4 p i.2.2.1 i.1=R∧i.2.2.1.length≤R.length∧i.2.2.2=i.2.2.1.length) (fun i=>i.1.length)
  (fun i=> [(2, .ptr 0 0),(5, .slice (.tok 0) 1 (i.2.2.1.map encStr)),(16, .slice .shared 1 (N.map encStr)),(17, .int .i64 (N.length:Int)),(18, .int .i64 (i.2.1:Int))]) (fun i=>⟨[bD p],[some i.2.2.2]⟩) ?_ (N,0,[],0) ⟨rfl,hR,Nat.zero_le _,rfl⟩)
 rintro⟨rest,k,out,no⟩ ⟨h1,h2,h3,h4⟩ IH
 dsimp only at h1 h2 h3 h4
 subst h4
 cases rest with
 | nil=>
  have hD:=drop_nil h1
  simp only [n4]at h2
  subst h2
  have Ld:=fun g s=>yJ (l:=out) (by omega) g s
  repeat' (first
 | simp only [go_sem,hD,hJ,hP,hY]
 | (with_reducible refine CU (Ld _ _) ?_)
 | (with_reducible first | refine ax fun hc=> ?_ | refine ay fun hc=> ?_ | refine az (fun hc=> ?_) fun hc=> ?_) <;> (try simp only [hc,bs, ↓reduceIte]at h) <;> try simp only [hc]
 | (with_reducible refine aA hQ ?_;exact bx)
 | (cases h;done))
 | cons x rest=>
  obtain⟨hJ,g2,hD,g4⟩:=drop_cons h1
  have bf:k<4611686018427387904:=by omega
  obtain⟨g,se⟩:=hN.2 x (List.mem_of_getElem? hJ)
  have zX:=(ky se).1
  have Tw:pb p x=Sm.fk g.body:=by unfold pb;rw [se]
  simp only [n4,Tw]at h2
  have o3:=fun s=>xD (p:=p) (by omega) x s
  simp only [se,gY,Option.getD_some,Option.isSome_some]at o3
  have rA:Sm.aU g.body<4611686018427387000:=by have:=Pc.bS zX;simp only [Pc.size]at this;omega
  have iZ:=fun s=>w5 (f:=g) rA s
  obtain⟨it,XA⟩ : ∃ it,g.flat=it:=⟨_,rfl⟩
  have ni:=(nk hb).1 g zX
  have Be:g.flat.length≤201:=g.pM
  rw [XA]at ni Be
  simp only [XA]at iZ
  rw [← ni]at h2
  repeat' (first
 | simp only [go_sem,hD,hJ,hP,hY,hJ]
 | (with_reducible refine CU (o3 _) ?_)
 | (with_reducible refine CU (iZ _) ?_)
 | (with_reducible first | refine ax fun hc=> ?_ | refine ay fun hc=> ?_ | refine az (fun hc=> ?_) fun hc=> ?_) <;> (try simp only [hc,bs, ↓reduceIte]at h) <;> try simp only [hc]
 | (with_reducible refine aA hQ ?_;(try cases h);simp only [aE,aF,aN,aO,go_sem,hD,hJ,hP,hY,hJ];try exact aQ)
 | (cases h;done))
  obtain⟨W,hW⟩ : ∃ W,mF p out (it.map It.s)=W:=⟨_,rfl⟩
  rw [hW]at h2
  have Tx:W.length≤R.length:=by have:=(pQ h rest W).1;rw [h2]at this;exact this
  have EA:out.length≤W.length:=by have:=(pP p (it.map It.s) out).1;rw [hW]at this;exact this
  refine cP 1 1 (bl.ind (ι:=List It×Nat×List aH×Nat) (fun i=>it.drop i.2.1=i.1∧mF p i.2.2.1 (i.1.map It.s)=W∧i.2.2.1.length≤W.length∧i.2.2.2=i.2.2.1.length) (fun i=>i.1.length)
   (fun i=> [(2, .ptr 0 0),(5, .slice (.tok 0) 1 (i.2.2.1.map encStr)),(16, .slice .shared 1 (N.map encStr)),(17, .int .i64 (N.length:Int)),(18, .int .i64 (k:Int)),(29, .slice .shared 16 (it.map dO)),(30, .int .i64 (it.length:Int)),(31, .int .i64 (i.2.1:Int))]) (fun i=>⟨[bD p],[some i.2.2.2]⟩) ?_ (it,0,out,out.length) ⟨rfl,hW,EA,rfl⟩)
  rintro⟨kg,k2,og,no⟩ ⟨j1,j2,j3,j4⟩ sc
  dsimp only at j1 j2 j3 j4
  subst j4
  cases kg with
  | nil=>
   have EP:=drop_nil j1
   simp only [List.map_nil,mF]at j2
   subst j2
   repeat' (first
 | simp only [go_sem,hD,hJ,hP,hY,EP]
 | (with_reducible first | refine ax fun hc=> ?_ | refine ay fun hc=> ?_ | refine az (fun hc=> ?_) fun hc=> ?_) <;> (try simp only [hc,bs, ↓reduceIte]at h) <;> try simp only [hc]
 | (with_reducible refine aA hQ ?_;(try cases h);simp only [aE,aF,aN,aO,go_sem,hD,hJ,hP,hY,EP];try exact aQ)
 | (cases h;done))
   refine bX 1 1 ?_ ?_ (IH (rest,k+1,og,og.length) ⟨g2,h2,Tx,rfl⟩ (Nat.lt_succ_self _))
   ·(simp only [go_sem,hD,hJ,hP,hY,au bf];try exact aT)
   ·(simp only [go_sem,hD,hJ,hP,hY,au bf];try exact aT)
  | cons y kg=>
   obtain⟨dH,kC,fv,zS⟩:=drop_cons j1
   have fw:k2<4611686018427387904:=by omega
   have Ty:y.s∈Sm.fk g.body:=by rw [← ni];exact List.mem_map_of_mem (List.mem_of_getElem? dH)
   have xV:=h.said zX _ Ty
   have BQ:=fun s=>x8 xV s
   have xf:=vj _ xV
   simp only [List.map_cons,mF]at j2
   repeat' (first
 | simp only [go_sem,hD,hJ,hP,hY,fv,dH]
 | (with_reducible refine CU (BQ _) ?_)
 | (with_reducible first | refine ax fun hc=> ?_ | refine ay fun hc=> ?_ | refine az (fun hc=> ?_) fun hc=> ?_) <;> (try simp only [hc,bs, ↓reduceIte]at h) <;> try simp only [hc]
 | (with_reducible refine aA hQ ?_;(try cases h);simp only [aE,aF,aN,aO,go_sem,hD,hJ,hP,hY,fv,dH];try exact aQ)
 | (cases h;done))
   obtain⟨V,hV⟩ : ∃ V,mE p og y.s.said=V:=⟨_,rfl⟩
   rw [hV]at j2
   have Tz:V.length≤W.length:=by have:=(pP p (kg.map It.s) V).1;rw [j2]at this;exact this
   have TA:og.length≤V.length:=by have:=(pO p y.s.said og).1;rw [hV]at this;exact this
   refine cP 1 1 (bl.ind (ι:=List aH×Nat×List aH×Nat) (fun i=>y.s.said.drop i.2.1=i.1∧mE p i.2.2.1 i.1=V∧i.2.2.1.length≤V.length∧i.2.2.2=i.2.2.1.length) (fun i=>i.1.length)
    (fun i=> [(2, .ptr 0 0),(5, .slice (.tok 0) 1 (i.2.2.1.map encStr)),(16, .slice .shared 1 (N.map encStr)),(17, .int .i64 (N.length:Int)),(18, .int .i64 (k:Int)),(29, .slice .shared 16 (it.map dO)),(30, .int .i64 (it.length:Int)),(31, .int .i64 (k2:Int)),(37, .slice .shared 1 (y.s.said.map encStr)),(38, .int .i64 (y.s.said.length:Int)),(39, .int .i64 (i.2.1:Int))]) (fun i=>⟨[bD p],[some i.2.2.2]⟩) ?_ (y.s.said,0,og,og.length) ⟨rfl,hV,TA,rfl⟩)
   rintro⟨pd,k3,lI,no⟩ ⟨l1,l2,l3,l4⟩ Lk
   dsimp only at l1 l2 l3 l4
   subst l4
   cases pd with
   | nil=>
    have ER:=drop_nil l1
    simp only [mE]at l2
    subst l2
    repeat' (first
 | simp only [go_sem,hD,hJ,hP,hY,ER]
 | (with_reducible first | refine ax fun hc=> ?_ | refine ay fun hc=> ?_ | refine az (fun hc=> ?_) fun hc=> ?_) <;> (try simp only [hc,bs, ↓reduceIte]at h) <;> try simp only [hc]
 | (with_reducible refine aA hQ ?_;(try cases h);simp only [aE,aF,aN,aO,go_sem,hD,hJ,hP,hY,ER];try exact aQ)
 | (cases h;done))
    refine bX 1 1 ?_ ?_ (sc (kg,k2+1,lI,lI.length) ⟨kC,j2,Tz,rfl⟩ (Nat.lt_succ_self _))
    ·(simp only [go_sem,hD,hJ,hP,hY,au fw];try exact aT)
    ·(simp only [go_sem,hD,hJ,hP,hY,au fw];try exact aT)
   | cons z pd=>
    obtain⟨o7,EC,sX,Xt⟩:=drop_cons l1
    have vP:k3<4611686018427387904:=by omega
    have kD:=fun g s=>vi (l:=p.globals) (by omega) z g s
    simp only [mE]at l2
    rcases Bool.eq_false_or_eq_true (dv p.globals z)with c1 | c1
    ·simp only [c1,if_true]at l2
     have hP:(lI.length+1)*17≤bk:=by unfold bk;omega
     have TC:(lI++ [z]).length≤V.length:=by have:=(pO p pd (lI++ [z])).1;rw [l2]at this;exact this
     repeat' (first
 | simp only [go_sem,hD,hJ,hP,hY,sX,o7,c1]
 | (with_reducible refine CU (kD _ _) ?_)
 | (with_reducible first | refine ax fun hc=> ?_ | refine ay fun hc=> ?_ | refine az (fun hc=> ?_) fun hc=> ?_) <;> (try simp only [hc,bs, ↓reduceIte]at h) <;> try simp only [hc]
 | (with_reducible refine aA hQ ?_;(try cases h);simp only [aE,aF,aN,aO,go_sem,hD,hJ,hP,hY,sX,o7,c1];try exact aQ)
 | (cases h;done))
     refine bX 1 1 ?_ ?_ (Lk (pd,k3+1,lI++ [z],lI.length+1) ⟨EC,l2,TC,by simp⟩ (Nat.lt_succ_self _))
     ·(simp only [go_sem,hD,hJ,hP,hY,au vP,List.map_append,List.map_cons,List.map_nil,encStr];try exact aT)
     ·(simp only [go_sem,hD,hJ,hP,hY,au vP,List.map_append,List.map_cons,List.map_nil,encStr];try exact aT)
    ·simp only [c1,Bool.false_eq_true,if_false]at l2
     repeat' (first
 | simp only [go_sem,hD,hJ,hP,hY,sX,o7,c1]
 | (with_reducible refine CU (kD _ _) ?_)
 | (with_reducible first | refine ax fun hc=> ?_ | refine ay fun hc=> ?_ | refine az (fun hc=> ?_) fun hc=> ?_) <;> (try simp only [hc,bs, ↓reduceIte]at h) <;> try simp only [hc]
 | (with_reducible refine aA hQ ?_;(try cases h);simp only [aE,aF,aN,aO,go_sem,hD,hJ,hP,hY,sX,o7,c1];try exact aQ)
 | (cases h;done))
     refine bX 1 1 ?_ ?_ (Lk (pd,k3+1,lI,lI.length) ⟨EC,l2,l3,rfl⟩ (Nat.lt_succ_self _))
     ·(simp only [go_sem,hD,hJ,hP,hY,au vP];try exact aT)
     ·(simp only [go_sem,hD,hJ,hP,hY,au vP];try exact aT)
theorem Cg {p:Pg} (h:p.iQ) (name:aH) (s:St):aD Tryz.prog my [.agg (bD p), .str name] s (.slice .shared 1 ((p.lY name).map encStr)) s:=by
 refine aD.pure ?_ (by simp [D.bM,D.ok,fT]) (by simp only [D.ok,Tag.ok,dL];rfl) s
 have hk:=fun s=>NZ h name s
 have dN:=fun s=>C2 (p:=p) (by have:=h.procs;omega) s
 unfold Pg.lY
 unfold S0
 cases N0:p.tL name with
 | none=>
  simp only [N0,Option.isSome_none]at hk
  simp only [List.map_nil]
  refine aD.go qU rfl fun B Q hB hQ=> ?_
  have⟨hD,hJ,hP,hY⟩:=bK
  repeat' (first
 | simp only [go_sem,hD,hJ,hP,hY]
 | (with_reducible refine CU (hk _) ?_)
 | (with_reducible first | refine ax fun hc=> ?_ | refine ay fun hc=> ?_ | refine az (fun hc=> ?_) fun hc=> ?_) <;> (try simp only [hc,bs, ↓reduceIte]at h) <;> try simp only [hc]
 | (with_reducible refine aA hQ ?_;exact bx)
 | (cases h;done))
 | some f=>
 obtain⟨iS,hf⟩:=Ce N0
 simp only [N0,Option.isSome_some]at hk
 dsimp only
 obtain⟨oj,ng,oZ⟩:=h.procs
 have hN:=yL iS hf
 obtain⟨N,EO⟩ : ∃ N,fK (p.work name)=N:=⟨_,rfl⟩
 rw [EO]at hN
 have hNl:=hN.len
 obtain⟨R,hR⟩ : ∃ R,p.kz name=R:=⟨_,rfl⟩
 rw [hR]
 unfold Pg.kz at hR
 rw [EO]at hR
 have Lc:R.length≤28800000:=by
  have:=(pQ h N []).2
  rw [hR]at this
  have h4:=Cf (lp iS)
  have h3:N.length*1800000≤16*1800000:=Nat.mul_le_mul_right _ (by omega)
  simp only [List.length_nil]at this
  omega
 have x9:=fun s=>Wx h iS hf s
 simp only [EO]at x9
 obtain⟨fn,sR,xc⟩:=qU
 refine aD.intro ⟨fn,sR,xc⟩ (Nat.le_of_ble_eq_true rfl) fun B hB=> ?_
 generalize hQ:kQ (⟨[],[]⟩:St).aw.length (⟨[],[]⟩:St).aB.length _ _ (⟨[],[]⟩:St)=Q
 have⟨hD,hJ,hP,hY⟩:=bK
 refine Sem.lz ?_
 repeat' (first
 | simp only [go_sem,hD,hJ,hP,hY]
 | (with_reducible first | refine ax fun hc=> ?_ | refine ay fun hc=> ?_ | refine az (fun hc=> ?_) fun hc=> ?_) <;> (try simp only [hc,bs, ↓reduceIte]at h) <;> try simp only [hc]
 | (with_reducible refine aA hQ ?_;exact bx)
 | (cases h;done))
 refine Sem.lz ?_
 repeat' (first
 | simp only [go_sem,hD,hJ,hP,hY]
 | (with_reducible refine CU (hk _) ?_)
 | (with_reducible first | refine ax fun hc=> ?_ | refine ay fun hc=> ?_ | refine az (fun hc=> ?_) fun hc=> ?_) <;> (try simp only [hc,bs, ↓reduceIte]at h) <;> try simp only [hc]
 | (with_reducible refine aA hQ ?_;exact bx)
 | (cases h;done))
 refine Sem.lz ?_
 repeat' (first
 | simp only [go_sem,hD,hJ,hP,hY]
 | (with_reducible refine CU (dN _) ?_)
 | (with_reducible first | refine ax fun hc=> ?_ | refine ay fun hc=> ?_ | refine az (fun hc=> ?_) fun hc=> ?_) <;> (try simp only [hc,bs, ↓reduceIte]at h) <;> try simp only [hc]
 | (with_reducible refine aA hQ ?_;exact bx)
 | (cases h;done))
 refine Sem.lz ?_
 repeat' (first
 | simp only [go_sem,hD,hJ,hP,hY]
 | (with_reducible first | refine ax fun hc=> ?_ | refine ay fun hc=> ?_ | refine az (fun hc=> ?_) fun hc=> ?_) <;> (try simp only [hc,bs, ↓reduceIte]at h) <;> try simp only [hc]
 | (with_reducible refine aA hQ ?_;exact bx)
 | (cases h;done))
 refine Sem.lz ?_
 repeat' (first
 | simp only [go_sem,hD,hJ,hP,hY]
 | (with_reducible refine CU (x9 _) ?_)
 | (with_reducible first | refine ax fun hc=> ?_ | refine ay fun hc=> ?_ | refine az (fun hc=> ?_) fun hc=> ?_) <;> (try simp only [hc,bs, ↓reduceIte]at h) <;> try simp only [hc]
 | (with_reducible refine aA hQ ?_;exact bx)
 | (cases h;done))
 refine bl.kT 6 1 rfl ?_
 simp only [go_sem,hD,hJ,hP,hY]
 refine cP 1 1 (bl.ind (ι:=List aH×Nat×List aH×Nat) (fun i=>N.drop i.2.1=i.1∧n4 p i.2.2.1 i.1=R∧i.2.2.1.length≤R.length∧i.2.2.2=i.2.2.1.length) (fun i=>i.1.length)
  (fun i=> [(2, .ptr 0 0),(5, .dJ (jK p) 0),(6, .slice (.tok 0) 1 (i.2.2.1.map encStr)),(21, .slice .shared 1 (N.map encStr)),(22, .int .i64 (N.length:Int)),(23, .int .i64 (i.2.1:Int))]) (fun i=>⟨[bD p],[some i.2.2.2]⟩) ?_ (N,0,[],0) ⟨rfl,hR,Nat.zero_le _,rfl⟩)
 rintro⟨rest,k,out,no⟩ ⟨h1,h2,h3,h4⟩ IH
 dsimp only at h1 h2 h3 h4
 subst h4
 cases rest with
 | nil=>
  have hD:=drop_nil h1
  simp only [n4]at h2
  subst h2
  have xf:(kh out).length=out.length:=List.length_mergeSort out
  repeat' (first
 | simp only [go_sem,hD,hJ,hP,hY]
 | (with_reducible first | refine ax fun hc=> ?_ | refine ay fun hc=> ?_ | refine az (fun hc=> ?_) fun hc=> ?_) <;> (try simp only [hc,bs, ↓reduceIte]at h) <;> try simp only [hc]
 | (with_reducible refine aA hQ ?_;exact bx)
 | (cases h;done))
  refine Sem.seq (Sem.sort (k:=6) (t:=0) (l:=out) hB (by decide) (by decide) (by decide) rfl rfl (by omega) ?_)
  refine Sem.seq (Sem.compact (k:=6) (t:=0) (l:=kh out) hB (by decide) rfl (by rw [xf];rfl) (by rw [xf];omega) ?_)
  rw [xj]
  refine ib (ac:= .ret) (Q:=Q) (tm:= [(59, .slice (.tok 0) 1 ((fK out).map encStr)),(4, .slice (.tok 0) 1 ((fK out).map encStr))]) (s:=⟨[],[some (fK out).length]⟩) ?_
  repeat' (first
 | simp only [go_sem,hD,hJ,hP,hY]
 | (with_reducible first | refine ax fun hc=> ?_ | refine ay fun hc=> ?_ | refine az (fun hc=> ?_) fun hc=> ?_) <;> (try simp only [hc,bs, ↓reduceIte]at h) <;> try simp only [hc]
 | (with_reducible refine aA hQ ?_;exact bx)
 | (cases h;done))
 | cons x rest=>
  obtain⟨hJ,g2,hD,g4⟩:=drop_cons h1
  have bf:k<4611686018427387904:=by omega
  obtain⟨g,se⟩:=hN.2 x (List.mem_of_getElem? hJ)
  have zX:=(ky se).1
  have Tw:pb p x=Sm.fk g.body:=by unfold pb;rw [se]
  simp only [n4,Tw]at h2
  obtain⟨j,hj,vz⟩:=xk (k:=0) se
  have vz:p.at x=((j:Nat):Int):=by unfold Pg.at;simpa using vz
  have BY:=fun s=>KF (p:=p) (by omega) x s
  simp only [vz]at BY
  obtain⟨it,ni,K7⟩:=Nn hj (by omega)
  have Be:it.length≤900000:=by
   have e:=congrArg List.length ni
   obtain⟨a,b,e',_,_,e3,e4⟩:=(ou p).2 j g hj
   have e5:=ov p
   have e6:=congrArg List.length e3
   rw [e4]at e5
   simp only [List.length_map,List.length_append]at e e5 e6
   omega
  rw [← ni]at h2
  repeat' (first
 | simp only [go_sem,hD,hJ,hP,hY,hJ]
 | (with_reducible refine CU (BY _) ?_)
 | (with_reducible refine CU (K7 _) ?_)
 | (with_reducible first | refine ax fun hc=> ?_ | refine ay fun hc=> ?_ | refine az (fun hc=> ?_) fun hc=> ?_) <;> (try simp only [hc,bs, ↓reduceIte]at h) <;> try simp only [hc]
 | (with_reducible refine aA hQ ?_;(try cases h);simp only [aE,aF,aN,aO,go_sem,hD,hJ,hP,hY,hJ];try exact aQ)
 | (cases h;done))
  obtain⟨W,hW⟩ : ∃ W,mF p out (it.map Im.s)=W:=⟨_,rfl⟩
  rw [hW]at h2
  have Tx:W.length≤R.length:=by have:=(pQ h rest W).1;rw [h2]at this;exact this
  have EA:out.length≤W.length:=by have:=(pP p (it.map Im.s) out).1;rw [hW]at this;exact this
  refine cP 1 1 (bl.ind (ι:=List Im×Nat×List aH×Nat) (fun i=>it.drop i.2.1=i.1∧mF p i.2.2.1 (i.1.map Im.s)=W∧i.2.2.1.length≤W.length∧i.2.2.2=i.2.2.1.length) (fun i=>i.1.length)
   (fun i=> [(2, .ptr 0 0),(5, .dJ (jK p) 0),(6, .slice (.tok 0) 1 (i.2.2.1.map encStr)),(21, .slice .shared 1 (N.map encStr)),(22, .int .i64 (N.length:Int)),(23, .int .i64 (k:Int)),(31, .slice .shared 17 (it.map e8)),(32, .int .i64 (it.length:Int)),(33, .int .i64 (i.2.1:Int))]) (fun i=>⟨[bD p],[some i.2.2.2]⟩) ?_ (it,0,out,out.length) ⟨rfl,hW,EA,rfl⟩)
  rintro⟨kg,k2,og,no⟩ ⟨j1,j2,j3,j4⟩ sc
  dsimp only at j1 j2 j3 j4
  subst j4
  cases kg with
  | nil=>
   have EP:=drop_nil j1
   simp only [List.map_nil,mF]at j2
   subst j2
   repeat' (first
 | simp only [go_sem,hD,hJ,hP,hY,EP]
 | (with_reducible first | refine ax fun hc=> ?_ | refine ay fun hc=> ?_ | refine az (fun hc=> ?_) fun hc=> ?_) <;> (try simp only [hc,bs, ↓reduceIte]at h) <;> try simp only [hc]
 | (with_reducible refine aA hQ ?_;(try cases h);simp only [aE,aF,aN,aO,go_sem,hD,hJ,hP,hY,EP];try exact aQ)
 | (cases h;done))
   refine bX 1 1 ?_ ?_ (IH (rest,k+1,og,og.length) ⟨g2,h2,Tx,rfl⟩ (Nat.lt_succ_self _))
   ·(simp only [go_sem,hD,hJ,hP,hY,au bf];try exact aT)
   ·(simp only [go_sem,hD,hJ,hP,hY,au bf];try exact aT)
  | cons y kg=>
   obtain⟨dH,kC,fv,zS⟩:=drop_cons j1
   have fw:k2<4611686018427387904:=by omega
   have Ty:y.s∈Sm.fk g.body:=by rw [← ni];exact List.mem_map_of_mem (List.mem_of_getElem? dH)
   have xV:=h.said zX _ Ty
   have BQ:=fun s=>w7 xV s
   have xf:=vj _ xV
   simp only [List.map_cons,mF]at j2
   repeat' (first
 | simp only [go_sem,hD,hJ,hP,hY,fv,dH]
 | (with_reducible refine CU (BQ _) ?_)
 | (with_reducible first | refine ax fun hc=> ?_ | refine ay fun hc=> ?_ | refine az (fun hc=> ?_) fun hc=> ?_) <;> (try simp only [hc,bs, ↓reduceIte]at h) <;> try simp only [hc]
 | (with_reducible refine aA hQ ?_;(try cases h);simp only [aE,aF,aN,aO,go_sem,hD,hJ,hP,hY,fv,dH];try exact aQ)
 | (cases h;done))
   obtain⟨V,hV⟩ : ∃ V,mE p og y.s.said=V:=⟨_,rfl⟩
   rw [hV]at j2
   have Tz:V.length≤W.length:=by have:=(pP p (kg.map Im.s) V).1;rw [j2]at this;exact this
   have TA:og.length≤V.length:=by have:=(pO p y.s.said og).1;rw [hV]at this;exact this
   refine cP 1 1 (bl.ind (ι:=List aH×Nat×List aH×Nat) (fun i=>y.s.said.drop i.2.1=i.1∧mE p i.2.2.1 i.1=V∧i.2.2.1.length≤V.length∧i.2.2.2=i.2.2.1.length) (fun i=>i.1.length)
    (fun i=> [(2, .ptr 0 0),(5, .dJ (jK p) 0),(6, .slice (.tok 0) 1 (i.2.2.1.map encStr)),(21, .slice .shared 1 (N.map encStr)),(22, .int .i64 (N.length:Int)),(23, .int .i64 (k:Int)),(31, .slice .shared 17 (it.map e8)),(32, .int .i64 (it.length:Int)),(33, .int .i64 (k2:Int)),(39, .slice .shared 1 (y.s.said.map encStr)),(40, .int .i64 (y.s.said.length:Int)),(41, .int .i64 (i.2.1:Int))]) (fun i=>⟨[bD p],[some i.2.2.2]⟩) ?_ (y.s.said,0,og,og.length) ⟨rfl,hV,TA,rfl⟩)
   rintro⟨pd,k3,lI,no⟩ ⟨l1,l2,l3,l4⟩ Lk
   dsimp only at l1 l2 l3 l4
   subst l4
   cases pd with
   | nil=>
    have ER:=drop_nil l1
    simp only [mE]at l2
    subst l2
    repeat' (first
 | simp only [go_sem,hD,hJ,hP,hY,ER]
 | (with_reducible first | refine ax fun hc=> ?_ | refine ay fun hc=> ?_ | refine az (fun hc=> ?_) fun hc=> ?_) <;> (try simp only [hc,bs, ↓reduceIte]at h) <;> try simp only [hc]
 | (with_reducible refine aA hQ ?_;(try cases h);simp only [aE,aF,aN,aO,go_sem,hD,hJ,hP,hY,ER];try exact aQ)
 | (cases h;done))
    refine bX 1 1 ?_ ?_ (sc (kg,k2+1,lI,lI.length) ⟨kC,j2,Tz,rfl⟩ (Nat.lt_succ_self _))
    ·(simp only [go_sem,hD,hJ,hP,hY,au fw];try exact aT)
    ·(simp only [go_sem,hD,hJ,hP,hY,au fw];try exact aT)
   | cons z pd=>
    obtain⟨o7,EC,sX,Xt⟩:=drop_cons l1
    have vP:k3<4611686018427387904:=by omega
    have kD:=fun g s=>iI (l:=p.globals) (by omega) z g s
    simp only [mE]at l2
    rcases Bool.eq_false_or_eq_true (dv p.globals z)with c1 | c1
    ·simp only [c1,if_true]at l2
     have hP:(lI.length+1)*17≤bk:=by unfold bk;omega
     have TC:(lI++ [z]).length≤V.length:=by have:=(pO p pd (lI++ [z])).1;rw [l2]at this;exact this
     repeat' (first
 | simp only [go_sem,hD,hJ,hP,hY,sX,o7,c1]
 | (with_reducible refine CU (kD _ _) ?_)
 | (with_reducible first | refine ax fun hc=> ?_ | refine ay fun hc=> ?_ | refine az (fun hc=> ?_) fun hc=> ?_) <;> (try simp only [hc,bs, ↓reduceIte]at h) <;> try simp only [hc]
 | (with_reducible refine aA hQ ?_;(try cases h);simp only [aE,aF,aN,aO,go_sem,hD,hJ,hP,hY,sX,o7,c1];try exact aQ)
 | (cases h;done))
     refine bX 1 1 ?_ ?_ (Lk (pd,k3+1,lI++ [z],lI.length+1) ⟨EC,l2,TC,by simp⟩ (Nat.lt_succ_self _))
     ·(simp only [go_sem,hD,hJ,hP,hY,au vP,List.map_append,List.map_cons,List.map_nil,encStr];try exact aT)
     ·(simp only [go_sem,hD,hJ,hP,hY,au vP,List.map_append,List.map_cons,List.map_nil,encStr];try exact aT)
    ·simp only [c1,Bool.false_eq_true,if_false]at l2
     repeat' (first
 | simp only [go_sem,hD,hJ,hP,hY,sX,o7,c1]
 | (with_reducible refine CU (kD _ _) ?_)
 | (with_reducible first | refine ax fun hc=> ?_ | refine ay fun hc=> ?_ | refine az (fun hc=> ?_) fun hc=> ?_) <;> (try simp only [hc,bs, ↓reduceIte]at h) <;> try simp only [hc]
 | (with_reducible refine aA hQ ?_;(try cases h);simp only [aE,aF,aN,aO,go_sem,hD,hJ,hP,hY,sX,o7,c1];try exact aQ)
 | (cases h;done))
     refine bX 1 1 ?_ ?_ (Lk (pd,k3+1,lI,lI.length) ⟨EC,l2,l3,rfl⟩ (Nat.lt_succ_self _))
     ·(simp only [go_sem,hD,hJ,hP,hY,au vP];try exact aT)
     ·(simp only [go_sem,hD,hJ,hP,hY,au vP];try exact aT)
end Go.Abs

/-! Tc7 -/

namespace Go.Abs
set_option maxRecDepth 8000
open Go.Proofs
end Go.Abs

/-! Al1 -/

namespace Go.Abs
set_option maxRecDepth 8000
open Go.Proofs
def lb (nm:aH) (T:List aH) (seen:List aH):List Ar→Bool
 | []=>true
 | a::l=>if a.ref then(if dv seen a.name || (a.name==nm || dv T a.name)then false else lb nm T (seen++ [a.name]) l)else lb nm T seen l
def Ch (T:List aH) (seen:List aH):List Ar→Bool
 | []=>true
 | a::l=>if a.ref then(if dv seen a.name || dv T a.name then false else Ch T (seen++ [a.name]) l)else Ch T seen l
def Sm.TD (v:Sm):List aH:=if v.name != []then [v.name]else []
theorem Ci {nm:aH} {T:List aH} : ∀ (l:List Ar) (seen:List aH),(∀ a∈l,a.ref=true→a.name≠ [])→
 lb nm T seen l=Ch T ((if nm != []then [nm]else [])++seen) l
 | [],seen,_=>rfl
 | a::l,seen,h=>by
  have ih:=fun seen=>Ci (nm:=nm) (T:=T) l seen fun b m=>h b (List.mem_cons_of_mem _ m)
  simp only [lb,Ch,ih]
  cases hr:a.ref with
  | false=>rfl
  | true=>
   have hn:=h a (List.mem_cons_self ..) hr
   have:dv ((if nm != []then [nm]else [])++seen) a.name=(dv seen a.name || a.name==nm):=by
    rw [Bool.eq_iff_iff,gU,Bool.or_eq_true,gU,List.mem_append,beq_iff_eq]
    cases hb:(nm != [])
    ·have:nm = []:=by simpa using hb
     subst this
     simp [hn]
    ·simp only [if_true,List.mem_singleton]
     exact Or.comm
   simp only [if_true,this,Bool.or_assoc,List.append_assoc]
theorem ES {v:Sm} (pw:v.args.length<1000000000) {T:List aH} (hT:T.length<4611686018427387904) (s:St) :
 aD Tryz.prog nr [.agg (bn v), .slice .shared 1 (T.map encStr)] s (.bool (lb v.name T [] v.args)) s:=by
 refine aD.pure ?_ (by simp [D.bM,D.ok,kV,Tag.ok,dL]) rfl s
 generalize hR:lb v.name T [] v.args=R
 have PF:=fun x s=>vb hT x s
 unfold S0
 refine aD.go yz rfl fun B Q hB hQ=> ?_
 have⟨hD,hJ,hP,hY⟩:=bK
 repeat' (first
 | simp only [go_sem,hD,hJ,hP,hY]
 | (with_reducible first | refine ax fun hc=> ?_ | refine ay fun hc=> ?_ | refine az (fun hc=> ?_) fun hc=> ?_) <;> (try simp only [hc,bs, ↓reduceIte]at h) <;> try simp only [hc]
 | (with_reducible refine aA hQ ?_;exact bx)
 | (cases h;done))
 refine bl.kT 5 1 rfl ?_
 simp only [go_sem,hD,hJ,hP,hY]
 refine cP 1 1 (bl.ind (ι:=List Ar×Nat×List aH×Nat) (fun i=>v.args.drop i.2.1=i.1∧lb v.name T i.2.2.1 i.1=R∧i.2.2.1.length≤i.2.1∧i.2.2.2=i.2.2.1.length) (fun i=>i.1.length)
  (fun i=> [(1, .slice .shared 1 (T.map encStr)),(2, .ptr 0 0),(5, .slice (.tok 0) 1 (i.2.2.1.map encStr)),(9, .slice .shared 6 (v.args.map dt)),(10, .int .i64 (v.args.length:Int)),(11, .int .i64 (i.2.1:Int))]) (fun i=>⟨[bn v],[some i.2.2.2]⟩) ?_ (v.args,0,[],0) ⟨rfl,hR,Nat.le_refl _,rfl⟩)
 clear hR
 rintro⟨rest,k,seen,n'⟩ ⟨h1,h2,h3,h4⟩ IH
 dsimp only at h1 h2 h3 h4
 subst h4
 cases rest with
 | nil=>
  have hD:=drop_nil h1
  simp only [lb]at h2
  subst h2
  repeat' (first
 | simp only [go_sem,hD,hJ,hP,hY]
 | (with_reducible first | refine ax fun hc=> ?_ | refine ay fun hc=> ?_ | refine az (fun hc=> ?_) fun hc=> ?_) <;> (try simp only [hc,bs, ↓reduceIte]at h) <;> try simp only [hc]
 | (with_reducible refine aA hQ ?_;exact bx)
 | (cases h;done))
 | cons a rest=>
  obtain⟨hJ,g2,hD,g4⟩:=drop_cons h1
  have bf:k<4611686018427387904:=by omega
  have hP:(seen.length+1)*17≤bk:=by unfold bk;omega
  have nB:=fun g s=>iI (l:=seen) (by omega) a.name g s
  simp only [lb]at h2
  rcases Bool.eq_false_or_eq_true a.ref with c1 | c1
  case inr=>
   simp only [c1,Bool.false_eq_true,if_false]at h2
   repeat' (first
 | simp only [go_sem,hD,hJ,hP,hY,c1,Bool.not_false]
 | (with_reducible first | refine ax fun hc=> ?_ | refine ay fun hc=> ?_ | refine az (fun hc=> ?_) fun hc=> ?_) <;> (try simp only [hc,bs, ↓reduceIte]at h) <;> try simp only [hc]
 | (with_reducible refine aA hQ ?_;(try cases h);simp only [aE,aF,aN,aO,go_sem,hD,hJ,hP,hY,c1,Bool.not_false];try exact aQ)
 | (cases h;done))
   refine bX 1 1 ?_ ?_ (IH (rest,k+1,seen,_) ⟨g2,h2,by dsimp only;omega,rfl⟩ (Nat.lt_succ_self _))
   ·(simp only [go_sem,hD,hJ,hP,hY,au bf];try exact aT)
   ·(simp only [go_sem,hD,hJ,hP,hY,au bf];try exact aT)
  simp only [c1,if_true]at h2
  rcases Bool.eq_false_or_eq_true (dv seen a.name)with c2 | c2
  ·simp only [c2,Bool.true_or,if_true]at h2
   subst h2
   repeat' (first
 | simp only [go_sem,hD,hJ,hP,hY,c1,c2,Bool.not_true]
 | (with_reducible refine CU (nB _ _) ?_)
 | (with_reducible refine CU (PF _ _) ?_)
 | (with_reducible first | refine ax fun hc=> ?_ | refine ay fun hc=> ?_ | refine az (fun hc=> ?_) fun hc=> ?_) <;> (try simp only [hc,bs, ↓reduceIte]at h) <;> try simp only [hc]
 | (with_reducible refine aA hQ ?_;(try cases h);simp only [aE,aF,aN,aO,go_sem,hD,hJ,hP,hY,c1,c2,Bool.not_true];try exact aQ)
 | (cases h;done))
  rcases Bool.eq_false_or_eq_true (a.name==v.name)with c3 | c3
  ·simp only [c2,c3,Bool.false_or,Bool.true_or,if_true]at h2
   subst h2
   repeat' (first
 | simp only [go_sem,hD,hJ,hP,hY,c1,c2,c3,Bool.not_true]
 | (with_reducible refine CU (nB _ _) ?_)
 | (with_reducible refine CU (PF _ _) ?_)
 | (with_reducible first | refine ax fun hc=> ?_ | refine ay fun hc=> ?_ | refine az (fun hc=> ?_) fun hc=> ?_) <;> (try simp only [hc,bs, ↓reduceIte]at h) <;> try simp only [hc]
 | (with_reducible refine aA hQ ?_;(try cases h);simp only [aE,aF,aN,aO,go_sem,hD,hJ,hP,hY,c1,c2,c3,Bool.not_true];try exact aQ)
 | (cases h;done))
  rcases Bool.eq_false_or_eq_true (dv T a.name)with c4 | c4
  ·simp only [c2,c3,c4,Bool.false_or,if_true]at h2
   subst h2
   repeat' (first
 | simp only [go_sem,hD,hJ,hP,hY,c1,c2,c3,c4,Bool.not_true]
 | (with_reducible refine CU (nB _ _) ?_)
 | (with_reducible refine CU (PF _ _) ?_)
 | (with_reducible first | refine ax fun hc=> ?_ | refine ay fun hc=> ?_ | refine az (fun hc=> ?_) fun hc=> ?_) <;> (try simp only [hc,bs, ↓reduceIte]at h) <;> try simp only [hc]
 | (with_reducible refine aA hQ ?_;(try cases h);simp only [aE,aF,aN,aO,go_sem,hD,hJ,hP,hY,c1,c2,c3,c4,Bool.not_true];try exact aQ)
 | (cases h;done))
  ·simp only [c2,c3,c4,Bool.false_or,Bool.false_eq_true,if_false]at h2
   repeat' (first
 | simp only [go_sem,hD,hJ,hP,hY,c1,c2,c3,c4,Bool.not_true]
 | (with_reducible refine CU (nB _ _) ?_)
 | (with_reducible refine CU (PF _ _) ?_)
 | (with_reducible first | refine ax fun hc=> ?_ | refine ay fun hc=> ?_ | refine az (fun hc=> ?_) fun hc=> ?_) <;> (try simp only [hc,bs, ↓reduceIte]at h) <;> try simp only [hc]
 | (with_reducible refine aA hQ ?_;(try cases h);simp only [aE,aF,aN,aO,go_sem,hD,hJ,hP,hY,c1,c2,c3,c4,Bool.not_true];try exact aQ)
 | (cases h;done))
   refine bX 1 1 ?_ ?_ (IH (rest,k+1,seen++ [a.name],seen.length+1) ⟨g2,h2,by simp;omega,by simp⟩ (Nat.lt_succ_self _))
   ·(simp only [go_sem,hD,hJ,hP,hY,au bf,List.map_append,List.map_cons,List.map_nil,encStr];try exact aT)
   ·(simp only [go_sem,hD,hJ,hP,hY,au bf,List.map_append,List.map_cons,List.map_nil,encStr];try exact aT)
def ld (p:Pg):List Pc→List D
 | []=> []
 | f::l=> .str f.name:: .slice .shared 1 ((p.lY f.name).map encStr)::ld p l
theorem Ll (p:Pg) : ∀ l,D.bM 0 0 (ld p l)=true
 | []=>rfl
 | f::l=>by simp only [ld,D.bM,D.ok,Tag.ok,dL,Ll p l];rfl
theorem QV (n m:Nat) (p:Pg) (l:List Pc):D.gd n m (ld p l)=ld p l:=gp n m _ (Ll p l)
attribute [go_sem] QV
theorem ET (p:Pg) : ∀ l m,ld p (l++m)=ld p l++ld p m
 | [],m=>rfl
 | f::l,m=>by simp only [List.cons_append,ld,ET p l m]
theorem EU {p:Pg} {nm:aH} {d:D} : ∀ {l:List Pc},nm∉l.map (·.name)→s7 nm d (ld p l)=some (ld p l++ [.str nm,d])
 | [],_=>rfl
 | f::l,h=>by
  simp only [List.map_cons,List.mem_cons,not_or]at h
  have:(f.name==nm)=false:=by simpa using fun e=>h.1 e.symm
  simp only [ld,s7,this,Bool.false_eq_true,if_false,EU h.2,List.cons_append]
theorem EV {p:Pg} {nm:aH} {z:D} : ∀ {l:List Pc} {f:Pc},gV nm l=some f→uI nm z (ld p l)=some (.slice .shared 1 ((p.lY nm).map encStr))
 | g::l,f,h=>by
  simp only [gV]at h
  simp only [ld,uI]
  split at h
  ·rename_i e
   rw [if_pos e,eq_of_beq e]
  ·rename_i e
   rw [if_neg e]
   exact EV h
theorem QW (l:List aH) : ∀ (s:List aH),uA s l=false→∀ a x b,l=a++x::b→x∉s++a:=by
 induction l with
 | nil=>intro s _ a x b e;cases a <;> cases e
 | cons y l ih=>
  intro s h a x b e
  simp only [uA]at h
  split at h
  ·cases h
  ·rename_i hy
   cases a with
   | nil=>cases e;simpa [← gU]using hy
   | cons z a=>
    cases e
    have:=ih (s++ [y]) h a x b rfl
    simpa using this
end Go.Abs

/-! Al2 -/

namespace Go.Abs
set_option maxRecDepth 8000
open Go.Proofs
theorem vn {p:Pg} (h:(p.arity.1==0)=true):(p.scope.1==0)=true∧∀ v∈p.pre,(v.kind==4)=true→v.gL p=true:=by
 unfold Pg.arity at h
 split at h
 ·rename_i e
  refine⟨e,fun v hv hk=> ?_⟩
  have : ∀ l:List Sm,((gu 6 (uC p l)).1==0)=true→∀ v∈l,(v.kind==4)=true→v.gL p=true:=by
   intro l
   induction l with
   | nil=>intro _ v m;cases m
   | cons a l ih=>
    intro h v m hk
    simp only [uC]at h
    split at h
    ·cases h
    ·rename_i c
     rcases List.mem_cons.1 m with rfl | m
     ·simpa [hk]using c
     ·exact ih h v m hk
  exact this _ h v hv hk
 ·cases h
theorem Cj {p:Pg} {v:Sm} (h:v.gL p=true) : ∃ f,p.find v.proc=some f:=by
 unfold Sm.gL at h
 cases e:p.find v.proc with
 | some f=>exact⟨f,rfl⟩
 | none=>rw [e]at h;simp at h
theorem EW : ∀ {l:List It} {n:Nat} {i:It},It.dz n l=true→i∈l→i.s.one=true
 | j::l,n,i,h,m=>by
  simp only [It.dz]at h
  split at h
  ·cases h
  ·rename_i c
   simp only [Bool.or_eq_true,not_or,Bool.not_eq_true',Bool.not_eq_false]at c
   rcases List.mem_cons.1 m with rfl | m
   ·exact c.2
   ·exact EW h m
theorem Ge {p:Pg} (h:p.may=true) : ∀ v∈p.pre,v.one=true:=fun v m=>by
 rw [← (nk h).2,List.mem_map]at m
 obtain⟨i,hi,rfl⟩:=m
 exact EW (uB h).2 hi
theorem N1 {v:Sm} (h:v.one=true):Ar.dz v.args=true:=by
 unfold Sm.one at h
 repeat' (split at h)
 all_goals first | (cases h;done) | (rename_i c;simpa using c) | skip
theorem Gf : ∀ {l:List Ar},Ar.dz l=true→∀ a∈l,a.may=true
 | b::l,h,a,m=>by
  simp only [Ar.dz]at h
  split at h
  ·cases h
  ·rename_i c
   rcases List.mem_cons.1 m with rfl | m
   ·simpa using c
   ·exact Gf h a m
theorem N2 {v:Sm} (h:v.one=true) : ∀ a∈v.args,a.ref=true→a.name≠ []:=fun a m hr=>by
 have:=Gf (N1 h) a m
 unfold Ar.may at this
 rw [if_pos hr]at this
 intro e
 rw [e]at this
 simp [isName]at this
def Sm.l6 (p:Pg) (v:Sm):Bool:=lb v.name (p.lY v.proc) [] v.args
def EX (p:Pg):List Sm→Option Sm
 | []=>none
 | v::l=>if v.kind==4 && !(v.l6 p)then some v else EX p l
def Pg.alias (p:Pg):Int×Int:=if p.arity.1==0 then gu 8 (EX p p.pre)else(1,0)
theorem sf {p:Pg} (h:p.iQ) (nm:aH):(p.lY nm).length<4611686018427387904:=by
 unfold Pg.lY
 cases hs:p.tL nm with
 | none=>dsimp only;decide
 | some f=>
  obtain⟨iS,hf⟩:=Ce hs
  have h1:=(yL iS hf).len
  have h2:=h.procs
  have h3:=(pQ h (fK (p.work nm)) []).2
  have h4:(fK (p.work nm)).length*1800000≤900000*1800000:=Nat.mul_le_mul_right _ (by omega)
  have h5:(fK (p.kz nm)).length≤(p.kz nm).length:=sZ _ _ (o8 (jt _).1) fun x m=>((jt _).2 x).1 m
  dsimp only
  unfold Pg.kz at *
  simp only [List.length_nil]at h3
  omega
theorem vo {v:Sm} (hv:v.jf):v.args.length<1000000000:=by have:=Ar.c7 v.args;have:=hv.2.2;omega
theorem yN {p:Pg} {v:Sm} (h:p.iQ) (hv:v.jf) (s:St):aD Tryz.prog mU [.agg (bD p), .agg (bn v)] s (.bool (p.arity.1==0 && (v.gL p && v.l6 p))) s:=by
 refine aD.pure ?_ (by simp [D.bM,D.ok,fT,kV]) rfl s
 have ll:=fun s=>ED h s
 have mD:=fun s=>QQ h hv s
 have Je:=fun s=>Cg h v.proc s
 have Bs:=fun s=>ES (vo hv) (sf h v.proc) s
 have b0:(p.arity.1 != 0) = !(p.arity.1==0):=rfl
 unfold Sm.l6
 unfold S0
 rcases Bool.eq_false_or_eq_true (p.arity.1==0)with b1 | b1
 ·rw [b1]at b0
  have iS:=(vn b1).1
  simp only [iS,Bool.true_and]at mD
  simp only [b1,Bool.true_and]
  rcases Bool.eq_false_or_eq_true (v.gL p)with b2 | b2
  all_goals
   simp only [b2,Bool.true_and,Bool.false_and]
   refine aD.go uf rfl fun B Q hB hQ=> ?_
   have⟨hD,hJ,hP,hY⟩:=bK
   repeat' (first
 | simp only [go_sem,hD,hJ,hP,hY,b0,b2,Bool.not_true,Bool.not_false]
 | (with_reducible refine CU (ll _) ?_)
 | (with_reducible refine CU (mD _) ?_)
 | (with_reducible refine CU (Je _) ?_)
 | (with_reducible refine CU (Bs _) ?_)
 | (with_reducible first | refine ax fun hc=> ?_ | refine ay fun hc=> ?_ | refine az (fun hc=> ?_) fun hc=> ?_) <;> (try simp only [hc,bs, ↓reduceIte]at h) <;> try simp only [hc]
 | (with_reducible refine aA hQ ?_;(try cases h);simp only [aE,aF,aN,aO,go_sem,hD,hJ,hP,hY,b0,b2,Bool.not_true,Bool.not_false];try exact aQ)
 | (cases h;done))
 ·rw [b1]at b0
  simp only [b1,Bool.false_and]
  refine aD.go uf rfl fun B Q hB hQ=> ?_
  have⟨hD,hJ,hP,hY⟩:=bK
  repeat' (first
 | simp only [go_sem,hD,hJ,hP,hY,b0,Bool.not_false]
 | (with_reducible refine CU (ll _) ?_)
 | (with_reducible first | refine ax fun hc=> ?_ | refine ay fun hc=> ?_ | refine az (fun hc=> ?_) fun hc=> ?_) <;> (try simp only [hc,bs, ↓reduceIte]at h) <;> try simp only [hc]
 | (with_reducible refine aA hQ ?_;(try cases h);simp only [aE,aF,aN,aO,go_sem,hD,hJ,hP,hY,b0,Bool.not_false];try exact aQ)
 | (cases h;done))
theorem Ck {p:Pg} (h:p.iQ) (s:St):aD Tryz.prog nW [.agg (bD p)] s (.agg [.int .i64 p.alias.1, .int .i64 p.alias.2]) s:=by
 refine aD.pure ?_ (by simp [D.bM,D.ok,fT]) rfl s
 obtain⟨oj,ng,oZ⟩:=h.procs
 have ll:=fun s=>ED h s
 have dN:=fun s=>C2 (p:=p) (by omega) s
 have hL:=(ou p).1
 have Ga:=ov p
 generalize hR:p.alias=R
 simp only [Pg.alias]at hR
 unfold S0
 have b0:(p.arity.1 != 0) = !(p.arity.1==0):=rfl
 rcases Bool.eq_false_or_eq_true (p.arity.1==0)with b1 | b1
 case inr=>
  rw [b1]at b0
  simp only [b1,Bool.false_eq_true,if_false]at hR
  subst hR
  refine aD.go sK rfl fun B Q hB hQ=> ?_
  have⟨hD,hJ,hP,hY⟩:=bK
  repeat' (first
 | simp only [go_sem,hD,hJ,hP,hY,b0,Bool.not_false]
 | (with_reducible refine CU (ll _) ?_)
 | (with_reducible first | refine ax fun hc=> ?_ | refine ay fun hc=> ?_ | refine az (fun hc=> ?_) fun hc=> ?_) <;> (try simp only [hc,bs, ↓reduceIte]at h) <;> try simp only [hc]
 | (with_reducible refine aA hQ ?_;(try cases h);simp only [aE,aF,aN,aO,go_sem,hD,hJ,hP,hY,b0,Bool.not_false];try exact aQ)
 | (cases h;done))
 rw [b1]at b0
 obtain⟨iS,ie⟩:=vn b1
 have F9:=(EK iS).2.1
 simp only [b1,if_true, ← hL]at hR
 refine aD.go sK rfl fun B Q hB hQ=> ?_
 have⟨hD,hJ,hP,hY⟩:=bK
 repeat' (first
 | simp only [go_sem,hD,hJ,hP,hY,b0,Bool.not_true]
 | (with_reducible refine CU (ll _) ?_)
 | (with_reducible first | refine ax fun hc=> ?_ | refine ay fun hc=> ?_ | refine az (fun hc=> ?_) fun hc=> ?_) <;> (try simp only [hc,bs, ↓reduceIte]at h) <;> try simp only [hc]
 | (with_reducible refine aA hQ ?_;(try cases h);simp only [aE,aF,aN,aO,go_sem,hD,hJ,hP,hY,b0,Bool.not_true];try exact aQ)
 | (cases h;done))
 refine bX 3 0 ?_ ?_ (bl.ind (ι:=List Pc×Nat×List Pc) (fun i=>p.procs.drop i.2.1=i.1∧p.procs=i.2.2++i.1) (fun i=>i.1.length)
  (fun i=> [(1, .ptr 0 0),(2, .ptr 1 0),(3, .fL 2),(15, .slice .shared 5 (p.procs.map bR)),(16, .int .i64 (p.procs.length:Int)),(17, .int .i64 (i.2.1:Int))]) (fun i=>⟨[bD p,[.int .i64 0, .int .i64 0],ld p i.2.2],[]⟩) ?_ (p.procs,0,[]) ⟨rfl,rfl⟩)
 ·(simp only [go_sem,hD,hJ,hP,hY,ld];try exact aT)
 ·(simp only [go_sem,hD,hJ,hP,hY,ld];try exact aT)
 rintro⟨rest,k,done⟩ ⟨h1,h2⟩ IH
 dsimp only at h1 h2
 cases rest with
 | cons a rest=>
  obtain⟨hJ,g2,hD,g4⟩:=drop_cons h1
  have bf:k<4611686018427387904:=by omega
  have Je:=fun s=>Cg h a.name s
  have o3:a.name∉done.map (·.name):=by
   have:=QW _ [] F9 (done.map (·.name)) a.name (rest.map (·.name)) (by simp [Pg.pn,h2])
   simpa using this
  have XB:s7 a.name (.slice .shared 1 ((p.lY a.name).map encStr)) (ld p done)=some (ld p (done++ [a])):=by
   rw [EU o3,ET];rfl
  repeat' (first
 | simp only [go_sem,hD,hJ,hP,hY,XB]
 | (with_reducible refine CU (Je _) ?_)
 | (with_reducible first | refine ax fun hc=> ?_ | refine ay fun hc=> ?_ | refine az (fun hc=> ?_) fun hc=> ?_) <;> (try simp only [hc,bs, ↓reduceIte]at h) <;> try simp only [hc]
 | (with_reducible refine aA hQ ?_;(try cases h);simp only [aE,aF,aN,aO,go_sem,hD,hJ,hP,hY,XB];try exact aQ)
 | (cases h;done))
  refine bX 3 0 ?_ ?_ (IH (rest,k+1,done++ [a]) ⟨g2,by rw [h2];simp⟩ (Nat.lt_succ_self _))
  ·(simp only [go_sem,hD,hJ,hP,hY,au bf];try exact aT)
  ·(simp only [go_sem,hD,hJ,hP,hY,au bf];try exact aT)
 | nil=>
  have hD:=drop_nil h1
  rw [List.append_nil]at h2
  subst h2
  repeat' (first
 | simp only [go_sem,hD,hJ,hP,hY,pL]
 | (with_reducible refine CU (dN _) ?_)
 | (with_reducible first | refine ax fun hc=> ?_ | refine ay fun hc=> ?_ | refine az (fun hc=> ?_) fun hc=> ?_) <;> (try simp only [hc,bs, ↓reduceIte]at h) <;> try simp only [hc]
 | (with_reducible refine aA hQ ?_;(try cases h);simp only [aE,aF,aN,aO,go_sem,hD,hJ,hP,hY,pL];try exact aQ)
 | (cases h;done))
  refine cP 3 0 (bl.ind (ι:=List Im×Nat) (fun i=>p.eO.L.drop i.2=i.1∧gu 8 (EX p (i.1.map Im.s))=R) (fun i=>i.1.length)
   (fun i=> [(1, .ptr 0 0),(2, .ptr 1 0),(3, .fL 2),(33, .slice .shared 17 (p.eO.L.map e8)),(34, .int .i64 (p.eO.L.length:Int)),(35, .int .i64 (i.2:Int))]) (fun i=>⟨[bD p,[.int .i64 0, .int .i64 0],ld p p.procs],[]⟩) ?_ (p.eO.L,0) ⟨rfl,hR⟩)
  clear hR
  rintro⟨rest,k⟩ ⟨h1,hR⟩ IH
  dsimp only at h1 hR
  cases rest with
  | nil=>
   have hD:=drop_nil h1
   simp only [List.map_nil,EX,gu]at hR
   subst hR
   repeat' (first
 | simp only [go_sem,hD,hJ,hP,hY]
 | (with_reducible first | refine ax fun hc=> ?_ | refine ay fun hc=> ?_ | refine az (fun hc=> ?_) fun hc=> ?_) <;> (try simp only [hc,bs, ↓reduceIte]at h) <;> try simp only [hc]
 | (with_reducible refine aA hQ ?_;exact bx)
 | (cases h;done))
  | cons a rest=>
   obtain⟨hJ,g2,hD,g4⟩:=drop_cons h1
   have bf:k<4611686018427387904:=by omega
   have vO:a.s∈p.pre:=by rw [← hL];exact List.mem_map_of_mem (List.mem_of_getElem? hJ)
   have Bs:=fun s=>ES (vo (h.pre _ vO)) (sf h a.s.proc) s
   simp only [List.map_cons,EX,Sm.l6]at hR
   rcases Bool.eq_false_or_eq_true (a.s.kind==4)with c1 | c1
   ·obtain⟨f,hf⟩:=Cj (ie _ vO c1)
    have PG:=fun z=>EV (p:=p) (z:=z) hf
    rcases Bool.eq_false_or_eq_true (lb a.s.name (p.lY a.s.proc) [] a.s.args)with c2 | c2
    ·simp only [c1,c2,Bool.not_true,Bool.and_false,Bool.false_eq_true,if_false]at hR
     repeat' (first
 | simp only [go_sem,hD,hJ,hP,hY,c1,c2,PG]
 | (with_reducible refine CU (Bs _) ?_)
 | (with_reducible first | refine ax fun hc=> ?_ | refine ay fun hc=> ?_ | refine az (fun hc=> ?_) fun hc=> ?_) <;> (try simp only [hc,bs, ↓reduceIte]at h) <;> try simp only [hc]
 | (with_reducible refine aA hQ ?_;(try cases h);simp only [aE,aF,aN,aO,go_sem,hD,hJ,hP,hY,c1,c2,PG];try exact aQ)
 | (cases h;done))
     refine bX 3 0 ?_ ?_ (IH (rest,k+1) ⟨g2,hR⟩ (Nat.lt_succ_self _))
     ·(simp only [go_sem,hD,hJ,hP,hY,au bf];try exact aT)
     ·(simp only [go_sem,hD,hJ,hP,hY,au bf];try exact aT)
    ·simp only [c1,c2,Bool.not_false,Bool.and_true,if_true,gu]at hR
     subst hR
     repeat' (first
 | simp only [go_sem,hD,hJ,hP,hY,c1,c2,PG]
 | (with_reducible refine CU (Bs _) ?_)
 | (with_reducible first | refine ax fun hc=> ?_ | refine ay fun hc=> ?_ | refine az (fun hc=> ?_) fun hc=> ?_) <;> (try simp only [hc,bs, ↓reduceIte]at h) <;> try simp only [hc]
 | (with_reducible refine aA hQ ?_;(try cases h);simp only [aE,aF,aN,aO,go_sem,hD,hJ,hP,hY,c1,c2,PG];try exact aQ)
 | (cases h;done))
   ·simp only [c1,Bool.false_and,Bool.false_eq_true,if_false]at hR
    repeat' (first
 | simp only [go_sem,hD,hJ,hP,hY,c1]
 | (with_reducible refine CU (Bs _) ?_)
 | (with_reducible first | refine ax fun hc=> ?_ | refine ay fun hc=> ?_ | refine az (fun hc=> ?_) fun hc=> ?_) <;> (try simp only [hc,bs, ↓reduceIte]at h) <;> try simp only [hc]
 | (with_reducible refine aA hQ ?_;(try cases h);simp only [aE,aF,aN,aO,go_sem,hD,hJ,hP,hY,c1];try exact aQ)
 | (cases h;done))
    refine bX 3 0 ?_ ?_ (IH (rest,k+1) ⟨g2,hR⟩ (Nat.lt_succ_self _))
    ·(simp only [go_sem,hD,hJ,hP,hY,au bf];try exact aT)
    ·(simp only [go_sem,hD,hJ,hP,hY,au bf];try exact aT)
end Go.Abs

/-! Al3 -/

namespace Go.Abs
set_option maxRecDepth 8000
open Go.Proofs
def Sm.sg (p:Pg) (v:Sm):Bool:=v.gL p && Ch (p.lY v.proc) v.TD v.args
theorem xn {p:Pg} {v:Sm} (h:v.one=true):v.sg p=(v.gL p && v.l6 p):=by
 unfold Sm.sg Sm.l6
 rw [Ci v.args [] (N2 h),List.append_nil]
 rfl
theorem EY {p:Pg} {v:Sm} (h:p.iQ) (iS:(p.scope.1==0)=true) (hv:v.jf) (s:St):aD Tryz.prog oO [.agg (bD p), .agg (bn v)] s (.bool (v.sg p)) s:=by
 refine aD.pure ?_ (by simp [D.bM,D.ok,fT,kV]) rfl s
 have xc:=fun s=>zU h hv s
 have pw:=vo hv
 generalize hR:v.sg p=R
 unfold Sm.sg at hR
 unfold S0
 rcases Bool.eq_false_or_eq_true (v.gL p)with b1 | b1
 case inr=>
  simp only [b1,Bool.false_and]at hR
  subst hR
  refine aD.go uk rfl fun B Q hB hQ=> ?_
  have⟨hD,hJ,hP,hY⟩:=bK
  repeat' (first
 | simp only [go_sem,hD,hJ,hP,hY,b1,Bool.not_false]
 | (with_reducible refine CU (xc _) ?_)
 | (with_reducible first | refine ax fun hc=> ?_ | refine ay fun hc=> ?_ | refine az (fun hc=> ?_) fun hc=> ?_) <;> (try simp only [hc,bs, ↓reduceIte]at h) <;> try simp only [hc]
 | (with_reducible refine aA hQ ?_;(try cases h);simp only [aE,aF,aN,aO,go_sem,hD,hJ,hP,hY,b1,Bool.not_false];try exact aQ)
 | (cases h;done))
 simp only [b1,Bool.true_and]at hR
 obtain⟨f,hf⟩:=Cj b1
 have B2:=fun s=>I0 h iS hf s
 obtain⟨T,hT⟩ : ∃ T,T=p.lY v.proc:=⟨_,rfl⟩
 have hTl:T.length<4611686018427387904:=hT ▸ sf h v.proc
 have hTe:fK (p.kz v.proc)=T:=by
  rw [hT];unfold Pg.lY Pg.tL;rw [if_pos iS];simp only [hf]
 rw [hTe]at B2
 rw [← hT]at hR
 have N3:=fun x g s=>vi hTl x g s
 refine aD.go uk rfl fun B Q hB hQ=> ?_
 have⟨hD,hJ,hP,hY⟩:=bK
 have TE:=@bl.ind Tryz.prog B 52 (List Ar×Nat×List aH×Nat) Xi (ly 0 (nU (jn Tryz.prog B 52 Xj Q) Q)) (fun i=>v.args.drop i.2.1=i.1∧Ch T i.2.2.1 i.1=R∧i.2.2.1.length≤i.2.1+1∧i.2.2.2=i.2.2.1.length) (fun i=>i.1.length)
  (fun i=> [(2, .ptr 0 0),(3, .ptr 1 0),(5, .slice (.tok 0) 1 (i.2.2.1.map encStr)),(21, .slice .shared 6 (v.args.map dt)),(22, .int .i64 (v.args.length:Int)),(23, .int .i64 (i.2.1:Int))]) (fun i=>⟨[bD p,bn v],[some i.2.2.2]⟩) (by
   clear hR
   rintro⟨rest,k,seen,n'⟩ ⟨h1,h2,h3,h4⟩ IH
   dsimp only at h1 h2 h3 h4
   subst h4
   cases rest with
   | nil=>
    have hD:=drop_nil h1
    simp only [Ch]at h2
    subst h2
    repeat' (first
 | simp only [go_sem,hD,hJ,hP,hY]
 | (with_reducible first | refine ax fun hc=> ?_ | refine ay fun hc=> ?_ | refine az (fun hc=> ?_) fun hc=> ?_) <;> (try simp only [hc,bs, ↓reduceIte]at h) <;> try simp only [hc]
 | (with_reducible refine aA hQ ?_;exact bx)
 | (cases h;done))
   | cons a rest=>
    obtain⟨hJ,g2,hD,g4⟩:=drop_cons h1
    have bf:k<4611686018427387904:=by omega
    have hP:(seen.length+1)*17≤bk:=by unfold bk;omega
    have nB:=fun g s=>vi (l:=seen) (by omega) a.name g s
    simp only [Ch]at h2
    rcases Bool.eq_false_or_eq_true a.ref with c1 | c1
    case inr=>
     simp only [c1,Bool.false_eq_true,if_false]at h2
     repeat' (first
 | simp only [go_sem,hD,hJ,hP,hY,c1]
 | (with_reducible first | refine ax fun hc=> ?_ | refine ay fun hc=> ?_ | refine az (fun hc=> ?_) fun hc=> ?_) <;> (try simp only [hc,bs, ↓reduceIte]at h) <;> try simp only [hc]
 | (with_reducible refine aA hQ ?_;(try cases h);simp only [aE,aF,aN,aO,go_sem,hD,hJ,hP,hY,c1];try exact aQ)
 | (cases h;done))
     refine bX 2 1 ?_ ?_ (IH (rest,k+1,seen,_) ⟨g2,h2,by dsimp only;omega,rfl⟩ (Nat.lt_succ_self _))
     ·(simp only [go_sem,hD,hJ,hP,hY,au bf];try exact aT)
     ·(simp only [go_sem,hD,hJ,hP,hY,au bf];try exact aT)
    simp only [c1,if_true]at h2
    rcases Bool.eq_false_or_eq_true (dv seen a.name)with c2 | c2
    ·simp only [c2,Bool.true_or,if_true]at h2
     subst h2
     repeat' (first
 | simp only [go_sem,hD,hJ,hP,hY,c1,c2]
 | (with_reducible refine CU (nB _ _) ?_)
 | (with_reducible refine CU (B2 _) ?_)
 | (with_reducible refine CU (N3 _ _ _) ?_)
 | (with_reducible first | refine ax fun hc=> ?_ | refine ay fun hc=> ?_ | refine az (fun hc=> ?_) fun hc=> ?_) <;> (try simp only [hc,bs, ↓reduceIte]at h) <;> try simp only [hc]
 | (with_reducible refine aA hQ ?_;(try cases h);simp only [aE,aF,aN,aO,go_sem,hD,hJ,hP,hY,c1,c2];try exact aQ)
 | (cases h;done))
    rcases Bool.eq_false_or_eq_true (dv T a.name)with c4 | c4
    ·simp only [c2,c4,Bool.false_or,if_true]at h2
     subst h2
     repeat' (first
 | simp only [go_sem,hD,hJ,hP,hY,c1,c2,c4]
 | (with_reducible refine CU (nB _ _) ?_)
 | (with_reducible refine CU (B2 _) ?_)
 | (with_reducible refine CU (N3 _ _ _) ?_)
 | (with_reducible first | refine ax fun hc=> ?_ | refine ay fun hc=> ?_ | refine az (fun hc=> ?_) fun hc=> ?_) <;> (try simp only [hc,bs, ↓reduceIte]at h) <;> try simp only [hc]
 | (with_reducible refine aA hQ ?_;(try cases h);simp only [aE,aF,aN,aO,go_sem,hD,hJ,hP,hY,c1,c2,c4];try exact aQ)
 | (cases h;done))
    ·simp only [c2,c4,Bool.false_or,Bool.false_eq_true,if_false]at h2
     repeat' (first
 | simp only [go_sem,hD,hJ,hP,hY,c1,c2,c4]
 | (with_reducible refine CU (nB _ _) ?_)
 | (with_reducible refine CU (B2 _) ?_)
 | (with_reducible refine CU (N3 _ _ _) ?_)
 | (with_reducible first | refine ax fun hc=> ?_ | refine ay fun hc=> ?_ | refine az (fun hc=> ?_) fun hc=> ?_) <;> (try simp only [hc,bs, ↓reduceIte]at h) <;> try simp only [hc]
 | (with_reducible refine aA hQ ?_;(try cases h);simp only [aE,aF,aN,aO,go_sem,hD,hJ,hP,hY,c1,c2,c4];try exact aQ)
 | (cases h;done))
     refine bX 2 1 ?_ ?_ (IH (rest,k+1,seen++ [a.name],seen.length+1) ⟨g2,h2,by simp;omega,by simp⟩ (Nat.lt_succ_self _))
     ·(simp only [go_sem,hD,hJ,hP,hY,au bf,List.map_append,List.map_cons,List.map_nil,encStr];try exact aT)
     ·(simp only [go_sem,hD,hJ,hP,hY,au bf,List.map_append,List.map_cons,List.map_nil,encStr];repeat' (first | exact Ok.out | with_reducible refine gA ?_ ?_)))
 unfold Sm.TD at hR
 rcases Bool.eq_false_or_eq_true (v.name != [])with b2 | b2
 ·simp only [b2,if_true]at hR
  have b3:(v.name == [])=false:=by simpa using b2
  have hP:17≤bk:=by unfold bk;omega
  repeat' (first
 | simp only [go_sem,hD,hJ,hP,hY,b1,b2,b3,Bool.not_true]
 | (with_reducible refine CU (xc _) ?_)
 | (with_reducible first | refine ax fun hc=> ?_ | refine ay fun hc=> ?_ | refine az (fun hc=> ?_) fun hc=> ?_) <;> (try simp only [hc,bs, ↓reduceIte]at h) <;> try simp only [hc]
 | (with_reducible refine aA hQ ?_;(try cases h);simp only [aE,aF,aN,aO,go_sem,hD,hJ,hP,hY,b1,b2,b3,Bool.not_true];try exact aQ)
 | (cases h;done))
  refine cP 2 1 (TE (v.args,0,[v.name],1) ⟨rfl,hR,Nat.le_refl _,rfl⟩)
 ·simp only [b2,Bool.false_eq_true,if_false]at hR
  have b3:(v.name == [])=true:=by simpa using b2
  repeat' (first
 | simp only [go_sem,hD,hJ,hP,hY,b1,b2,b3,Bool.not_true]
 | (with_reducible refine CU (xc _) ?_)
 | (with_reducible first | refine ax fun hc=> ?_ | refine ay fun hc=> ?_ | refine az (fun hc=> ?_) fun hc=> ?_) <;> (try simp only [hc,bs, ↓reduceIte]at h) <;> try simp only [hc]
 | (with_reducible refine aA hQ ?_;(try cases h);simp only [aE,aF,aN,aO,go_sem,hD,hJ,hP,hY,b1,b2,b3,Bool.not_true];try exact aQ)
 | (cases h;done))
  refine bl.kT 5 1 rfl ?_
  simp only [go_sem,hD,hJ,hP,hY]
  refine cP 2 1 (TE (v.args,0,[],0) ⟨rfl,hR,Nat.zero_le _,rfl⟩)
def zY (p:Pg):List Sm→Option Sm
 | []=>none
 | v::l=>if v.kind==4 && !(v.sg p)then some v else zY p l
theorem TF {p:Pg} (h:p.iQ) (iS:(p.scope.1==0)=true) (s:St):aD Tryz.prog oN [.agg (bD p)] s (.agg [.int .i64 (gu 8 (zY p p.pre)).1, .int .i64 (gu 8 (zY p p.pre)).2]) s:=by
 refine aD.pure ?_ (by simp [D.bM,D.ok,fT]) rfl s
 obtain⟨oj,ng,oZ⟩:=h.procs
 have pw:=fun s=>C5 (p:=p) (by omega) s
 have hL:=(nk (lp iS)).2
 have Ga:=(uB (lp iS)).1
 generalize hR:gu 8 (zY p p.pre)=R
 rw [← hL]at hR
 unfold S0
 refine aD.go xN rfl fun B Q hB hQ=> ?_
 have⟨hD,hJ,hP,hY⟩:=bK
 repeat' (first
 | simp only [go_sem,hD,hJ,hP,hY]
 | (with_reducible refine CU (pw _) ?_)
 | (with_reducible first | refine ax fun hc=> ?_ | refine ay fun hc=> ?_ | refine az (fun hc=> ?_) fun hc=> ?_) <;> (try simp only [hc,bs, ↓reduceIte]at h) <;> try simp only [hc]
 | (with_reducible refine aA hQ ?_;exact bx)
 | (cases h;done))
 refine cP 2 0 (bl.ind (ι:=List It×Nat) (fun i=>p.all.drop i.2=i.1∧gu 8 (zY p (i.1.map It.s))=R) (fun i=>i.1.length)
  (fun i=> [(1, .ptr 0 0),(2, .ptr 1 0),(6, .slice .shared 16 (p.all.map dO)),(7, .int .i64 (p.all.length:Int)),(8, .int .i64 (i.2:Int))]) (fun i=>⟨[bD p,[.int .i64 0, .int .i64 0]],[]⟩) ?_ (p.all,0) ⟨rfl,hR⟩)
 clear hR
 rintro⟨rest,k⟩ ⟨h1,hR⟩ IH
 dsimp only at h1 hR
 cases rest with
 | nil=>
  have hD:=drop_nil h1
  simp only [List.map_nil,zY,gu]at hR
  subst hR
  repeat' (first
 | simp only [go_sem,hD,hJ,hP,hY]
 | (with_reducible first | refine ax fun hc=> ?_ | refine ay fun hc=> ?_ | refine az (fun hc=> ?_) fun hc=> ?_) <;> (try simp only [hc,bs, ↓reduceIte]at h) <;> try simp only [hc]
 | (with_reducible refine aA hQ ?_;exact bx)
 | (cases h;done))
 | cons a rest=>
  obtain⟨hJ,g2,hD,g4⟩:=drop_cons h1
  have bf:k<4611686018427387904:=by omega
  have vO:a.s∈p.pre:=by rw [← hL];exact List.mem_map_of_mem (List.mem_of_getElem? hJ)
  have mD:=fun s=>EY h iS (h.pre _ vO) s
  simp only [List.map_cons,zY]at hR
  rcases Bool.eq_false_or_eq_true (a.s.kind==4)with c1 | c1
  ·rcases Bool.eq_false_or_eq_true (a.s.sg p)with c2 | c2
   ·simp only [c1,c2,Bool.not_true,Bool.and_false,Bool.false_eq_true,if_false]at hR
    repeat' (first
 | simp only [go_sem,hD,hJ,hP,hY,c1,c2]
 | (with_reducible refine CU (mD _) ?_)
 | (with_reducible first | refine ax fun hc=> ?_ | refine ay fun hc=> ?_ | refine az (fun hc=> ?_) fun hc=> ?_) <;> (try simp only [hc,bs, ↓reduceIte]at h) <;> try simp only [hc]
 | (with_reducible refine aA hQ ?_;(try cases h);simp only [aE,aF,aN,aO,go_sem,hD,hJ,hP,hY,c1,c2];try exact aQ)
 | (cases h;done))
    refine bX 2 0 ?_ ?_ (IH (rest,k+1) ⟨g2,hR⟩ (Nat.lt_succ_self _))
    ·(simp only [go_sem,hD,hJ,hP,hY,au bf];try exact aT)
    ·(simp only [go_sem,hD,hJ,hP,hY,au bf];try exact aT)
   ·simp only [c1,c2,Bool.not_false,Bool.and_true,if_true,gu]at hR
    subst hR
    repeat' (first
 | simp only [go_sem,hD,hJ,hP,hY,c1,c2]
 | (with_reducible refine CU (mD _) ?_)
 | (with_reducible refine CU (gk _ _ _) ?_)
 | (with_reducible first | refine ax fun hc=> ?_ | refine ay fun hc=> ?_ | refine az (fun hc=> ?_) fun hc=> ?_) <;> (try simp only [hc,bs, ↓reduceIte]at h) <;> try simp only [hc]
 | (with_reducible refine aA hQ ?_;(try cases h);simp only [aE,aF,aN,aO,go_sem,hD,hJ,hP,hY,c1,c2];try exact aQ)
 | (cases h;done))
  ·simp only [c1,Bool.false_and,Bool.false_eq_true,if_false]at hR
   repeat' (first
 | simp only [go_sem,hD,hJ,hP,hY,c1]
 | (with_reducible refine CU (mD _) ?_)
 | (with_reducible first | refine ax fun hc=> ?_ | refine ay fun hc=> ?_ | refine az (fun hc=> ?_) fun hc=> ?_) <;> (try simp only [hc,bs, ↓reduceIte]at h) <;> try simp only [hc]
 | (with_reducible refine aA hQ ?_;(try cases h);simp only [aE,aF,aN,aO,go_sem,hD,hJ,hP,hY,c1];try exact aQ)
 | (cases h;done))
   refine bX 2 0 ?_ ?_ (IH (rest,k+1) ⟨g2,hR⟩ (Nat.lt_succ_self _))
   ·(simp only [go_sem,hD,hJ,hP,hY,au bf];try exact aT)
   ·(simp only [go_sem,hD,hJ,hP,hY,au bf];try exact aT)
theorem QX {p:Pg} (hm:p.may=true) (ie : ∀ v∈p.pre,(v.kind==4)=true→v.gL p=true):zY p p.pre=EX p p.pre:=by
 have jQ:=Ge hm
 generalize p.pre=l at *
 induction l with
 | nil=>rfl
 | cons v l ih=>
  simp only [zY,EX]
  rw [xn (jQ v (List.mem_cons_self ..))]
  rw [ih (fun w m=>ie w (List.mem_cons_of_mem _ m)) (fun w m=>jQ w (List.mem_cons_of_mem _ m))]
  cases hk:(v.kind==4)
  ·rfl
  ·rw [ie v (List.mem_cons_self ..) hk];rfl
theorem N4 {p:Pg} (h:p.iQ) (s:St):aD Tryz.prog rK [.agg (bD p)] s (.agg [.int .i64 p.alias.1, .int .i64 p.alias.2]) s:=by
 refine aD.pure ?_ (by simp [D.bM,D.ok,fT]) rfl s
 have ll:=fun s=>EE h s
 have b0:(p.arity.1 != 0) = !(p.arity.1==0):=rfl
 unfold S0
 rcases Bool.eq_false_or_eq_true (p.arity.1==0)with b1 | b1
 ·obtain⟨iS,ie⟩:=vn b1
  have mD:=fun s=>TF h iS s
  rw [QX (lp iS) ie]at mD
  rw [b1]at b0
  simp only [Pg.alias,b1,if_true]
  refine aD.go ud rfl fun B Q hB hQ=> ?_
  have⟨hD,hJ,hP,hY⟩:=bK
  repeat' (first
 | simp only [go_sem,hD,hJ,hP,hY,b0,Bool.not_true]
 | (with_reducible refine CU (ll _) ?_)
 | (with_reducible refine CU (mD _) ?_)
 | (with_reducible first | refine ax fun hc=> ?_ | refine ay fun hc=> ?_ | refine az (fun hc=> ?_) fun hc=> ?_) <;> (try simp only [hc,bs, ↓reduceIte]at h) <;> try simp only [hc]
 | (with_reducible refine aA hQ ?_;(try cases h);simp only [aE,aF,aN,aO,go_sem,hD,hJ,hP,hY,b0,Bool.not_true];try exact aQ)
 | (cases h;done))
 ·rw [b1]at b0
  simp only [Pg.alias,b1,Bool.false_eq_true,if_false]
  refine aD.go ud rfl fun B Q hB hQ=> ?_
  have⟨hD,hJ,hP,hY⟩:=bK
  repeat' (first
 | simp only [go_sem,hD,hJ,hP,hY,b0,Bool.not_false]
 | (with_reducible refine CU (ll _) ?_)
 | (with_reducible refine CU (gk _ _ _) ?_)
 | (with_reducible first | refine ax fun hc=> ?_ | refine ay fun hc=> ?_ | refine az (fun hc=> ?_) fun hc=> ?_) <;> (try simp only [hc,bs, ↓reduceIte]at h) <;> try simp only [hc]
 | (with_reducible refine aA hQ ?_;(try cases h);simp only [aE,aF,aN,aO,go_sem,hD,hJ,hP,hY,b0,Bool.not_false];try exact aQ)
 | (cases h;done))
theorem N5 {p:Pg} {v:Sm} (h:p.iQ) (hv:v.jf) (h1:v.one=true) (s:St):aD Tryz.prog rL [.agg (bD p), .agg (bn v)] s (.bool (p.arity.1==0 && (v.gL p && v.l6 p))) s:=by
 refine aD.pure ?_ (by simp [D.bM,D.ok,fT,kV]) rfl s
 have ll:=fun s=>EE h s
 unfold S0
 rcases Bool.eq_false_or_eq_true (p.arity.1==0)with b1 | b1
 ·have mD:=fun s=>EY h (vn b1).1 hv s
  rw [xn h1]at mD
  simp only [b1,Bool.true_and]
  refine aD.go ug rfl fun B Q hB hQ=> ?_
  have⟨hD,hJ,hP,hY⟩:=bK
  repeat' (first
 | simp only [go_sem,hD,hJ,hP,hY,b1]
 | (with_reducible refine CU (ll _) ?_)
 | (with_reducible refine CU (mD _) ?_)
 | (with_reducible first | refine ax fun hc=> ?_ | refine ay fun hc=> ?_ | refine az (fun hc=> ?_) fun hc=> ?_) <;> (try simp only [hc,bs, ↓reduceIte]at h) <;> try simp only [hc]
 | (with_reducible refine aA hQ ?_;(try cases h);simp only [aE,aF,aN,aO,go_sem,hD,hJ,hP,hY,b1];try exact aQ)
 | (cases h;done))
 ·simp only [b1,Bool.false_and]
  refine aD.go ug rfl fun B Q hB hQ=> ?_
  have⟨hD,hJ,hP,hY⟩:=bK
  repeat' (first
 | simp only [go_sem,hD,hJ,hP,hY,b1]
 | (with_reducible refine CU (ll _) ?_)
 | (with_reducible first | refine ax fun hc=> ?_ | refine ay fun hc=> ?_ | refine az (fun hc=> ?_) fun hc=> ?_) <;> (try simp only [hc,bs, ↓reduceIte]at h) <;> try simp only [hc]
 | (with_reducible refine aA hQ ?_;(try cases h);simp only [aE,aF,aN,aO,go_sem,hD,hJ,hP,hY,b1];try exact aQ)
 | (cases h;done))
end Go.Abs

/-! Prs3 -/

namespace Go.Abs
open Go.Proofs
end Go.Abs

/-! Prs4 -/

namespace Go.Abs
open Go.Proofs
end Go.Abs

/-! Prs5 -/

namespace Go.Abs
open Go.Proofs
end Go.Abs

/-! Prs6 -/

namespace Go.Abs
open Go.Proofs
end Go.Abs

/-! Lex3 -/

namespace Go.Abs
open Go.Proofs
end Go.Abs

/-! MirParse -/

namespace Go.Abs
def XC (l:List nN):Rd:=⟨l,0,0,0,0⟩
def ai5 (m:Nat) (text:aH):Option (Pg×Int×Int):=
 if(uv text).2.1 != 0 then some (Kj,(uv text).2)
 else(Rd.program m (XC (uv text).1)).bind fun p=>if p.2.code != 0 then some (Kj,p.2.code,p.2.DX)else(p.1.Qw).bind fun q=>some (q,0,0)
def ajB (m:Nat) (text:aH):Option (Ex×Int×Int):=
 if(uv text).2.1 != 0 then some (oI,(uv text).2)
 else(Rd.whole m (XC (uv text).1)).bind fun x=>x.2.Kt.bind fun b=>
  if b then(x.2.bad 3).bind fun r=>if !r.good then some (oI,r.code,r.DX)else some (x.1,0,0)
  else if !x.2.good then some (oI,x.2.code,x.2.DX)else some (x.1,0,0)
end Go.Abs

/-! Prs7 -/

namespace Go.Abs
open Go.Proofs
end Go.Abs

/-! Room1 -/

namespace Go.Abs
set_option maxRecDepth 8000
open Go.Proofs
def tM (n k:Int):Int:=if Int.tmod n k<0 then Int.tmod n k+k else Int.tmod n k
theorem QY (n:Int) {k:Int} (hk:1≤k):0≤tM n k∧tM n k<k:=by
 unfold tM
 have h1:=Int.tmod_lt_of_pos n (by omega:0<k)
 have h2:=Int.lt_tmod_of_pos n (by omega:0<k)
 split <;> omega
theorem Wy (n:Int) {k:Int} (hk:1≤k) (bf:k<1000000) (s:St):aD Tryz.prog uV [.int .i64 n, .int .i64 k] s (.int .i64 (tM n k)) s:=by
 refine aD.pure ?_ rfl rfl s
 have h1:=Int.tmod_lt_of_pos n (by omega:0<k)
 have h2:=Int.lt_tmod_of_pos n (by omega:0<k)
 have c1:decide (k<1)=false:=by simp;omega
 have w1:IntKind.wrap .i64 (Int.tmod n k)=Int.tmod n k:=dE (by omega) (by omega)
 have w2:IntKind.wrap .i64 (Int.tmod n k+k)=Int.tmod n k+k:=dE (by omega) (by omega)
 have k0:(k=0)=False:=by simp;omega
 unfold S0
 by_cases hm:Int.tmod n k<0
 ·have c2:decide (Int.tmod n k<0)=true:=by simp;omega
  rw [show tM n k=Int.tmod n k+k from if_pos hm]
  refine aD.go wO rfl fun B Q hB hQ=> ?_
  have⟨hD,hJ,hP,hY⟩:=bK
  repeat' (first
 | simp only [go_sem,hD,hJ,hP,hY,c1,c2,w1,w2,k0]
 | (with_reducible first | refine ax fun hc=> ?_ | refine ay fun hc=> ?_ | refine az (fun hc=> ?_) fun hc=> ?_) <;> (try simp only [hc,bs, ↓reduceIte]at h) <;> try simp only [hc]
 | (with_reducible refine aA hQ ?_;(try cases h);simp only [aE,aF,aN,aO,go_sem,hD,hJ,hP,hY,c1,c2,w1,w2,k0];try exact aQ)
 | (cases h;done))
 ·have c2:decide (Int.tmod n k<0)=false:=by simp;omega
  rw [show tM n k=Int.tmod n k from if_neg hm]
  refine aD.go wO rfl fun B Q hB hQ=> ?_
  have⟨hD,hJ,hP,hY⟩:=bK
  repeat' (first
 | simp only [go_sem,hD,hJ,hP,hY,c1,c2,w1,w2,k0]
 | (with_reducible first | refine ax fun hc=> ?_ | refine ay fun hc=> ?_ | refine az (fun hc=> ?_) fun hc=> ?_) <;> (try simp only [hc,bs, ↓reduceIte]at h) <;> try simp only [hc]
 | (with_reducible refine aA hQ ?_;(try cases h);simp only [aE,aF,aN,aO,go_sem,hD,hJ,hP,hY,c1,c2,w1,w2,k0];try exact aQ)
 | (cases h;done))
def Wz (t:aH):Nat→aH
 | 0=> []
 | n+1=>Wz t n++t
def two (i:Nat):aH:= [UInt8.ofNat (48+i / 10),UInt8.ofNat (48+i % 10)]
def TG (ahead:aH):Nat→aH
 | 0=> []
 | n+1=>(if n=0 then TG ahead n else TG ahead n++ [44])++(ahead++ [97]++two n)
def TH:Nat→aH
 | 0=> []
 | n+1=>TH n++([112,114,111,99,32,112]++two n++ [40,41,123,125])
end Go.Abs
