/-
  What is proved here: part 3 of the road to the claim (Sc2, Sc3, ScP, Sc4, Rng, FineM, Sc5, Ar1, Ar2, Ar3, Srt1, Shelf, SortR, SrtP, Tc1, Tc2, Tc3, Bsl, Tc4, Tc5, Tc6, Tc7, Full1, Fits1, Fits2, MirEq, RefEq, RefEq2, Prs3, Prs4, Prs5, Prs6, Lex3, MirParse, Prs7, Room1, LawTo1, Glue2, Join, Binds1, Join2, Join3).
  No conditions.
-/
import Derived.Test.YthecipohmaannaaGreatToA2
import Derived.Shelf.Small.Bits
import Derived.Shelf.Strconv.Itoa0
import Derived.Shelf.Sort.Plain
import Derived.Shelf.Slices.Turned
import Derived.Ground.Names2Prog
import Derived.Shelf.Slices.Clone
import Derived.Shelf.Slices.CompactS
import Derived.Shelf.Slices.Cells
import Derived.Shelf.Slices.In.SortNone
import Derived.Ground.SlgnProg
import Derived.Shelf.SlicesE.Clone
import Derived.Test.YthecipohmaannaaGreatProg
import Derived.Sort.Walk0
import Derived.RowKit3
import Derived.WalkKit
import Derived.ProofKit
import Derived.OpenShut
import Derived.ShutString
import Derived.ChangeMaps5
import Derived.ChangeStays

set_option linter.unusedSimpArgs false
set_option linter.unusedVariables false

/-! Sc2 -/

namespace Go.Abs
set_option maxRecDepth 8000
open Go.Proofs
theorem iG (a b:Int) (s:St):aA Tryz.prog jr [.int .i64 a, .int .i64 b] s (.agg [.int .i64 a, .int .i64 b]) s:=by
 refine aA.pure ?_ rfl rfl s
 unfold S0
 refine aA.go zJ rfl fun B Q hB hQ=> ?_
 have⟨hD,hF,hJ,hP⟩:=bI
 repeat' (first
 | simp only [go_sem,hD,hF,hJ,hP]
 | (with_reducible first | refine aJ fun hc=> ?_ | refine aK fun hc=> ?_ | refine aL (fun hc=> ?_) fun hc=> ?_) <;> (try simp only [hc,bs, ↓reduceIte]at h) <;> try simp only [hc]
 | (with_reducible refine ay hQ ?_;exact bT)
 | (cases h;done))
def sq (vars globals:List aE) (name:aE):List Pm→Int
 | []=>if dV vars name then 4 else if dV globals name then 1 else 0
 | a::l=>if a.name==name then(if a.ref then 3 else 2)else sq vars globals name l
def Pc.iy (p:Pg) (f:Pc) (name:aE):Int:=sq f.vars p.globals name f.params
theorem Dx {p:Pg} {f:Pc} (hp:f.params.length<1000000000) (hv:f.vars.length<1000000000) (hg:p.globals.length<1000000000) (name:aE) (s:St):aA Tryz.prog ri [.agg (bP p), .agg (bV f), .str name] s (.int .i64 (f.iy p name)) s:=by
 refine aA.pure ?_ (by simp [D.bN,D.ok,ie,rb]) rfl s
 have mN:=iV (l:=f.vars) (by omega) name
 have pR:=iV (l:=p.globals) (by omega) name
 generalize h:f.iy p name=q
 simp only [Pc.iy]at h
 unfold S0
 refine aA.go zN rfl fun B Q hB hQ=> ?_
 have⟨hD,hF,hJ,hP⟩:=bI
 repeat' (first
 | simp only [go_sem,hD,hF,hJ,hP]
 | (with_reducible first | refine aJ fun hc=> ?_ | refine aK fun hc=> ?_ | refine aL (fun hc=> ?_) fun hc=> ?_) <;> (try simp only [hc,bs, ↓reduceIte]at h) <;> try simp only [hc]
 | (with_reducible refine ay hQ ?_;exact bT)
 | (cases h;done))
 refine cV 2 0 (bj.ind (ι:=List Pm×Nat) (fun i=>f.params.drop i.2=i.1∧sq f.vars p.globals name i.1=q) (fun i=>i.1.length)
  (fun i=> [(2, .str name),(3, .ptr 0 0),(4, .ptr 1 0),(10, .slice .shared 2 (f.params.map fW)),(11, .int .i64 (f.params.length:Int)),(12, .int .i64 (i.2:Int))]) (fun i=>⟨[bP p,bV f],[]⟩) ?_ (f.params,0) ⟨rfl,h⟩)
 rintro⟨rest,k⟩ ⟨h1,h⟩ IH
 dsimp only at h1 h
 cases rest with
 | nil=>
  have hD:=drop_nil h1
  simp only [sq]at h
  rcases Bool.eq_false_or_eq_true (dV f.vars name)with b1 | b1
  ·simp only [b1,if_true]at h
   subst h
   repeat' (first
 | simp only [go_sem,hD,hF,hJ,hP,b1]
 | (with_reducible refine CU (mN _ _) ?_)
 | (with_reducible refine CU (pR _ _) ?_)
 | (with_reducible first | refine aJ fun hc=> ?_ | refine aK fun hc=> ?_ | refine aL (fun hc=> ?_) fun hc=> ?_) <;> (try simp only [hc,bs, ↓reduceIte]at h) <;> try simp only [hc]
 | (with_reducible refine ay hQ ?_;(try cases h);simp only [az,aB,bc,bd,go_sem,hD,hF,hJ,hP,b1];try exact br)
 | (cases h;done))
  ·simp only [b1,Bool.false_eq_true,if_false]at h
   rcases Bool.eq_false_or_eq_true (dV p.globals name)with b2 | b2
   ·simp only [b2,if_true]at h
    subst h
    repeat' (first
 | simp only [go_sem,hD,hF,hJ,hP,b1,b2]
 | (with_reducible refine CU (mN _ _) ?_)
 | (with_reducible refine CU (pR _ _) ?_)
 | (with_reducible first | refine aJ fun hc=> ?_ | refine aK fun hc=> ?_ | refine aL (fun hc=> ?_) fun hc=> ?_) <;> (try simp only [hc,bs, ↓reduceIte]at h) <;> try simp only [hc]
 | (with_reducible refine ay hQ ?_;(try cases h);simp only [az,aB,bc,bd,go_sem,hD,hF,hJ,hP,b1,b2];try exact br)
 | (cases h;done))
   ·simp only [b2,Bool.false_eq_true,if_false]at h
    subst h
    repeat' (first
 | simp only [go_sem,hD,hF,hJ,hP,b1,b2]
 | (with_reducible refine CU (mN _ _) ?_)
 | (with_reducible refine CU (pR _ _) ?_)
 | (with_reducible first | refine aJ fun hc=> ?_ | refine aK fun hc=> ?_ | refine aL (fun hc=> ?_) fun hc=> ?_) <;> (try simp only [hc,bs, ↓reduceIte]at h) <;> try simp only [hc]
 | (with_reducible refine ay hQ ?_;(try cases h);simp only [az,aB,bc,bd,go_sem,hD,hF,hJ,hP,b1,b2];try exact br)
 | (cases h;done))
 | cons a rest=>
  obtain⟨hF,g2,hD,g4⟩:=drop_cons h1
  have bm:k<4611686018427387904:=by omega
  simp only [sq]at h
  rcases Bool.eq_false_or_eq_true (a.name==name)with b1 | b1
  ·simp only [b1,if_true]at h
   rcases Bool.eq_false_or_eq_true a.ref with b2 | b2
   ·simp only [b2,if_true]at h
    subst h
    repeat' (first
 | simp only [go_sem,hD,hF,hJ,hP,b1,b2]
 | (with_reducible first | refine aJ fun hc=> ?_ | refine aK fun hc=> ?_ | refine aL (fun hc=> ?_) fun hc=> ?_) <;> (try simp only [hc,bs, ↓reduceIte]at h) <;> try simp only [hc]
 | (with_reducible refine ay hQ ?_;(try cases h);simp only [az,aB,bc,bd,go_sem,hD,hF,hJ,hP,b1,b2];try exact br)
 | (cases h;done))
   ·simp only [b2,Bool.false_eq_true,if_false]at h
    subst h
    repeat' (first
 | simp only [go_sem,hD,hF,hJ,hP,b1,b2]
 | (with_reducible first | refine aJ fun hc=> ?_ | refine aK fun hc=> ?_ | refine aL (fun hc=> ?_) fun hc=> ?_) <;> (try simp only [hc,bs, ↓reduceIte]at h) <;> try simp only [hc]
 | (with_reducible refine ay hQ ?_;(try cases h);simp only [az,aB,bc,bd,go_sem,hD,hF,hJ,hP,b1,b2];try exact br)
 | (cases h;done))
  ·simp only [b1,Bool.false_eq_true,if_false]at h
   repeat' (first
 | simp only [go_sem,hD,hF,hJ,hP,b1]
 | (with_reducible first | refine aJ fun hc=> ?_ | refine aK fun hc=> ?_ | refine aL (fun hc=> ?_) fun hc=> ?_) <;> (try simp only [hc,bs, ↓reduceIte]at h) <;> try simp only [hc]
 | (with_reducible refine ay hQ ?_;(try cases h);simp only [az,aB,bc,bd,go_sem,hD,hF,hJ,hP,b1];try exact br)
 | (cases h;done))
   refine cd 2 0 ?_ ?_ (IH (rest,k+1) ⟨g2,h⟩ (Nat.lt_succ_self _))
   ·(simp only [go_sem,hD,hF,hJ,hP,au bm];try exact aZ)
   ·(simp only [go_sem,hD,hF,hJ,hP,au bm];try exact aZ)
theorem Eu {p:Pg} {f:Pc} (hp:f.params.length<1000000000) (hv:f.vars.length<1000000000) (hg:p.globals.length<1000000000) (name:aE) (s:St):aA Tryz.prog sL [.agg (bP p), .agg (bV f), .str name] s (.int .i64 (f.iy p name)) s:=by
 refine aA.pure ?_ (by simp [D.bN,D.ok,ie,rb]) rfl s
 have mN:=xO (l:=f.vars) (by omega) name
 have pR:=xO (l:=p.globals) (by omega) name
 generalize h:f.iy p name=q
 simp only [Pc.iy]at h
 unfold S0
 refine aA.go BB rfl fun B Q hB hQ=> ?_
 have⟨hD,hF,hJ,hP⟩:=bI
 repeat' (first
 | simp only [go_sem,hD,hF,hJ,hP]
 | (with_reducible first | refine aJ fun hc=> ?_ | refine aK fun hc=> ?_ | refine aL (fun hc=> ?_) fun hc=> ?_) <;> (try simp only [hc,bs, ↓reduceIte]at h) <;> try simp only [hc]
 | (with_reducible refine ay hQ ?_;exact bT)
 | (cases h;done))
 refine cV 2 0 (bj.ind (ι:=List Pm×Nat) (fun i=>f.params.drop i.2=i.1∧sq f.vars p.globals name i.1=q) (fun i=>i.1.length)
  (fun i=> [(2, .str name),(3, .ptr 0 0),(4, .ptr 1 0),(10, .slice .shared 2 (f.params.map fW)),(11, .int .i64 (f.params.length:Int)),(12, .int .i64 (i.2:Int))]) (fun i=>⟨[bP p,bV f],[]⟩) ?_ (f.params,0) ⟨rfl,h⟩)
 rintro⟨rest,k⟩ ⟨h1,h⟩ IH
 dsimp only at h1 h
 cases rest with
 | nil=>
  have hD:=drop_nil h1
  simp only [sq]at h
  rcases Bool.eq_false_or_eq_true (dV f.vars name)with b1 | b1
  ·simp only [b1,if_true]at h
   subst h
   repeat' (first
 | simp only [go_sem,hD,hF,hJ,hP,b1]
 | (with_reducible refine CU (mN _ _) ?_)
 | (with_reducible refine CU (pR _ _) ?_)
 | (with_reducible first | refine aJ fun hc=> ?_ | refine aK fun hc=> ?_ | refine aL (fun hc=> ?_) fun hc=> ?_) <;> (try simp only [hc,bs, ↓reduceIte]at h) <;> try simp only [hc]
 | (with_reducible refine ay hQ ?_;(try cases h);simp only [az,aB,bc,bd,go_sem,hD,hF,hJ,hP,b1];try exact br)
 | (cases h;done))
  ·simp only [b1,Bool.false_eq_true,if_false]at h
   rcases Bool.eq_false_or_eq_true (dV p.globals name)with b2 | b2
   ·simp only [b2,if_true]at h
    subst h
    repeat' (first
 | simp only [go_sem,hD,hF,hJ,hP,b1,b2]
 | (with_reducible refine CU (mN _ _) ?_)
 | (with_reducible refine CU (pR _ _) ?_)
 | (with_reducible first | refine aJ fun hc=> ?_ | refine aK fun hc=> ?_ | refine aL (fun hc=> ?_) fun hc=> ?_) <;> (try simp only [hc,bs, ↓reduceIte]at h) <;> try simp only [hc]
 | (with_reducible refine ay hQ ?_;(try cases h);simp only [az,aB,bc,bd,go_sem,hD,hF,hJ,hP,b1,b2];try exact br)
 | (cases h;done))
   ·simp only [b2,Bool.false_eq_true,if_false]at h
    subst h
    repeat' (first
 | simp only [go_sem,hD,hF,hJ,hP,b1,b2]
 | (with_reducible refine CU (mN _ _) ?_)
 | (with_reducible refine CU (pR _ _) ?_)
 | (with_reducible first | refine aJ fun hc=> ?_ | refine aK fun hc=> ?_ | refine aL (fun hc=> ?_) fun hc=> ?_) <;> (try simp only [hc,bs, ↓reduceIte]at h) <;> try simp only [hc]
 | (with_reducible refine ay hQ ?_;(try cases h);simp only [az,aB,bc,bd,go_sem,hD,hF,hJ,hP,b1,b2];try exact br)
 | (cases h;done))
 | cons a rest=>
  obtain⟨hF,g2,hD,g4⟩:=drop_cons h1
  have bm:k<4611686018427387904:=by omega
  simp only [sq]at h
  rcases Bool.eq_false_or_eq_true (a.name==name)with b1 | b1
  ·simp only [b1,if_true]at h
   rcases Bool.eq_false_or_eq_true a.ref with b2 | b2
   ·simp only [b2,if_true]at h
    subst h
    repeat' (first
 | simp only [go_sem,hD,hF,hJ,hP,b1,b2]
 | (with_reducible first | refine aJ fun hc=> ?_ | refine aK fun hc=> ?_ | refine aL (fun hc=> ?_) fun hc=> ?_) <;> (try simp only [hc,bs, ↓reduceIte]at h) <;> try simp only [hc]
 | (with_reducible refine ay hQ ?_;(try cases h);simp only [az,aB,bc,bd,go_sem,hD,hF,hJ,hP,b1,b2];try exact br)
 | (cases h;done))
   ·simp only [b2,Bool.false_eq_true,if_false]at h
    subst h
    repeat' (first
 | simp only [go_sem,hD,hF,hJ,hP,b1,b2]
 | (with_reducible first | refine aJ fun hc=> ?_ | refine aK fun hc=> ?_ | refine aL (fun hc=> ?_) fun hc=> ?_) <;> (try simp only [hc,bs, ↓reduceIte]at h) <;> try simp only [hc]
 | (with_reducible refine ay hQ ?_;(try cases h);simp only [az,aB,bc,bd,go_sem,hD,hF,hJ,hP,b1,b2];try exact br)
 | (cases h;done))
  ·simp only [b1,Bool.false_eq_true,if_false]at h
   repeat' (first
 | simp only [go_sem,hD,hF,hJ,hP,b1]
 | (with_reducible first | refine aJ fun hc=> ?_ | refine aK fun hc=> ?_ | refine aL (fun hc=> ?_) fun hc=> ?_) <;> (try simp only [hc,bs, ↓reduceIte]at h) <;> try simp only [hc]
 | (with_reducible refine ay hQ ?_;(try cases h);simp only [az,aB,bc,bd,go_sem,hD,hF,hJ,hP,b1];try exact br)
 | (cases h;done))
   refine cd 2 0 ?_ ?_ (IH (rest,k+1) ⟨g2,h⟩ (Nat.lt_succ_self _))
   ·(simp only [go_sem,hD,hF,hJ,hP,au bm];try exact aZ)
   ·(simp only [go_sem,hD,hF,hJ,hP,au bm];try exact aZ)
def gV (name:aE):List Pc→Option Pc
 | []=>none
 | f::l=>if f.name==name then some f else gV name l
def Pg.find (p:Pg) (name:aE):Option Pc:=gV name p.procs
def V8:Pc:=⟨[],[],[],[],[]⟩
theorem tt:bV V8 = [.str [], .slice .shared 2 [], .slice .shared 1 [], .slice .shared 13 [], .slice .shared 1 []]:=nd rfl
def dz (r:Option Pc):D:= .tuple [.agg (bV (r.getD V8)), .bool r.isSome]
theorem JR (r:Option Pc):D.ok 0 0 (dz r)=true:=by simp [dz,D.ok,D.bN,rb]
theorem yX (f:Pc):bV f = [.str f.name, .slice .shared 2 (f.params.map fW), .slice .shared 1 (f.vars.map encStr), .slice .shared 13 (f.body.map bp), .slice .shared 1 (f.fin.map encStr)]:=nd rfl
theorem Ad {p:Pg} (hl:p.procs.length<1000000000) (name:aE) (s:St):aA Tryz.prog kB [.agg (bP p), .str name] s (dz (p.find name)) s:=by
 refine aA.pure ?_ (by simp [D.bN,D.ok,ie]) (JR _) s
 unfold Pg.find
 generalize h:gV name p.procs=q
 unfold S0
 refine aA.go zL rfl fun B Q hB hQ=> ?_
 have⟨hD,hF,hJ,hP⟩:=bI
 repeat' (first
 | simp only [go_sem,hD,hF,hJ,hP,yX]
 | (with_reducible first | refine aJ fun hc=> ?_ | refine aK fun hc=> ?_ | refine aL (fun hc=> ?_) fun hc=> ?_) <;> (try simp only [hc,bs, ↓reduceIte]at h) <;> try simp only [hc]
 | (with_reducible refine ay hQ ?_;(try cases h);simp only [az,aB,bc,bd,go_sem,hD,hF,hJ,hP,yX];try exact br)
 | (cases h;done))
 refine cV 2 0 (bj.ind (ι:=List Pc×Nat) (fun i=>p.procs.drop i.2=i.1∧gV name i.1=q) (fun i=>i.1.length)
  (fun i=> [(1, .str name),(4, .ptr 1 0),(9, .slice .shared 5 (p.procs.map bV)),(10, .int .i64 (p.procs.length:Int)),(11, .int .i64 (i.2:Int))]) (fun i=>⟨[bP p,[.str [], .slice .full 0 [], .slice .full 0 [], .slice .full 0 [], .slice .full 0 []]],[]⟩) ?_ (p.procs,0) ⟨rfl,h⟩)
 rintro⟨rest,k⟩ ⟨h1,h⟩ IH
 dsimp only at h1 h
 cases rest with
 | nil=>
  have hD:=drop_nil h1
  simp only [gV]at h
  subst h
  repeat' (first
 | simp only [go_sem,hD,hF,hJ,hP,dz,Option.getD_none,Option.isSome_none,tt]
 | (with_reducible first | refine aJ fun hc=> ?_ | refine aK fun hc=> ?_ | refine aL (fun hc=> ?_) fun hc=> ?_) <;> (try simp only [hc,bs, ↓reduceIte]at h) <;> try simp only [hc]
 | (with_reducible refine ay hQ ?_;(try cases h);simp only [az,aB,bc,bd,go_sem,hD,hF,hJ,hP,dz,Option.getD_none,Option.isSome_none,tt];try exact br)
 | (cases h;done))
 | cons a rest=>
  obtain⟨hF,g2,hD,g4⟩:=drop_cons h1
  have bm:k<4611686018427387904:=by omega
  simp only [gV]at h
  rcases Bool.eq_false_or_eq_true (a.name==name)with b1 | b1
  ·simp only [b1,if_true]at h
   subst h
   repeat' (first
 | simp only [go_sem,hD,hF,hJ,hP,b1,dz,Option.getD_some,Option.isSome_some]
 | (with_reducible first | refine aJ fun hc=> ?_ | refine aK fun hc=> ?_ | refine aL (fun hc=> ?_) fun hc=> ?_) <;> (try simp only [hc,bs, ↓reduceIte]at h) <;> try simp only [hc]
 | (with_reducible refine ay hQ ?_;(try cases h);simp only [az,aB,bc,bd,go_sem,hD,hF,hJ,hP,b1,dz,Option.getD_some,Option.isSome_some];try exact br)
 | (cases h;done))
  ·simp only [b1,Bool.false_eq_true,if_false]at h
   repeat' (first
 | simp only [go_sem,hD,hF,hJ,hP,b1]
 | (with_reducible first | refine aJ fun hc=> ?_ | refine aK fun hc=> ?_ | refine aL (fun hc=> ?_) fun hc=> ?_) <;> (try simp only [hc,bs, ↓reduceIte]at h) <;> try simp only [hc]
 | (with_reducible refine ay hQ ?_;(try cases h);simp only [az,aB,bc,bd,go_sem,hD,hF,hJ,hP,b1];try exact br)
 | (cases h;done))
   refine cd 2 0 ?_ ?_ (IH (rest,k+1) ⟨g2,h⟩ (Nat.lt_succ_self _))
   ·(simp only [go_sem,hD,hF,hJ,hP,au bm];try exact aZ)
   ·(simp only [go_sem,hD,hF,hJ,hP,au bm];try exact aZ)
theorem Ae {p:Pg} (hf:p.gI) (hl:p.procs.length<1000000000) (name:aE) (s:St):aA Tryz.prog nr [.agg (bP p), .str name] s (dz (if p.may then p.find name else none)) s:=by
 refine aA.pure ?_ (by simp [D.bN,D.ok,ie]) (JR _) s
 have hm:=fun s=>Oc hf s
 rcases Bool.eq_false_or_eq_true p.may with hb | hb
 case inr=>
  simp only [hb]at hm
  simp only [hb,Bool.false_eq_true,if_false]
  unfold S0
  refine aA.go uH rfl fun B Q hB hQ=> ?_
  have⟨hD,hF,hJ,hP⟩:=bI
  repeat' (first
 | simp only [go_sem,hD,hF,hJ,hP,dz,Option.getD_none,Option.isSome_none,tt]
 | (with_reducible refine CU (hm _) ?_)
 | (with_reducible first | refine aJ fun hc=> ?_ | refine aK fun hc=> ?_ | refine aL (fun hc=> ?_) fun hc=> ?_) <;> (try simp only [hc,bs, ↓reduceIte]at h) <;> try simp only [hc]
 | (with_reducible refine ay hQ ?_;(try cases h);simp only [az,aB,bc,bd,go_sem,hD,hF,hJ,hP,dz,Option.getD_none,Option.isSome_none,tt];try exact br)
 | (cases h;done))
 simp only [hb]at hm
 simp only [hb,if_true]
 unfold Pg.find
 generalize h:gV name p.procs=q
 unfold S0
 refine aA.go uH rfl fun B Q hB hQ=> ?_
 have⟨hD,hF,hJ,hP⟩:=bI
 repeat' (first
 | simp only [go_sem,hD,hF,hJ,hP,yX]
 | (with_reducible refine CU (hm _) ?_)
 | (with_reducible first | refine aJ fun hc=> ?_ | refine aK fun hc=> ?_ | refine aL (fun hc=> ?_) fun hc=> ?_) <;> (try simp only [hc,bs, ↓reduceIte]at h) <;> try simp only [hc]
 | (with_reducible refine ay hQ ?_;(try cases h);simp only [az,aB,bc,bd,go_sem,hD,hF,hJ,hP,yX];try exact br)
 | (cases h;done))
 refine cV 2 0 (bj.ind (ι:=List Pc×Nat) (fun i=>p.procs.drop i.2=i.1∧gV name i.1=q) (fun i=>i.1.length)
  (fun i=> [(1, .str name),(4, .ptr 1 0),(11, .slice .shared 5 (p.procs.map bV)),(12, .int .i64 (p.procs.length:Int)),(13, .int .i64 (i.2:Int))]) (fun i=>⟨[bP p,[.str [], .slice .full 0 [], .slice .full 0 [], .slice .full 0 [], .slice .full 0 []]],[]⟩) ?_ (p.procs,0) ⟨rfl,h⟩)
 rintro⟨rest,k⟩ ⟨h1,h⟩ IH
 dsimp only at h1 h
 cases rest with
 | nil=>
  have hD:=drop_nil h1
  simp only [gV]at h
  subst h
  repeat' (first
 | simp only [go_sem,hD,hF,hJ,hP,dz,Option.getD_none,Option.isSome_none,tt]
 | (with_reducible first | refine aJ fun hc=> ?_ | refine aK fun hc=> ?_ | refine aL (fun hc=> ?_) fun hc=> ?_) <;> (try simp only [hc,bs, ↓reduceIte]at h) <;> try simp only [hc]
 | (with_reducible refine ay hQ ?_;(try cases h);simp only [az,aB,bc,bd,go_sem,hD,hF,hJ,hP,dz,Option.getD_none,Option.isSome_none,tt];try exact br)
 | (cases h;done))
 | cons a rest=>
  obtain⟨hF,g2,hD,g4⟩:=drop_cons h1
  have bm:k<4611686018427387904:=by omega
  simp only [gV]at h
  rcases Bool.eq_false_or_eq_true (a.name==name)with b1 | b1
  ·simp only [b1,if_true]at h
   subst h
   repeat' (first
 | simp only [go_sem,hD,hF,hJ,hP,b1,dz,Option.getD_some,Option.isSome_some]
 | (with_reducible first | refine aJ fun hc=> ?_ | refine aK fun hc=> ?_ | refine aL (fun hc=> ?_) fun hc=> ?_) <;> (try simp only [hc,bs, ↓reduceIte]at h) <;> try simp only [hc]
 | (with_reducible refine ay hQ ?_;(try cases h);simp only [az,aB,bc,bd,go_sem,hD,hF,hJ,hP,b1,dz,Option.getD_some,Option.isSome_some];try exact br)
 | (cases h;done))
  ·simp only [b1,Bool.false_eq_true,if_false]at h
   repeat' (first
 | simp only [go_sem,hD,hF,hJ,hP,b1]
 | (with_reducible first | refine aJ fun hc=> ?_ | refine aK fun hc=> ?_ | refine aL (fun hc=> ?_) fun hc=> ?_) <;> (try simp only [hc,bs, ↓reduceIte]at h) <;> try simp only [hc]
 | (with_reducible refine ay hQ ?_;(try cases h);simp only [az,aB,bc,bd,go_sem,hD,hF,hJ,hP,b1];try exact br)
 | (cases h;done))
   refine cd 2 0 ?_ ?_ (IH (rest,k+1) ⟨g2,h⟩ (Nat.lt_succ_self _))
   ·(simp only [go_sem,hD,hF,hJ,hP,au bm];try exact aZ)
   ·(simp only [go_sem,hD,hF,hJ,hP,au bm];try exact aZ)
end Go.Abs

/-! Sc3 -/

namespace Go.Abs
set_option maxRecDepth 8000
open Go.Proofs
def Pc.mB (f:Pc):List aE:=f.params.map (·.name)
def Pc.own (f:Pc):List aE:=f.mB++f.vars
theorem Vc {f:Pc} (hp:f.params.length<1000000) (hv:f.vars.length<1000000) (s:St):aA Tryz.prog sK [.agg (bV f)] s (.slice .shared 1 (f.own.map encStr)) s:=by
 refine aA.pure ?_ (by simp [D.bN,D.ok,rb]) (by simp only [D.ok,Tag.ok,dk];rfl) s
 generalize hR:f.own=R
 simp only [Pc.own]at hR
 unfold S0
 refine aA.go Bz rfl fun B Q hB hQ=> ?_
 have⟨hD,hF,hJ,hP⟩:=bI
 repeat' (first
 | simp only [go_sem,hD,hF,hJ,hP]
 | (with_reducible first | refine aJ fun hc=> ?_ | refine aK fun hc=> ?_ | refine aL (fun hc=> ?_) fun hc=> ?_) <;> (try simp only [hc,bs, ↓reduceIte]at h) <;> try simp only [hc]
 | (with_reducible refine ay hQ ?_;exact bT)
 | (cases h;done))
 refine bj.mh 3 1 rfl ?_
 simp only [go_sem,hD,hF,hJ,hP]
 refine cV 1 1 (bj.ind (ι:=List Pm×Nat×List aE×Nat) (fun i=>f.params.drop i.2.1=i.1∧i.2.2.1++i.1.map (·.name)=f.mB∧i.2.2.2=i.2.2.1.length) (fun i=>i.1.length)
  (fun i=> [(1, .ptr 0 0),(3, .slice (.tok 0) 1 (i.2.2.1.map encStr)),(7, .slice .shared 2 (f.params.map fW)),(8, .int .i64 (f.params.length:Int)),(9, .int .i64 (i.2.1:Int))]) (fun i=>⟨[bV f],[some i.2.2.2]⟩) ?_ (f.params,0,[],0) ⟨rfl,rfl,rfl⟩)
 rintro⟨rest,k,out,n⟩ ⟨h1,h2,h3⟩ IH
 dsimp only at h1 h2 h3
 subst h3
 have V9:out.length+rest.length<1000000:=by
  have:=congrArg List.length h2
  simp only [List.length_append,List.length_map,Pc.mB]at this
  omega
 cases rest with
 | nil=>
  have hD:=drop_nil h1
  simp only [List.map_nil,List.append_nil]at h2
  subst hR
  rw [← h2]at hQ
  have cU:=ep (l:=out) (nx:=f.vars) rfl (by omega) (g:= .shared)
  repeat' (first
 | simp only [go_sem,hD,hF,hJ,hP,cU]
 | (with_reducible first | refine aJ fun hc=> ?_ | refine aK fun hc=> ?_ | refine aL (fun hc=> ?_) fun hc=> ?_) <;> (try simp only [hc,bs, ↓reduceIte]at h) <;> try simp only [hc]
 | (with_reducible refine ay hQ ?_;(try cases h);simp only [az,aB,bc,bd,go_sem,hD,hF,hJ,hP,cU];try exact br)
 | (cases h;done))
 | cons a rest=>
  obtain⟨hF,g2,hD,g4⟩:=drop_cons h1
  have bm:k<4611686018427387904:=by omega
  have hJ:(out.length+1)*17≤bf:=by unfold bf;omega
  repeat' (first
 | simp only [go_sem,hD,hF,hJ,hP]
 | (with_reducible first | refine aJ fun hc=> ?_ | refine aK fun hc=> ?_ | refine aL (fun hc=> ?_) fun hc=> ?_) <;> (try simp only [hc,bs, ↓reduceIte]at h) <;> try simp only [hc]
 | (with_reducible refine ay hQ ?_;exact bT)
 | (cases h;done))
  refine cd 1 1 ?_ ?_ (IH (rest,k+1,out++ [a.name],out.length+1) ⟨g2,by rw [← h2];simp,by simp⟩ (Nat.lt_succ_self _))
  ·(simp only [go_sem,hD,hF,hJ,hP,au bm,List.map_append,List.map_cons,List.map_nil,encStr];try exact aZ)
  ·(simp only [go_sem,hD,hF,hJ,hP,au bm,List.map_append,List.map_cons,List.map_nil,encStr];try exact aZ)
theorem Mv {f:Pc} (hp:f.params.length<1000000) (s:St):aA Tryz.prog ql [.agg (bV f)] s (.slice .shared 1 (f.mB.map encStr)) s:=by
 refine aA.pure ?_ (by simp [D.bN,D.ok,rb]) (by simp only [D.ok,Tag.ok,dk];rfl) s
 generalize hR:f.mB=R
 unfold S0
 refine aA.go yF rfl fun B Q hB hQ=> ?_
 have⟨hD,hF,hJ,hP⟩:=bI
 repeat' (first
 | simp only [go_sem,hD,hF,hJ,hP]
 | (with_reducible first | refine aJ fun hc=> ?_ | refine aK fun hc=> ?_ | refine aL (fun hc=> ?_) fun hc=> ?_) <;> (try simp only [hc,bs, ↓reduceIte]at h) <;> try simp only [hc]
 | (with_reducible refine ay hQ ?_;exact bT)
 | (cases h;done))
 refine bj.mh 3 1 rfl ?_
 simp only [go_sem,hD,hF,hJ,hP]
 refine cV 1 1 (bj.ind (ι:=List Pm×Nat×List aE×Nat) (fun i=>f.params.drop i.2.1=i.1∧i.2.2.1++i.1.map (·.name)=R∧i.2.2.2=i.2.2.1.length∧i.2.2.1.length+i.1.length=f.params.length) (fun i=>i.1.length)
  (fun i=> [(1, .ptr 0 0),(3, .slice (.tok 0) 1 (i.2.2.1.map encStr)),(7, .slice .shared 2 (f.params.map fW)),(8, .int .i64 (f.params.length:Int)),(9, .int .i64 (i.2.1:Int))]) (fun i=>⟨[bV f],[some i.2.2.2]⟩) ?_ (f.params,0,[],0) ⟨rfl,hR,rfl,by simp⟩)
 rintro⟨rest,k,out,n⟩ ⟨h1,h2,h3,h4⟩ IH
 dsimp only at h1 h2 h3 h4
 subst h3
 cases rest with
 | nil=>
  have hD:=drop_nil h1
  simp only [List.map_nil,List.append_nil]at h2
  subst h2
  repeat' (first
 | simp only [go_sem,hD,hF,hJ,hP]
 | (with_reducible first | refine aJ fun hc=> ?_ | refine aK fun hc=> ?_ | refine aL (fun hc=> ?_) fun hc=> ?_) <;> (try simp only [hc,bs, ↓reduceIte]at h) <;> try simp only [hc]
 | (with_reducible refine ay hQ ?_;exact bT)
 | (cases h;done))
 | cons a rest=>
  obtain⟨hF,g2,hD,g4⟩:=drop_cons h1
  have bm:k<4611686018427387904:=by omega
  simp only [List.length_cons]at h4
  have hJ:(out.length+1)*17≤bf:=by unfold bf;omega
  repeat' (first
 | simp only [go_sem,hD,hF,hJ,hP]
 | (with_reducible first | refine aJ fun hc=> ?_ | refine aK fun hc=> ?_ | refine aL (fun hc=> ?_) fun hc=> ?_) <;> (try simp only [hc,bs, ↓reduceIte]at h) <;> try simp only [hc]
 | (with_reducible refine ay hQ ?_;exact bT)
 | (cases h;done))
  refine cd 1 1 ?_ ?_ (IH (rest,k+1,out++ [a.name],out.length+1) ⟨g2,by rw [← h2];simp,by simp,by simp;omega⟩ (Nat.lt_succ_self _))
  ·(simp only [go_sem,hD,hF,hJ,hP,au bm,List.map_append,List.map_cons,List.map_nil,encStr];try exact aZ)
  ·(simp only [go_sem,hD,hF,hJ,hP,au bm,List.map_append,List.map_cons,List.map_nil,encStr];try exact aZ)
def jz:aE:= [109,97,105,110]
def Sm.known (p:Pg) (f:Pc) (procs:List aE) (v:Sm):Bool:=
 !(v.said.any fun n=>f.iy p n==0) && (v.kind != 4 || (v.proc != jz && dV procs v.proc))
structure Pc.Small (p:Pg) (f:Pc):Prop where
 par:f.params.length<1000000
 vars:f.vars.length<1000000
 z7:p.globals.length<1000000
def pI (p:Pg) (f:Pc):List aE→Bool
 | []=>true
 | n::l=>if f.iy p n==0 then false else pI p f l
theorem wb (p:Pg) (f:Pc) : ∀ l,pI p f l = !(l.any fun n=>f.iy p n==0)
 | []=>rfl
 | n::l=>by
  simp only [pI,List.any_cons,wb p f l]
  cases (f.iy p n==0) <;> simp
theorem ui (v:Sm) (h:v.p7):v.said.length<3000000:=by
 have : ∀ (l:List Ar) (out:List aE),(Ar.said out l).length≤out.length+2*Ar.aP l:=by
  intro l
  induction l with
  | nil=>intro out;simp [Ar.said]
  | cons a l ih=>
   intro out
   simp only [Ar.said,Ar.aP]
   refine Nat.le_trans (ih _) ?_
   have:=fp a.x
   have:1≤a.x.size:=by obtain⟨_,_,_,_⟩:=a.x;simp [Ex.size]
   simp only [List.length_append]
   split <;> simp <;> omega
 have h1:=this v.args (v.oI++v.x.names)
 have h2:=fp v.x
 have h3:=h.2.2
 have h4:v.oI.length≤1:=by unfold Sm.oI;split <;> simp
 simp only [List.length_append]at h1
 unfold Sm.said
 omega
theorem PA {p:Pg} {f:Pc} {procs:List aE} {v:Sm} (hs:f.Small p) (gQ:procs.length<1000000) (hv:v.p7) (s:St):aA Tryz.prog nJ [.agg (bP p), .agg (bV f), .slice .shared 1 (procs.map encStr), .agg (bp v)] s (.bool (v.known p f procs)) s:=by
 refine aA.pure ?_ (by simp [D.bN,D.ok,ie,rb,qh,Tag.ok,dk]) rfl s
 have hn:=fun s=>vY hv s
 have hk:=fun n s=>Dx (p:=p) (f:=f) (by have:=hs.par;omega) (by have:=hs.vars;omega) (by have:=hs.z7;omega) n s
 have R0:=iV (l:=procs) (by omega) v.proc
 have hl:=ui v hv
 generalize h:v.known p f procs=q
 simp only [Sm.known, ← wb]at h
 unfold S0
 refine aA.go yE rfl fun B Q hB hQ=> ?_
 have⟨hD,hF,hJ,hP⟩:=bI
 repeat' (first
 | simp only [go_sem,hD,hF,hJ,hP]
 | (with_reducible refine CU (hn _) ?_)
 | (with_reducible first | refine aJ fun hc=> ?_ | refine aK fun hc=> ?_ | refine aL (fun hc=> ?_) fun hc=> ?_) <;> (try simp only [hc,bs, ↓reduceIte]at h) <;> try simp only [hc]
 | (with_reducible refine ay hQ ?_;exact bT)
 | (cases h;done))
 refine cV 3 0 (bj.ind (ι:=List aE×Nat) (fun i=>v.said.drop i.2=i.1∧(pI p f i.1 && (v.kind != 4 || (v.proc != jz && dV procs v.proc)))=q) (fun i=>i.1.length)
  (fun i=> [(2, .slice .shared 1 (procs.map encStr)),(4, .ptr 0 0),(5, .ptr 1 0),(7, .ptr 2 0),(12, .slice .shared 1 (v.said.map encStr)),(13, .int .i64 (v.said.length:Int)),(14, .int .i64 (i.2:Int))]) (fun i=>⟨[bP p,bV f,bp v],[]⟩) ?_ (v.said,0) ⟨rfl,h⟩)
 rintro⟨rest,k⟩ ⟨h1,h⟩ IH
 dsimp only at h1 h
 cases rest with
 | nil=>
  have hD:=drop_nil h1
  simp only [pI,Bool.true_and]at h
  rcases Bool.eq_false_or_eq_true (v.kind != 4)with b1 | b1
  ·simp only [b1,Bool.true_or]at h
   subst h
   repeat' (first
 | simp only [go_sem,hD,hF,hJ,hP,b1]
 | (with_reducible first | refine aJ fun hc=> ?_ | refine aK fun hc=> ?_ | refine aL (fun hc=> ?_) fun hc=> ?_) <;> (try simp only [hc,bs, ↓reduceIte]at h) <;> try simp only [hc]
 | (with_reducible refine ay hQ ?_;(try cases h);simp only [az,aB,bc,bd,go_sem,hD,hF,hJ,hP,b1];try exact br)
 | (cases h;done))
  ·simp only [b1,Bool.false_or]at h
   rcases Bool.eq_false_or_eq_true (v.proc != jz)with b2 | b2
   ·simp only [b2,Bool.true_and]at h
    unfold jz at b2
    have b3:(v.proc == [109,97,105,110]) = !(v.proc != [109,97,105,110]):=by simp only [bne,Bool.not_not]
    rw [b2]at b3
    simp only [Bool.not_true,Bool.not_false]at b3
    subst h
    repeat' (first
 | simp only [go_sem,hD,hF,hJ,hP,b1,b2,b3]
 | (with_reducible refine CU (R0 _ _) ?_)
 | (with_reducible first | refine aJ fun hc=> ?_ | refine aK fun hc=> ?_ | refine aL (fun hc=> ?_) fun hc=> ?_) <;> (try simp only [hc,bs, ↓reduceIte]at h) <;> try simp only [hc]
 | (with_reducible refine ay hQ ?_;(try cases h);simp only [az,aB,bc,bd,go_sem,hD,hF,hJ,hP,b1,b2,b3];try exact br)
 | (cases h;done))
   ·simp only [b2,Bool.false_and]at h
    unfold jz at b2
    have b3:(v.proc == [109,97,105,110]) = !(v.proc != [109,97,105,110]):=by simp only [bne,Bool.not_not]
    rw [b2]at b3
    simp only [Bool.not_true,Bool.not_false]at b3
    subst h
    repeat' (first
 | simp only [go_sem,hD,hF,hJ,hP,b1,b2,b3]
 | (with_reducible refine CU (R0 _ _) ?_)
 | (with_reducible first | refine aJ fun hc=> ?_ | refine aK fun hc=> ?_ | refine aL (fun hc=> ?_) fun hc=> ?_) <;> (try simp only [hc,bs, ↓reduceIte]at h) <;> try simp only [hc]
 | (with_reducible refine ay hQ ?_;(try cases h);simp only [az,aB,bc,bd,go_sem,hD,hF,hJ,hP,b1,b2,b3];try exact br)
 | (cases h;done))
 | cons a rest=>
  obtain⟨hF,g2,hD,g4⟩:=drop_cons h1
  have bm:k<4611686018427387904:=by omega
  simp only [pI]at h
  rcases Bool.eq_false_or_eq_true (f.iy p a==0)with b1 | b1
  ·simp only [b1,if_true,Bool.false_and]at h
   subst h
   repeat' (first
 | simp only [go_sem,hD,hF,hJ,hP,b1]
 | (with_reducible refine CU (hk _ _) ?_)
 | (with_reducible first | refine aJ fun hc=> ?_ | refine aK fun hc=> ?_ | refine aL (fun hc=> ?_) fun hc=> ?_) <;> (try simp only [hc,bs, ↓reduceIte]at h) <;> try simp only [hc]
 | (with_reducible refine ay hQ ?_;(try cases h);simp only [az,aB,bc,bd,go_sem,hD,hF,hJ,hP,b1];try exact br)
 | (cases h;done))
  ·simp only [b1,Bool.false_eq_true,if_false]at h
   repeat' (first
 | simp only [go_sem,hD,hF,hJ,hP,b1]
 | (with_reducible refine CU (hk _ _) ?_)
 | (with_reducible first | refine aJ fun hc=> ?_ | refine aK fun hc=> ?_ | refine aL (fun hc=> ?_) fun hc=> ?_) <;> (try simp only [hc,bs, ↓reduceIte]at h) <;> try simp only [hc]
 | (with_reducible refine ay hQ ?_;(try cases h);simp only [az,aB,bc,bd,go_sem,hD,hF,hJ,hP,b1];try exact br)
 | (cases h;done))
   refine cd 3 0 ?_ ?_ (IH (rest,k+1) ⟨g2,h⟩ (Nat.lt_succ_self _))
   ·(simp only [go_sem,hD,hF,hJ,hP,au bm];try exact aZ)
   ·(simp only [go_sem,hD,hF,hJ,hP,au bm];try exact aZ)
end Go.Abs

/-! ScP -/

namespace Go.Abs
theorem E2 : ∀ (l pre:List aE),wa pre l=true↔(∃ x∈l,x∈pre)∨¬ l.Nodup
 | [],pre=>by simp [wa]
 | s::l,pre=>by
  simp only [wa]
  by_cases h:dV pre s=true
  ·simp only [h,if_true,true_iff]
   exact .inl ⟨s,List.mem_cons_self,(ju _ _).1 h⟩
  ·have h':s∉pre:=fun m=>h ((ju _ _).2 m)
   simp only [h,if_false,Bool.false_eq_true]
   rw [E2 l (pre++ [s])]
   simp only [List.mem_append,List.mem_singleton,List.mem_cons,List.nodup_cons,exists_eq_or_imp]
   constructor
   ·rintro(⟨x,m,h1 | h1⟩ | h1)
    ·exact .inl (.inr ⟨x,m,h1⟩)
    ·have h1:x=s:=by simpa using h1
     subst h1;exact .inr fun h=>h.1 m
    ·exact .inr fun h=>h1 h.2
   ·rintro((h1 | ⟨x,m,h1⟩) | h1)
    ·exact absurd h1 h'
    ·exact .inl ⟨x,m, .inl h1⟩
    ·by_cases m:s∈l
     ·exact .inl ⟨s,m, .inr (.inl rfl)⟩
     ·exact .inr fun h=>h1 ⟨m,h⟩
theorem A4 (l:List aE):er l=true↔¬ l.Nodup:=by
 unfold er;rw [E2];simp
theorem JS (a b:List aE):er (a++b)=(er a || (er b || b.any (dV a))):=by
 have h:er (a++b)=true↔(er a || (er b || b.any (dV a)))=true:=by
  rw [A4,List.nodup_append]
  simp only [Bool.or_eq_true,A4,List.any_eq_true,ju]
  constructor
  ·intro h
   by_cases ha:a.Nodup
   ·by_cases hb:b.Nodup
    ·refine .inr (.inr (Classical.byContradiction fun hn=>h ⟨ha,hb,fun x hx y hy e=>hn ⟨y,hy,e ▸ hx⟩⟩))
    ·exact .inr (.inl hb)
   ·exact .inl ha
  ·rintro(h | h | ⟨x,h1,h2⟩) ⟨h3,h4,h5⟩
   ·exact h h3
   ·exact h h4
   ·exact h5 x h2 x h1 rfl
 cases h1:er (a++b) <;> cases h2:(er a || (er b || b.any (dV a))) <;> simp_all
theorem Dy (name:aE) : ∀ (l:List Pc) (k:Nat),(gV name l=none∧lJ name (k:Int) (l.map (·.name)) = -1)∨∃ f j,gV name l=some f∧l[j]? = some f∧lJ name (k:Int) (l.map (·.name))=((k+j:Nat):Int)
 | [],k=> .inl ⟨rfl,rfl⟩
 | f::l,k=>by
  by_cases h:f.name=name
  ·subst h
   refine .inr ⟨f,0,by simp [gV],rfl,by simp [lJ]⟩
  ·have h1:(f.name==name)=false:=by simp [h]
   have h2:(name==f.name)=false:=by simp [Ne.symm h]
   simp only [gV,h1,Bool.false_eq_true,if_false,List.map_cons,lJ,h2]
   rcases Dy name l (k+1)with ⟨g1,g2⟩ | ⟨g,j,g1,g2,g3⟩
   ·exact .inl ⟨g1,by rw [← g2];rfl⟩
   ·refine .inr ⟨g,j+1,g1,by simpa using g2, ?_⟩
    rw [show((k:Int)+1)=((k+1:Nat):Int)from rfl,g3]
    congr 1;omega
theorem kb {name:aE} {f:Pc} : ∀ {l:List Pc},gV name l=some f→f∈l∧f.name=name
 | g::l,h=>by
  simp only [gV]at h
  split at h
  ·rename_i e;cases h;exact⟨List.mem_cons_self,by simpa using e⟩
  ·have:=kb h;exact⟨List.mem_cons_of_mem _ this.1,this.2⟩
mutual
theorem JT (deep bX:Int) (aY:Bool) (out:List It) : ∀ s:Sm,∃ e,fR deep bX aY out s=out++e
 | ⟨id,kind,labels,name,proc,x,has,args,bk,e⟩=>by
  simp only [fR]
  split
  ·obtain⟨e1,h1⟩:=p9 (deep+1) id false (out++ [⟨⟨id,kind,labels,name,proc,x,has,args,bk,e⟩,deep,bX,aY⟩]) bk
   obtain⟨e2,h2⟩:=p9 (deep+1) id true (cZ (deep+1) id false (out++ [⟨⟨id,kind,labels,name,proc,x,has,args,bk,e⟩,deep,bX,aY⟩]) bk) e
   rw [h2,h1]
   exact⟨_,by rw [List.append_assoc,List.append_assoc]⟩
  ·exact⟨_,rfl⟩
theorem p9 (deep bX:Int) (aY:Bool) (out:List It) : ∀ l:List Sm,∃ e,cZ deep bX aY out l=out++e
 | []=>⟨[],by simp [cZ]⟩
 | s::l=>by
  simp only [cZ]
  split
  ·obtain⟨e1,h1⟩:=JT deep bX aY out s
   obtain⟨e2,h2⟩:=p9 deep bX aY (fR deep bX aY out s) l
   rw [h2,h1]
   exact⟨_,by rw [List.append_assoc]⟩
  ·exact⟨[],by simp⟩
end
mutual
theorem JU (deep bX:Int) (aY:Bool) (out:List It) : ∀ s:Sm,(fR deep bX aY out s).length≤200→(∀ i∈fR deep bX aY out s,i.deep≤12)→(fR deep bX aY out s).map It.s=out.map It.s++s.pre
 | ⟨id,kind,labels,name,proc,x,has,args,bk,e⟩,h1,h2=>by
  simp only [fR,Sm.pre]at h1 h2 ⊢
  by_cases hd:deep≤12
  ·simp only [hd,decide_true,if_true]at h1 h2 ⊢
   obtain⟨e2,g2⟩:=p9 (deep+1) id true (cZ (deep+1) id false (out++ [⟨⟨id,kind,labels,name,proc,x,has,args,bk,e⟩,deep,bX,aY⟩]) bk) e
   have k1:(cZ (deep+1) id false (out++ [⟨⟨id,kind,labels,name,proc,x,has,args,bk,e⟩,deep,bX,aY⟩]) bk).length≤200:=by
    rw [g2,List.length_append]at h1;omega
   have k2 : ∀ i∈cZ (deep+1) id false (out++ [⟨⟨id,kind,labels,name,proc,x,has,args,bk,e⟩,deep,bX,aY⟩]) bk,i.deep≤12:=fun i m=>h2 i (by rw [g2];exact List.mem_append_left _ m)
   rw [sr (deep+1) id true _ e h1 h2,sr (deep+1) id false _ bk k1 k2]
   simp
  ·simp only [hd,decide_false,Bool.false_eq_true,if_false]at h1 h2
   exact absurd (h2 _ (List.mem_append_right _ (List.mem_singleton.2 rfl))) (by simpa using hd)
theorem sr (deep bX:Int) (aY:Bool) (out:List It) : ∀ l:List Sm,(cZ deep bX aY out l).length≤200→(∀ i∈cZ deep bX aY out l,i.deep≤12)→(cZ deep bX aY out l).map It.s=out.map It.s++Sm.fi l
 | [],h1,h2=>by simp [cZ,Sm.fi]
 | s::l,h1,h2=>by
  simp only [cZ,Sm.fi]at h1 h2 ⊢
  by_cases hc:(out.length:Int)≤200
  ·simp only [hc,decide_true,if_true]at h1 h2 ⊢
   obtain⟨e2,g2⟩:=p9 deep bX aY (fR deep bX aY out s) l
   have k1:(fR deep bX aY out s).length≤200:=by rw [g2,List.length_append]at h1;omega
   have k2 : ∀ i∈fR deep bX aY out s,i.deep≤12:=fun i m=>h2 i (by rw [g2];exact List.mem_append_left _ m)
   rw [sr deep bX aY _ l h1 h2,JU deep bX aY out s k1 k2]
   simp
  ·simp only [hc,decide_false,Bool.false_eq_true,if_false]at h1
   omega
end
theorem Dz : ∀ (l:List Pc) (out:List It),(allM out l).length≤200→(∀ i∈allM out l,i.deep≤12)→(∀ f∈l,f.flat.map It.s=Sm.fi f.body)∧(allM out l).map It.s=out.map It.s++(l.map fun f=>Sm.fi f.body).flatten
 | [],out,h1,h2=>⟨fun f m=>(by cases m),by simp [allM]⟩
 | f::l,out,h1,h2=>by
  simp only [allM]at h1 h2 ⊢
  by_cases hc:(((out++f.flat).length:Nat):Int) > 200
  ·simp only [hc,decide_true,if_true]at h1;omega
  ·simp only [hc,decide_false,Bool.false_eq_true,if_false]at h1 h2 ⊢
   obtain⟨k1,k2⟩:=Dz l (out++f.flat) h1 h2
   have Mu : ∀ (l:List Pc) (out:List It),∃ e,allM out l=out++e:=by
    intro l
    induction l with
    | nil=>intro out;exact⟨[],by simp [allM]⟩
    | cons g l ih=>
     intro out
     simp only [allM]
     split
     ·exact⟨_,rfl⟩
     ·obtain⟨e,h⟩:=ih (out++g.flat);exact⟨g.flat++e,by rw [h];simp⟩
   obtain⟨e,he⟩:=Mu l (out++f.flat)
   have k3:f.flat.map It.s=Sm.fi f.body:=by
    have:=sr 1 0 false [] f.body (by
     have:f.flat.length≤200:=by simp only [List.length_append]at hc;omega
     exact this) (fun i m=>h2 i (by rw [he];exact List.mem_append_left _ (List.mem_append_right _ m)))
    simpa [Pc.flat]using this
   refine⟨fun g m=> ?_, ?_⟩
   ·rcases List.mem_cons.1 m with rfl | m
    ·exact k3
    ·exact k1 g m
   ·rw [k2];simp [k3]
theorem A5 : ∀ (l:List It) (n:Nat),It.dK n l=true→(∀ i∈l,i.deep≤12)∧∀ (j:Nat) (i:It),l[j]? = some i→i.s.id=((n+j+1:Nat):Int)
 | [],n,h=>⟨fun i m=>(by cases m),fun j i h=>by simp at h⟩
 | a::l,n,h=>by
  simp only [It.dK]at h
  split at h
  ·cases h
  ·rename_i c
   simp only [Bool.or_eq_true,not_or,bne_iff_ne,ne_eq,Decidable.not_not,decide_eq_true_eq,Int.not_lt,gt_iff_lt]at c
   obtain⟨k1,k2⟩:=A5 l (n+1) h
   refine⟨fun i m=> ?_,fun j i hj=> ?_⟩
   ·rcases List.mem_cons.1 m with rfl | m
    ·exact c.1.2
    ·exact k1 i m
   ·cases j with
    | zero=>simp at hj;subst hj;rw [c.1.1]
    | succ j=>simp at hj;rw [k2 j i hj];congr 1;omega
theorem PB {p:Pg} (h:p.may=true):p.all.length≤200∧It.dK 0 p.all=true:=by
 unfold Pg.may at h
 split at h
 ·cases h
 ·split at h
  ·cases h
  ·split at h
   ·cases h
   ·rename_i c
    exact⟨by simp only [decide_eq_true_eq,Int.not_lt,gt_iff_lt]at c;omega,h⟩
theorem xR {p:Pg} (h:p.may=true):(∀ f∈p.procs,f.flat.map It.s=Sm.fi f.body)∧p.all.map It.s=p.pre:=by
 obtain⟨h1,h2⟩:=PB h
 have:=Dz p.procs [] h1 (A5 _ 0 h2).1
 simpa [Pg.pre,Pg.all]using this
end Go.Abs

/-! Sc4 -/

namespace Go.Abs
set_option maxRecDepth 8000
open Go.Proofs
structure Pg.kK (p:Pg):Prop where
 Mw:p.yQ
 sz:p.size≤900000
mutual
theorem R1 : ∀ s:Sm,s.pH→s.size<1000000→∀ v∈s.pre,v.p7∧v.gI
 | ⟨id,kind,labels,name,proc,x,has,args,bk,aY⟩,h,hs,v,m=>by
  simp only [Sm.pH]at h
  simp only [Sm.size]at hs
  simp only [Sm.pre,List.mem_cons,List.mem_append]at m
  rcases m with rfl | m | m
  ·exact⟨⟨h.1.xt,fun a ha=>(h.1.arg a ha).2.1,by dsimp only;omega⟩,h.1⟩
  ·exact wI bk h.2.1 (by omega) v m
  ·exact wI aY h.2.2 (by omega) v m
theorem wI : ∀ l:List Sm,Sm.gy l→Sm.aP l<1000000→∀ v∈Sm.fi l,v.p7∧v.gI
 | [],h,hs,v,m=>by simp [Sm.fi]at m
 | s::l,h,hs,v,m=>by
  simp only [Sm.gy]at h
  simp only [Sm.aP]at hs
  simp only [Sm.fi,List.mem_append]at m
  rcases m with m | m
  ·exact R1 s h.1 (by omega) v m
  ·exact wI l h.2 (by omega) v m
end
theorem Pg.kK.said {p:Pg} (h:p.kK) {f:Pc} (hf:f∈p.procs) : ∀ v∈Sm.fi f.body,v.p7:=fun v m=>by
 have h1:=Pc.bS hf
 have h2:=h.sz
 simp only [Pg.size]at h2
 simp only [Pc.size]at h1
 exact(wI f.body (h.Mw.body f hf) (by omega) v m).1
theorem Pg.kK.small {p:Pg} (h:p.kK) {f:Pc} (hf:f∈p.procs):f.Small p:=by
 have h1:=Pc.bS hf
 have h2:=h.sz
 simp only [Pg.size]at h2
 simp only [Pc.size]at h1
 exact⟨by omega,by omega,by omega⟩
theorem Pg.kK.procs {p:Pg} (h:p.kK):p.procs.length≤900000∧Pc.aP p.procs≤900000∧p.globals.length≤900000:=by
 have h2:=h.sz
 have h3:=Pc.dc p.procs
 simp only [Pg.size]at h2
 omega
def Pg.pn (p:Pg):List aE:=p.procs.map (·.name)
def qu (p:Pg) (f:Pc) (procs:List aE):List Sm→Option Sm
 | []=>none
 | v::l=>if v.known p f procs then qu p f procs l else some v
def nA (p:Pg) (procs:List aE):List Pc→Int×Int
 | []=>(0,0)
 | f::l=>if er (p.globals++f.own)then(5,0)else match qu p f procs (Sm.fi f.body)with | some v=>(5,v.id) | none=>nA p procs l
def Pg.nB (p:Pg):Bool:=match p.find jz with | none=>true | some m=>decide ((m.params.length:Int) > 0)
def Pg.scope (p:Pg):Int×Int:=
 if p.may then if er p.globals || (er p.pn || p.nB)then(5,0)else nA p p.pn p.procs else(1,0)
theorem Mx (p:Pg) (hl:p.globals.length<1000000) (n:aE):aA Tryz.prog lT ([.str n]++ [.ptr 0 0]) ⟨[bP p],[]⟩ (.bool (dV p.globals n)) ⟨[bP p],[]⟩:=by
 show aA Tryz.prog lT [.str n, .ptr 0 0] _ _ _
 have EG:=iV (l:=p.globals) (by omega) n
 refine aA.go wQ rfl fun B Q hB hQ=> ?_
 have⟨hD,hF,hJ,hP⟩:=bI
 repeat' (first
 | simp only [go_sem,hD,hF,hJ,hP]
 | (with_reducible refine CU (EG _ _) ?_)
 | (with_reducible first | refine aJ fun hc=> ?_ | refine aK fun hc=> ?_ | refine aL (fun hc=> ?_) fun hc=> ?_) <;> (try simp only [hc,bs, ↓reduceIte]at h) <;> try simp only [hc]
 | (with_reducible refine ay hQ ?_;exact bT)
 | (cases h;done))
theorem Vd (n m:Nat) (p:Pg):D.fV n m (jy p)=jy p:=gw n m _ (zY p)
attribute [go_sem] Vd
theorem PC {p:Pg} {f:Pc} {procs:List aE} {v:Sm} (hs:f.Small p) (gQ:procs.length<1000000) (hv:v.p7) (g:Tag) (s:St):aA Tryz.prog nJ [.agg (bP p), .agg (bV f), .slice g 1 (procs.map encStr), .agg (bp v)] s (.bool (v.known p f procs)) s:=
 ef.Cu (.cons (Wk.refl _) (.cons (Wk.refl _) (.cons (Wk.shared g 1 _) (kr.refl _)))) (PA hs gQ hv s)
theorem My {p:Pg} (h:p.kK) (s:St):aA Tryz.prog qk [.agg (bP p)] s (.agg [.int .i64 p.scope.1, .int .i64 p.scope.2]) s:=by
 refine aA.pure ?_ (by simp [D.bN,D.ok,ie]) rfl s
 have hm:=fun s=>RV h.Mw s
 simp only [E1]at hm
 obtain⟨od,mO,oW⟩:=h.procs
 have dI:=fun s=>BX (p:=p) (by omega) s
 have kf:=fun s=>xP (l:=p.globals) (by omega) .shared s
 have hpn:p.pn.length=p.procs.length:=by simp [Pg.pn]
 have q6:=fun g s=>xP (l:=p.pn) (by omega) g s
 have hix:=fun g s=>(EW (l:=p.pn) (by omega) jz s).Dl (Wk.shared g 1 (p.pn.map encStr))
 have xS:=fun g s=>(show aA Tryz.prog gx [.slice g 1 (p.pn.map encStr), .str [109,97,105,110]] s (.int .i64 (lJ jz 0 p.pn)) s from hix g s)
 generalize hR:p.scope=R
 simp only [Pg.scope]at hR
 unfold S0
 rcases Bool.eq_false_or_eq_true p.may with hb | hb
 case inr=>
  simp only [hb]at hm
  simp only [hb,Bool.false_eq_true,if_false]at hR
  subst hR
  refine aA.go sa rfl fun B Q hB hQ=> ?_
  have⟨hD,hF,hJ,hP⟩:=bI
  repeat' (first
 | simp only [go_sem,hD,hF,hJ,hP]
 | (with_reducible refine CU (hm _) ?_)
 | (with_reducible first | refine aJ fun hc=> ?_ | refine aK fun hc=> ?_ | refine aL (fun hc=> ?_) fun hc=> ?_) <;> (try simp only [hc,bs, ↓reduceIte]at h) <;> try simp only [hc]
 | (with_reducible refine ay hQ ?_;exact bT)
 | (cases h;done))
 simp only [hb]at hm
 simp only [hb,if_true]at hR
 refine aA.go sa rfl fun B Q hB hQ=> ?_
 have⟨hD,hF,hJ,hP⟩:=bI
 repeat' (first
 | simp only [go_sem,hD,hF,hJ,hP]
 | (with_reducible refine CU (hm _) ?_)
 | (with_reducible first | refine aJ fun hc=> ?_ | refine aK fun hc=> ?_ | refine aL (fun hc=> ?_) fun hc=> ?_) <;> (try simp only [hc,bs, ↓reduceIte]at h) <;> try simp only [hc]
 | (with_reducible refine ay hQ ?_;exact bT)
 | (cases h;done))
 refine bj.mh 3 1 rfl ?_
 simp only [go_sem,hD,hF,hJ,hP]
 refine cV 2 1 (bj.ind (ι:=List Pc×Nat×List aE×Nat) (fun i=>p.procs.drop i.2.1=i.1∧i.2.2.1++i.1.map (·.name)=p.pn∧i.2.2.2=i.2.2.1.length) (fun i=>i.1.length)
  (fun i=> [(1, .ptr 0 0),(2, .ptr 1 0),(3, .slice (.tok 0) 1 (i.2.2.1.map encStr)),(18, .slice .shared 5 (p.procs.map bV)),(19, .int .i64 (p.procs.length:Int)),(20, .int .i64 (i.2.1:Int))]) (fun i=>⟨[bP p,[.int .i64 0, .int .i64 0]],[some i.2.2.2]⟩) ?_ (p.procs,0,[],0) ⟨rfl,rfl,rfl⟩)
 rintro⟨rest,k,out,n⟩ ⟨h1,h2,h3⟩ IH
 dsimp only at h1 h2 h3
 subst h3
 have V9:out.length+rest.length≤900000:=by
  have:=congrArg List.length h2
  simp only [List.length_append,List.length_map]at this
  omega
 cases rest with
 | cons a rest=>
  obtain⟨hF,g2,hD,g4⟩:=drop_cons h1
  have bm:k<4611686018427387904:=by omega
  have hJ:(out.length+1)*17≤bf:=by unfold bf;omega
  repeat' (first
 | simp only [go_sem,hD,hF,hJ,hP]
 | (with_reducible first | refine aJ fun hc=> ?_ | refine aK fun hc=> ?_ | refine aL (fun hc=> ?_) fun hc=> ?_) <;> (try simp only [hc,bs, ↓reduceIte]at h) <;> try simp only [hc]
 | (with_reducible refine ay hQ ?_;exact bT)
 | (cases h;done))
  refine cd 2 1 ?_ ?_ (IH (rest,k+1,out++ [a.name],out.length+1) ⟨g2,by rw [← h2];simp,by simp⟩ (Nat.lt_succ_self _))
  ·(simp only [go_sem,hD,hF,hJ,hP,au bm,List.map_append,List.map_cons,List.map_nil,encStr];try exact aZ)
  ·(simp only [go_sem,hD,hF,hJ,hP,au bm,List.map_append,List.map_cons,List.map_nil,encStr];try exact aZ)
 | nil=>
  have hD:=drop_nil h1
  simp only [List.map_nil,List.append_nil]at h2
  subst h2
  rcases Bool.eq_false_or_eq_true (er p.globals)with b1 | b1
  ·simp only [b1,Bool.true_or,if_true]at hR
   subst hR
   repeat' (first
 | simp only [go_sem,hD,hF,hJ,hP,b1]
 | (with_reducible refine CU (xS _ _) ?_)
 | (with_reducible refine CU (kf _) ?_)
 | (with_reducible refine CU (q6 _ _) ?_)
 | (with_reducible first | refine aJ fun hc=> ?_ | refine aK fun hc=> ?_ | refine aL (fun hc=> ?_) fun hc=> ?_) <;> (try simp only [hc,bs, ↓reduceIte]at h) <;> try simp only [hc]
 | (with_reducible refine ay hQ ?_;(try cases h);simp only [az,aB,bc,bd,go_sem,hD,hF,hJ,hP,b1];try exact br)
 | (cases h;done))
  rcases Bool.eq_false_or_eq_true (er p.pn)with b2 | b2
  ·simp only [b1,b2,Bool.true_or,Bool.or_true,if_true]at hR
   subst hR
   repeat' (first
 | simp only [go_sem,hD,hF,hJ,hP,b1,b2]
 | (with_reducible refine CU (xS _ _) ?_)
 | (with_reducible refine CU (kf _) ?_)
 | (with_reducible refine CU (q6 _ _) ?_)
 | (with_reducible first | refine aJ fun hc=> ?_ | refine aK fun hc=> ?_ | refine aL (fun hc=> ?_) fun hc=> ?_) <;> (try simp only [hc,bs, ↓reduceIte]at h) <;> try simp only [hc]
 | (with_reducible refine ay hQ ?_;(try cases h);simp only [az,aB,bc,bd,go_sem,hD,hF,hJ,hP,b1,b2];try exact br)
 | (cases h;done))
  rcases Dy jz p.procs 0 with ⟨e1,e2⟩ | ⟨m,j,e1,e2,e3⟩
  ·have b3:p.nB=true:=by unfold Pg.nB Pg.find;rw [e1]
   have hi:lJ jz 0 p.pn = -1:=e2
   simp only [b1,b2,b3,Bool.or_true,if_true]at hR
   subst hR
   simp only [hi]at xS
   have d1:decide ((-1:Int)<0)=true:=by decide
   repeat' (first
 | simp only [go_sem,hD,hF,hJ,hP,b1,b2,d1]
 | (with_reducible refine CU (xS _ _) ?_)
 | (with_reducible refine CU (kf _) ?_)
 | (with_reducible refine CU (q6 _ _) ?_)
 | (with_reducible first | refine aJ fun hc=> ?_ | refine aK fun hc=> ?_ | refine aL (fun hc=> ?_) fun hc=> ?_) <;> (try simp only [hc,bs, ↓reduceIte]at h) <;> try simp only [hc]
 | (with_reducible refine ay hQ ?_;(try cases h);simp only [az,aB,bc,bd,go_sem,hD,hF,hJ,hP,b1,b2,d1];try exact br)
 | (cases h;done))
  have hi:lJ jz 0 p.pn=((j:Nat):Int):=by rw [show p.pn=p.procs.map (·.name)from rfl];simpa using e3
  simp only [hi]at xS
  have d1:decide (((j:Nat):Int)<0)=false:=by simp
  have hj:j<p.procs.length:=(List.getElem?_eq_some_iff.1 e2).1
  have b3:p.nB=decide ((m.params.length:Int) > 0):=by unfold Pg.nB Pg.find;rw [e1]
  rw [b3]at hR
  rcases Bool.eq_false_or_eq_true (decide ((m.params.length:Int) > 0))with b4 | b4
  ·simp only [b1,b2,b4,Bool.or_true,if_true]at hR
   subst hR
   repeat' (first
 | simp only [go_sem,hD,hF,hJ,hP,b1,b2,d1,e2,b4]
 | (with_reducible refine CU (xS _ _) ?_)
 | (with_reducible refine CU (kf _) ?_)
 | (with_reducible refine CU (q6 _ _) ?_)
 | (with_reducible first | refine aJ fun hc=> ?_ | refine aK fun hc=> ?_ | refine aL (fun hc=> ?_) fun hc=> ?_) <;> (try simp only [hc,bs, ↓reduceIte]at h) <;> try simp only [hc]
 | (with_reducible refine ay hQ ?_;(try cases h);simp only [az,aB,bc,bd,go_sem,hD,hF,hJ,hP,b1,b2,d1,e2,b4];try exact br)
 | (cases h;done))
  simp only [b1,b2,b4,Bool.or_false,Bool.false_eq_true,if_false]at hR
  repeat' (first
 | simp only [go_sem,hD,hF,hJ,hP,b1,b2,d1,e2,b4]
 | (with_reducible refine CU (xS _ _) ?_)
 | (with_reducible refine CU (kf _) ?_)
 | (with_reducible refine CU (q6 _ _) ?_)
 | (with_reducible refine CU (dI _) ?_)
 | (with_reducible first | refine aJ fun hc=> ?_ | refine aK fun hc=> ?_ | refine aL (fun hc=> ?_) fun hc=> ?_) <;> (try simp only [hc,bs, ↓reduceIte]at h) <;> try simp only [hc]
 | (with_reducible refine ay hQ ?_;(try cases h);simp only [az,aB,bc,bd,go_sem,hD,hF,hJ,hP,b1,b2,d1,e2,b4];try exact br)
 | (cases h;done))
  refine cV 2 1 (bj.ind (ι:=List Pc×Nat) (fun i=>p.procs.drop i.2=i.1∧nA p p.pn i.1=R) (fun i=>i.1.length)
   (fun i=> [(1, .ptr 0 0),(2, .ptr 1 0),(3, .slice (.tok 0) 1 (p.pn.map encStr)),(7, .dE (jy p) 0),(57, .slice .shared 5 (p.procs.map bV)),(58, .int .i64 (p.procs.length:Int)),(59, .int .i64 (i.2:Int))]) (fun i=>⟨[bP p,[.int .i64 0, .int .i64 0]],[some p.pn.length]⟩) ?_ (p.procs,0) ⟨rfl,hR⟩)
  clear IH h1 hD hR
  rintro⟨rest,k⟩ ⟨h1,hR⟩ IH
  dsimp only at h1 hR
  cases rest with
  | nil=>
   have hD:=drop_nil h1
   simp only [nA]at hR
   subst hR
   repeat' (first
 | simp only [go_sem,hD,hF,hJ,hP]
 | (with_reducible first | refine aJ fun hc=> ?_ | refine aK fun hc=> ?_ | refine aL (fun hc=> ?_) fun hc=> ?_) <;> (try simp only [hc,bs, ↓reduceIte]at h) <;> try simp only [hc]
 | (with_reducible refine ay hQ ?_;exact bT)
 | (cases h;done))
  | cons f rest=>
   obtain⟨hF,g2,hD,g4⟩:=drop_cons h1
   have bm:k<4611686018427387904:=by omega
   have si:=List.mem_of_getElem? hF
   have uP:=h.small si
   have DA:=fun s=>Vc (f:=f) uP.par uP.vars s
   have l7:f.own.length<4611686018427387904:=by have h1:=uP.par;have h2:=uP.vars;unfold Pc.own Pc.mB;simp;omega
   have R3:=fun s=>xP (l:=f.own) l7 .shared s
   have DB:=fun {s:St} {o:Nat} (ho:s.av[o]? = some (bP p))=>tp (l:=f.own) l7 (f:=lT) (row:=bP p) (b:=dV p.globals) (ie p) (by with_unfolding_all rfl) (fun x _=>Mx p uP.z7 x) ho
   have Mz:=fun {s:St} {o:Nat} (ho:s.av[o]? = some (bP p))=>(show aA Tryz.prog eW [.slice .shared 1 (f.own.map encStr), .fA 55 [.ptr o 0]] s (.bool (f.own.any (dV p.globals))) s from DB ho)
   simp only [nA,JS,b1,Bool.false_or]at hR
   rcases Bool.eq_false_or_eq_true (er f.own)with c1 | c1
   ·simp only [c1,Bool.true_or,if_true]at hR
    subst hR
    repeat' (first
 | simp only [go_sem,hD,hF,hJ,hP,c1]
 | (with_reducible refine CU (DA _) ?_)
 | (with_reducible refine CU (R3 _) ?_)
 | (with_reducible refine CU (Mz (by with_unfolding_all rfl)) ?_)
 | (with_reducible first | refine aJ fun hc=> ?_ | refine aK fun hc=> ?_ | refine aL (fun hc=> ?_) fun hc=> ?_) <;> (try simp only [hc,bs, ↓reduceIte]at h) <;> try simp only [hc]
 | (with_reducible refine ay hQ ?_;(try cases h);simp only [az,aB,bc,bd,go_sem,hD,hF,hJ,hP,c1];try exact br)
 | (cases h;done))
   rcases Bool.eq_false_or_eq_true (f.own.any (dV p.globals))with c2 | c2
   ·simp only [c1,c2,Bool.false_or,if_true]at hR
    subst hR
    repeat' (first
 | simp only [go_sem,hD,hF,hJ,hP,c1,c2]
 | (with_reducible refine CU (DA _) ?_)
 | (with_reducible refine CU (R3 _) ?_)
 | (with_reducible refine CU (Mz (by with_unfolding_all rfl)) ?_)
 | (with_reducible first | refine aJ fun hc=> ?_ | refine aK fun hc=> ?_ | refine aL (fun hc=> ?_) fun hc=> ?_) <;> (try simp only [hc,bs, ↓reduceIte]at h) <;> try simp only [hc]
 | (with_reducible refine ay hQ ?_;(try cases h);simp only [az,aB,bc,bd,go_sem,hD,hF,hJ,hP,c1,c2];try exact br)
 | (cases h;done))
   simp only [c1,c2,Bool.or_self,Bool.false_eq_true,if_false]at hR
   obtain⟨it,mz,JV⟩:=L7 hF (by omega)
   rw [← mz]at hR
   have Af:it.length≤900000:=by
    have e:=congrArg List.length mz
    have e2:=(sg p).2 k f hF
    obtain⟨a,b,e',_,_,e3,e4⟩:=e2
    have e5:=sh p
    have e6:=congrArg List.length e3
    rw [e4]at e5
    simp only [List.length_map,List.length_append]at e e5 e6
    omega
   repeat' (first
 | simp only [go_sem,hD,hF,hJ,hP,c1,c2]
 | (with_reducible refine CU (DA _) ?_)
 | (with_reducible refine CU (R3 _) ?_)
 | (with_reducible refine CU (Mz (by with_unfolding_all rfl)) ?_)
 | (with_reducible refine CU (JV _) ?_)
 | (with_reducible first | refine aJ fun hc=> ?_ | refine aK fun hc=> ?_ | refine aL (fun hc=> ?_) fun hc=> ?_) <;> (try simp only [hc,bs, ↓reduceIte]at h) <;> try simp only [hc]
 | (with_reducible refine ay hQ ?_;(try cases h);simp only [az,aB,bc,bd,go_sem,hD,hF,hJ,hP,c1,c2];try exact br)
 | (cases h;done))
   obtain⟨q,hq⟩ : ∃ q,qu p f p.pn (it.map Im.s)=q:=⟨_,rfl⟩
   rw [hq]at hR
   refine cV 3 1 (bj.ind (ι:=List Im×Nat) (fun i=>it.drop i.2=i.1∧qu p f p.pn (i.1.map Im.s)=q) (fun i=>i.1.length)
    (fun i=> [(1, .ptr 0 0),(2, .ptr 1 0),(3, .slice (.tok 0) 1 (p.pn.map encStr)),(7, .dE (jy p) 0),(9, .ptr 2 0),(57, .slice .shared 5 (p.procs.map bV)),(58, .int .i64 (p.procs.length:Int)),(59, .int .i64 (k:Int)),(76, .slice .shared 17 (it.map fc)),(77, .int .i64 (it.length:Int)),(78, .int .i64 (i.2:Int))]) (fun i=>⟨[bP p,[.int .i64 0, .int .i64 0],bV f],[some p.pn.length]⟩) ?_ (it,0) ⟨rfl,hq⟩)
   rintro⟨nK,n⟩ ⟨j1,j2⟩ lW
   dsimp only at j1 j2
   have s9:=hD
   cases nK with
   | nil=>
    have DC:=drop_nil j1
    simp only [List.map_nil,qu]at j2
    subst j2
    simp only at hR
    repeat' (first
 | simp only [go_sem,hD,hF,hJ,hP,DC]
 | (with_reducible first | refine aJ fun hc=> ?_ | refine aK fun hc=> ?_ | refine aL (fun hc=> ?_) fun hc=> ?_) <;> (try simp only [hc,bs, ↓reduceIte]at h) <;> try simp only [hc]
 | (with_reducible refine ay hQ ?_;(try cases h);simp only [az,aB,bc,bd,go_sem,hD,hF,hJ,hP,DC];try exact br)
 | (cases h;done))
    refine cd 2 1 ?_ ?_ (IH (rest,k+1) ⟨g2,hR⟩ (Nat.lt_succ_self _))
    ·(simp only [go_sem,hD,hF,hJ,hP,au bm];try exact aZ)
    ·(simp only [go_sem,hD,hF,hJ,hP,au bm];try exact aZ)
   | cons i nK=>
    obtain⟨dN,kg,fK,yW⟩:=drop_cons j1
    have fB:n<4611686018427387904:=by omega
    have R5:i.s∈Sm.fi f.body:=by rw [← mz];exact List.mem_map_of_mem (List.mem_of_getElem? dN)
    have Og:=PC (v:=i.s) uP (procs:=p.pn) (by omega) (h.said si _ R5)
    simp only [List.map_cons,qu]at j2
    rcases Bool.eq_false_or_eq_true (i.s.known p f p.pn)with c3 | c3
    ·simp only [c3,if_true]at j2
     repeat' (first
 | simp only [go_sem,hD,hF,hJ,hP,fK,dN,c3]
 | (with_reducible refine CU (Og _ _) ?_)
 | (with_reducible first | refine aJ fun hc=> ?_ | refine aK fun hc=> ?_ | refine aL (fun hc=> ?_) fun hc=> ?_) <;> (try simp only [hc,bs, ↓reduceIte]at h) <;> try simp only [hc]
 | (with_reducible refine ay hQ ?_;(try cases h);simp only [az,aB,bc,bd,go_sem,hD,hF,hJ,hP,fK,dN,c3];try exact br)
 | (cases h;done))
     refine cd 3 1 ?_ ?_ (lW (nK,n+1) ⟨kg,j2⟩ (Nat.lt_succ_self _))
     ·(simp only [go_sem,hD,hF,hJ,hP,au fB];try exact aZ)
     ·(simp only [go_sem,hD,hF,hJ,hP,au fB];try exact aZ)
    ·simp only [c3,Bool.false_eq_true,if_false]at j2
     subst j2
     simp only at hR
     subst hR
     repeat' (first
 | simp only [go_sem,hD,hF,hJ,hP,fK,dN,c3]
 | (with_reducible refine CU (Og _ _) ?_)
 | (with_reducible first | refine aJ fun hc=> ?_ | refine aK fun hc=> ?_ | refine aL (fun hc=> ?_) fun hc=> ?_) <;> (try simp only [hc,bs, ↓reduceIte]at h) <;> try simp only [hc]
 | (with_reducible refine ay hQ ?_;(try cases h);simp only [az,aB,bc,bd,go_sem,hD,hF,hJ,hP,fK,dN,c3];try exact br)
 | (cases h;done))
end Go.Abs

/-! Rng -/

namespace Go.Abs
mutual
def Ex.oJ:Ex→Prop
 | ⟨_,n,_,kids⟩=>n≤9223372036854775807∧Ex.sQ kids
def Ex.sQ:List Ex→Prop
 | []=>True
 | x::l=>x.oJ∧Ex.sQ l
end
end Go.Abs

/-! FineM -/

namespace Go.Abs
mutual
def Sm.oJ:Sm→Prop
 | ⟨_,_,_,_,_,x,_,args,bk,aY⟩=>x.oJ∧(∀ a∈args,a.x.oJ)∧Sm.sQ bk∧Sm.sQ aY
def Sm.sQ:List Sm→Prop
 | []=>True
 | s::l=>s.oJ∧Sm.sQ l
end
def Pg.oJ (p:Pg):Prop:=∀ f∈p.procs,Sm.sQ f.body
theorem A6 {f:Pc} : ∀ {l:List Pc} {n:Nat},Pc.dZ n l=true→f∈l→(isName f.name=true∧dg f.vars=true∧dg f.fin=true∧Pm.dK f.params=true)∧∃ n,(Sm.fj 1 n f.body).1=true
 | g::l,n,h,m=>by
  simp only [Pc.dZ]at h
  split at h
  ·cases h
  rename_i c1
  split at h
  ·cases h
  rename_i c2
  split at h
  ·cases h
  rename_i c3
  simp only [Bool.or_eq_true,Bool.not_eq_true',not_or,Bool.not_eq_false]at c1 c2 c3
  rcases List.mem_cons.1 m with rfl | m
  ·exact⟨⟨c1.1.1.2,c1.1.2,c1.2,c2⟩,n,c3⟩
  ·exact A6 h m
mutual
theorem HA : ∀ (s:Sm) (nest:Int) (n:Nat),(Sm.ng nest n s).1=true→s.size<4611686018427387000→s.pH
 | ⟨id,kind,labels,name,proc,x,has,args,bk,aY⟩,nest,n,hm,hs=>by
  obtain⟨_,_,h1,h2,h3,_⟩:=A2 hm
  rw [xM]
  rw [(p8 h2).2]at h2
  rw [(p8 h3).2]at h3
  refine⟨Dt h1 hs,qO bk _ _ h2 ?_,qO aY _ _ h3 ?_⟩ <;> simp only [Sm.size]at hs <;> omega
theorem qO : ∀ (l:List Sm) (nest:Int) (n:Nat),(Sm.dZ nest n l).1=true→Sm.aP l<4611686018427387000→Sm.gy l
 | [],_,_,_,_=>by simp only [Sm.gy]
 | s::l,nest,n,hm,hs=>by
  simp only [Sm.dZ]at hm
  simp only [Sm.aP]at hs
  split at hm
  ·cases hm
  rename_i hc
  simp only [Bool.not_eq_true',Bool.not_eq_false]at hc
  exact⟨HA s nest n hc (by omega),qO l nest _ hm (by omega)⟩
end
theorem JW {p:Pg} (h:p.may=true) (hs:p.size<4611686018427387000):p.yQ:=by
 have hf:=Mk h hs
 rw [← E1]at h
 unfold Pg.Ab at h
 split at h
 ·cases h
 refine⟨hf.sz,hf.z7,hf.jQ,fun f m=> ?_⟩
 obtain⟨_,n,e⟩:=A6 h m
 rw [(p8 e).2]at e
 have:=Pc.bS m
 simp only [Pg.size]at hs
 exact qO f.body 1 n e (by unfold Pc.size at this;omega)
mutual
theorem HC {deep bX:Int} {aY:Bool} {out:List It} {i:It} : ∀ s:Sm,s.pH→i∈fR deep bX aY out s→i∈out∨i.s.gI
 | ⟨id,kind,labels,name,proc,x,has,args,bk,e⟩,hf,h=>by
  simp only [fR]at h
  simp only [Sm.pH]at hf
  have key:i∈out++ [(⟨⟨id,kind,labels,name,proc,x,has,args,bk,e⟩,deep,bX,aY⟩:It)]→i∈out∨i.s.gI:=by
   intro h
   rcases List.mem_append.1 h with h | h
   ·exact .inl h
   ·simp at h;subst h;exact .inr hf.1
  split at h
  ·rcases qP e hf.2.2 h with h | h
   ·rcases qP bk hf.2.1 h with h | h
    ·exact key h
    ·exact .inr h
   ·exact .inr h
  ·exact key h
theorem qP {deep bX:Int} {aY:Bool} {out:List It} {i:It} : ∀ l:List Sm,Sm.gy l→i∈cZ deep bX aY out l→i∈out∨i.s.gI
 | [],_,h=>by simp only [cZ]at h;exact .inl h
 | s::l,hf,h=>by
  simp only [cZ]at h
  simp only [Sm.gy]at hf
  split at h
  ·rcases qP l hf.2 h with h | h
   ·exact HC s hf.1 h
   ·exact .inr h
  ·exact .inl h
end
theorem A7 {i:It} : ∀ (l:List Pc) (out:List It),(∀ f∈l,Sm.gy f.body)→i∈allM out l→i∈out∨i.s.gI
 | [],out,_,h=>by simp only [allM]at h;exact .inl h
 | f::l,out,hf,h=>by
  have key:i∈out++f.flat→i∈out∨i.s.gI:=by
   intro h
   rcases List.mem_append.1 h with h | h
   ·exact .inl h
   ·rcases qP _ (hf f (List.mem_cons_self ..)) h with h | h
    ·simp at h
    ·exact .inr h
  simp only [allM]at h
  split at h
  ·exact key h
  ·rcases A7 l _ (fun g m=>hf g (List.mem_cons_of_mem _ m)) h with h | h
   ·exact key h
   ·exact .inr h
theorem HD {p:Pg} (h:p.yQ):p.gI:=⟨h.sz,h.z7,h.jQ,fun i hi=>(A7 p.procs [] h.body hi).resolve_left (by simp)⟩
end Go.Abs

/-! Sc5 -/

namespace Go.Abs
set_option maxRecDepth 8000
open Go.Proofs
theorem MA (x:It):(ew x)[1]? = some (.int .i64 x.s.kind):=nd rfl
theorem MB (x:It):(ew x)[3]? = some (.str x.s.name):=nd rfl
theorem MC (x:It):(ew x)[4]? = some (.str x.s.proc):=nd rfl
theorem PD (x:It):List.take 16 (ew x)=ew x:=nd rfl
attribute [go_sem] MA MB MC PD
theorem Ag {a:List aE} (h:a≠ []) (hl:a.length≤1000000000) {z:Nat} {g:Tag} (o:List (List D)) (T:List (Option Nat)) :
 gl 1 16 (.slice .full z []) (.slice g 1 (a.map encStr)) ⟨o,T⟩=some (.slice (.tok T.length) 1 (a.map encStr),⟨o,T++ [some a.length]⟩):=by
 have:a.length*17≤bf:=by unfold bf;omega
 cases a with
 | nil=>exact absurd rfl h
 | cons x r=>simp only [List.length_cons]at this;simp [gl,this]
theorem qS {z:Nat} {g:Tag} (o:List (List D)) (T:List (Option Nat)) :
 gl 1 16 (.slice .full z []) (.slice g 1 []) ⟨o,T⟩=some (.slice .full z [],⟨o,T⟩):=by simp [gl,bf]
theorem wc {l nx:List aE} (h:l.length+nx.length≤1000000000) {g:Tag} {n0:Option Nat} (o:List (List D)) :
 gl 1 16 (.slice (.tok 1) 1 (l.map encStr)) (.slice g 1 (nx.map encStr)) ⟨o,[n0,some l.length]⟩=some (.slice (.tok 1) 1 ((l++nx).map encStr),⟨o,[n0,some (l++nx).length]⟩):=by
 have:=xA (size:=1) (bytes:=16) (t:=1) (rows:=l.map encStr) (new:=nx.map encStr) (g:=g) (s:=⟨o,[n0,some l.length]⟩) (by simp only [List.length_map];unfold bf;omega) (by simp)
 rw [this]
 simp
theorem pJ {p:Pg} (h:p.kK):p.gI:=HD h.Mw
theorem xT {p:Pg} (h:p.kK) (s:St):aA Tryz.prog ml [.agg (bP p)] s (.agg [.int .i64 p.scope.1, .int .i64 p.scope.2]) s:=by
 refine aA.pure ?_ (by simp [D.bN,D.ok,ie]) rfl s
 have hm:=fun s=>Oc (pJ h) s
 obtain⟨od,mO,oW⟩:=h.procs
 have kf:=fun s=>xQ (l:=p.globals) (by omega) .shared s
 have hpn:p.pn.length=p.procs.length:=by simp [Pg.pn]
 have q6:=fun g s=>xQ (l:=p.pn) (by omega) g s
 have xc:=fun s=>Ad (p:=p) (by omega) jz s
 have uj:=fun s=>(show aA Tryz.prog kB [.agg (bP p), .str [109,97,105,110]] s (dz (p.find jz)) s from xc s)
 clear xc
 generalize hR:p.scope=R
 simp only [Pg.scope]at hR
 unfold S0
 rcases Bool.eq_false_or_eq_true p.may with hb | hb
 case inr=>
  simp only [hb]at hm
  simp only [hb,Bool.false_eq_true,if_false]at hR
  subst hR
  refine aA.go td rfl fun B Q hB hQ=> ?_
  have⟨hD,hF,hJ,hP⟩:=bI
  repeat' (first
 | simp only [go_sem,hD,hF,hJ,hP]
 | (with_reducible refine CU (hm _) ?_)
 | (with_reducible refine CU (iG _ _ _) ?_)
 | (with_reducible first | refine aJ fun hc=> ?_ | refine aK fun hc=> ?_ | refine aL (fun hc=> ?_) fun hc=> ?_) <;> (try simp only [hc,bs, ↓reduceIte]at h) <;> try simp only [hc]
 | (with_reducible refine ay hQ ?_;exact bT)
 | (cases h;done))
 have Ve:=(xR hb).1
 simp only [hb]at hm
 simp only [hb,if_true]at hR
 refine aA.go td rfl fun B Q hB hQ=> ?_
 have⟨hD,hF,hJ,hP⟩:=bI
 repeat' (first
 | simp only [go_sem,hD,hF,hJ,hP]
 | (with_reducible refine CU (hm _) ?_)
 | (with_reducible first | refine aJ fun hc=> ?_ | refine aK fun hc=> ?_ | refine aL (fun hc=> ?_) fun hc=> ?_) <;> (try simp only [hc,bs, ↓reduceIte]at h) <;> try simp only [hc]
 | (with_reducible refine ay hQ ?_;exact bT)
 | (cases h;done))
 refine bj.mh 3 1 rfl ?_
 simp only [go_sem,hD,hF,hJ,hP]
 refine cV 2 1 (bj.ind (ι:=List Pc×Nat×List aE×Nat) (fun i=>p.procs.drop i.2.1=i.1∧i.2.2.1++i.1.map (·.name)=p.pn∧i.2.2.2=i.2.2.1.length) (fun i=>i.1.length)
  (fun i=> [(1, .ptr 0 0),(2, .ptr 1 0),(3, .slice (.tok 0) 1 (i.2.2.1.map encStr)),(19, .slice .shared 5 (p.procs.map bV)),(20, .int .i64 (p.procs.length:Int)),(21, .int .i64 (i.2.1:Int))]) (fun i=>⟨[bP p,[.int .i64 0, .int .i64 0]],[some i.2.2.2]⟩) ?_ (p.procs,0,[],0) ⟨rfl,rfl,rfl⟩)
 rintro⟨rest,k,out,n⟩ ⟨h1,h2,h3⟩ IH
 dsimp only at h1 h2 h3
 subst h3
 have V9:out.length+rest.length≤900000:=by
  have:=congrArg List.length h2
  simp only [List.length_append,List.length_map]at this
  omega
 cases rest with
 | cons a rest=>
  obtain⟨hF,g2,hD,g4⟩:=drop_cons h1
  have bm:k<4611686018427387904:=by omega
  have hJ:(out.length+1)*17≤bf:=by unfold bf;omega
  repeat' (first
 | simp only [go_sem,hD,hF,hJ,hP]
 | (with_reducible first | refine aJ fun hc=> ?_ | refine aK fun hc=> ?_ | refine aL (fun hc=> ?_) fun hc=> ?_) <;> (try simp only [hc,bs, ↓reduceIte]at h) <;> try simp only [hc]
 | (with_reducible refine ay hQ ?_;exact bT)
 | (cases h;done))
  refine cd 2 1 ?_ ?_ (IH (rest,k+1,out++ [a.name],out.length+1) ⟨g2,by rw [← h2];simp,by simp⟩ (Nat.lt_succ_self _))
  ·(simp only [go_sem,hD,hF,hJ,hP,au bm,List.map_append,List.map_cons,List.map_nil,encStr];try exact aZ)
  ·(simp only [go_sem,hD,hF,hJ,hP,au bm,List.map_append,List.map_cons,List.map_nil,encStr];try exact aZ)
 | nil=>
  have hD:=drop_nil h1
  simp only [List.map_nil,List.append_nil]at h2
  subst h2
  rcases Bool.eq_false_or_eq_true (er p.globals)with b1 | b1
  ·simp only [b1,Bool.true_or,if_true]at hR
   subst hR
   cases wX:p.find jz <;> simp only [wX,dz,Option.getD_none,Option.getD_some,Option.isSome_none,Option.isSome_some]at uj
   all_goals
    repeat' (first
 | simp only [go_sem,hD,hF,hJ,hP,b1]
 | (with_reducible refine CU (uj _) ?_)
 | (with_reducible refine CU (kf _) ?_)
 | (with_reducible refine CU (q6 _ _) ?_)
 | (with_reducible refine CU (iG _ _ _) ?_)
 | (with_reducible first | refine aJ fun hc=> ?_ | refine aK fun hc=> ?_ | refine aL (fun hc=> ?_) fun hc=> ?_) <;> (try simp only [hc,bs, ↓reduceIte]at h) <;> try simp only [hc]
 | (with_reducible refine ay hQ ?_;(try cases h);simp only [az,aB,bc,bd,go_sem,hD,hF,hJ,hP,b1];try exact br)
 | (cases h;done))
  rcases Bool.eq_false_or_eq_true (er p.pn)with b2 | b2
  ·simp only [b1,b2,Bool.true_or,Bool.or_true,if_true]at hR
   subst hR
   cases wX:p.find jz <;> simp only [wX,dz,Option.getD_none,Option.getD_some,Option.isSome_none,Option.isSome_some]at uj
   all_goals
    repeat' (first
 | simp only [go_sem,hD,hF,hJ,hP,b1,b2]
 | (with_reducible refine CU (uj _) ?_)
 | (with_reducible refine CU (kf _) ?_)
 | (with_reducible refine CU (q6 _ _) ?_)
 | (with_reducible refine CU (iG _ _ _) ?_)
 | (with_reducible first | refine aJ fun hc=> ?_ | refine aK fun hc=> ?_ | refine aL (fun hc=> ?_) fun hc=> ?_) <;> (try simp only [hc,bs, ↓reduceIte]at h) <;> try simp only [hc]
 | (with_reducible refine ay hQ ?_;(try cases h);simp only [az,aB,bc,bd,go_sem,hD,hF,hJ,hP,b1,b2];try exact br)
 | (cases h;done))
  cases wX:p.find jz with
  | none=>
   simp only [wX,dz,Option.getD_none,Option.isSome_none]at uj
   have b3:p.nB=true:=by unfold Pg.nB;rw [wX]
   simp only [b1,b2,b3,Bool.or_true,if_true]at hR
   subst hR
   repeat' (first
 | simp only [go_sem,hD,hF,hJ,hP,b1,b2]
 | (with_reducible refine CU (uj _) ?_)
 | (with_reducible refine CU (kf _) ?_)
 | (with_reducible refine CU (q6 _ _) ?_)
 | (with_reducible refine CU (iG _ _ _) ?_)
 | (with_reducible first | refine aJ fun hc=> ?_ | refine aK fun hc=> ?_ | refine aL (fun hc=> ?_) fun hc=> ?_) <;> (try simp only [hc,bs, ↓reduceIte]at h) <;> try simp only [hc]
 | (with_reducible refine ay hQ ?_;(try cases h);simp only [az,aB,bc,bd,go_sem,hD,hF,hJ,hP,b1,b2];try exact br)
 | (cases h;done))
  | some m=>
  simp only [wX,dz,Option.getD_some,Option.isSome_some]at uj
  have b3:p.nB=decide ((m.params.length:Int) > 0):=by unfold Pg.nB;rw [wX]
  rw [b3]at hR
  rcases Bool.eq_false_or_eq_true (decide ((m.params.length:Int) > 0))with b4 | b4
  ·simp only [b1,b2,b4,Bool.or_true,if_true]at hR
   subst hR
   repeat' (first
 | simp only [go_sem,hD,hF,hJ,hP,b1,b2,b4]
 | (with_reducible refine CU (uj _) ?_)
 | (with_reducible refine CU (kf _) ?_)
 | (with_reducible refine CU (q6 _ _) ?_)
 | (with_reducible refine CU (iG _ _ _) ?_)
 | (with_reducible first | refine aJ fun hc=> ?_ | refine aK fun hc=> ?_ | refine aL (fun hc=> ?_) fun hc=> ?_) <;> (try simp only [hc,bs, ↓reduceIte]at h) <;> try simp only [hc]
 | (with_reducible refine ay hQ ?_;(try cases h);simp only [az,aB,bc,bd,go_sem,hD,hF,hJ,hP,b1,b2,b4];try exact br)
 | (cases h;done))
  simp only [b1,b2,b4,Bool.or_false,Bool.false_eq_true,if_false]at hR
  repeat' (first
 | simp only [go_sem,hD,hF,hJ,hP,b1,b2,b4]
 | (with_reducible refine CU (uj _) ?_)
 | (with_reducible refine CU (kf _) ?_)
 | (with_reducible refine CU (q6 _ _) ?_)
 | (with_reducible refine CU (iG _ _ _) ?_)
 | (with_reducible first | refine aJ fun hc=> ?_ | refine aK fun hc=> ?_ | refine aL (fun hc=> ?_) fun hc=> ?_) <;> (try simp only [hc,bs, ↓reduceIte]at h) <;> try simp only [hc]
 | (with_reducible refine ay hQ ?_;(try cases h);simp only [az,aB,bc,bd,go_sem,hD,hF,hJ,hP,b1,b2,b4];try exact br)
 | (cases h;done))
  refine cV 2 1 (bj.ind (ι:=List Pc×Nat) (fun i=>p.procs.drop i.2=i.1∧nA p p.pn i.1=R) (fun i=>i.1.length)
   (fun i=> [(1, .ptr 0 0),(2, .ptr 1 0),(3, .slice (.tok 0) 1 (p.pn.map encStr)),(55, .slice .shared 5 (p.procs.map bV)),(56, .int .i64 (p.procs.length:Int)),(57, .int .i64 (i.2:Int))]) (fun i=>⟨[bP p,[.int .i64 0, .int .i64 0]],[some p.pn.length]⟩) ?_ (p.procs,0) ⟨rfl,hR⟩)
  clear IH h1 hD hR
  rintro⟨rest,k⟩ ⟨h1,hR⟩ IH
  dsimp only at h1 hR
  cases rest with
  | nil=>
   have hD:=drop_nil h1
   simp only [nA]at hR
   subst hR
   repeat' (first
 | simp only [go_sem,hD,hF,hJ,hP]
 | (with_reducible first | refine aJ fun hc=> ?_ | refine aK fun hc=> ?_ | refine aL (fun hc=> ?_) fun hc=> ?_) <;> (try simp only [hc,bs, ↓reduceIte]at h) <;> try simp only [hc]
 | (with_reducible refine ay hQ ?_;exact bT)
 | (cases h;done))
  | cons f rest=>
   obtain⟨hF,g2,hD,g4⟩:=drop_cons h1
   have bm:k<4611686018427387904:=by omega
   have si:=List.mem_of_getElem? hF
   have uP:=h.small si
   have Wa:=fun s=>Mv (f:=f) uP.par s
   have ahu:f.mB.length<1000000:=by have h1:=uP.par;unfold Pc.mB;simpa using h1
   have hvl:=uP.vars
   have hxl:(p.globals++f.own).length<4611686018427387904:=by unfold Pc.own;simp;omega
   have HE:=fun g s=>xQ (l:=p.globals++f.own) hxl g s
   have q4:Sm.aP f.body<4611686018427387000:=by have:=Pc.bS si;simp only [Pc.size]at this;omega
   have kd:=fun s=>yO (f:=f) q4 s
   have mz:=Ve f si
   have Af:f.flat.length≤201:=f.rz
   simp only [nA]at hR
   rw [← mz]at hR
   obtain⟨q,hq⟩ : ∃ q,qu p f p.pn (f.flat.map It.s)=q:=⟨_,rfl⟩
   rw [hq]at hR
   have hc4 : ∃ (dA dB dC:D) (T1 T2 T3:List (Option Nat)),(∀ s,aA Tryz.prog kC [dC] s (.bool (er (p.globals++f.own))) s)∧
    (∀ o,gl 1 16 (.slice .full 1 []) (.slice .shared 1 (p.globals.map encStr)) ⟨o,[some p.pn.length]⟩=some (dA,⟨o,some p.pn.length::T1⟩))∧
    (∀ o,gl 1 16 dA (.slice .shared 1 (f.mB.map encStr)) ⟨o,some p.pn.length::T1⟩=some (dB,⟨o,some p.pn.length::T2⟩))∧
    (∀ o,gl 1 16 dB (.slice .shared 1 (f.vars.map encStr)) ⟨o,some p.pn.length::T2⟩=some (dC,⟨o,some p.pn.length::T3⟩)):=by
    have we:f.own=f.mB++f.vars:=rfl
    by_cases z1:p.globals = []
    ·rw [z1]
     by_cases z2:f.mB = []
     ·rw [z2]
      by_cases z3:f.vars = []
      ·rw [z3]
       refine⟨.slice .full 1 [], .slice .full 1 [], .slice .full 1 [],[],[],[],fun s=> ?_,fun o=>qS o _,fun o=>qS o _,fun o=>qS o _⟩
       have:=HE .full s
       rw [we,z1,z2,z3]at this
       rw [we,z2,z3]
       exact this
      ·refine⟨.slice .full 1 [], .slice .full 1 [],_,[],[],_,fun s=> ?_,fun o=>qS o _,fun o=>qS o _,fun o=>Ag z3 (by omega) o _⟩
       have:=HE (.tok 1) s
       rw [we,z1,z2]at this
       rw [we,z2]
       exact this
     ·refine⟨.slice .full 1 [],_,_,[],_,_,fun s=> ?_,fun o=>qS o _,fun o=>Ag z2 (by omega) o _,fun o=>wc (by omega) o⟩
      have:=HE (.tok 1) s
      rw [we,z1]at this
      rw [we]
      exact this
    ·refine⟨_,_,_,_,_,_,fun s=> ?_,fun o=>Ag z1 (by omega) o _,fun o=>wc (by omega) o,fun o=>wc (by simp;omega) o⟩
     have:=HE (.tok 1) s
     rw [we, ← List.append_assoc]at this
     rw [we, ← List.append_assoc]
     exact this
   obtain⟨dA,dB,dC,T1,T2,T3,Oh,eA,eB,eC⟩:=hc4
   rcases Bool.eq_false_or_eq_true (er (p.globals++f.own))with c1 | c1
   ·simp only [c1,if_true]at Oh hR
    subst hR
    repeat' (first
 | simp only [go_sem,hD,hF,hJ,hP,eA,eB,eC]
 | (with_reducible refine CU (Wa _) ?_)
 | (with_reducible refine CU (Oh _) ?_)
 | (with_reducible refine CU (iG _ _ _) ?_)
 | (with_reducible refine CU (kd _) ?_)
 | (with_reducible first | refine aJ fun hc=> ?_ | refine aK fun hc=> ?_ | refine aL (fun hc=> ?_) fun hc=> ?_) <;> (try simp only [hc,bs, ↓reduceIte]at h) <;> try simp only [hc]
 | (with_reducible refine ay hQ ?_;(try cases h);simp only [az,aB,bc,bd,go_sem,hD,hF,hJ,hP,eA,eB,eC];try exact br)
 | (cases h;done))
   simp only [c1,Bool.false_eq_true,if_false]at Oh hR
   repeat' (first
 | simp only [go_sem,hD,hF,hJ,hP,eA,eB,eC]
 | (with_reducible refine CU (Wa _) ?_)
 | (with_reducible refine CU (Oh _) ?_)
 | (with_reducible refine CU (iG _ _ _) ?_)
 | (with_reducible refine CU (kd _) ?_)
 | (with_reducible first | refine aJ fun hc=> ?_ | refine aK fun hc=> ?_ | refine aL (fun hc=> ?_) fun hc=> ?_) <;> (try simp only [hc,bs, ↓reduceIte]at h) <;> try simp only [hc]
 | (with_reducible refine ay hQ ?_;(try cases h);simp only [az,aB,bc,bd,go_sem,hD,hF,hJ,hP,eA,eB,eC];try exact br)
 | (cases h;done))
   refine cV 3 1 (bj.ind (ι:=List It×Nat) (fun i=>f.flat.drop i.2=i.1∧qu p f p.pn (i.1.map It.s)=q) (fun i=>i.1.length)
    (fun i=> [(1, .ptr 0 0),(2, .ptr 1 0),(3, .slice (.tok 0) 1 (p.pn.map encStr)),(9, .ptr 2 0),(55, .slice .shared 5 (p.procs.map bV)),(56, .int .i64 (p.procs.length:Int)),(57, .int .i64 (k:Int)),(74, .slice .shared 16 (f.flat.map ew)),(75, .int .i64 (f.flat.length:Int)),(76, .int .i64 (i.2:Int))]) (fun i=>⟨[bP p,[.int .i64 0, .int .i64 0],bV f],[some p.pn.length]⟩) ?_ (f.flat,0) ⟨rfl,hq⟩)
   rintro⟨nK,n⟩ ⟨j1,j2⟩ lW
   dsimp only at j1 j2
   cases nK with
   | nil=>
    have DC:=drop_nil j1
    simp only [List.map_nil,qu]at j2
    subst j2
    simp only at hR
    repeat' (first
 | simp only [go_sem,hD,hF,hJ,hP,DC]
 | (with_reducible first | refine aJ fun hc=> ?_ | refine aK fun hc=> ?_ | refine aL (fun hc=> ?_) fun hc=> ?_) <;> (try simp only [hc,bs, ↓reduceIte]at h) <;> try simp only [hc]
 | (with_reducible refine ay hQ ?_;(try cases h);simp only [az,aB,bc,bd,go_sem,hD,hF,hJ,hP,DC];try exact br)
 | (cases h;done))
    refine cd 2 1 ?_ ?_ (IH (rest,k+1) ⟨g2,hR⟩ (Nat.lt_succ_self _))
    ·(simp only [go_sem,hD,hF,hJ,hP,au bm];try exact aZ)
    ·(simp only [go_sem,hD,hF,hJ,hP,au bm];try exact aZ)
   | cons i nK=>
    obtain⟨dN,kg,fK,yW⟩:=drop_cons j1
    have fB:n<4611686018427387904:=by omega
    have R5:i.s∈Sm.fi f.body:=by rw [← mz];exact List.mem_map_of_mem (List.mem_of_getElem? dN)
    have wZ:=h.said si _ R5
    have EZ:=fun s=>xf wZ s
    have wg:=ui _ wZ
    have Wb:=fun nm s=>Eu (p:=p) (f:=f) (by have:=uP.par;omega) (by have:=uP.vars;omega) (by omega) nm s
    have kh:=xO (l:=p.pn) (by omega) i.s.proc
    simp only [List.map_cons,qu]at j2
    repeat' (first
 | simp only [go_sem,hD,hF,hJ,hP,fK,dN]
 | (with_reducible refine CU (EZ _) ?_)
 | (with_reducible first | refine aJ fun hc=> ?_ | refine aK fun hc=> ?_ | refine aL (fun hc=> ?_) fun hc=> ?_) <;> (try simp only [hc,bs, ↓reduceIte]at h) <;> try simp only [hc]
 | (with_reducible refine ay hQ ?_;(try cases h);simp only [az,aB,bc,bd,go_sem,hD,hF,hJ,hP,fK,dN];try exact br)
 | (cases h;done))
    obtain⟨q2,Iq⟩ : ∃ q2,pI p f i.s.said=q2:=⟨_,rfl⟩
    have Og:i.s.known p f p.pn=(q2 && (i.s.kind != 4 || (i.s.proc != jz && dV p.pn i.s.proc))):=by rw [← Iq,wb];rfl
    rw [Og]at j2
    refine cV 4 1 (bj.ind (ι:=List aE×Nat) (fun j=>i.s.said.drop j.2=j.1∧pI p f j.1=q2) (fun j=>j.1.length)
     (fun j=> [(1, .ptr 0 0),(2, .ptr 1 0),(3, .slice (.tok 0) 1 (p.pn.map encStr)),(9, .ptr 2 0),(11, .ptr 3 0),(55, .slice .shared 5 (p.procs.map bV)),(56, .int .i64 (p.procs.length:Int)),(57, .int .i64 (k:Int)),(74, .slice .shared 16 (f.flat.map ew)),(75, .int .i64 (f.flat.length:Int)),(76, .int .i64 (n:Int)),(82, .slice .shared 1 (i.s.said.map encStr)),(83, .int .i64 (i.s.said.length:Int)),(84, .int .i64 (j.2:Int))]) (fun j=>⟨[bP p,[.int .i64 0, .int .i64 0],bV f,ew i],[some p.pn.length]⟩) ?_ (i.s.said,0) ⟨rfl,Iq⟩)
    rintro⟨mK,m2⟩ ⟨l1,l2⟩ tq
    dsimp only at l1 l2
    cases mK with
    | cons a mK=>
     obtain⟨oK,DD,su,Wc⟩:=drop_cons l1
     have uQ:m2<4611686018427387904:=by omega
     simp only [pI]at l2
     rcases Bool.eq_false_or_eq_true (f.iy p a==0)with d1 | d1
     ·simp only [d1,if_true]at l2
      subst l2
      simp only [Bool.false_and,Bool.false_eq_true,if_false]at j2
      subst j2
      simp only at hR
      subst hR
      repeat' (first
 | simp only [go_sem,hD,hF,hJ,hP,su,oK,d1]
 | (with_reducible refine CU (Wb _ _) ?_)
 | (with_reducible refine CU (iG _ _ _) ?_)
 | (with_reducible first | refine aJ fun hc=> ?_ | refine aK fun hc=> ?_ | refine aL (fun hc=> ?_) fun hc=> ?_) <;> (try simp only [hc,bs, ↓reduceIte]at h) <;> try simp only [hc]
 | (with_reducible refine ay hQ ?_;(try cases h);simp only [az,aB,bc,bd,go_sem,hD,hF,hJ,hP,su,oK,d1];try exact br)
 | (cases h;done))
     ·simp only [d1,Bool.false_eq_true,if_false]at l2
      repeat' (first
 | simp only [go_sem,hD,hF,hJ,hP,su,oK,d1]
 | (with_reducible refine CU (Wb _ _) ?_)
 | (with_reducible refine CU (iG _ _ _) ?_)
 | (with_reducible first | refine aJ fun hc=> ?_ | refine aK fun hc=> ?_ | refine aL (fun hc=> ?_) fun hc=> ?_) <;> (try simp only [hc,bs, ↓reduceIte]at h) <;> try simp only [hc]
 | (with_reducible refine ay hQ ?_;(try cases h);simp only [az,aB,bc,bd,go_sem,hD,hF,hJ,hP,su,oK,d1];try exact br)
 | (cases h;done))
      refine cd 4 1 ?_ ?_ (tq (mK,m2+1) ⟨DD,l2⟩ (Nat.lt_succ_self _))
      ·(simp only [go_sem,hD,hF,hJ,hP,au uQ];try exact aZ)
      ·(simp only [go_sem,hD,hF,hJ,hP,au uQ];try exact aZ)
    | nil=>
     have wh:=drop_nil l1
     simp only [pI]at l2
     subst l2
     simp only [Bool.true_and]at j2
     unfold jz at j2
     have b5:(i.s.kind==4) = !(i.s.kind != 4):=by simp only [bne,Bool.not_not]
     have b6:(i.s.proc == [109,97,105,110]) = !(i.s.proc != [109,97,105,110]):=by simp only [bne,Bool.not_not]
     rcases Bool.eq_false_or_eq_true (i.s.kind != 4)with d1 | d1
     ·simp only [d1,Bool.true_or,if_true]at j2
      simp only [d1,Bool.not_true]at b5
      repeat' (first
 | simp only [go_sem,hD,hF,hJ,hP,wh,b5,d1]
 | (with_reducible refine CU (kh _ _) ?_)
 | (with_reducible refine CU (iG _ _ _) ?_)
 | (with_reducible first | refine aJ fun hc=> ?_ | refine aK fun hc=> ?_ | refine aL (fun hc=> ?_) fun hc=> ?_) <;> (try simp only [hc,bs, ↓reduceIte]at h) <;> try simp only [hc]
 | (with_reducible refine ay hQ ?_;(try cases h);simp only [az,aB,bc,bd,go_sem,hD,hF,hJ,hP,wh,b5,d1];try exact br)
 | (cases h;done))
      refine cd 3 1 ?_ ?_ (lW (nK,n+1) ⟨kg,j2⟩ (Nat.lt_succ_self _))
      ·(simp only [go_sem,hD,hF,hJ,hP,au fB];try exact aZ)
      ·(simp only [go_sem,hD,hF,hJ,hP,au fB];try exact aZ)
     ·simp only [d1,Bool.false_or]at j2
      simp only [d1,Bool.not_false]at b5
      rcases Bool.eq_false_or_eq_true (i.s.proc != [109,97,105,110])with d2 | d2
      ·simp only [d2,Bool.true_and]at j2
       simp only [d2,Bool.not_true]at b6
       rcases Bool.eq_false_or_eq_true (dV p.pn i.s.proc)with d3 | d3
       ·simp only [d3,if_true]at j2
        repeat' (first
 | simp only [go_sem,hD,hF,hJ,hP,wh,b5,d1,b6,d2,d3]
 | (with_reducible refine CU (kh _ _) ?_)
 | (with_reducible refine CU (iG _ _ _) ?_)
 | (with_reducible first | refine aJ fun hc=> ?_ | refine aK fun hc=> ?_ | refine aL (fun hc=> ?_) fun hc=> ?_) <;> (try simp only [hc,bs, ↓reduceIte]at h) <;> try simp only [hc]
 | (with_reducible refine ay hQ ?_;(try cases h);simp only [az,aB,bc,bd,go_sem,hD,hF,hJ,hP,wh,b5,d1,b6,d2,d3];try exact br)
 | (cases h;done))
        refine cd 3 1 ?_ ?_ (lW (nK,n+1) ⟨kg,j2⟩ (Nat.lt_succ_self _))
        ·(simp only [go_sem,hD,hF,hJ,hP,au fB];try exact aZ)
        ·(simp only [go_sem,hD,hF,hJ,hP,au fB];try exact aZ)
       ·simp only [d3,Bool.false_eq_true,if_false]at j2
        subst j2
        simp only at hR
        subst hR
        repeat' (first
 | simp only [go_sem,hD,hF,hJ,hP,wh,b5,d1,b6,d2,d3]
 | (with_reducible refine CU (kh _ _) ?_)
 | (with_reducible refine CU (iG _ _ _) ?_)
 | (with_reducible first | refine aJ fun hc=> ?_ | refine aK fun hc=> ?_ | refine aL (fun hc=> ?_) fun hc=> ?_) <;> (try simp only [hc,bs, ↓reduceIte]at h) <;> try simp only [hc]
 | (with_reducible refine ay hQ ?_;(try cases h);simp only [az,aB,bc,bd,go_sem,hD,hF,hJ,hP,wh,b5,d1,b6,d2,d3];try exact br)
 | (cases h;done))
      ·simp only [d2,Bool.false_and,Bool.false_eq_true,if_false]at j2
       simp only [d2,Bool.not_false]at b6
       subst j2
       simp only at hR
       subst hR
       repeat' (first
 | simp only [go_sem,hD,hF,hJ,hP,wh,b5,d1,b6,d2]
 | (with_reducible refine CU (kh _ _) ?_)
 | (with_reducible refine CU (iG _ _ _) ?_)
 | (with_reducible first | refine aJ fun hc=> ?_ | refine aK fun hc=> ?_ | refine aL (fun hc=> ?_) fun hc=> ?_) <;> (try simp only [hc,bs, ↓reduceIte]at h) <;> try simp only [hc]
 | (with_reducible refine ay hQ ?_;(try cases h);simp only [az,aB,bc,bd,go_sem,hD,hF,hJ,hP,wh,b5,d1,b6,d2];try exact br)
 | (cases h;done))
end Go.Abs

/-! Ar1 -/

namespace Go.Abs
set_option maxRecDepth 8000
open Go.Proofs
def Oi:List Pm→List Ar→Bool
 | [],_=>true
 | _,[]=>true
 | a::l,b::m=>if a.ref==b.ref then Oi l m else false
def Vi (l:List Pm) (m:List Ar):Bool:=if(l.length:Int)==(m.length:Int)then Oi l m else false
def Sm.Vj (p:Pg) (v:Sm):Bool:=v.kind==4 && match p.find v.proc with | none=>false | some q=>Vi q.params v.args
end Go.Abs

/-! Ar2 -/

namespace Go.Abs
set_option maxRecDepth 8000
open Go.Proofs
def Wd (p:Pg):List Sm→Option Sm
 | []=>none
 | v::l=>if v.kind==4 && !(v.Vj p)then some v else Wd p l
def R7 (c:Int):Option Sm→Int×Int
 | some v=>(c,v.id)
 | none=>(0,0)
def Pg.arity (p:Pg):Int×Int:=if p.scope.1==0 then R7 6 (Wd p p.pre)else(1,0)
end Go.Abs

/-! Ar3 -/

namespace Go.Abs
set_option maxRecDepth 8000
open Go.Proofs
theorem iC {p:Pg} (h:(p.scope.1==0)=true):p.may=true:=by
 unfold Pg.scope at h
 split at h
 ·assumption
 ·cases h
end Go.Abs

/-! Srt1 -/

namespace Go.Abs
set_option maxRecDepth 8000
open Go.Proofs
def iD (out:List aE):List aE→aE→Bool→aE×Bool
 | [],c,a=>(c,a)
 | s::l,c,a=>if !(dV out s) && (!a || bytesLess s c)then iD out l s true else iD out l c a
def DE (l out:List aE):List aE:=if(iD out l [] false).2 then out++ [(iD out l [] false).1]else out
def jF (l:List aE):Nat→List aE→List aE
 | 0,out=>out
 | n+1,out=>jF l n (DE l out)
def fD (l:List aE):List aE:=jF l l.length []
theorem xU {l:List aE} (hl:l.length<100000000) (g:Tag) (s:St):aA Tryz.prog lp [.slice g 1 (l.map encStr)] s (.slice .shared 1 ((fD l).map encStr)) s:=by
 refine aA.Dl (d':= .slice .shared 1 (l.map encStr)) ?_ (Wk.shared _ _ _)
 refine aA.pure ?_ (by simp [D.bN,D.ok,Tag.ok,dk]) (by simp only [D.ok,Tag.ok,dk];rfl) s
 generalize hR:fD l=R
 simp only [fD]at hR
 unfold S0
 refine aA.go yG rfl fun B Q hB hQ=> ?_
 have⟨hD,hF,hJ,hP⟩:=bI
 repeat' (first
 | simp only [go_sem,hD,hF,hJ,hP]
 | (with_reducible first | refine aJ fun hc=> ?_ | refine aK fun hc=> ?_ | refine aL (fun hc=> ?_) fun hc=> ?_) <;> (try simp only [hc,bs, ↓reduceIte]at h) <;> try simp only [hc]
 | (with_reducible refine ay hQ ?_;exact bT)
 | (cases h;done))
 refine bj.mh 3 1 rfl ?_
 simp only [go_sem,hD,hF,hJ,hP]
 refine cV 0 1 (bj.ind (ι:=Nat×Nat×List aE×Nat) (fun i=>i.1+i.2.1=l.length∧jF l i.1 i.2.2.1=R∧i.2.2.1.length≤i.2.1∧i.2.2.2=i.2.2.1.length) (fun i=>i.1)
  (fun i=> [(0, .slice .shared 1 (l.map encStr)),(3, .slice (.tok 0) 1 (i.2.2.1.map encStr)),(9, .int .i64 (l.length:Int)),(10, .int .i64 (i.2.1:Int))]) (fun i=>⟨[],[some i.2.2.2]⟩) ?_ (l.length,0,[],0) ⟨rfl,hR,Nat.le_refl _,rfl⟩)
 rintro⟨n,k,out,no⟩ ⟨h1,h2,h3,h4⟩ IH
 dsimp only at h1 h2 h3 h4
 subst h4
 cases n with
 | zero=>
  have hD:decide ((k:Int)<(l.length:Int))=false:=by simp;omega
  simp only [jF]at h2
  subst h2
  repeat' (first
 | simp only [go_sem,hD,hF,hJ,hP]
 | (with_reducible first | refine aJ fun hc=> ?_ | refine aK fun hc=> ?_ | refine aL (fun hc=> ?_) fun hc=> ?_) <;> (try simp only [hc,bs, ↓reduceIte]at h) <;> try simp only [hc]
 | (with_reducible refine ay hQ ?_;exact bT)
 | (cases h;done))
 | succ n=>
  have hD:decide ((k:Int)<(l.length:Int))=true:=by simp;omega
  have bm:k<4611686018427387904:=by omega
  have hJ:(out.length+1)*17≤bf:=by unfold bf;omega
  have kh:=fun x g s=>xO (l:=out) (by omega) x g s
  simp only [jF,DE]at h2
  repeat' (first
 | simp only [go_sem,hD,hF,hJ,hP]
 | (with_reducible first | refine aJ fun hc=> ?_ | refine aK fun hc=> ?_ | refine aL (fun hc=> ?_) fun hc=> ?_) <;> (try simp only [hc,bs, ↓reduceIte]at h) <;> try simp only [hc]
 | (with_reducible refine ay hQ ?_;exact bT)
 | (cases h;done))
  obtain⟨q,hq⟩ : ∃ q,iD out l [] false=q:=⟨_,rfl⟩
  rw [hq]at h2
  refine cV 0 1 (bj.ind (ι:=List aE×Nat×aE×Bool) (fun i=>l.drop i.2.1=i.1∧iD out i.1 i.2.2.1 i.2.2.2=q) (fun i=>i.1.length)
   (fun i=> [(0, .slice .shared 1 (l.map encStr)),(3, .slice (.tok 0) 1 (out.map encStr)),(4, .str i.2.2.1),(5, .bool i.2.2.2),(9, .int .i64 (l.length:Int)),(10, .int .i64 (k:Int)),(12, .slice .shared 1 (l.map encStr)),(13, .int .i64 (l.length:Int)),(14, .int .i64 (i.2.1:Int))]) (fun i=>⟨[],[some out.length]⟩) ?_ (l,0,[],false) ⟨rfl,hq⟩)
  rintro⟨rest,j,c,a⟩ ⟨j1,j2⟩ lW
  dsimp only at j1 j2
  cases rest with
  | nil=>
   have HF:=drop_nil j1
   simp only [iD]at j2
   subst j2
   cases a
   ·simp only [Bool.false_eq_true,if_false]at h2
    repeat' (first
 | simp only [go_sem,hD,hF,hJ,hP,HF]
 | (with_reducible first | refine aJ fun hc=> ?_ | refine aK fun hc=> ?_ | refine aL (fun hc=> ?_) fun hc=> ?_) <;> (try simp only [hc,bs, ↓reduceIte]at h) <;> try simp only [hc]
 | (with_reducible refine ay hQ ?_;(try cases h);simp only [az,aB,bc,bd,go_sem,hD,hF,hJ,hP,HF];try exact br)
 | (cases h;done))
    refine cd 0 1 ?_ ?_ (IH (n,k+1,out,_) ⟨by dsimp only;omega,h2,by dsimp only;omega,rfl⟩ (Nat.lt_succ_self _))
    ·(simp only [go_sem,hD,hF,hJ,hP,au bm];try exact aZ)
    ·(simp only [go_sem,hD,hF,hJ,hP,au bm];try exact aZ)
   ·simp only [if_true]at h2
    repeat' (first
 | simp only [go_sem,hD,hF,hJ,hP,HF]
 | (with_reducible first | refine aJ fun hc=> ?_ | refine aK fun hc=> ?_ | refine aL (fun hc=> ?_) fun hc=> ?_) <;> (try simp only [hc,bs, ↓reduceIte]at h) <;> try simp only [hc]
 | (with_reducible refine ay hQ ?_;(try cases h);simp only [az,aB,bc,bd,go_sem,hD,hF,hJ,hP,HF];try exact br)
 | (cases h;done))
    refine cd 0 1 ?_ ?_ (IH (n,k+1,out++ [c],out.length+1) ⟨by dsimp only;omega,h2,by simp;omega,by simp⟩ (Nat.lt_succ_self _))
    ·(simp only [go_sem,hD,hF,hJ,hP,au bm,List.map_append,List.map_cons,List.map_nil,encStr];try exact aZ)
    ·(simp only [go_sem,hD,hF,hJ,hP,au bm,List.map_append,List.map_cons,List.map_nil,encStr];try exact aZ)
  | cons x rest=>
   obtain⟨dN,kg,fK,yW⟩:=drop_cons j1
   have fB:j<4611686018427387904:=by omega
   simp only [iD]at j2
   rcases Bool.eq_false_or_eq_true (dV out x)with c1 | c1
   ·simp only [c1,Bool.not_true,Bool.false_and,Bool.false_eq_true,if_false]at j2
    repeat' (first
 | simp only [go_sem,hD,hF,hJ,hP,fK,dN,c1]
 | (with_reducible refine CU (kh _ _ _) ?_)
 | (with_reducible first | refine aJ fun hc=> ?_ | refine aK fun hc=> ?_ | refine aL (fun hc=> ?_) fun hc=> ?_) <;> (try simp only [hc,bs, ↓reduceIte]at h) <;> try simp only [hc]
 | (with_reducible refine ay hQ ?_;(try cases h);simp only [az,aB,bc,bd,go_sem,hD,hF,hJ,hP,fK,dN,c1];try exact br)
 | (cases h;done))
    refine cd 0 1 ?_ ?_ (lW (rest,j+1,c,a) ⟨kg,j2⟩ (Nat.lt_succ_self _))
    ·(simp only [go_sem,hD,hF,hJ,hP,au fB];try exact aZ)
    ·(simp only [go_sem,hD,hF,hJ,hP,au fB];try exact aZ)
   ·cases a
    ·simp only [c1,Bool.not_false,Bool.true_or,Bool.and_self,if_true]at j2
     repeat' (first
 | simp only [go_sem,hD,hF,hJ,hP,fK,dN,c1]
 | (with_reducible refine CU (kh _ _ _) ?_)
 | (with_reducible first | refine aJ fun hc=> ?_ | refine aK fun hc=> ?_ | refine aL (fun hc=> ?_) fun hc=> ?_) <;> (try simp only [hc,bs, ↓reduceIte]at h) <;> try simp only [hc]
 | (with_reducible refine ay hQ ?_;(try cases h);simp only [az,aB,bc,bd,go_sem,hD,hF,hJ,hP,fK,dN,c1];try exact br)
 | (cases h;done))
     refine cd 0 1 ?_ ?_ (lW (rest,j+1,x,true) ⟨kg,j2⟩ (Nat.lt_succ_self _))
     ·(simp only [go_sem,hD,hF,hJ,hP,au fB];try exact aZ)
     ·(simp only [go_sem,hD,hF,hJ,hP,au fB];try exact aZ)
    ·rcases Bool.eq_false_or_eq_true (bytesLess x c)with c2 | c2
     ·simp only [c1,c2,Bool.not_false,Bool.not_true,Bool.or_true,Bool.and_self,if_true]at j2
      repeat' (first
 | simp only [go_sem,hD,hF,hJ,hP,fK,dN,c1,c2]
 | (with_reducible refine CU (kh _ _ _) ?_)
 | (with_reducible first | refine aJ fun hc=> ?_ | refine aK fun hc=> ?_ | refine aL (fun hc=> ?_) fun hc=> ?_) <;> (try simp only [hc,bs, ↓reduceIte]at h) <;> try simp only [hc]
 | (with_reducible refine ay hQ ?_;(try cases h);simp only [az,aB,bc,bd,go_sem,hD,hF,hJ,hP,fK,dN,c1,c2];try exact br)
 | (cases h;done))
      refine cd 0 1 ?_ ?_ (lW (rest,j+1,x,true) ⟨kg,j2⟩ (Nat.lt_succ_self _))
      ·(simp only [go_sem,hD,hF,hJ,hP,au fB];try exact aZ)
      ·(simp only [go_sem,hD,hF,hJ,hP,au fB];try exact aZ)
     ·simp only [c1,c2,Bool.not_false,Bool.not_true,Bool.or_false,Bool.and_false,Bool.false_eq_true,if_false]at j2
      repeat' (first
 | simp only [go_sem,hD,hF,hJ,hP,fK,dN,c1,c2]
 | (with_reducible refine CU (kh _ _ _) ?_)
 | (with_reducible first | refine aJ fun hc=> ?_ | refine aK fun hc=> ?_ | refine aL (fun hc=> ?_) fun hc=> ?_) <;> (try simp only [hc,bs, ↓reduceIte]at h) <;> try simp only [hc]
 | (with_reducible refine ay hQ ?_;(try cases h);simp only [az,aB,bc,bd,go_sem,hD,hF,hJ,hP,fK,dN,c1,c2];try exact br)
 | (cases h;done))
      refine cd 0 1 ?_ ?_ (lW (rest,j+1,c,true) ⟨kg,j2⟩ (Nat.lt_succ_self _))
      ·(simp only [go_sem,hD,hF,hJ,hP,au fB];try exact aZ)
      ·(simp only [go_sem,hD,hF,hJ,hP,au fB];try exact aZ)
end Go.Abs

/-! Shelf -/

namespace Go.Proofs
open Go.Shelf
def Tryz.Ev:Go.Shelf.Ren:=⟨fun | 190=>48 | 125=>89 | 258=>88 | 128=>119 | 129=>120 | 302=>110 | 303=>111 | 304=>112 | 305=>113 | 306=>114 | 307=>115 | 308=>116 | 309=>117 | 310=>118 | 333=>136 | 329=>137 | 330=>138 | 334=>139 | 335=>140 | 336=>141 | 344=>146 | n=>n,fun | 31=>22 | 9=>9 | 3=>3 | 46=>111 | 0=>0 | 51=>131 | 53=>133 | 4=>4 | 183=>123 | 182=>122 | 131=>128 | 5=>5 | 218=>142 | 222=>146 | 228=>150 | 229=>151 | n=>n,fun | n=>n⟩
theorem Tryz.E3:Go.Proofs.Lays.n190 Tryz.prog Tryz.Ev:= {
 mixed:=by kernel_rfl
 f125:=Tryz.func89.trans (congrArg some (by kernel_rfl))
 f128:=Tryz.func119.trans (congrArg some (by kernel_rfl))
 f129:=Tryz.func120.trans (congrArg some (by kernel_rfl))
 f190:=Tryz.func48.trans (congrArg some (by kernel_rfl))
 f258:=Tryz.func88.trans (congrArg some (by kernel_rfl))
 f302:=Tryz.func110.trans (congrArg some (by kernel_rfl))
 f303:=Tryz.func111.trans (congrArg some (by kernel_rfl))
 f304:=Tryz.func112.trans (congrArg some (by kernel_rfl))
 f305:=Tryz.func113.trans (congrArg some (by kernel_rfl))
 f306:=Tryz.func114.trans (congrArg some (by kernel_rfl))
 f307:=Tryz.func115.trans (congrArg some (by kernel_rfl))
 f308:=Tryz.func116.trans (congrArg some (by kernel_rfl))
 f309:=Tryz.func117.trans (congrArg some (by kernel_rfl))
 f310:=Tryz.func118.trans (congrArg some (by kernel_rfl))
 f329:=Tryz.func137.trans (congrArg some (by kernel_rfl))
 f330:=Tryz.func138.trans (congrArg some (by kernel_rfl))
 f333:=Tryz.func136.trans (congrArg some (by kernel_rfl))
 f334:=Tryz.func139.trans (congrArg some (by kernel_rfl))
 f335:=Tryz.func140.trans (congrArg some (by kernel_rfl))
 f336:=Tryz.func141.trans (congrArg some (by kernel_rfl))
 f344:=Tryz.func146.trans (congrArg some (by kernel_rfl))
 t0:=Tryz.underlying0
 a0:=Tryz.isAgg0
 z0:=Tryz.sizeOf0
 v0:=Tryz.zeroValue0
 t3:=Tryz.underlying3
 a3:=Tryz.isAgg3
 z3:=Tryz.sizeOf3
 v3:=Tryz.zeroValue3
 t4:=Tryz.underlying4
 a4:=Tryz.isAgg4
 z4:=Tryz.sizeOf4
 v4:=Tryz.zeroValue4
 t5:=Tryz.underlying5
 a5:=Tryz.isAgg5
 z5:=Tryz.sizeOf5
 v5:=Tryz.zeroValue5
 t9:=Tryz.underlying9
 a9:=Tryz.isAgg9
 z9:=Tryz.sizeOf9
 v9:=Tryz.zeroValue9
 t31:=Tryz.underlying22
 a31:=Tryz.isAgg22
 z31:=Tryz.sizeOf22
 v31:=Tryz.zeroValue22
 t46:=Tryz.underlying111
 a46:=Tryz.isAgg111
 z46:=Tryz.sizeOf111
 v46:=Tryz.zeroValue111
 t51:=Tryz.underlying131
 a51:=Tryz.isAgg131
 z51:=Tryz.sizeOf131
 v51:=Tryz.zeroValue131
 t53:=Tryz.underlying133
 a53:=Tryz.isAgg133
 z53:=Tryz.sizeOf133
 v53:=Tryz.zeroValue133
 t131:=Tryz.underlying128
 a131:=Tryz.isAgg128
 z131:=Tryz.sizeOf128
 v131:=Tryz.zeroValue128
 t182:=Tryz.underlying122
 a182:=Tryz.isAgg122
 z182:=Tryz.sizeOf122
 v182:=Tryz.zeroValue122
 t183:=Tryz.underlying123
 a183:=Tryz.isAgg123
 z183:=Tryz.sizeOf123
 v183:=Tryz.zeroValue123
 t218:=Tryz.underlying142
 a218:=Tryz.isAgg142
 z218:=Tryz.sizeOf142
 v218:=Tryz.zeroValue142
 t222:=Tryz.underlying146
 a222:=Tryz.isAgg146
 z222:=Tryz.sizeOf146
 v222:=Tryz.zeroValue146
 t228:=Tryz.underlying150
 a228:=Tryz.isAgg150
 z228:=Tryz.sizeOf150
 v228:=Tryz.zeroValue150
 t229:=Tryz.underlying151
 a229:=Tryz.isAgg151
 z229:=Tryz.sizeOf151
 v229:=Tryz.zeroValue151}
open Go.Sort Go.RowKit in
theorem Tryz.slices_Sort_string (wi off cap:Nat) (ss:List (List UInt8)) (w:World) (hH:Holds encStr w wi off ss.toArray) (aap:wi<w.heap.size) (eg:ss.length<4611686018427387904) :
 Calls Tryz.prog 48 #[.slice (some ⟨wi,off,none⟩) ss.length cap] w fun e w'=>
  e = .returned (.tuple #[])∧∃ n os,w'=grow (putRow encStr (Sort.ahead w n) wi off (ss.mergeSort fun x y=>decide (x≤y)).toArray) os:=Any.slices_Sort_string Tryz.E3 wi off cap ss w hH aap eg
def Tryz.Ew:Go.Shelf.Ren:=⟨fun | 194=>49 | n=>n,fun | 31=>22 | 9=>9 | 3=>3 | 4=>4 | 0=>0 | n=>n,fun | n=>n⟩
theorem Tryz.E4:Go.Proofs.Lays.n194 Tryz.prog Tryz.Ew:= {
 mixed:=by kernel_rfl
 f194:=Tryz.func49.trans (congrArg some (by kernel_rfl))
 t0:=Tryz.underlying0
 a0:=Tryz.isAgg0
 z0:=Tryz.sizeOf0
 v0:=Tryz.zeroValue0
 t3:=Tryz.underlying3
 a3:=Tryz.isAgg3
 z3:=Tryz.sizeOf3
 v3:=Tryz.zeroValue3
 t4:=Tryz.underlying4
 a4:=Tryz.isAgg4
 z4:=Tryz.sizeOf4
 v4:=Tryz.zeroValue4
 t9:=Tryz.underlying9
 a9:=Tryz.isAgg9
 z9:=Tryz.sizeOf9
 v9:=Tryz.zeroValue9
 t31:=Tryz.underlying22
 a31:=Tryz.isAgg22
 z31:=Tryz.sizeOf22
 v31:=Tryz.zeroValue22}
open Go.RowKit Go.Lib Go.Sort in
theorem Tryz.slices_Compact_string (wi off cap:Nat) (zs:List (List UInt8)) (w:World) (hH:Holds encStr w wi off zs.toArray) (eg:zs.length≤9223372036854775807) (qf:zs.length≤cap) :
 Calls Tryz.prog 49 #[.slice (some ⟨wi,off,none⟩) zs.length cap] w fun e w'=>e = .returned (.slice (some ⟨wi,off,none⟩) (Lib.compact zs).length cap)∧∃ q,w'=putRow encStr (Sort.ahead w q) wi off (Lib.compact zs++List.replicate (zs.length - (Lib.compact zs).length) []).toArray:=Any.slices_Compact_string Tryz.E4 wi off cap zs w hH eg qf
open Go.RowKit Go.Lib Go.Sort in
theorem Tryz.slices_Compact_string_empty (a:Option Addr) (cap:Nat) (w:World) :
 Calls Tryz.prog 49 #[.slice a 0 cap] w fun e w'=>e = .returned (.slice a 0 cap)∧w'=w:=Any.slices_Compact_string_empty Tryz.E4 a cap w
open Go.RowKit Go.Sort in
theorem Tryz.slices_Sort_string_none (p:Option Addr) (cap:Nat) (w:World) :
 Calls Tryz.prog 48 #[.slice p 0 cap] w fun e w'=>e = .returned (.tuple #[])∧w'=w:=Any.slices_Sort_string_none Tryz.E3 p cap w
end Go.Proofs

/-! SortR -/

namespace Go.Abs
open Go.Proofs
section
variable {P:Program} {B:fO} {nt:Nat}
theorem PE {x:Operand} {t:Nat} (h:cX x=some (.s t)):x = .tmp t:=by
 unfold cX at h
 split at h
 ·cases h;rfl
 ·obtain⟨d,_,h⟩:=map_some h;cases h
 ·cases h
 ·cases h
theorem HG {ops:Array Oper} {o:Oper} {g g':Option (Nat×Bool)} {dst:Option Nat} {f:Nat} {xs:List X} (h:pk P ops o g=some (.call dst g' f xs)) :
 g'=g∧∃ args lf,o.op = .call ⟨.value (.func f),args,lf⟩∧enters P f=true∧sY args.toList=some xs:=by
 unfold pk at h
 split at h
 ·rename_i f' args lf ke
  split at h
  ·rename_i he
   obtain⟨xs',h1,h2⟩:=map_some h
   cases h2
   exact⟨rfl,args,lf,ke,he,h1⟩
  ·cases h
 ·obtain⟨_,_,h⟩:=map_some h;cases h
 ·split at h
  ·cases h
  ·split at h <;> cases h
theorem JY {ops:Array Oper} {o:Oper} {tmps:Array Value} (hg:qW ops o.guard=some none):Region.wanted o (yielded ops tmps)=true:=by
 have:o.guard=none:=by
  cases Au:o.guard with
  | none=>rfl
  | some p=>
   obtain⟨j,b⟩:=p
   rw [Au]at hg
   unfold qW at hg
   simp only at hg
   split at hg <;> cases hg
 simp [Region.wanted,this]
theorem Sem.R9 {a k b f:Nat} {is:List AI} {Q:Exit→Tm→St→Prop} {tm:Tm} {s:St}
 (Vk : ∀ act w,Holds B nt (tm.put (some a) (tm.get k)) s act w→Calls P f #[act.tmps.getD a Go.undef] w fun e w'=>∃ v,e = .returned v∧∃ bA s',Holds B nt bA s' (act.put (some b) v) w'∧gj P is (Q .normal) bA s') :
 Sem P B nt (.run (.op (some a) none (.mv (.s k)):: .call (some b) none f [.s a]::is)) Q tm s:=by
 intro c hc act w hh
 obtain⟨id,ops,rfl,hi⟩:=jL hc
 refine wp_region ?_
 have key : ∀ (l:List Nat) (ol:List Oper),l.map (ops[·]?)=ol.map some→n9 P nt ops ol=some (.op (some a) none (.mv (.s k)):: .call (some b) none f [.s a]::is)→wpOps P ops (mQ B nt Q) l act w:=by
  intro l ol hl sH
  match ol,l,hl with
  | [],_,_=>simp [n9]at sH
  | o0::ol,[],hl=>simp at hl
  | o0::ol,j0::l,hl=>
   simp only [List.map_cons,List.cons.injEq]at hl
   obtain⟨hj0,hl⟩:=hl
   unfold n9 at sH
   split at sH
   ·rename_i i0 is0 h1 h2
    cases sH
    match ol,l,hl,h2 with
    | [],_,_,h2=>simp [n9]at h2
    | o1::ol,[],hl,_=>simp at hl
    | o1::ol,j1::l,hl,h2=>
     simp only [List.map_cons,List.cons.injEq]at hl
     obtain⟨hj1,hl⟩:=hl
     unfold n9 at h2
     split at h2
     ·rename_i i1 is1 h3 h4
      cases h2
      obtain⟨M,e,r,ht,hn,hd⟩:=hh
      have AT:=pT h1
      have Oj:=pT h3
      simp only [AI.dst]at AT Oj
      refine sG (K':=fun bA s'=>bA=tm.put (some a) (tm.get k)∧s'=s) hj0 h1 r (B.laid.ext e) ht (by simp only [gj,guarded,aN,X.ev,and_self]) (fun d v s1 w1 M1 hk e1 r1 hv=> ?_)
      obtain⟨wV,rfl⟩:=hk
      have hH:=Holds.put e ht hn hd (s8 h1) e1 r1 hv
      simp only [AI.dst]at wV
      rw [← AT]at hH ⊢
      rw [wV]at hH
      obtain⟨g,hg,_,hb⟩:=vB h3
      obtain⟨rfl,args,lf,ke,tL,lN⟩:=HG hb
      simp only [wpOps,hj1,JY hg,if_true]
      left
      have L1:args.map (act.put (some a) v).eval = #[(act.put (some a) v).tmps.getD a Go.undef]:=by
       have:args.toList = [.tmp a]:=by
        match hA:args.toList with
        | []=>rw [hA]at lN;simp [sY]at lN
        | [x]=>
         rw [hA]at lN
         simp only [sY]at lN
         split at lN
         ·rename_i x' r' hx hr
          cases lN
          rw [PE hx]
         ·cases lN
        | x::y::z=>
         rw [hA]at lN
         simp only [sY]at lN
         split at lN
         ·rename_i x' r' hx hr
          cases lN
          split at hr
          ·cases hr
          ·cases hr
         ·cases lN
       have:args = #[.tmp a]:=by rw [← Array.toArray_toList (xs:=args),this]
       rw [this]
       simp only [List.map_toArray,List.map_cons,List.map_nil]
       rfl
      have hex:(execOp (act.put (some a) v).eval o1).run P w1 = .ok (.enter f #[(act.put (some a) v).tmps.getD a Go.undef]) w1:=by
       obtain⟨dst,op,type,pos,after,guard⟩:=o1
       simp only at ke
       subst ke
       rw [← L1]
       exact sB (act.put (some a) v).eval dst f args lf type pos after guard rfl tL w1
      unfold Oper.wp
      rw [hex,Oper.upon_enter]
      refine(Vk _ _ hH).mono ?_
      rintro en w' ⟨v',rfl,bA,s',hH',hvc⟩
      rw [← Oj]
      exact vw (Q:=Q) l ol _ hl h4 bA s' _ w' hvc hH'
     ·cases h2
   ·cases sH
 exact key _ _ (vx ops) hi
theorem A8 (hB:B.s = ⟨[],[]⟩) {tm:Tm} {s:St} {act:Act} {w:World} (h:Holds B nt tm s act w) {t:Nat} {l:List aE} (ht:s.ax[t]? = some (some l.length)) {k0:Nat} (JK:tm.get k0 = .slice (.tok t) 1 (l.map encStr)) :
 (l = []∧∀ k,tm.get k = .slice (.tok t) 1 (l.map encStr)→(act.tmps.getD k Go.undef = .slice none 0 0∨∃ b q,act.tmps.getD k Go.undef = .slice (some ⟨b,q,none⟩) 0 0))∨
 ∃ (b cap:Nat) (vs:Array Value) (T:TypeId),(∀ k,tm.get k = .slice (.tok t) 1 (l.map encStr)→act.tmps.getD k Go.undef = .slice (some ⟨b,0,none⟩) l.length cap)∧l.length≤cap∧w.heap[b]? = some (.cells vs T (0,0))∧vs.size=cap∧B.w.heap.size≤b∧
  ∀ j (hj:j<l.length),vs[j]? = some (.string ⟨⟨l[j]⟩⟩):=by
 obtain⟨M,e,r,hr,_,_⟩:=h
 rcases r.tok t _ ht with ⟨h3,h4⟩ | ⟨b,cap,z,vs,T,h3,h4,h5,h6,h7⟩
 ·have hl:l = []:=List.eq_nil_of_length_eq_zero h4
  subst hl
  refine .inl ⟨rfl,fun k hk=> ?_⟩
  have hv:=hr k
  rw [hk]at hv
  generalize act.tmps.getD k Go.undef=v at hv
  cases hv with
  | hZ _ _ cap hc kf=>subst hc;exact .inl rfl
  | slice _ _ _ b q cap hl hs h1 h2 kf=>
   rcases(kf.2 _ ht).2 rfl with ⟨_,h0,_⟩ | ⟨b',_,iL⟩
   ·subst h0;exact .inr ⟨b,q,rfl⟩
   ·rw [h3]at iL;cases iL
 ·right
  have each : ∀ k,tm.get k = .slice (.tok t) 1 (l.map encStr)→z=1∧act.tmps.getD k Go.undef = .slice (some ⟨b,0,none⟩) l.length cap∧l.length≤cap∧∀ j (hj:j<l.length),∃ u,M.G b j=some u∧RD M s (.str l[j]) u:=by
   intro k hk
   have hv:=hr k
   rw [hk]at hv
   generalize act.tmps.getD k Go.undef=v at hv
   generalize jv:l.map encStr=rows at hv
   cases hv with
   | hZ _ _ cap hc kf=>
    have hl:l = []:=by cases l <;> simp at jv;rfl
    subst hl
    rcases(kf.2 _ ht).2 rfl with ⟨h0,_⟩ | ⟨b',h0,_⟩
    ·rw [h3]at h0;cases h0
    ·cases h0
   | slice _ _ _ b2 q ahv hl hs h1 h2 kf=>
    subst jv
    rw [List.length_map]at hl kf
    rcases(kf.2 _ ht).2 rfl with ⟨h0,_⟩ | ⟨b',hb,iL⟩
    ·rw [h3]at h0;cases h0
    ·cases hb
     rw [h3]at iL
     cases iL
     refine⟨rfl,by rw [List.length_map],hl,fun j hj=> ?_⟩
     have e1:(l.map encStr)[j]? = some [.str l[j]]:=by rw [List.getElem?_map,List.getElem?_eq_getElem hj];rfl
     obtain⟨u,hu⟩:=h1 j _ 0 _ e1 rfl
     refine⟨u,by simpa using hu,h2 j _ 0 _ u e1 rfl hu⟩
  obtain⟨rfl,_,qf,jK⟩:=each k0 JK
  have dI:B.w.heap.size≤b:=by
   rcases e.n7 t b cap 1 ⟨_,ht⟩ h3 with ⟨⟨n,hn⟩,_⟩ | h
   ·rw [hB]at hn;simp at hn
   ·exact h
  refine⟨b,cap,vs,T,fun k hk=>(each k hk).2.1,qf,h4,by simpa [zs]using h5,dI,fun j hj=> ?_⟩
  obtain⟨u,hu,nk⟩:=jK j hj
  have:=(r.comm _ _ _ hu).1
  rw [ja h4,nk.jh]at this
  exact this
theorem DF (hB:B.s = ⟨[],[]⟩) {tm:Tm} {s:St} {act qv:Act} {w w':World} (h:Holds B nt tm s act w) {b cap:Nat} {vs:Array Value} {T:TypeId} (eg:vs.size=cap) (sd:B.w.heap.size≤b)
 (jI : ∀ q,q<B.w.heap.size→w'.heap[q]? = w.heap[q]?) (dM:w'.heap[b]? = some (.cells vs T (0,0))) (EF:w.heap.size≤w'.heap.size) (AB:w'.os=w.os) (q6:w'.tape=w.tape) (Kx:w'.output=w.output)
 {l:List aE} (hl:l.length≤cap) (jK : ∀ j (hj:j<l.length),vs[j]? = some (.string ⟨⟨l[j]⟩⟩)) {k:Nat} (HH:qv.tmps.getD k Go.undef = .slice (some ⟨b,0,none⟩) l.length cap) (hn:qv.tmps.size=nt) (hd:qv.defers = []) :
 Holds B nt [(k, .slice (.tok 0) 1 (l.map encStr))] ⟨[],[some l.length]⟩ qv w':=by
 obtain⟨M,e,r,hr,_,_⟩:=h
 let M':Map:=⟨fun q o=>if q=b then(if o<l.length then(l[o]?).map fun x=>Value.string ⟨⟨x⟩⟩else none)else B.M.G q o,B.M.loc,fun _=>some (b,cap,1)⟩
 have Wf : ∀ q o v,B.M.G q o=some v→q<B.w.heap.size∧w'.cell? ⟨q,o,none⟩=some v∧v.oneCell'=true:=by
  intro q o v hq
  obtain⟨h1,h2⟩:=r.comm q o v (e.le.G q o v hq)
  have hD:=B.old q o v hq
  refine⟨hD, ?_,h2⟩
  rw [← h1]
  simp [World.cell?,jI q hD]
 have rL : ∀ j (hj:j<l.length),w'.cell? ⟨b,j,none⟩=some (.string ⟨⟨l[j]⟩⟩):=fun j hj=>by rw [ja dM];exact jK j hj
 have hF : ∀ (j:Nat) v,(if j<l.length then(l[j]?).map fun x=>Value.string ⟨⟨x⟩⟩else none)=some v→∃ hj:j<l.length,v = .string ⟨⟨l[j]⟩⟩:=by
  intro j v hv
  split at hv
  ·rename_i hj
   rw [List.getElem?_eq_getElem hj]at hv
   exact⟨hj,by simpa using hv.symm⟩
  ·cases hv
 refine⟨M',⟨⟨fun q o v hq=> ?_,by simp [hB],fun o ho=>rfl,by rw [hB];exact Nat.zero_le _,fun t n' ht _=>by rw [hB]at ht;exact absurd ht (Nat.not_lt_zero _)⟩,fun q hq _ _=> ?_,fun o _ h2=>absurd h2 (Nat.not_lt_zero _),fun t q c z _ hb=> ?_,fun q o eI=> ?_,Nat.le_trans e.size EF,AB.trans e.os,q6.trans e.tape,Kx.trans e.output⟩,
  ⟨fun q o v hq=> ?_,fun o ds ho=>by simp at ho,fun o ho=>absurd ho (Nat.not_lt_zero _),fun o o' ho=>absurd ho (Nat.not_lt_zero _),fun t n ht=> ?_,fun t q c z o _ _ ho=>absurd ho (Nat.not_lt_zero _),fun t t' q c z c' z' JA lM _ _=> ?_⟩,fun u=> ?_,hn,hd⟩
 ·show(if q=b then _ else B.M.G q o)=some v
  rw [if_neg (by have:=(Wf q o v hq).1;omega)]
  exact hq
 ·rw [jI q hq]
  exact e.kept q hq (fun o ho=>by rw [hB]at ho;exact absurd ho (Nat.not_lt_zero _)) (fun t c z lM=>by rw [hB]at lM;obtain⟨n,uN⟩:=lM;simp at uN)
 ·cases hb;exact .inr sd
 ·by_cases hq:q=b
  ·subst hq;exact .inl sd
  ·exact absurd (show(if q=b then _ else B.M.G q o)=B.M.G q o from if_neg hq) eI
 ·have oU:(if q=b then(if o<l.length then(l[o]?).map fun x=>Value.string ⟨⟨x⟩⟩else none)else B.M.G q o)=some v:=hq
  by_cases Sb:q=b
  ·rw [if_pos Sb]at oU
   obtain⟨hj,rfl⟩:=hF o v oU
   rw [Sb]
   exact⟨rL o hj,rfl⟩
  ·rw [if_neg Sb]at oU
   exact(Wf q o v oU).2
 ·match t with
  | 0=>
   simp at ht
   subst ht
   refine .inr ⟨b,cap,1,vs,T,rfl,dM,by simp [zs,eg],hl,fun off ho=> ?_,fun h=>by cases h⟩
   show(if b=b then(if off<l.length then _ else none)else B.M.G b off)=none
   rw [if_pos rfl,if_neg (by simp [zs]at ho;omega)]
  | t+1=>simp at ht
 ·obtain⟨n1,h1⟩:=JA
  obtain⟨n2,h2⟩:=lM
  have a1:=(List.getElem?_eq_some_iff.1 h1).1
  have a2:=(List.getElem?_eq_some_iff.1 h2).1
  simp at a1 a2
  omega
 ·simp only [Tm.get]
  split
  ·rename_i Sc
   subst Sc
   rw [HH]
   have:=RD.slice (M:=M') (s:=⟨[],[some l.length]⟩) (.tok 0) 1 (l.map encStr) b 0 cap (by simpa using hl) (fun row hr=>by
    obtain⟨x,_,rfl⟩:=List.mem_map.1 hr;rfl) (fun i row j d e1 e2=> ?_) (fun i row j d u e1 e2 eu=> ?_) ⟨by simp,fun n uN=>by
    simp at uN
    subst uN
    exact⟨by simp,fun _=> .inr ⟨b,rfl,rfl⟩⟩⟩
   ·simpa using this
   ·rw [List.getElem?_map]at e1
    cases uD:l[i]? with
    | none=>rw [uD]at e1;cases e1
    | some x=>
     have np:=(List.getElem?_eq_some_iff.1 uD).1
     rw [uD]at e1
     cases e1
     have hj:j=0:=by cases j with | zero=>rfl | succ j=>simp [encStr]at e2
     subst hj
     refine⟨.string ⟨⟨x⟩⟩, ?_⟩
     show(if b=b then(if 0+(i*1+0)<l.length then _ else none)else _)=_
     rw [if_pos rfl,if_pos (by omega)]
     simp [uD]
   ·rw [List.getElem?_map]at e1
    cases uD:l[i]? with
    | none=>rw [uD]at e1;cases e1
    | some x=>
     have np:=(List.getElem?_eq_some_iff.1 uD).1
     rw [uD]at e1
     cases e1
     have hj:j=0:=by cases j with | zero=>rfl | succ j=>simp [encStr]at e2
     subst hj
     have ET:(if b=b then(if 0+(i*1+0)<l.length then(l[0+(i*1+0)]?).map fun x=>Value.string ⟨⟨x⟩⟩else none)else B.M.G b (0+(i*1+0)))=some u:=eu
     rw [if_pos rfl,if_pos (by omega)]at ET
     simp [uD]at ET
     subst ET
     simp [encStr]at e2
     subst e2
     exact .str x
  ·exact .junk _
theorem E5 (hB:B.s = ⟨[],[]⟩) {tm:Tm} {s:St} {act qv:Act} {w:World} (h:Holds B nt tm s act w) {k:Nat} (HH:qv.tmps.getD k Go.undef = .slice none 0 0∨∃ b q,qv.tmps.getD k Go.undef = .slice (some ⟨b,q,none⟩) 0 0) (hn:qv.tmps.size=nt) (hd:qv.defers = []) :
 Holds B nt [(k, .slice (.tok 0) 1 (([] : List aE).map encStr))] ⟨[],[some 0]⟩ qv w:=by
 obtain⟨M,e,r,hr,_,_⟩:=h
 let M':Map:=⟨B.M.G,B.M.loc,fun _=>none⟩
 refine⟨M',⟨⟨fun q o v hq=>hq,by simp [hB],fun o ho=>rfl,by rw [hB];exact Nat.zero_le _,fun t n' ht _=>by rw [hB]at ht;exact absurd ht (Nat.not_lt_zero _)⟩,fun q hq _ _=> ?_,fun o _ h2=>absurd h2 (Nat.not_lt_zero _),fun t q c z _ hb=>(by cases hb),fun q o eI=>absurd rfl eI,e.size,e.os,e.tape,e.output⟩,
  ⟨fun q o v hq=>r.comm q o v (e.le.G q o v hq),fun o ds ho=>by simp at ho,fun o ho=>absurd ho (Nat.not_lt_zero _),fun o o' ho=>absurd ho (Nat.not_lt_zero _),fun t n ht=> ?_,fun t q c z o _ _ ho=>absurd ho (Nat.not_lt_zero _),fun t t' q c z c' z' JA lM h1 _=>by cases h1⟩,fun u=> ?_,hn,hd⟩
 ·exact e.kept q hq (fun o ho=>by rw [hB]at ho;exact absurd ho (Nat.not_lt_zero _)) (fun t c z lM=>by rw [hB]at lM;obtain⟨n,uN⟩:=lM;simp at uN)
 ·match t with
  | 0=>simp at ht;subst ht;exact .inl ⟨rfl,rfl⟩
  | t+1=>simp at ht
 ·simp only [Tm.get]
  split
  ·rename_i Sc
   subst Sc
   have kf : ∀ base,gd M' ⟨[],[some 0]⟩ (.tok 0) 1 0 base 0:=fun base=>⟨by simp,fun n uN=>by
    simp at uN
    subst uN
    exact⟨Nat.le_refl _,fun _=> .inl ⟨rfl,rfl,fun h=>by cases h⟩⟩⟩
   rcases HH with h | ⟨b,q,h⟩
   ·rw [h];exact .hZ _ _ 0 rfl (kf none)
   ·rw [h];exact .slice (.tok 0) 1 [] b q 0 (Nat.le_refl _) (by simp) (by simp) (by simp) (kf _)
  ·exact .junk _
theorem DG {α:Type} [Inhabited α] (enc:α→Value) (d:Array α) (c:Array Value) (j:Nat):(Sort.putCells enc 0 d c)[j]? = if j<d.size then(c[j]?).map fun _=>enc d[j]! else c[j]? :=by
 simp only [Sort.putCells,Array.getElem?_mapIdx]
 cases h:c[j]? with
 | none=>simp
 | some x=>by_cases hj:j<d.size <;> simp [hj]
theorem A9 {w:World} {b n cap:Nat} {vs:Array Value} {T:TypeId} (dM:w.heap[b]? = some (.cells vs T (0,0))) (eg:vs.size=cap) (l:List aE) (hl:l.length≤cap) (os:Array Obj) :
 (∀ q,q≠b→q<w.heap.size→(Sort.grow (Sort.putRow Go.Proofs.encStr (Sort.ahead w n) b 0 l.toArray) os).heap[q]? = w.heap[q]?)∧
 (Sort.grow (Sort.putRow Go.Proofs.encStr (Sort.ahead w n) b 0 l.toArray) os).heap[b]? = some (.cells (Sort.putCells Go.Proofs.encStr 0 l.toArray vs) T (0,0))∧w.heap.size≤(Sort.grow (Sort.putRow Go.Proofs.encStr (Sort.ahead w n) b 0 l.toArray) os).heap.size∧
 (Sort.putCells Go.Proofs.encStr 0 l.toArray vs).size=cap∧∀ j (hj:j<l.length),(Sort.putCells Go.Proofs.encStr 0 l.toArray vs)[j]? = some (.string ⟨⟨l[j]⟩⟩):=by
 have hb:b<w.heap.size:=(Array.getElem?_eq_some_iff.1 dM).1
 refine⟨fun q hq hD=> ?_, ?_, ?_, ?_,fun j hj=> ?_⟩
 ·simp only [Sort.grow,Sort.putRow,Sort.mapBlock,Sort.ahead]
  rw [Array.getElem?_append_left (by simpa using hD),Array.getElem?_modify]
  simp [Ne.symm hq]
 ·simp only [Sort.grow,Sort.putRow,Sort.mapBlock,Sort.ahead]
  rw [Array.getElem?_append_left (by simpa using hb),Array.getElem?_modify]
  simp [dM,Sort.onCells]
 ·simp [Sort.grow,Sort.putRow,Sort.mapBlock,Sort.ahead]
 ·simp [Sort.putCells,eg]
 ·rw [DG]
  have h1:j<l.toArray.size:=by simpa using hj
  have h2:vs[j]? = some vs[j]:=Array.getElem?_eq_getElem (by omega)
  rw [if_pos h1,h2]
  simp [hj]
def jU (l:List aE):List aE:=l.mergeSort fun x y=>decide (x≤y)
theorem DH {act:Act} {b:Nat} {v:Value} {u:Nat} (h:u≠b):(act.put (some b) v).tmps.getD u Go.undef=act.tmps.getD u Go.undef:=by
 simp only [Act.put,Array.getD_eq_getD_getElem?]
 rw [Array.getElem?_setIfInBounds_ne (fun e=>h e.symm)]
theorem Ba {act:Act} {b:Nat} {v:Value} (h:b<act.tmps.size):(act.put (some b) v).tmps.getD b Go.undef=v:=by
 simp only [Act.put,Array.getD_eq_getD_getElem?]
 simp [h]
theorem Sem.sort (hB:B.s = ⟨[],[]⟩) {a k b t:Nat} {l:List aE} {is:List AI} {Q:Exit→Tm→St→Prop} {tm:Tm} {s:St} (hak:a≠k) (Wg:b≠k) (vU:a≠b)
 (hk:tm.get k = .slice (.tok t) 1 (l.map encStr)) (ht:s.ax[t]? = some (some l.length)) (hl:l.length<4611686018427387904)
 (h:gj Tryz.prog is (Q .normal) [(k, .slice (.tok 0) 1 ((jU l).map encStr))] ⟨[],[some l.length]⟩) :
 Sem Tryz.prog B nt (.run (.op (some a) none (.mv (.s k)):: .call (some b) none gF [.s a]::is)) Q tm s:=by
 refine Sem.R9 fun act w hh=> ?_
 have uy:(tm.put (some a) (tm.get k)).get k = .slice (.tok t) 1 (l.map encStr):=by rw [Tm.jj,if_neg (by simpa using hak)];exact hk
 have DI:(tm.put (some a) (tm.get k)).get a = .slice (.tok t) 1 (l.map encStr):=by rw [Tm.jj,if_pos rfl];exact hk
 have wg:(jU l).length=l.length:=List.length_mergeSort l
 have hn:(act.put (some b) (.tuple #[])).tmps.size=nt:=by obtain⟨_,_,_,_,h1,_⟩:=hh;simpa [Act.put]using h1
 have hd:(act.put (some b) (.tuple #[])).defers = []:=by obtain⟨_,_,_,_,_,h1⟩:=hh;simpa [Act.put]using h1
 have eg:(act.tmps).size=nt:=by obtain⟨_,_,_,_,h1,_⟩:=hh;exact h1
 rcases A8 hB hh ht DI with ⟨rfl,hv⟩ | ⟨b',cap,vs,T,hv,qf,dM,ma,sd,jK⟩
 ·rw [show jU [] = [] by simp [jU]]at h
  have call : ∀ p,act.tmps.getD a Go.undef = .slice p 0 0→Calls Tryz.prog gF #[act.tmps.getD a Go.undef] w fun e w'=>∃ v,e = .returned v∧∃ bA s',Holds B nt bA s' (act.put (some b) v) w'∧gj Tryz.prog is (Q .normal) bA s':=by
   intro p hp
   rw [hp]
   refine(Tryz.slices_Sort_string_none p 0 w).mono ?_
   rintro e w' ⟨rfl,rfl⟩
   refine⟨_,rfl,_,_,E5 hB hh (k:=k) ?_ hn hd,h⟩
   rw [DH (Ne.symm Wg)]
   exact hv k uy
  rcases hv a DI with h1 | ⟨b',q,h1⟩
  ·exact call _ h1
  ·exact call _ h1
 ·rw [hv a DI]
  have hD:b'<w.heap.size:=(Array.getElem?_eq_some_iff.1 dM).1
  refine(Tryz.slices_Sort_string b' 0 cap l w (fun j hj=> ?_) hD hl).mono ?_
  ·have JZ:j<l.length:=by simpa using hj
   refine⟨?_,by simp [World.frozen?,dM]⟩
   rw [Nat.zero_add,ja dM,jK j JZ]
   simp [JZ]
  ·rintro e w' ⟨rfl,n,os,rfl⟩
   obtain⟨p1,p2,p3,p4,p5⟩:=A9 (n:=n) dM ma (jU l) (by omega) os
   have hH:=DF hB hh (qv:=act.put (some b) (.tuple #[])) (l:=jU l) (k:=k) p4 sd (fun q hq=>p1 q (by omega) (by obtain⟨M,e,_⟩:=hh;exact Nat.lt_of_lt_of_le hq e.size)) p2 p3 rfl rfl rfl (by omega) p5 (by rw [DH (Ne.symm Wg),hv k uy,wg]) hn hd
   rw [wg]at hH
   exact⟨_,rfl,_,_,hH,h⟩
theorem Ey (l:List aE):(Lib.compact l).length≤l.length:=by
 unfold Lib.compact Lib.compactUpTo
 rw [List.length_map]
 exact Nat.le_trans (List.length_filter_le _ _) (by simp)
theorem Sem.compact (hB:B.s = ⟨[],[]⟩) {a k b t:Nat} {l:List aE} {is:List AI} {Q:Exit→Tm→St→Prop} {tm:Tm} {s:St} (hbt:b<nt)
 (hk:tm.get k = .slice (.tok t) 1 (l.map encStr)) (ht:s.ax[t]? = some (some l.length)) (hl:l.length<4611686018427387904)
 (h:gj Tryz.prog is (Q .normal) [(b, .slice (.tok 0) 1 ((Lib.compact l).map encStr))] ⟨[],[some (Lib.compact l).length]⟩) :
 Sem Tryz.prog B nt (.run (.op (some a) none (.mv (.s k)):: .call (some b) none gU [.s a]::is)) Q tm s:=by
 refine Sem.R9 fun act w hh=> ?_
 have DI:(tm.put (some a) (tm.get k)).get a = .slice (.tok t) 1 (l.map encStr):=by rw [Tm.jj,if_pos rfl];exact hk
 have eg:(act.tmps).size=nt:=by obtain⟨_,_,_,_,h1,_⟩:=hh;exact h1
 have hn : ∀ v,(act.put (some b) v).tmps.size=nt:=fun v=>by simpa [Act.put]using eg
 have hd : ∀ v,(act.put (some b) v).defers = []:=by obtain⟨_,_,_,_,_,h1⟩:=hh;intro v;simpa [Act.put]using h1
 rcases A8 hB hh ht DI with ⟨rfl,hv⟩ | ⟨b',cap,vs,T,hv,qf,dM,ma,sd,jK⟩
 ·rw [show Lib.compact ([] : List aE) = []from rfl]at h
  have call : ∀ p,act.tmps.getD a Go.undef = .slice p 0 0→(p=none∨∃ b q,p=some ⟨b,q,none⟩)→Calls Tryz.prog gU #[act.tmps.getD a Go.undef] w fun e w'=>∃ v,e = .returned v∧∃ bA s',Holds B nt bA s' (act.put (some b) v) w'∧gj Tryz.prog is (Q .normal) bA s':=by
   intro p hp hq
   rw [hp]
   refine(Tryz.slices_Compact_string_empty p 0 w).mono ?_
   rintro e w' ⟨rfl,rfl⟩
   refine⟨_,rfl,_,_,E5 hB hh (k:=b) ?_ (hn _) (hd _),h⟩
   rw [Ba (by omega)]
   rcases hq with rfl | ⟨x,y,rfl⟩
   ·exact .inl rfl
   ·exact .inr ⟨x,y,rfl⟩
  rcases hv a DI with h1 | ⟨b',q,h1⟩
  ·exact call _ h1 (.inl rfl)
  ·exact call _ h1 (.inr ⟨b',q,rfl⟩)
 ·rw [hv a DI]
  have Cl:(Lib.compact l).length≤l.length:=Ey l
  refine(Tryz.slices_Compact_string b' 0 cap l w (fun j hj=> ?_) (by omega) qf).mono ?_
  ·have JZ:j<l.length:=by simpa using hj
   refine⟨?_,by simp [World.frozen?,dM]⟩
   rw [Nat.zero_add,ja dM,jK j JZ]
   simp [JZ]
  ·rintro e w' ⟨rfl,q,rfl⟩
   obtain⟨p1,p2,p3,p4,p5⟩:=A9 (n:=q) dM ma (Lib.compact l++List.replicate (l.length - (Lib.compact l).length) []) (by simp;omega) #[]
   rw [Sort.grow_empty]at p1 p2 p3
   have hH:=DF hB hh (qv:=act.put (some b) (.slice (some ⟨b',0,none⟩) (Lib.compact l).length cap)) (l:=Lib.compact l) (k:=b) p4 sd (fun q hq=>p1 q (by omega) (by obtain⟨M,e,_⟩:=hh;exact Nat.lt_of_lt_of_le hq e.size)) p2 p3 rfl rfl rfl (by omega)
    (fun j hj=>by
     have:=p5 j (by simp;omega)
     rw [List.getElem_append_left hj]at this
     exact this) (Ba (by omega)) (hn _) (hd _)
   exact⟨_,rfl,_,_,hH,h⟩
end
end Go.Abs

/-! SrtP -/

namespace Go.Abs
theorem yY {a b:UInt8} : a<b↔a.toNat<b.toNat:=UInt8.lt_iff_toNat_lt
theorem tu : ∀ a:aE,bytesLess a a=false
 | []=>rfl
 | x::a=>by
  show Go.Op.bytesLess (x::a) (x::a)=false
  have h:=tu a
  have h:Go.Op.bytesLess a a=false:=h
  simp [Go.Op.bytesLess,h]
theorem tv : ∀ a b:aE,bytesLess a b=true∨a=b∨bytesLess b a=true
 | [],[]=> .inr (.inl rfl)
 | [],y::b=> .inl rfl
 | x::a,[]=> .inr (.inr rfl)
 | x::a,y::b=>by
  show Go.Op.bytesLess (x::a) (y::b)=true∨_∨Go.Op.bytesLess (y::b) (x::a)=true
  have h:Go.Op.bytesLess a b=true∨a=b∨Go.Op.bytesLess b a=true:=tv a b
  simp only [Go.Op.bytesLess,Bool.or_eq_true,Bool.and_eq_true,decide_eq_true_eq,beq_iff_eq,List.cons.injEq]
  by_cases e:x=y
  ·subst e
   rcases h with h | h | h
   ·exact .inl (.inr ⟨rfl,h⟩)
   ·exact .inr (.inl ⟨rfl,h⟩)
   ·exact .inr (.inr (.inr ⟨rfl,h⟩))
  ·have:x.toNat≠y.toNat:=fun h=>e (UInt8.toNat_inj.1 h)
   rcases Nat.lt_or_gt_of_ne this with h | h
   ·exact .inl (.inl (yY.2 h))
   ·exact .inr (.inr (.inl (yY.2 h)))
theorem yZ : ∀ a b c:aE,bytesLess a b=true→bytesLess b c=true→bytesLess a c=true
 | a,b,[],h1,h2=>by cases b <;> cases h2
 | a,[],z::c,h1,h2=>by cases a <;> cases h1
 | [],y::b,z::c,h1,h2=>rfl
 | x::a,y::b,z::c,h1,h2=>by
  have h1:Go.Op.bytesLess (x::a) (y::b)=true:=h1
  have h2:Go.Op.bytesLess (y::b) (z::c)=true:=h2
  show Go.Op.bytesLess (x::a) (z::c)=true
  simp only [Go.Op.bytesLess,Bool.or_eq_true,Bool.and_eq_true,decide_eq_true_eq,beq_iff_eq]at h1 h2 ⊢
  rcases h1 with e1 | ⟨i1,e1⟩
  ·rcases h2 with e2 | ⟨i2,e2⟩
   ·exact .inl (yY.2 (Nat.lt_trans (yY.1 e1) (yY.1 e2)))
   ·exact .inl (i2 ▸ e1)
  ·rcases h2 with e2 | ⟨i2,e2⟩
   ·exact .inl (i1 ▸ e2)
   ·exact .inr ⟨i1.trans i2,yZ a b c e1 e2⟩
def wj (l:List aE):Prop:=l.Pairwise fun a b=>bytesLess a b=true
theorem sR : ∀ {a b:List aE},wj a→wj b→(∀ x,x∈a↔x∈b)→a=b
 | [],[],_,_,_=>rfl
 | [],y::b,_,_,h=>absurd ((h y).2 List.mem_cons_self) (by simp)
 | x::a,[],_,_,h=>absurd ((h x).1 List.mem_cons_self) (by simp)
 | x::a,y::b,h1,h2,h=>by
  obtain⟨g1,g2⟩:=List.pairwise_cons.1 h1
  obtain⟨g3,g4⟩:=List.pairwise_cons.1 h2
  have e:x=y:=by
   rcases List.mem_cons.1 ((h x).1 List.mem_cons_self)with e | m
   ·exact e
   ·rcases List.mem_cons.1 ((h y).2 List.mem_cons_self)with e | m'
    ·exact e.symm
    ·have:=yZ _ _ _ (g3 x m) (g1 y m');rw [tu]at this;cases this
  subst e
  rw [sR g2 g4 fun z=> ?_]
  constructor
  ·intro m
   rcases List.mem_cons.1 ((h z).1 (List.mem_cons_of_mem _ m))with e | m'
   ·subst e;have:=g1 z m;rw [tu]at this;cases this
   ·exact m'
  ·intro m
   rcases List.mem_cons.1 ((h z).2 (List.mem_cons_of_mem _ m))with e | m'
   ·subst e;have:=g3 z m;rw [tu]at this;cases this
   ·exact m'
theorem qQ (out:List aE) : ∀ (l:List aE) (c:aE) (a:Bool),
 let q:=iD out l c a
 (q.2=false↔a=false∧∀ x∈l,x∈out)∧(q.2=true→((a=true∧q.1=c)∨(q.1∈l∧q.1∉out))∧(a=true→bytesLess c q.1=false)∧∀ x∈l,x∉out→bytesLess x q.1=false)
 | [],c,a=>by
  simp only [iD]
  refine⟨by simp,fun h=>⟨.inl ⟨h,by trivial⟩,fun _=>tu c,fun x m=>(by cases m)⟩⟩
 | s::l,c,a=>by
  simp only [iD]
  by_cases h1:dV out s=true
  ·have m:=(ju _ _).1 h1
   simp only [h1,Bool.not_true,Bool.false_and,Bool.false_eq_true,if_false]
   obtain⟨k1,k2⟩:=qQ out l c a
   refine⟨k1.trans ⟨fun h=>⟨h.1,fun x hx=> ?_⟩,fun h=>⟨h.1,fun x hx=>h.2 x (List.mem_cons_of_mem _ hx)⟩⟩,fun h=> ?_⟩
   ·rcases List.mem_cons.1 hx with rfl | hx
    ·exact m
    ·exact h.2 x hx
   ·obtain⟨g1,g2,g3⟩:=k2 h
    refine⟨g1.imp_right fun h=>⟨List.mem_cons_of_mem _ h.1,h.2⟩,g2,fun x hx hn=> ?_⟩
    rcases List.mem_cons.1 hx with rfl | hx
    ·exact absurd m hn
    ·exact g3 x hx hn
  ·have m:s∉out:=fun m=>h1 ((ju _ _).2 m)
   have mN:dV out s=false:=by simpa using h1
   by_cases h2:(!a || bytesLess s c)=true
   ·simp only [mN,h2,Bool.not_false,Bool.and_self,if_true]
    obtain⟨k1,k2⟩:=qQ out l s true
    refine⟨⟨fun h=>absurd (k1.1 h).1 (by simp),fun h=>absurd (h.2 s List.mem_cons_self) m⟩,fun h=> ?_⟩
    obtain⟨g1,g2,g3⟩:=k2 h
    have g4:=g2 rfl
    refine⟨.inr ?_,fun ha=> ?_,fun x hx hn=> ?_⟩
    ·rcases g1 with ⟨_,e⟩ | g1
     ·rw [e];exact⟨List.mem_cons_self,m⟩
     ·exact⟨List.mem_cons_of_mem _ g1.1,g1.2⟩
    ·have h3:bytesLess s c=true:=by simpa [ha]using h2
     cases hh:bytesLess c (iD out l s true).1
     ·rfl
     ·have:=yZ _ _ _ h3 hh;rw [g4]at this;cases this
    ·rcases List.mem_cons.1 hx with rfl | hx
     ·exact g4
     ·exact g3 x hx hn
   ·have pR:(!a || bytesLess s c)=false:=by simpa using h2
    have ha:a=true:=by cases a <;> simp_all
    have h3:bytesLess s c=false:=by cases a <;> simp_all
    simp only [mN,pR,Bool.not_false,Bool.and_false,Bool.false_eq_true,if_false]
    obtain⟨k1,k2⟩:=qQ out l c a
    refine⟨⟨fun h=>absurd (k1.1 h).1 (by simp [ha]),fun h=>absurd h.1 (by simp [ha])⟩,fun h=> ?_⟩
    obtain⟨g1,g2,g3⟩:=k2 h
    refine⟨g1.imp_right fun h=>⟨List.mem_cons_of_mem _ h.1,h.2⟩,g2,fun x hx hn=> ?_⟩
    rcases List.mem_cons.1 hx with rfl | hx
    ·cases hh:bytesLess x (iD out l c a).1
     ·rfl
     ·have g4:=g2 ha
      rcases tv x c with e | e | e
      ·rw [h3]at e;cases e
      ·subst e;rw [g4]at hh;cases hh
      ·have:=yZ _ _ _ e hh;rw [g4]at this;cases this
    ·exact g3 x hx hn
theorem sS (l:List aE) : ∀ (n:Nat) (out:List aE),wj out→(∀ x∈out,x∈l)→(∀ x∈out,∀ y∈l,y∉out→bytesLess x y=true)→
 wj (jF l n out)∧(∀ x∈jF l n out,x∈l)∧(∀ x∈out,x∈jF l n out)∧((∀ x∈l,x∈jF l n out)∨(jF l n out).length=out.length+n)
 | 0,out,h1,h2,h3=>⟨h1,h2,fun x m=>m, .inr rfl⟩
 | n+1,out,h1,h2,h3=>by
  simp only [jF,DE]
  obtain⟨k1,k2⟩:=qQ out l [] false
  cases hq:(iD out l [] false).2
  ·simp only [Bool.false_eq_true,if_false]
   obtain⟨g1,g2,g3,g4⟩:=sS l n out h1 h2 h3
   exact⟨g1,g2,g3, .inl fun x m=>g3 x ((k1.1 hq).2 x m)⟩
  ·simp only [if_true]
   obtain⟨g1,_,g3⟩:=k2 hq
   have g1:(iD out l [] false).1∈l∧(iD out l [] false).1∉out:=by
    rcases g1 with ⟨h,_⟩ | g1
    ·cases h
    ·exact g1
   generalize (iD out l [] false).1=c at g1 g3
   obtain⟨r1,r2,r3,r4⟩:=sS l n (out++ [c])
    (by
     refine List.pairwise_append.2 ⟨h1,by simp,fun x hx y hy=> ?_⟩
     have:y=c:=by simpa using hy
     subst this
     exact h3 x hx y g1.1 g1.2)
    (fun x hx=>by
     rcases List.mem_append.1 hx with hx | hx
     ·exact h2 x hx
     ·have:x=c:=by simpa using hx
      subst this;exact g1.1)
    (fun x hx y hy hn=>by
     have Wh:y∉out:=fun m=>hn (List.mem_append_left _ m)
     have hyc:y≠c:=fun e=>hn (List.mem_append_right _ (by simp [e]))
     rcases List.mem_append.1 hx with hx | hx
     ·exact h3 x hx y hy Wh
     ·have:x=c:=by simpa using hx
      subst this
      rcases tv x y with h | h | h
      ·exact h
      ·exact absurd h.symm hyc
      ·rw [g3 y hy Wh]at h;cases h)
   refine⟨r1,r2,fun x m=>r3 x (List.mem_append_left _ m),r4.imp_right fun h=> ?_⟩
   rw [h];simp;omega
theorem sv : ∀ (a l:List aE),a.Nodup→(∀ x∈a,x∈l)→a.length≤l.length
 | [],l,_,_=>Nat.zero_le _
 | x::a,l,h,hm=>by
  obtain⟨h1,h2⟩:=List.nodup_cons.1 h
  have m:=hm x List.mem_cons_self
  have:=sv a (l.erase x) h2 fun y hy=>(List.mem_erase_of_ne (fun e=>h1 (by rw [← e];exact hy))).2 (hm y (List.mem_cons_of_mem _ hy))
  rw [List.length_erase_of_mem m]at this
  have:0<l.length:=List.length_pos_of_mem m
  simp only [List.length_cons];omega
theorem mL {l:List aE} (h:wj l):l.Nodup:=h.imp fun {a b} h e=>by subst e;rw [tu]at h;cases h
theorem iE (l:List aE):wj (fD l)∧∀ x,x∈fD l↔x∈l:=by
 obtain⟨h1,h2,h3,h4⟩:=sS l l.length [] List.Pairwise.nil (fun x m=>(by cases m)) (fun x m=>(by cases m))
 refine⟨h1,fun x=>⟨h2 x,fun m=> ?_⟩⟩
 rcases h4 with h4 | h4
 ·exact h4 x m
 ·refine Classical.byContradiction fun hn=> ?_
  have:=sv (x::jF l l.length []) l (List.nodup_cons.2 ⟨hn,mL h1⟩) fun y hy=>by
   rcases List.mem_cons.1 hy with rfl | hy
   ·exact m
   ·exact h2 y hy
  simp only [List.length_cons,h4,List.length_nil]at this
  omega
theorem Ez (zs:List aE) (hs:zs.Pairwise fun a b=>bytesLess b a=false) : ∀ m,m≤zs.length→
 wj (Lib.compactUpTo zs.toArray m)∧(∀ x,x∈Lib.compactUpTo zs.toArray m↔x∈zs.take m):=by
 intro m
 induction m with
 | zero=>intro _;exact⟨by simp [Lib.compactUpTo,wj],fun x=>by simp [Lib.compactUpTo]⟩
 | succ m ih=>
  intro hm
  obtain⟨h1,h2⟩:=ih (by omega)
  have hz:zs[m]? = some zs[m]:=List.getElem?_eq_getElem (by omega)
  have e1:zs.toArray[m]! = zs[m]:=by simp [hm,Nat.lt_of_succ_le hm]
  have et:zs.take (m+1)=zs.take m++ [zs[m]]:=by rw [List.take_add_one,hz];rfl
  rw [Lib.compactUpTo_succ,e1,et]
  by_cases hk:Lib.keeps zs.toArray m=true
  ·rw [if_pos hk]
   refine⟨List.pairwise_append.2 ⟨h1,by simp,fun x hx y hy=> ?_⟩,fun x=>by rw [List.mem_append,List.mem_append,h2]⟩
   have hy:y=zs[m]:=by simpa using hy
   subst hy
   have hx:=(h2 x).1 hx
   simp only [Lib.keeps,decide_eq_true_eq]at hk
   rcases hk with rfl | hk
   ·simp at hx
   ·have Dv:m - 1<zs.length:=by omega
    have e2:zs.toArray[m - 1]! = zs[m - 1]:=by simp [Dv]
    rw [e1,e2]at hk
    have h0:0<m:=by
     cases m with
     | zero=>simp at hx
     | succ m=>omega
    have hle : ∀ i j (hi:i<zs.length) (hj:j<zs.length),i<j→bytesLess zs[j] zs[i] = false:=fun i j hi hj M9=>List.pairwise_iff_getElem.1 hs i j hi hj M9
    have g1:bytesLess zs[m] zs[m - 1] = false:=hle (m - 1) m Dv (by omega) (by omega)
    have g2:bytesLess zs[m - 1] zs[m] = true:=by
     rcases tv zs[m - 1] zs[m]with h | h | h
     ·exact h
     ·exact absurd h.symm hk
     ·rw [g1]at h;cases h
    obtain⟨i,hi,rfl⟩:=List.mem_iff_getElem.1 hx
    rw [List.length_take]at hi
    rw [List.getElem_take]
    by_cases oe:i=m - 1
    ·subst oe;exact g2
    ·have g3:=hle i (m - 1) (by omega) Dv (by omega)
     rcases tv zs[i] zs[m - 1]with h | h | h
     ·exact yZ _ _ _ h g2
     ·rw [h];exact g2
     ·rw [g3]at h;cases h
  ·rw [if_neg hk]
   simp only [List.append_nil]
   refine⟨h1,fun x=> ?_⟩
   rw [h2]
   simp only [Lib.keeps,decide_eq_true_eq,not_or,ne_eq,Decidable.not_not]at hk
   obtain⟨k1,k2⟩:=hk
   have Dv:m - 1<zs.length:=by omega
   have e2:zs.toArray[m - 1]! = zs[m - 1]:=by simp [Dv]
   rw [e1,e2]at k2
   simp only [List.mem_append,List.mem_singleton]
   constructor
   ·exact .inl
   ·rintro(h | rfl)
    ·exact h
    ·rw [k2]
     exact List.mem_iff_getElem.2 ⟨m - 1,by rw [List.length_take];omega,by rw [List.getElem_take]⟩
theorem Bb (l:List aE):(jU l).Pairwise fun a b=>bytesLess b a=false:=by
 have h:=List.pairwise_mergeSort (le:=fun x y:aE=>decide (x≤y)) (fun a b c h1 h2=> ?_) (fun a b=> ?_) l
 ·refine h.imp fun {a b} h=> ?_
  rw [decide_eq_true_eq]at h
  show Go.Op.bytesLess b a=false
  rw [Go.Proofs.bytesLess_eq]
  simpa using h
 ·rw [decide_eq_true_eq]at h1 h2 ⊢
  exact List.le_trans h1 h2
 ·have:=List.le_total a b
  simpa using this
theorem wk (l:List aE):Lib.compact (jU l)=fD l:=by
 obtain⟨h1,h2⟩:=Ez (jU l) (Bb l) (jU l).length (Nat.le_refl _)
 obtain⟨h3,h4⟩:=iE l
 refine sR h1 h3 fun x=> ?_
 rw [h4]
 refine(h2 x).trans ?_
 rw [List.take_length]
 exact(List.mergeSort_perm _ _).mem_iff
end Go.Abs

/-! Tc1 -/

namespace Go.Abs
set_option maxRecDepth 8000
open Go.Proofs
def gL:List Sm→List aE
 | []=> []
 | v::l=>if v.kind==4 then v.proc::gL l else gL l
theorem sT : ∀ l:List Sm,(gL l).length≤l.length
 | []=>Nat.le_refl _
 | v::l=>by
  simp only [gL]
  have:=sT l
  split <;> simp <;> omega
def Pc.calls (f:Pc):List aE:=fD (gL (Sm.fi f.body))
theorem wm {name:aE} : ∀ {l:List Pc} {k:Nat} {f:Pc},gV name l=some f→∃ j,l[j]? = some f∧j9 (fun f:Pc=>f.name==name) (k:Int) l=((k+j:Nat):Int)
 | g::l,k,f,h=>by
  simp only [gV]at h
  cases e:(g.name==name)
  ·rw [e]at h
   simp only [Bool.false_eq_true,if_false]at h
   obtain⟨j,h1,h2⟩:=wm (k:=k+1) h
   refine⟨j+1,by simpa using h1, ?_⟩
   simp only [j9,e,Bool.false_eq_true,if_false]
   rw [show((k:Int)+1)=((k+1:Nat):Int)from rfl,h2]
   congr 1;omega
  ·rw [e]at h
   simp only [if_true,Option.some.injEq]at h
   exact⟨0,by simpa using h,by simp [j9,e]⟩
theorem E6 {p:Pg} (h:p.kK) {name:aE} {f:Pc} (hf:p.find name=some f) (s:St):aA Tryz.prog nH [.dE (jy p) 0, .str name] s (.slice .shared 1 (f.calls.map encStr)) s:=by
 refine aA.pure ?_ (by simp [D.bN,D.ok,zY]) (by simp only [D.ok,Tag.ok,dk];rfl) s
 obtain⟨od,mO,oW⟩:=h.procs
 obtain⟨j,hj,uA⟩:=wm (k:=0) hf
 have uA:p.at name=((j:Nat):Int):=by unfold Pg.at;simpa using uA
 have gQ:=fun s=>Jy (p:=p) (by omega) name s
 rw [uA]at gQ
 obtain⟨it,mz,JV⟩:=L7 hj (by omega)
 have Af:it.length≤900000:=by
  have e:=congrArg List.length mz
  obtain⟨a,b,e',_,_,e3,e4⟩:=(sg p).2 j f hj
  have e5:=sh p
  have e6:=congrArg List.length e3
  rw [e4]at e5
  simp only [List.length_map,List.length_append]at e e5 e6
  omega
 unfold S0
 obtain⟨fn,sj,DB⟩:=yB
 refine aA.intro ⟨fn,sj,DB⟩ (Nat.le_of_ble_eq_true rfl) fun B hB=> ?_
 generalize hQ:ku (⟨[],[]⟩:St).av.length (⟨[],[]⟩:St).ax.length _ _ (⟨[],[]⟩:St)=Q
 have⟨hD,hF,hJ,hP⟩:=bI
 refine Sem.kX ?_
 repeat' (first
 | simp only [go_sem,hD,hF,hJ,hP]
 | (with_reducible first | refine aJ fun hc=> ?_ | refine aK fun hc=> ?_ | refine aL (fun hc=> ?_) fun hc=> ?_) <;> (try simp only [hc,bs, ↓reduceIte]at h) <;> try simp only [hc]
 | (with_reducible refine ay hQ ?_;exact bT)
 | (cases h;done))
 refine Sem.kX ?_
 repeat' (first
 | simp only [go_sem,hD,hF,hJ,hP]
 | (with_reducible first | refine aJ fun hc=> ?_ | refine aK fun hc=> ?_ | refine aL (fun hc=> ?_) fun hc=> ?_) <;> (try simp only [hc,bs, ↓reduceIte]at h) <;> try simp only [hc]
 | (with_reducible refine ay hQ ?_;exact bT)
 | (cases h;done))
 refine Sem.kX ?_
 repeat' (first
 | simp only [go_sem,hD,hF,hJ,hP]
 | (with_reducible refine CU (gQ _) ?_)
 | (with_reducible refine CU (JV _) ?_)
 | (with_reducible first | refine aJ fun hc=> ?_ | refine aK fun hc=> ?_ | refine aL (fun hc=> ?_) fun hc=> ?_) <;> (try simp only [hc,bs, ↓reduceIte]at h) <;> try simp only [hc]
 | (with_reducible refine ay hQ ?_;exact bT)
 | (cases h;done))
 refine bj.mh 5 1 rfl ?_
 simp only [go_sem,hD,hF,hJ,hP]
 obtain⟨R,hR⟩ : ∃ R,R=gL (Sm.fi f.body):=⟨_,rfl⟩
 have Ol:R.length≤900000:=by rw [hR, ← mz];have:=sT (it.map Im.s);rw [List.length_map]at this;omega
 refine cV 0 1 (bj.ind (ι:=List Im×Nat×List aE×Nat) (fun i=>it.drop i.2.1=i.1∧i.2.2.1++gL (i.1.map Im.s)=R∧i.2.2.2=i.2.2.1.length) (fun i=>i.1.length)
  (fun i=> [(5, .slice (.tok 0) 1 (i.2.2.1.map encStr)),(12, .slice .shared 17 (it.map fc)),(13, .int .i64 (it.length:Int)),(14, .int .i64 (i.2.1:Int))]) (fun i=>⟨[],[some i.2.2.2]⟩) ?_ (it,0,[],0) ⟨rfl,by rw [hR,mz];rfl,rfl⟩)
 rintro⟨rest,k,out,n⟩ ⟨h1,h2,h3⟩ IH
 dsimp only at h1 h2 h3
 subst h3
 have l7:out.length≤900000:=by have:=congrArg List.length h2;rw [List.length_append]at this;omega
 cases rest with
 | cons a rest=>
  obtain⟨hF,g2,hD,g4⟩:=drop_cons h1
  have bm:k<4611686018427387904:=by omega
  have hJ:(out.length+1)*17≤bf:=by unfold bf;omega
  simp only [List.map_cons,gL]at h2
  rcases Bool.eq_false_or_eq_true (a.s.kind==4)with c1 | c1
  ·simp only [c1,if_true]at h2
   repeat' (first
 | simp only [go_sem,hD,hF,hJ,hP,c1]
 | (with_reducible first | refine aJ fun hc=> ?_ | refine aK fun hc=> ?_ | refine aL (fun hc=> ?_) fun hc=> ?_) <;> (try simp only [hc,bs, ↓reduceIte]at h) <;> try simp only [hc]
 | (with_reducible refine ay hQ ?_;(try cases h);simp only [az,aB,bc,bd,go_sem,hD,hF,hJ,hP,c1];try exact br)
 | (cases h;done))
   refine cd 0 1 ?_ ?_ (IH (rest,k+1,out++ [a.s.proc],out.length+1) ⟨g2,by rw [← h2];simp,by simp⟩ (Nat.lt_succ_self _))
   ·(simp only [go_sem,hD,hF,hJ,hP,au bm,List.map_append,List.map_cons,List.map_nil,encStr];try exact aZ)
   ·(simp only [go_sem,hD,hF,hJ,hP,au bm,List.map_append,List.map_cons,List.map_nil,encStr];try exact aZ)
  ·simp only [c1,Bool.false_eq_true,if_false]at h2
   repeat' (first
 | simp only [go_sem,hD,hF,hJ,hP,c1]
 | (with_reducible first | refine aJ fun hc=> ?_ | refine aK fun hc=> ?_ | refine aL (fun hc=> ?_) fun hc=> ?_) <;> (try simp only [hc,bs, ↓reduceIte]at h) <;> try simp only [hc]
 | (with_reducible refine ay hQ ?_;(try cases h);simp only [az,aB,bc,bd,go_sem,hD,hF,hJ,hP,c1];try exact br)
 | (cases h;done))
   refine cd 0 1 ?_ ?_ (IH (rest,k+1,out,_) ⟨g2,h2,rfl⟩ (Nat.lt_succ_self _))
   ·(simp only [go_sem,hD,hF,hJ,hP,au bm];try exact aZ)
   ·(simp only [go_sem,hD,hF,hJ,hP,au bm];try exact aZ)
 | nil=>
  have hD:=drop_nil h1
  simp only [List.map_nil,gL,List.append_nil]at h2
  subst h2
  have wg:(jU out).length=out.length:=List.length_mergeSort out
  repeat' (first
 | simp only [go_sem,hD,hF,hJ,hP]
 | (with_reducible first | refine aJ fun hc=> ?_ | refine aK fun hc=> ?_ | refine aL (fun hc=> ?_) fun hc=> ?_) <;> (try simp only [hc,bs, ↓reduceIte]at h) <;> try simp only [hc]
 | (with_reducible refine ay hQ ?_;exact bT)
 | (cases h;done))
  refine Sem.seq (Sem.sort (k:=5) (t:=0) (l:=out) hB (by decide) (by decide) (by decide) rfl rfl (by omega) ?_)
  show Sem _ _ _ _ _ _ _
  refine Sem.seq (Sem.compact (k:=5) (t:=0) (l:=jU out) hB (by decide) rfl (by rw [wg];rfl) (by rw [wg];omega) ?_)
  rw [wk]
  have ME:f.calls=fD out:=by unfold Pc.calls;rw [hR]
  rw [ME]at hQ
  refine gP (ac:= .ret) (Q:=Q) (tm:= [(32, .slice (.tok 0) 1 ((fD out).map encStr)),(4, .slice (.tok 0) 1 ((fD out).map encStr))]) (s:=⟨[],[some (fD out).length]⟩) ?_
  repeat' (first
 | simp only [go_sem,hD,hF,hJ,hP]
 | (with_reducible first | refine aJ fun hc=> ?_ | refine aK fun hc=> ?_ | refine aL (fun hc=> ?_) fun hc=> ?_) <;> (try simp only [hc,bs, ↓reduceIte]at h) <;> try simp only [hc]
 | (with_reducible refine ay hQ ?_;exact bT)
 | (cases h;done))
end Go.Abs

/-! Tc2 -/

namespace Go.Abs
set_option maxRecDepth 8000
open Go.Proofs
theorem DJ {p:Pg} (h:p.kK) (hb:p.may=true) {name:aE} {f:Pc} (hf:p.find name=some f) (s:St):aA Tryz.prog ou [.agg (bP p), .str name] s (.slice .shared 1 (f.calls.map encStr)) s:=by
 refine aA.pure ?_ (by simp [D.bN,D.ok,ie]) (by simp only [D.ok,Tag.ok,dk];rfl) s
 obtain⟨od,mO,oW⟩:=h.procs
 have xc:=fun s=>Ad (p:=p) (by omega) name s
 have si:=(kb hf).1
 have q4:Sm.aP f.body<4611686018427387000:=by have:=Pc.bS si;simp only [Pc.size]at this;omega
 have kd:=fun s=>yO (f:=f) q4 s
 have mz:=(xR hb).1 f si
 have Af:f.flat.length≤201:=f.rz
 simp only [hf,dz,Option.getD_some,Option.isSome_some]at xc
 obtain⟨R,hR⟩ : ∃ R,R=gL (Sm.fi f.body):=⟨_,rfl⟩
 have Ol:R.length≤201:=by rw [hR, ← mz];have:=sT (f.flat.map It.s);rw [List.length_map]at this;omega
 have ME:f.calls=fD R:=by unfold Pc.calls;rw [hR]
 rw [ME]
 unfold S0
 refine aA.go zH rfl fun B Q hB hQ=> ?_
 have⟨hD,hF,hJ,hP⟩:=bI
 repeat' (first
 | simp only [go_sem,hD,hF,hJ,hP]
 | (with_reducible refine CU (xc _) ?_)
 | (with_reducible refine CU (kd _) ?_)
 | (with_reducible first | refine aJ fun hc=> ?_ | refine aK fun hc=> ?_ | refine aL (fun hc=> ?_) fun hc=> ?_) <;> (try simp only [hc,bs, ↓reduceIte]at h) <;> try simp only [hc]
 | (with_reducible refine ay hQ ?_;exact bT)
 | (cases h;done))
 refine bj.mh 7 1 rfl ?_
 simp only [go_sem,hD,hF,hJ,hP]
 refine cV 0 1 (bj.ind (ι:=List It×Nat×List aE×Nat) (fun i=>f.flat.drop i.2.1=i.1∧i.2.2.1++gL (i.1.map It.s)=R∧i.2.2.2=i.2.2.1.length) (fun i=>i.1.length)
  (fun i=> [(7, .slice (.tok 0) 1 (i.2.2.1.map encStr)),(17, .slice .shared 16 (f.flat.map ew)),(18, .int .i64 (f.flat.length:Int)),(19, .int .i64 (i.2.1:Int))]) (fun i=>⟨[],[some i.2.2.2]⟩) ?_ (f.flat,0,[],0) ⟨rfl,by rw [hR,mz];rfl,rfl⟩)
 rintro⟨rest,k,out,n⟩ ⟨h1,h2,h3⟩ IH
 dsimp only at h1 h2 h3
 subst h3
 have l7:out.length≤201:=by have:=congrArg List.length h2;rw [List.length_append]at this;omega
 cases rest with
 | cons a rest=>
  obtain⟨hF,g2,hD,g4⟩:=drop_cons h1
  have bm:k<4611686018427387904:=by omega
  have hJ:(out.length+1)*17≤bf:=by unfold bf;omega
  simp only [List.map_cons,gL]at h2
  rcases Bool.eq_false_or_eq_true (a.s.kind==4)with c1 | c1
  ·simp only [c1,if_true]at h2
   repeat' (first
 | simp only [go_sem,hD,hF,hJ,hP,c1]
 | (with_reducible first | refine aJ fun hc=> ?_ | refine aK fun hc=> ?_ | refine aL (fun hc=> ?_) fun hc=> ?_) <;> (try simp only [hc,bs, ↓reduceIte]at h) <;> try simp only [hc]
 | (with_reducible refine ay hQ ?_;(try cases h);simp only [az,aB,bc,bd,go_sem,hD,hF,hJ,hP,c1];try exact br)
 | (cases h;done))
   refine cd 0 1 ?_ ?_ (IH (rest,k+1,out++ [a.s.proc],out.length+1) ⟨g2,by rw [← h2];simp,by simp⟩ (Nat.lt_succ_self _))
   ·(simp only [go_sem,hD,hF,hJ,hP,au bm,List.map_append,List.map_cons,List.map_nil,encStr];try exact aZ)
   ·(simp only [go_sem,hD,hF,hJ,hP,au bm,List.map_append,List.map_cons,List.map_nil,encStr];try exact aZ)
  ·simp only [c1,Bool.false_eq_true,if_false]at h2
   repeat' (first
 | simp only [go_sem,hD,hF,hJ,hP,c1]
 | (with_reducible first | refine aJ fun hc=> ?_ | refine aK fun hc=> ?_ | refine aL (fun hc=> ?_) fun hc=> ?_) <;> (try simp only [hc,bs, ↓reduceIte]at h) <;> try simp only [hc]
 | (with_reducible refine ay hQ ?_;(try cases h);simp only [az,aB,bc,bd,go_sem,hD,hF,hJ,hP,c1];try exact br)
 | (cases h;done))
   refine cd 0 1 ?_ ?_ (IH (rest,k+1,out,_) ⟨g2,h2,rfl⟩ (Nat.lt_succ_self _))
   ·(simp only [go_sem,hD,hF,hJ,hP,au bm];try exact aZ)
   ·(simp only [go_sem,hD,hF,hJ,hP,au bm];try exact aZ)
 | nil=>
  have hD:=drop_nil h1
  simp only [List.map_nil,gL,List.append_nil]at h2
  subst h2
  have J0:=fun s=>xU (l:=out) (by omega) (.tok 0) s
  repeat' (first
 | simp only [go_sem,hD,hF,hJ,hP]
 | (with_reducible refine CU (J0 _) ?_)
 | (with_reducible first | refine aJ fun hc=> ?_ | refine aK fun hc=> ?_ | refine aL (fun hc=> ?_) fun hc=> ?_) <;> (try simp only [hc,bs, ↓reduceIte]at h) <;> try simp only [hc]
 | (with_reducible refine ay hQ ?_;exact bT)
 | (cases h;done))
theorem Bc {name:aE} : ∀ {l:List Pc},name∈l.map (·.name)→∃ f,gV name l=some f
 | f::l,h=>by
  simp only [gV]
  cases e:(f.name==name)
  ·simp only [Bool.false_eq_true,if_false]
   refine Bc ?_
   rcases List.mem_cons.1 h with h | h
   ·rw [h]at e;simp at e
   ·exact h
  ·exact⟨f,rfl⟩
theorem Bd {p:Pg} {f:Pc} {procs:List aE} : ∀ {l:List Sm},qu p f procs l=none→∀ v∈l,v.known p f procs=true
 | v::l,h,w,m=>by
  simp only [qu]at h
  split at h
  ·rename_i e
   rcases List.mem_cons.1 m with rfl | m
   ·exact e
   ·exact Bd h w m
  ·cases h
theorem Be {p:Pg} {procs:List aE} : ∀ {l:List Pc},((nA p procs l).1==0)=true→∀ f∈l,er (p.globals++f.own)=false∧∀ v∈Sm.fi f.body,v.known p f procs=true
 | g::l,h,f,m=>by
  simp only [nA]at h
  split at h
  ·cases h
  ·rename_i e
   split at h
   ·cases h
   ·rename_i e2
    rcases List.mem_cons.1 m with rfl | m
    ·exact⟨by simpa using e,Bd e2⟩
    ·exact Be h f m
theorem MF {p:Pg} (h:(p.scope.1==0)=true):er p.globals=false∧er p.pn=false∧p.nB=false∧∀ f∈p.procs,er (p.globals++f.own)=false∧∀ v∈Sm.fi f.body,v.known p f p.pn=true:=by
 unfold Pg.scope at h
 split at h
 ·split at h
  ·cases h
  ·rename_i e
   simp only [Bool.or_eq_true,not_or,Bool.not_eq_true]at e
   exact⟨e.1,e.2.1,e.2.2,Be h⟩
 ·cases h
theorem sU {x:aE} : ∀ {l:List Sm},x∈gL l↔∃ v∈l,v.kind=4∧v.proc=x
 | []=>by simp [gL]
 | v::l=>by
  simp only [gL]
  cases e:(v.kind==4)
  ·have:v.kind≠4:=by simpa using e
   simp [this,sU (l:=l)]
  ·have:v.kind=4:=by simpa using e
   simp only [if_true,List.mem_cons,sU (l:=l),exists_eq_or_imp,this,true_and]
   constructor
   ·rintro(h | h)
    ·exact .inl h.symm
    ·exact .inr h
   ·rintro(h | h)
    ·exact .inl h.symm
    ·exact .inr h
theorem J1 {f:Pc} {x:aE} : x∈f.calls↔∃ v∈Sm.fi f.body,v.kind=4∧v.proc=x:=by
 unfold Pc.calls;rw [(iE _).2,sU]
theorem pK {p:Pg} (h:(p.scope.1==0)=true) {f:Pc} (hf:f∈p.procs) {x:aE} (m:x∈f.calls) : ∃ g,p.find x=some g:=by
 obtain⟨v,hv,h4,rfl⟩:=J1.1 m
 have hk:=((MF h).2.2.2 f hf).2 v hv
 simp only [Sm.known,h4,Bool.and_eq_true,Bool.or_eq_true]at hk
 rcases hk.2 with h | ⟨_,h⟩
 ·simp at h
 ·exact Bc ((ju _ _).1 h)
def tw (p:Pg) (x:aE):List aE:=match p.find x with | some f=>f.calls | none=> []
def oL (out:List aE):List aE→List aE
 | []=>out
 | x::l=>oL (jS out x) l
def nL (p:Pg):Nat→Nat→List aE→List aE
 | 0,_,out=>out
 | n+1,i,out=>match out[i]? with
  | some x=>nL p n (i+1) (oL out (tw p x))
  | none=>out
def Pg.work (p:Pg) (name:aE):List aE:=nL p (p.procs.length+1) 0 [name]
def Good (p:Pg) (out:List aE):Prop:=out.Nodup∧∀ x∈out,∃ f,p.find x=some f
theorem Good.len {p:Pg} {out:List aE} (h:Good p out):out.length≤p.procs.length:=by
 have:=sv out p.pn h.1 fun x m=>by
  obtain⟨f,hf⟩:=h.2 x m
  obtain⟨h1,h2⟩:=kb hf
  rw [← h2];exact List.mem_map_of_mem h1
 simpa [Pg.pn]using this
theorem Good.Om {p:Pg} {out:List aE} (h:Good p out) {x:aE} (hx : ∃ f,p.find x=some f):Good p (jS out x):=by
 unfold jS
 split
 ·exact h
 ·rename_i e
  have:x∉out:=fun m=>e ((ju _ _).2 m)
  refine⟨List.nodup_append.2 ⟨h.1,by simp,fun a ha b hb e'=> ?_⟩,fun y hy=> ?_⟩
  ·have hbx:b=x:=by simpa using hb
   rw [e',hbx]at ha;exact this ha
  ·rcases List.mem_append.1 hy with hy | hy
   ·exact h.2 y hy
   ·have:y=x:=by simpa using hy
    subst this;exact hx
theorem Good.add {p:Pg} : ∀ {l out:List aE},Good p out→(∀ x∈l,∃ f,p.find x=some f)→Good p (oL out l)
 | [],out,h,_=>h
 | x::l,out,h,hx=>Good.add (l:=l) (out:=jS out x) (Good.Om h (hx x List.mem_cons_self)) fun y m=>hx y (List.mem_cons_of_mem _ m)
end Go.Abs

/-! Tc3 -/

namespace Go.Abs
set_option maxRecDepth 8000
open Go.Proofs
def J2:Bool→Tag
 | true=> .tok 0
 | false=> .full
def J3:Bool→Nat→List (Option Nat)
 | true,n=> [some n]
 | false,_=> []
theorem cG:J2 true = .tok 0:=rfl
theorem cH:J2 false = .full:=rfl
theorem fl (n:Nat):J3 true n = [some n]:=rfl
theorem fm (n:Nat):J3 false n = []:=rfl
theorem DK {l:List aE} {x:aE} (h:(l.length+1)*17≤bf) {g:Tag} (o:List (List D)) :
 gl 1 16 (.slice .full 1 (l.map encStr)) (.slice g 1 [[.str x]]) ⟨o,[]⟩=some (.slice (.tok 0) 1 (l.map encStr++ [[.str x]]),⟨o,[some (l.length+1)]⟩):=by
 simp [gl,h]
theorem Bf {p:Pg} (h:p.kK) (eY:(p.scope.1==0)=true) {name:aE} {f:Pc} (hf:p.find name=some f) (s:St):aA Tryz.prog nI [.agg (bP p), .str name] s (.slice .shared 1 ((fD (p.work name)).map encStr)) s:=by
 refine aA.pure ?_ (by simp [D.bN,D.ok,ie]) (by simp only [D.ok,Tag.ok,dk];rfl) s
 obtain⟨od,mO,oW⟩:=h.procs
 have hb:=iC eY
 obtain⟨R,hR⟩ : ∃ R,p.work name=R:=⟨_,rfl⟩
 rw [hR]
 unfold Pg.work at hR
 have Se:Good p [name]:=⟨by simp,fun x m=>by
  have:x=name:=by simpa using m
  subst this;exact⟨f,hf⟩⟩
 unfold S0
 refine aA.go yC rfl fun B Q hB hQ=> ?_
 have⟨hD,hF,hJ,hP⟩:=bI
 repeat' (first
 | simp only [go_sem,hD,hF,hJ,hP]
 | (with_reducible first | refine aJ fun hc=> ?_ | refine aK fun hc=> ?_ | refine aL (fun hc=> ?_) fun hc=> ?_) <;> (try simp only [hc,bs, ↓reduceIte]at h) <;> try simp only [hc]
 | (with_reducible refine ay hQ ?_;exact bT)
 | (cases h;done))
 refine cd 1 0 ?_ ?_ (bj.ind (ι:=Nat×Nat×List aE×Bool×Nat) (fun i=>nL p i.1 i.2.1 i.2.2.1=R∧Good p i.2.2.1∧i.1+i.2.1=p.procs.length+1∧i.2.2.2.2=i.2.2.1.length) (fun i=>i.1)
  (fun i=> [(2, .ptr 0 0),(5, .slice (J2 i.2.2.2.1) 1 (i.2.2.1.map encStr)),(6, .int .i64 (i.2.1:Int))]) (fun i=>⟨[bP p],J3 i.2.2.2.1 i.2.2.2.2⟩) ?_ (p.procs.length+1,0,[name],false,1) ⟨hR,Se,rfl,rfl⟩)
 ·(simp only [go_sem,hD,hF,hJ,hP,cH,cG];try exact aZ)
 ·(simp only [go_sem,hD,hF,hJ,hP,cH,cG];try exact aZ)
 rintro⟨n,i,out,b,no⟩ ⟨h1,h2,h3,h4⟩ IH
 dsimp only at h1 h2 h3 h4
 subst h4
 have l7:=h2.len
 cases hx:out[i]? with
 | none=>
  have hD:decide ((i:Int)<(out.length:Int))=false:=by have:=List.getElem?_eq_none_iff.1 hx;simp;omega
  have:R=out:=by
   cases n with
   | zero=>simpa [nL]using h1.symm
   | succ n=>simp only [nL,hx]at h1;exact h1.symm
  subst this
  cases b
  all_goals
   have J0:=fun g s=>xU (l:=R) (by omega) g s
   repeat' (first
 | simp only [go_sem,hD,hF,hJ,hP,cG,cH,fl,fm]
 | (with_reducible refine CU (J0 _ _) ?_)
 | (with_reducible first | refine aJ fun hc=> ?_ | refine aK fun hc=> ?_ | refine aL (fun hc=> ?_) fun hc=> ?_) <;> (try simp only [hc,bs, ↓reduceIte]at h) <;> try simp only [hc]
 | (with_reducible refine ay hQ ?_;(try cases h);simp only [az,aB,bc,bd,go_sem,hD,hF,hJ,hP,cG,cH,fl,fm];try exact br)
 | (cases h;done))
 | some x=>
  have np:=(List.getElem?_eq_some_iff.1 hx).1
  have hD:decide ((i:Int)<(out.length:Int))=true:=by simp;omega
  have oe:i<4611686018427387904:=by omega
  cases n with
  | zero=>omega
  | succ n=>
  simp only [nL,hx]at h1
  obtain⟨g,rA⟩:=h2.2 x (List.mem_of_getElem? hx)
  have za:=(kb rA).1
  have n5:=fun s=>DJ h hb rA s
  have Sf:tw p x=g.calls:=by unfold tw;rw [rA]
  rw [Sf]at h1
  have DL : ∀ y∈g.calls,∃ f,p.find y=some f:=fun y m=>pK eY za m
  have aas:g.calls.length≤p.procs.length:=Good.len ⟨mL (iE _).1,DL⟩
  obtain⟨W,hW⟩ : ∃ W,oL out g.calls=W:=⟨_,rfl⟩
  have hWg:Good p W:=hW ▸ h2.add DL
  rw [hW]at h1
  cases b
  ·repeat' (first
 | simp only [go_sem,hD,hF,hJ,hP,cG,cH,fl,fm,hx]
 | (with_reducible refine CU (n5 _) ?_)
 | (with_reducible first | refine aJ fun hc=> ?_ | refine aK fun hc=> ?_ | refine aL (fun hc=> ?_) fun hc=> ?_) <;> (try simp only [hc,bs, ↓reduceIte]at h) <;> try simp only [hc]
 | (with_reducible refine ay hQ ?_;(try cases h);simp only [az,aB,bc,bd,go_sem,hD,hF,hJ,hP,cG,cH,fl,fm,hx];try exact br)
 | (cases h;done))
   refine cd 1 0 ?_ ?_ (bj.ind (ι:=List aE×Nat×List aE×Bool×Nat) (fun j=>g.calls.drop j.2.1=j.1∧oL j.2.2.1 j.1=W∧Good p j.2.2.1∧j.2.2.2.2=j.2.2.1.length) (fun j=>j.1.length)
    (fun j=> [(2, .ptr 0 0),(5, .slice (J2 j.2.2.2.1) 1 (j.2.2.1.map encStr)),(6, .int .i64 (i:Int)),(22, .slice .shared 1 (g.calls.map encStr)),(23, .int .i64 (g.calls.length:Int)),(24, .int .i64 (j.2.1:Int))]) (fun j=>⟨[bP p],J3 j.2.2.2.1 j.2.2.2.2⟩) ?_ (g.calls,0,out,false,out.length) ⟨rfl,hW,h2,rfl⟩)
   ·(simp only [go_sem,hD,hF,hJ,hP,cH,cG];try exact aZ)
   ·(simp only [go_sem,hD,hF,hJ,hP,cH,cG];try exact aZ)
   clear hW
   rintro⟨rest,k,bh,b',n'⟩ ⟨j1,j2,j3,j4⟩ lW
   dsimp only at j1 j2 j3 j4
   subst j4
   have Sg:=j3.len
   cases rest with
   | nil=>
    have qw:=drop_nil j1
    simp only [oL]at j2
    subst j2
    cases b'
    ·repeat' (first
 | simp only [go_sem,hD,hF,hJ,hP,cG,cH,fl,fm,qw]
 | (with_reducible first | refine aJ fun hc=> ?_ | refine aK fun hc=> ?_ | refine aL (fun hc=> ?_) fun hc=> ?_) <;> (try simp only [hc,bs, ↓reduceIte]at h) <;> try simp only [hc]
 | (with_reducible refine ay hQ ?_;(try cases h);simp only [az,aB,bc,bd,go_sem,hD,hF,hJ,hP,cG,cH,fl,fm,qw];try exact br)
 | (cases h;done))
     refine cd 1 0 ?_ ?_ (IH (n,i+1,bh,false,bh.length) ⟨h1,j3,by dsimp only;omega,rfl⟩ (Nat.lt_succ_self _))
     ·(simp only [go_sem,hD,hF,hJ,hP,cH,cG,au oe];try exact aZ)
     ·(simp only [go_sem,hD,hF,hJ,hP,cH,cG,au oe];try exact aZ)
    ·repeat' (first
 | simp only [go_sem,hD,hF,hJ,hP,cG,cH,fl,fm,qw]
 | (with_reducible first | refine aJ fun hc=> ?_ | refine aK fun hc=> ?_ | refine aL (fun hc=> ?_) fun hc=> ?_) <;> (try simp only [hc,bs, ↓reduceIte]at h) <;> try simp only [hc]
 | (with_reducible refine ay hQ ?_;(try cases h);simp only [az,aB,bc,bd,go_sem,hD,hF,hJ,hP,cG,cH,fl,fm,qw];try exact br)
 | (cases h;done))
     refine cd 1 1 ?_ ?_ (IH (n,i+1,bh,true,_) ⟨h1,j3,by dsimp only;omega,rfl⟩ (Nat.lt_succ_self _))
     ·(simp only [go_sem,hD,hF,hJ,hP,cH,cG,au oe];try exact aZ)
     ·(simp only [go_sem,hD,hF,hJ,hP,cH,cG,au oe];try exact aZ)
   | cons y rest=>
    obtain⟨dN,kg,fK,yW⟩:=drop_cons j1
    have fB:k<4611686018427387904:=by omega
    have hJ:(bh.length+1)*17≤bf:=by unfold bf;omega
    have kh:=fun g s=>xO (l:=bh) (by omega) y g s
    have cU:=fun o=>DK (l:=bh) (x:=y) hJ (g:= .full) o
    have hy:=DL y (List.mem_of_getElem? dN)
    have mg:=j3.Om hy
    simp only [oL]at j2
    rcases Bool.eq_false_or_eq_true (dV bh y)with c1 | c1
    ·simp only [jS,c1,if_true]at j2
     cases b'
     ·repeat' (first
 | simp only [go_sem,hD,hF,hJ,hP,cG,cH,fl,fm,fK,dN,c1]
 | (with_reducible refine CU (kh _ _) ?_)
 | (with_reducible first | refine aJ fun hc=> ?_ | refine aK fun hc=> ?_ | refine aL (fun hc=> ?_) fun hc=> ?_) <;> (try simp only [hc,bs, ↓reduceIte]at h) <;> try simp only [hc]
 | (with_reducible refine ay hQ ?_;(try cases h);simp only [az,aB,bc,bd,go_sem,hD,hF,hJ,hP,cG,cH,fl,fm,fK,dN,c1];try exact br)
 | (cases h;done))
      refine cd 1 0 ?_ ?_ (lW (rest,k+1,bh,false,bh.length) ⟨kg,j2,j3,rfl⟩ (Nat.lt_succ_self _))
      ·(simp only [go_sem,hD,hF,hJ,hP,cH,cG,au fB];try exact aZ)
      ·(simp only [go_sem,hD,hF,hJ,hP,cH,cG,au fB];try exact aZ)
     ·repeat' (first
 | simp only [go_sem,hD,hF,hJ,hP,cG,cH,fl,fm,fK,dN,c1]
 | (with_reducible refine CU (kh _ _) ?_)
 | (with_reducible first | refine aJ fun hc=> ?_ | refine aK fun hc=> ?_ | refine aL (fun hc=> ?_) fun hc=> ?_) <;> (try simp only [hc,bs, ↓reduceIte]at h) <;> try simp only [hc]
 | (with_reducible refine ay hQ ?_;(try cases h);simp only [az,aB,bc,bd,go_sem,hD,hF,hJ,hP,cG,cH,fl,fm,fK,dN,c1];try exact br)
 | (cases h;done))
      refine cd 1 1 ?_ ?_ (lW (rest,k+1,bh,true,_) ⟨kg,j2,j3,rfl⟩ (Nat.lt_succ_self _))
      ·(simp only [go_sem,hD,hF,hJ,hP,cH,cG,au fB];try exact aZ)
      ·(simp only [go_sem,hD,hF,hJ,hP,cH,cG,au fB];try exact aZ)
    ·simp only [jS,c1,Bool.false_eq_true,if_false]at j2 mg
     cases b'
     ·repeat' (first
 | simp only [go_sem,hD,hF,hJ,hP,cG,cH,fl,fm,fK,dN,c1,cU]
 | (with_reducible refine CU (kh _ _) ?_)
 | (with_reducible first | refine aJ fun hc=> ?_ | refine aK fun hc=> ?_ | refine aL (fun hc=> ?_) fun hc=> ?_) <;> (try simp only [hc,bs, ↓reduceIte]at h) <;> try simp only [hc]
 | (with_reducible refine ay hQ ?_;(try cases h);simp only [az,aB,bc,bd,go_sem,hD,hF,hJ,hP,cG,cH,fl,fm,fK,dN,c1,cU];try exact br)
 | (cases h;done))
      refine cd 1 1 ?_ ?_ (lW (rest,k+1,bh++ [y],true,bh.length+1) ⟨kg,j2,mg,by simp⟩ (Nat.lt_succ_self _))
      ·(simp only [go_sem,hD,hF,hJ,hP,cH,cG,au fB,List.map_append,List.map_cons,List.map_nil,encStr];try exact aZ)
      ·(simp only [go_sem,hD,hF,hJ,hP,cH,cG,au fB,List.map_append,List.map_cons,List.map_nil,encStr];try exact aZ)
     ·repeat' (first
 | simp only [go_sem,hD,hF,hJ,hP,cG,cH,fl,fm,fK,dN,c1]
 | (with_reducible refine CU (kh _ _) ?_)
 | (with_reducible first | refine aJ fun hc=> ?_ | refine aK fun hc=> ?_ | refine aL (fun hc=> ?_) fun hc=> ?_) <;> (try simp only [hc,bs, ↓reduceIte]at h) <;> try simp only [hc]
 | (with_reducible refine ay hQ ?_;(try cases h);simp only [az,aB,bc,bd,go_sem,hD,hF,hJ,hP,cG,cH,fl,fm,fK,dN,c1];try exact br)
 | (cases h;done))
      refine cd 1 1 ?_ ?_ (lW (rest,k+1,bh++ [y],true,bh.length+1) ⟨kg,j2,mg,by simp⟩ (Nat.lt_succ_self _))
      ·(simp only [go_sem,hD,hF,hJ,hP,cH,cG,au fB,List.map_append,List.map_cons,List.map_nil,encStr];try exact aZ)
      ·(simp only [go_sem,hD,hF,hJ,hP,cH,cG,au fB,List.map_append,List.map_cons,List.map_nil,encStr];try exact aZ)
  ·repeat' (first
 | simp only [go_sem,hD,hF,hJ,hP,cG,cH,fl,fm,hx]
 | (with_reducible refine CU (n5 _) ?_)
 | (with_reducible first | refine aJ fun hc=> ?_ | refine aK fun hc=> ?_ | refine aL (fun hc=> ?_) fun hc=> ?_) <;> (try simp only [hc,bs, ↓reduceIte]at h) <;> try simp only [hc]
 | (with_reducible refine ay hQ ?_;(try cases h);simp only [az,aB,bc,bd,go_sem,hD,hF,hJ,hP,cG,cH,fl,fm,hx];try exact br)
 | (cases h;done))
   refine cd 1 1 ?_ ?_ (bj.ind (ι:=List aE×Nat×List aE×Bool×Nat) (fun j=>g.calls.drop j.2.1=j.1∧oL j.2.2.1 j.1=W∧Good p j.2.2.1∧j.2.2.2.2=j.2.2.1.length) (fun j=>j.1.length)
    (fun j=> [(2, .ptr 0 0),(5, .slice (J2 j.2.2.2.1) 1 (j.2.2.1.map encStr)),(6, .int .i64 (i:Int)),(22, .slice .shared 1 (g.calls.map encStr)),(23, .int .i64 (g.calls.length:Int)),(24, .int .i64 (j.2.1:Int))]) (fun j=>⟨[bP p],J3 j.2.2.2.1 j.2.2.2.2⟩) ?_ (g.calls,0,out,true,out.length) ⟨rfl,hW,h2,rfl⟩)
   ·(simp only [go_sem,hD,hF,hJ,hP,cH,cG];try exact aZ)
   ·(simp only [go_sem,hD,hF,hJ,hP,cH,cG];try exact aZ)
   clear hW
   rintro⟨rest,k,bh,b',n'⟩ ⟨j1,j2,j3,j4⟩ lW
   dsimp only at j1 j2 j3 j4
   subst j4
   have Sg:=j3.len
   cases rest with
   | nil=>
    have qw:=drop_nil j1
    simp only [oL]at j2
    subst j2
    cases b'
    ·repeat' (first
 | simp only [go_sem,hD,hF,hJ,hP,cG,cH,fl,fm,qw]
 | (with_reducible first | refine aJ fun hc=> ?_ | refine aK fun hc=> ?_ | refine aL (fun hc=> ?_) fun hc=> ?_) <;> (try simp only [hc,bs, ↓reduceIte]at h) <;> try simp only [hc]
 | (with_reducible refine ay hQ ?_;(try cases h);simp only [az,aB,bc,bd,go_sem,hD,hF,hJ,hP,cG,cH,fl,fm,qw];try exact br)
 | (cases h;done))
     refine cd 1 0 ?_ ?_ (IH (n,i+1,bh,false,bh.length) ⟨h1,j3,by dsimp only;omega,rfl⟩ (Nat.lt_succ_self _))
     ·(simp only [go_sem,hD,hF,hJ,hP,cH,cG,au oe];try exact aZ)
     ·(simp only [go_sem,hD,hF,hJ,hP,cH,cG,au oe];try exact aZ)
    ·repeat' (first
 | simp only [go_sem,hD,hF,hJ,hP,cG,cH,fl,fm,qw]
 | (with_reducible first | refine aJ fun hc=> ?_ | refine aK fun hc=> ?_ | refine aL (fun hc=> ?_) fun hc=> ?_) <;> (try simp only [hc,bs, ↓reduceIte]at h) <;> try simp only [hc]
 | (with_reducible refine ay hQ ?_;(try cases h);simp only [az,aB,bc,bd,go_sem,hD,hF,hJ,hP,cG,cH,fl,fm,qw];try exact br)
 | (cases h;done))
     refine cd 1 1 ?_ ?_ (IH (n,i+1,bh,true,_) ⟨h1,j3,by dsimp only;omega,rfl⟩ (Nat.lt_succ_self _))
     ·(simp only [go_sem,hD,hF,hJ,hP,cH,cG,au oe];try exact aZ)
     ·(simp only [go_sem,hD,hF,hJ,hP,cH,cG,au oe];try exact aZ)
   | cons y rest=>
    obtain⟨dN,kg,fK,yW⟩:=drop_cons j1
    have fB:k<4611686018427387904:=by omega
    have hJ:(bh.length+1)*17≤bf:=by unfold bf;omega
    have kh:=fun g s=>xO (l:=bh) (by omega) y g s
    have cU:=fun o=>DK (l:=bh) (x:=y) hJ (g:= .full) o
    have hy:=DL y (List.mem_of_getElem? dN)
    have mg:=j3.Om hy
    simp only [oL]at j2
    rcases Bool.eq_false_or_eq_true (dV bh y)with c1 | c1
    ·simp only [jS,c1,if_true]at j2
     cases b'
     ·repeat' (first
 | simp only [go_sem,hD,hF,hJ,hP,cG,cH,fl,fm,fK,dN,c1]
 | (with_reducible refine CU (kh _ _) ?_)
 | (with_reducible first | refine aJ fun hc=> ?_ | refine aK fun hc=> ?_ | refine aL (fun hc=> ?_) fun hc=> ?_) <;> (try simp only [hc,bs, ↓reduceIte]at h) <;> try simp only [hc]
 | (with_reducible refine ay hQ ?_;(try cases h);simp only [az,aB,bc,bd,go_sem,hD,hF,hJ,hP,cG,cH,fl,fm,fK,dN,c1];try exact br)
 | (cases h;done))
      refine cd 1 0 ?_ ?_ (lW (rest,k+1,bh,false,bh.length) ⟨kg,j2,j3,rfl⟩ (Nat.lt_succ_self _))
      ·(simp only [go_sem,hD,hF,hJ,hP,cH,cG,au fB];try exact aZ)
      ·(simp only [go_sem,hD,hF,hJ,hP,cH,cG,au fB];try exact aZ)
     ·repeat' (first
 | simp only [go_sem,hD,hF,hJ,hP,cG,cH,fl,fm,fK,dN,c1]
 | (with_reducible refine CU (kh _ _) ?_)
 | (with_reducible first | refine aJ fun hc=> ?_ | refine aK fun hc=> ?_ | refine aL (fun hc=> ?_) fun hc=> ?_) <;> (try simp only [hc,bs, ↓reduceIte]at h) <;> try simp only [hc]
 | (with_reducible refine ay hQ ?_;(try cases h);simp only [az,aB,bc,bd,go_sem,hD,hF,hJ,hP,cG,cH,fl,fm,fK,dN,c1];try exact br)
 | (cases h;done))
      refine cd 1 1 ?_ ?_ (lW (rest,k+1,bh,true,_) ⟨kg,j2,j3,rfl⟩ (Nat.lt_succ_self _))
      ·(simp only [go_sem,hD,hF,hJ,hP,cH,cG,au fB];try exact aZ)
      ·(simp only [go_sem,hD,hF,hJ,hP,cH,cG,au fB];try exact aZ)
    ·simp only [jS,c1,Bool.false_eq_true,if_false]at j2 mg
     cases b'
     ·repeat' (first
 | simp only [go_sem,hD,hF,hJ,hP,cG,cH,fl,fm,fK,dN,c1,cU]
 | (with_reducible refine CU (kh _ _) ?_)
 | (with_reducible first | refine aJ fun hc=> ?_ | refine aK fun hc=> ?_ | refine aL (fun hc=> ?_) fun hc=> ?_) <;> (try simp only [hc,bs, ↓reduceIte]at h) <;> try simp only [hc]
 | (with_reducible refine ay hQ ?_;(try cases h);simp only [az,aB,bc,bd,go_sem,hD,hF,hJ,hP,cG,cH,fl,fm,fK,dN,c1,cU];try exact br)
 | (cases h;done))
      refine cd 1 1 ?_ ?_ (lW (rest,k+1,bh++ [y],true,bh.length+1) ⟨kg,j2,mg,by simp⟩ (Nat.lt_succ_self _))
      ·(simp only [go_sem,hD,hF,hJ,hP,cH,cG,au fB,List.map_append,List.map_cons,List.map_nil,encStr];try exact aZ)
      ·(simp only [go_sem,hD,hF,hJ,hP,cH,cG,au fB,List.map_append,List.map_cons,List.map_nil,encStr];try exact aZ)
     ·repeat' (first
 | simp only [go_sem,hD,hF,hJ,hP,cG,cH,fl,fm,fK,dN,c1]
 | (with_reducible refine CU (kh _ _) ?_)
 | (with_reducible first | refine aJ fun hc=> ?_ | refine aK fun hc=> ?_ | refine aL (fun hc=> ?_) fun hc=> ?_) <;> (try simp only [hc,bs, ↓reduceIte]at h) <;> try simp only [hc]
 | (with_reducible refine ay hQ ?_;(try cases h);simp only [az,aB,bc,bd,go_sem,hD,hF,hJ,hP,cG,cH,fl,fm,fK,dN,c1];try exact br)
 | (cases h;done))
      refine cd 1 1 ?_ ?_ (lW (rest,k+1,bh++ [y],true,bh.length+1) ⟨kg,j2,mg,by simp⟩ (Nat.lt_succ_self _))
      ·(simp only [go_sem,hD,hF,hJ,hP,cH,cG,au fB,List.map_append,List.map_cons,List.map_nil,encStr];try exact aZ)
      ·(simp only [go_sem,hD,hF,hJ,hP,cH,cG,au fB,List.map_append,List.map_cons,List.map_nil,encStr];try exact aZ)
end Go.Abs

/-! Bsl -/

namespace Go.Abs
def uk:AI→AI
 | .op d g (.cR z k n ps)=> .op d g (.qT z k n ps)
 | a=>a
section
variable {P:Program}
theorem EA {nt:Nat} {ops:Array Oper} {i:Nat} {o:Oper} {ai:AI} (hi:ops[i]? = some o) (hc:cI P nt ops o=some ai)
 {M:Map} {s:St} {w:World} {tm:Tm} {act:Act} (r:Rel M s w) (jw:Laid M s w) (ht:jJ M s tm act.tmps) {K':Tm→St→Prop} (h:gj P [uk ai] K' tm s)
 {K:Act→World→Prop} {Q:Exit→Act→World→Prop}
 (hK : ∀ d v s1 w1 M1,K' (tm.put ai.dst d) s1→Ext M s w M1 s1 w1→Rel M1 s1 w1→RD M1 s1 d v→K (act.put o.dst v) w1):wpOp P ops Q i K act w:=by
 by_cases hb : ∃ d g z k n ps,ai = .op d g (.cR z k n ps)
 ·obtain⟨d0,g0,z,k,n,ps,rfl⟩:=hb
  obtain⟨g,hg,_,hb⟩:=vB hc
  rw [pS hb]at hK
  simp only [wpOp,hi]
  have skip:K' (tm.put o.dst (.tuple [])) s→K (act.put o.dst Go.undef) w:=fun hk=>hK _ _ _ _ _ hk (Ext.refl M s w) r .undef
  have hd:=pS hb
  simp only [AI.dst]at hd
  subst hd
  have lg:x9 P o=some (.cR z k n ps)∧g0=g:=by
   unfold pk at hb
   split at hb
   ·split at hb
    ·obtain⟨xs,_,h⟩:=map_some hb;cases h
    ·cases hb
   ·obtain⟨xs,_,h⟩:=map_some hb;cases h
   ·split at hb
    ·cases hb
    ·split at hb
     ·rename_i lg
      simp only [Option.some.injEq,AI.op.injEq,true_and]at hb
      obtain⟨h1,h2⟩:=hb
      split at h2
      ·cases h2
      ·cases h2;exact⟨lg,h1.symm⟩
     ·rename_i ao eI lg
      simp only [Option.some.injEq,AI.op.injEq,true_and]at hb
      obtain⟨h1,h2⟩:=hb
      subst h2
      exact⟨lg,h1.symm⟩
     ·cases hb
  obtain⟨lg,rfl⟩:=lg
  simp only [uk,gj]at h
  rcases iw hg ht h with ⟨hw,hA⟩ | ⟨hw,hB⟩
  ·simp only [hw,if_true]
   left
   split at hA
   ·rename_i d s' nZ
    obtain⟨v,w',M',dF,r',hv,e'⟩:=tJ lg r ht nZ
    unfold Oper.wp
    rcases dF with dF | ⟨dF,rfl⟩
    ·rw [dF,Oper.upon_value]
     exact hK _ _ _ _ _ hA e' r' hv
    ·rw [dF,Oper.upon_skip]
     exact hK _ _ _ _ _ hA e' r' hv
   ·exact hA.elim
  ·simp only [hw]
   exact skip hB
 ·have hs:uk ai=ai:=by
   unfold uk
   split
   ·rename_i d g z k n ps;exact absurd ⟨d,g,z,k,n,ps,rfl⟩ hb
   ·rfl
  rw [hs]at h
  exact sG hi hc r jw ht h hK
theorem PF {a:AI} {r:List AI} {K:Tm→St→Prop} {tm:Tm} {s:St} (h:gj P (a::r) K tm s):gj P [a] (gj P r K) tm s:=by
 cases a <;> exact h
theorem Bg {B:fO} {nt:Nat} {ops:Array Oper} {Q:Exit→Tm→St→Prop} : ∀ (l:List Nat) (ol:List Oper) (is:List AI),l.map (ops[·]?)=ol.map some→n9 P nt ops ol=some is→
 ∀ (tm:Tm) (s:St) (act:Act) (w:World),gj P (is.map uk) (Q .normal) tm s→Holds B nt tm s act w→wpOps P ops (mQ B nt Q) l act w
 | [],[],is,_,hc,tm,s,act,w,h,hh=>by cases hc;exact⟨tm,s,h,hh⟩
 | [],_::_,_,hl,_,_,_,_,_,_,_=>by simp at hl
 | _::_,[],_,hl,_,_,_,_,_,_,_=>by simp at hl
 | i::l,o::ol,is,hl,hc,tm,s,act,w,h,hh=>by
  simp only [List.map_cons,List.cons.injEq]at hl
  obtain⟨hi,hl⟩:=hl
  unfold n9 at hc
  split at hc
  ·rename_i ai Ij h1 h2
   cases hc
   obtain⟨M,e,r,ht,hn,hd⟩:=hh
   have nP:=s8 h1
   have hdd:=pT h1
   rw [List.map_cons]at h
   have key:=EA (K:=fun act w=>wpOps P ops (mQ B nt Q) l act w) (Q:=mQ B nt Q) hi h1 r (B.laid.ext e) ht (PF h) (fun d v s1 w1 M1 hk e1 r1 hv=>
    Bg (Q:=Q) l ol Ij hl h2 _ _ _ _ hk (hdd ▸ Holds.put e ht hn hd nP e1 r1 hv))
   simpa only [wpOps,wpOp,hi]using key
  ·cases hc
theorem Sem.swap {B:fO} {nt:Nat} {is:List AI} {Q:Exit→Tm→St→Prop} {tm:Tm} {s:St} (h:jq P B nt (.run (is.map uk)) Q tm s):Sem P B nt (.run is) Q tm s:=by
 intro c hc act w hh
 obtain⟨id,ops,rfl,hi⟩:=jL hc
 refine wp_region ?_
 exact Bg _ _ is (vx ops) hi tm s act w (lx h) hh
end
end Go.Abs

/-! Tc4 -/

namespace Go.Abs
set_option maxRecDepth 8000
open Go.Proofs
theorem HI {l:List aE} (h:l.Nodup):jU l=fD l:=by
 refine sR ?_ (iE l).1 fun x=> ?_
 ·have h1:=Bb l
  have h2:(jU l).Nodup:=(List.mergeSort_perm l _).nodup_iff.2 h
  refine(List.pairwise_and_iff.2 ⟨h1,h2⟩).imp fun {a b} vU=> ?_
  rcases tv a b with e | e | e
  ·exact e
  ·exact absurd e vU.2
  ·rw [vU.1]at e;cases e
 ·rw [(iE l).2];exact(List.mergeSort_perm l _).mem_iff
theorem wo {p:Pg} (eY:(p.scope.1==0)=true) : ∀ (n i:Nat) (out:List aE),Good p out→Good p (nL p n i out)
 | 0,i,out,h=>h
 | n+1,i,out,h=>by
  simp only [nL]
  split
  ·rename_i x hx
   obtain⟨g,hg⟩:=h.2 x (List.mem_of_getElem? hx)
   refine wo eY n _ _ (h.add fun y m=> ?_)
   unfold tw at m
   rw [hg]at m
   exact pK eY (kb hg).1 m
  ·exact h
theorem xV {p:Pg} {name:aE} {f:Pc} (hf:p.find name=some f):Good p [name]:=
 ⟨by simp,fun x m=>by
  have:x=name:=by simpa using m
  subst this;exact⟨f,hf⟩⟩
theorem On {p:Pg} (h:p.kK) (eY:(p.scope.1==0)=true) {name:aE} {f:Pc} (hf:p.find name=some f) (s:St):aA Tryz.prog pF [.dE (jy p) 0, .str name] s (.slice .shared 1 ((fD (p.work name)).map encStr)) s:=by
 refine aA.pure ?_ (by simp [D.bN,D.ok,zY]) (by simp only [D.ok,Tag.ok,dk];rfl) s
 obtain⟨od,mO,oW⟩:=h.procs
 obtain⟨R,hR⟩ : ∃ R,p.work name=R:=⟨_,rfl⟩
 have Wi:Good p R:=hR ▸ wo eY _ _ _ (xV hf)
 rw [hR, ← HI Wi.1]
 unfold Pg.work at hR
 have Se:Good p [name]:=xV hf
 have Ol:=Wi.len
 unfold S0
 obtain⟨fn,sj,DB⟩:=By
 refine aA.intro ⟨fn,sj,DB⟩ (Nat.le_of_ble_eq_true rfl) fun B hB=> ?_
 generalize hQ:ku (⟨[],[]⟩:St).av.length (⟨[],[]⟩:St).ax.length _ _ (⟨[],[]⟩:St)=Q
 have⟨hD,hF,hJ,hP⟩:=bI
 refine Sem.kX ?_
 repeat' (first
 | simp only [go_sem,hD,hF,hJ,hP]
 | (with_reducible first | refine aJ fun hc=> ?_ | refine aK fun hc=> ?_ | refine aL (fun hc=> ?_) fun hc=> ?_) <;> (try simp only [hc,bs, ↓reduceIte]at h) <;> try simp only [hc]
 | (with_reducible refine ay hQ ?_;exact bT)
 | (cases h;done))
 refine Sem.seq (Sem.swap ?_)
 simp only [List.map_cons,List.map_nil,uk]
 repeat' (first
 | simp only [go_sem,hD,hF,hJ,hP]
 | (with_reducible first | refine aJ fun hc=> ?_ | refine aK fun hc=> ?_ | refine aL (fun hc=> ?_) fun hc=> ?_) <;> (try simp only [hc,bs, ↓reduceIte]at h) <;> try simp only [hc]
 | (with_reducible refine ay hQ ?_;exact bT)
 | (cases h;done))
 refine Sem.kX ?_
 repeat' (first
 | simp only [go_sem,hD,hF,hJ,hP]
 | (with_reducible first | refine aJ fun hc=> ?_ | refine aK fun hc=> ?_ | refine aL (fun hc=> ?_) fun hc=> ?_) <;> (try simp only [hc,bs, ↓reduceIte]at h) <;> try simp only [hc]
 | (with_reducible refine ay hQ ?_;exact bT)
 | (cases h;done))
 refine cV 0 1 (bj.ind (ι:=Nat×Nat×List aE×Nat) (fun i=>nL p i.1 i.2.1 i.2.2.1=R∧Good p i.2.2.1∧i.1+i.2.1=p.procs.length+1∧i.2.2.2=i.2.2.1.length) (fun i=>i.1)
  (fun i=> [(0, .dE (jy p) 0),(5, .slice (.tok 0) 1 (i.2.2.1.map encStr)),(6, .int .i64 (i.2.1:Int))]) (fun i=>⟨[],[some i.2.2.2]⟩) ?_ (p.procs.length+1,0,[name],1) ⟨hR,Se,rfl,rfl⟩)
 rintro⟨n,i,out,no⟩ ⟨h1,h2,h3,h4⟩ IH
 dsimp only at h1 h2 h3 h4
 subst h4
 have l7:=h2.len
 cases hx:out[i]? with
 | none=>
  have hD:decide ((i:Int)<(out.length:Int))=false:=by have:=List.getElem?_eq_none_iff.1 hx;simp;omega
  have:R=out:=by
   cases n with
   | zero=>simpa [nL]using h1.symm
   | succ n=>simp only [nL,hx]at h1;exact h1.symm
  subst this
  repeat' (first
 | simp only [go_sem,hD,hF,hJ,hP]
 | (with_reducible first | refine aJ fun hc=> ?_ | refine aK fun hc=> ?_ | refine aL (fun hc=> ?_) fun hc=> ?_) <;> (try simp only [hc,bs, ↓reduceIte]at h) <;> try simp only [hc]
 | (with_reducible refine ay hQ ?_;exact bT)
 | (cases h;done))
  refine Sem.seq (Sem.sort (k:=5) (t:=0) (l:=R) hB (by decide) (by decide) (by decide) rfl rfl (by omega) ?_)
  refine gP (ac:=V2) (Q:=Q) (tm:= [(5, .slice (.tok 0) 1 ((jU R).map encStr))]) (s:=⟨[],[some R.length]⟩) ?_
  repeat' (first
 | simp only [go_sem,hD,hF,hJ,hP]
 | (with_reducible first | refine aJ fun hc=> ?_ | refine aK fun hc=> ?_ | refine aL (fun hc=> ?_) fun hc=> ?_) <;> (try simp only [hc,bs, ↓reduceIte]at h) <;> try simp only [hc]
 | (with_reducible refine ay hQ ?_;exact bT)
 | (cases h;done))
 | some x=>
  have np:=(List.getElem?_eq_some_iff.1 hx).1
  have hD:decide ((i:Int)<(out.length:Int))=true:=by simp;omega
  have oe:i<4611686018427387904:=by omega
  cases n with
  | zero=>omega
  | succ n=>
  simp only [nL,hx]at h1
  obtain⟨g,rA⟩:=h2.2 x (List.mem_of_getElem? hx)
  have za:=(kb rA).1
  have n5:=fun s=>E6 h rA s
  have Sf:tw p x=g.calls:=by unfold tw;rw [rA]
  rw [Sf]at h1
  have DL : ∀ y∈g.calls,∃ f,p.find y=some f:=fun y m=>pK eY za m
  have aas:g.calls.length≤p.procs.length:=Good.len ⟨mL (iE _).1,DL⟩
  obtain⟨W,hW⟩ : ∃ W,oL out g.calls=W:=⟨_,rfl⟩
  rw [hW]at h1
  repeat' (first
 | simp only [go_sem,hD,hF,hJ,hP,hx]
 | (with_reducible refine CU (n5 _) ?_)
 | (with_reducible first | refine aJ fun hc=> ?_ | refine aK fun hc=> ?_ | refine aL (fun hc=> ?_) fun hc=> ?_) <;> (try simp only [hc,bs, ↓reduceIte]at h) <;> try simp only [hc]
 | (with_reducible refine ay hQ ?_;(try cases h);simp only [az,aB,bc,bd,go_sem,hD,hF,hJ,hP,hx];try exact br)
 | (cases h;done))
  refine cV 0 1 (bj.ind (ι:=List aE×Nat×List aE×Nat) (fun j=>g.calls.drop j.2.1=j.1∧oL j.2.2.1 j.1=W∧Good p j.2.2.1∧j.2.2.2=j.2.2.1.length) (fun j=>j.1.length)
   (fun j=> [(0, .dE (jy p) 0),(5, .slice (.tok 0) 1 (j.2.2.1.map encStr)),(6, .int .i64 (i:Int)),(22, .slice .shared 1 (g.calls.map encStr)),(23, .int .i64 (g.calls.length:Int)),(24, .int .i64 (j.2.1:Int))]) (fun j=>⟨[],[some j.2.2.2]⟩) ?_ (g.calls,0,out,out.length) ⟨rfl,hW,h2,rfl⟩)
  clear hW
  rintro⟨rest,k,bh,n'⟩ ⟨j1,j2,j3,j4⟩ lW
  dsimp only at j1 j2 j3 j4
  subst j4
  have Sg:=j3.len
  cases rest with
  | nil=>
   have qw:=drop_nil j1
   simp only [oL]at j2
   subst j2
   repeat' (first
 | simp only [go_sem,hD,hF,hJ,hP,qw]
 | (with_reducible first | refine aJ fun hc=> ?_ | refine aK fun hc=> ?_ | refine aL (fun hc=> ?_) fun hc=> ?_) <;> (try simp only [hc,bs, ↓reduceIte]at h) <;> try simp only [hc]
 | (with_reducible refine ay hQ ?_;(try cases h);simp only [az,aB,bc,bd,go_sem,hD,hF,hJ,hP,qw];try exact br)
 | (cases h;done))
   refine cd 0 1 ?_ ?_ (IH (n,i+1,bh,bh.length) ⟨h1,j3,by dsimp only;omega,rfl⟩ (Nat.lt_succ_self _))
   ·(simp only [go_sem,hD,hF,hJ,hP,au oe];try exact aZ)
   ·(simp only [go_sem,hD,hF,hJ,hP,au oe];try exact aZ)
  | cons y rest=>
   obtain⟨dN,kg,fK,yW⟩:=drop_cons j1
   have fB:k<4611686018427387904:=by omega
   have hJ:(bh.length+1)*17≤bf:=by unfold bf;omega
   have kh:=fun g s=>iV (l:=bh) (by omega) y g s
   have hy:=DL y (List.mem_of_getElem? dN)
   have mg:=j3.Om hy
   simp only [oL]at j2
   rcases Bool.eq_false_or_eq_true (dV bh y)with c1 | c1
   ·simp only [jS,c1,if_true]at j2
    repeat' (first
 | simp only [go_sem,hD,hF,hJ,hP,fK,dN,c1]
 | (with_reducible refine CU (kh _ _) ?_)
 | (with_reducible first | refine aJ fun hc=> ?_ | refine aK fun hc=> ?_ | refine aL (fun hc=> ?_) fun hc=> ?_) <;> (try simp only [hc,bs, ↓reduceIte]at h) <;> try simp only [hc]
 | (with_reducible refine ay hQ ?_;(try cases h);simp only [az,aB,bc,bd,go_sem,hD,hF,hJ,hP,fK,dN,c1];try exact br)
 | (cases h;done))
    refine cd 0 1 ?_ ?_ (lW (rest,k+1,bh,bh.length) ⟨kg,j2,j3,rfl⟩ (Nat.lt_succ_self _))
    ·(simp only [go_sem,hD,hF,hJ,hP,au fB];try exact aZ)
    ·(simp only [go_sem,hD,hF,hJ,hP,au fB];try exact aZ)
   ·simp only [jS,c1,Bool.false_eq_true,if_false]at j2 mg
    repeat' (first
 | simp only [go_sem,hD,hF,hJ,hP,fK,dN,c1]
 | (with_reducible refine CU (kh _ _) ?_)
 | (with_reducible first | refine aJ fun hc=> ?_ | refine aK fun hc=> ?_ | refine aL (fun hc=> ?_) fun hc=> ?_) <;> (try simp only [hc,bs, ↓reduceIte]at h) <;> try simp only [hc]
 | (with_reducible refine ay hQ ?_;(try cases h);simp only [az,aB,bc,bd,go_sem,hD,hF,hJ,hP,fK,dN,c1];try exact br)
 | (cases h;done))
    refine cd 0 1 ?_ ?_ (lW (rest,k+1,bh++ [y],bh.length+1) ⟨kg,j2,mg,by simp⟩ (Nat.lt_succ_self _))
    ·(simp only [go_sem,hD,hF,hJ,hP,au fB,List.map_append,List.map_cons,List.map_nil,encStr];try exact aZ)
    ·(simp only [go_sem,hD,hF,hJ,hP,au fB,List.map_append,List.map_cons,List.map_nil,encStr];try exact aZ)
end Go.Abs

/-! Tc5 -/

namespace Go.Abs
set_option maxRecDepth 8000
open Go.Proofs
theorem DM (name:aE) : ∀ l:List Pc,l.any (fun f=>f.name==name)=(gV name l).isSome
 | []=>rfl
 | f::l=>by
  simp only [List.any_cons,gV]
  cases e:(f.name==name)
  ·simp [DM name l]
  ·simp
theorem MG (name:aE) (f:Pc):aA Tryz.prog lU ([.agg (bV f)]++ [.ptr 0 0]) ⟨[[.str name]],[]⟩ (.bool (f.name==name)) ⟨[[.str name]],[]⟩:=by
 show aA Tryz.prog lU [.agg (bV f), .ptr 0 0] _ _ _
 refine aA.go wR rfl fun B Q hB hQ=> ?_
 have⟨hD,hF,hJ,hP⟩:=bI
 repeat' (first
 | simp only [go_sem,hD,hF,hJ,hP]
 | (with_reducible first | refine aJ fun hc=> ?_ | refine aK fun hc=> ?_ | refine aL (fun hc=> ?_) fun hc=> ?_) <;> (try simp only [hc,bs, ↓reduceIte]at h) <;> try simp only [hc]
 | (with_reducible refine ay hQ ?_;exact bT)
 | (cases h;done))
def Pg.k8 (p:Pg) (name:aE):Option Pc:=if p.scope.1==0 then p.find name else none
theorem xW {p:Pg} (h:p.kK) (name:aE) (s:St):aA Tryz.prog ll [.agg (bP p), .str name] s (.bool (p.k8 name).isSome) s:=by
 refine aA.pure ?_ (by simp [D.bN,D.ok,ie]) rfl s
 obtain⟨od,mO,oW⟩:=h.procs
 have EG:=fun s=>My h s
 have hi:=fun {s:St} {o:Nat} (ho:s.av[o]? = some [.str name])=>vT (uX (l:=p.procs) (f:=lU) (row:= [.str name]) (b:=fun f:Pc=>f.name==name) (by omega) rfl (by with_unfolding_all rfl) (fun x _=>MG name x)) rfl (BV _) rfl ho
 have gO:=fun {s:St} {o:Nat} (ho:s.av[o]? = some [.str name])=>(show aA Tryz.prog fy [.slice .shared 5 (p.procs.map bV), .fA 77 [.ptr o 0]] s (.bool (p.procs.any fun f:Pc=>f.name==name)) s from hi ho)
 simp only [DM]at gO
 unfold Pg.k8 Pg.find
 unfold S0
 rcases Bool.eq_false_or_eq_true (p.scope.1==0)with b1 | b1
 ·simp only [b1,if_true]
  refine aA.go sb rfl fun B Q hB hQ=> ?_
  have⟨hD,hF,hJ,hP⟩:=bI
  repeat' (first
 | simp only [go_sem,hD,hF,hJ,hP,b1]
 | (with_reducible refine CU (EG _) ?_)
 | (with_reducible refine CU (gO (by with_unfolding_all rfl)) ?_)
 | (with_reducible first | refine aJ fun hc=> ?_ | refine aK fun hc=> ?_ | refine aL (fun hc=> ?_) fun hc=> ?_) <;> (try simp only [hc,bs, ↓reduceIte]at h) <;> try simp only [hc]
 | (with_reducible refine ay hQ ?_;(try cases h);simp only [az,aB,bc,bd,go_sem,hD,hF,hJ,hP,b1];try exact br)
 | (cases h;done))
 ·simp only [b1,Bool.false_eq_true,if_false,Option.isSome_none]
  refine aA.go sb rfl fun B Q hB hQ=> ?_
  have⟨hD,hF,hJ,hP⟩:=bI
  repeat' (first
 | simp only [go_sem,hD,hF,hJ,hP,b1]
 | (with_reducible refine CU (EG _) ?_)
 | (with_reducible refine CU (gO (by with_unfolding_all rfl)) ?_)
 | (with_reducible first | refine aJ fun hc=> ?_ | refine aK fun hc=> ?_ | refine aL (fun hc=> ?_) fun hc=> ?_) <;> (try simp only [hc,bs, ↓reduceIte]at h) <;> try simp only [hc]
 | (with_reducible refine ay hQ ?_;(try cases h);simp only [az,aB,bc,bd,go_sem,hD,hF,hJ,hP,b1];try exact br)
 | (cases h;done))
def Pg.nC (p:Pg) (name:aE):List aE:=match p.k8 name with | some f=>f.calls | none=> []
def Pg.kc (p:Pg) (name:aE):List aE:=match p.k8 name with | some _=>fD (p.work name) | none=> []
theorem jV {p:Pg} {name:aE} {f:Pc} (h:p.k8 name=some f):(p.scope.1==0)=true∧p.find name=some f:=by
 unfold Pg.k8 at h
 split at h
 ·exact⟨by assumption,h⟩
 ·cases h
theorem uR {p:Pg} (h:p.kK) (name:aE) (s:St):aA Tryz.prog nG [.agg (bP p), .str name] s (.slice .shared 1 ((p.nC name).map encStr)) s:=by
 refine aA.pure ?_ (by simp [D.bN,D.ok,ie]) (by simp only [D.ok,Tag.ok,dk];rfl) s
 obtain⟨od,mO,oW⟩:=h.procs
 have hk:=fun s=>xW h name s
 have dI:=fun s=>BX (p:=p) (by omega) s
 unfold Pg.nC
 unfold S0
 cases iF:p.k8 name with
 | none=>
  simp only [iF,Option.isSome_none]at hk
  simp only [List.map_nil]
  refine aA.go rZ rfl fun B Q hB hQ=> ?_
  have⟨hD,hF,hJ,hP⟩:=bI
  repeat' (first
 | simp only [go_sem,hD,hF,hJ,hP]
 | (with_reducible refine CU (hk _) ?_)
 | (with_reducible first | refine aJ fun hc=> ?_ | refine aK fun hc=> ?_ | refine aL (fun hc=> ?_) fun hc=> ?_) <;> (try simp only [hc,bs, ↓reduceIte]at h) <;> try simp only [hc]
 | (with_reducible refine ay hQ ?_;exact bT)
 | (cases h;done))
 | some f=>
  obtain⟨eY,hf⟩:=jV iF
  have n5:=fun s=>E6 h hf s
  simp only [iF,Option.isSome_some]at hk
  refine aA.go rZ rfl fun B Q hB hQ=> ?_
  have⟨hD,hF,hJ,hP⟩:=bI
  repeat' (first
 | simp only [go_sem,hD,hF,hJ,hP]
 | (with_reducible refine CU (hk _) ?_)
 | (with_reducible refine CU (dI _) ?_)
 | (with_reducible refine CU (n5 _) ?_)
 | (with_reducible first | refine aJ fun hc=> ?_ | refine aK fun hc=> ?_ | refine aL (fun hc=> ?_) fun hc=> ?_) <;> (try simp only [hc,bs, ↓reduceIte]at h) <;> try simp only [hc]
 | (with_reducible refine ay hQ ?_;exact bT)
 | (cases h;done))
theorem xg {p:Pg} (h:p.kK) (name:aE) (s:St):aA Tryz.prog pD [.agg (bP p), .str name] s (.slice .shared 1 ((p.kc name).map encStr)) s:=by
 refine aA.pure ?_ (by simp [D.bN,D.ok,ie]) (by simp only [D.ok,Tag.ok,dk];rfl) s
 obtain⟨od,mO,oW⟩:=h.procs
 have hk:=fun s=>xW h name s
 have dI:=fun s=>BX (p:=p) (by omega) s
 unfold Pg.kc
 unfold S0
 cases iF:p.k8 name with
 | none=>
  simp only [iF,Option.isSome_none]at hk
  simp only [List.map_nil]
  refine aA.go uG rfl fun B Q hB hQ=> ?_
  have⟨hD,hF,hJ,hP⟩:=bI
  repeat' (first
 | simp only [go_sem,hD,hF,hJ,hP]
 | (with_reducible refine CU (hk _) ?_)
 | (with_reducible first | refine aJ fun hc=> ?_ | refine aK fun hc=> ?_ | refine aL (fun hc=> ?_) fun hc=> ?_) <;> (try simp only [hc,bs, ↓reduceIte]at h) <;> try simp only [hc]
 | (with_reducible refine ay hQ ?_;exact bT)
 | (cases h;done))
 | some f=>
  obtain⟨eY,hf⟩:=jV iF
  have n5:=fun s=>On h eY hf s
  simp only [iF,Option.isSome_some]at hk
  refine aA.go uG rfl fun B Q hB hQ=> ?_
  have⟨hD,hF,hJ,hP⟩:=bI
  repeat' (first
 | simp only [go_sem,hD,hF,hJ,hP]
 | (with_reducible refine CU (hk _) ?_)
 | (with_reducible refine CU (dI _) ?_)
 | (with_reducible refine CU (n5 _) ?_)
 | (with_reducible first | refine aJ fun hc=> ?_ | refine aK fun hc=> ?_ | refine aL (fun hc=> ?_) fun hc=> ?_) <;> (try simp only [hc,bs, ↓reduceIte]at h) <;> try simp only [hc]
 | (with_reducible refine ay hQ ?_;exact bT)
 | (cases h;done))
theorem DN {p:Pg} (h:p.kK) (name:aE) (s:St):aA Tryz.prog rh [.agg (bP p), .str name] s (.slice .shared 1 ((p.nC name).map encStr)) s:=by
 refine aA.pure ?_ (by simp [D.bN,D.ok,ie]) (by simp only [D.ok,Tag.ok,dk];rfl) s
 obtain⟨od,mO,oW⟩:=h.procs
 have gQ:=fun s=>Ae (p:=p) (pJ h) (by omega) name s
 have oM:=fun s=>xT h s
 have b0:(p.scope.1 != 0) = !(p.scope.1==0):=rfl
 unfold Pg.nC
 unfold S0
 cases iF:p.k8 name with
 | some f=>
  obtain⟨eY,hf⟩:=jV iF
  have n5:=fun s=>DJ h (iC eY) hf s
  simp only [iC eY,if_true,hf,dz,Option.getD_some,Option.isSome_some]at gQ
  rw [eY]at b0
  refine aA.go mH rfl fun B Q hB hQ=> ?_
  have⟨hD,hF,hJ,hP⟩:=bI
  repeat' (first
 | simp only [go_sem,hD,hF,hJ,hP,b0,Bool.not_true]
 | (with_reducible refine CU (gQ _) ?_)
 | (with_reducible refine CU (oM _) ?_)
 | (with_reducible refine CU (n5 _) ?_)
 | (with_reducible first | refine aJ fun hc=> ?_ | refine aK fun hc=> ?_ | refine aL (fun hc=> ?_) fun hc=> ?_) <;> (try simp only [hc,bs, ↓reduceIte]at h) <;> try simp only [hc]
 | (with_reducible refine ay hQ ?_;(try cases h);simp only [az,aB,bc,bd,go_sem,hD,hF,hJ,hP,b0,Bool.not_true];try exact br)
 | (cases h;done))
 | none=>
  simp only [List.map_nil]
  rcases Bool.eq_false_or_eq_true (p.scope.1==0)with eY | eY
  ·have hf:p.find name=none:=by unfold Pg.k8 at iF;rw [if_pos eY]at iF;exact iF
   simp only [iC eY,if_true,hf,dz,Option.getD_none,Option.isSome_none]at gQ
   refine aA.go mH rfl fun B Q hB hQ=> ?_
   have⟨hD,hF,hJ,hP⟩:=bI
   repeat' (first
 | simp only [go_sem,hD,hF,hJ,hP]
 | (with_reducible refine CU (gQ _) ?_)
 | (with_reducible refine CU (oM _) ?_)
 | (with_reducible first | refine aJ fun hc=> ?_ | refine aK fun hc=> ?_ | refine aL (fun hc=> ?_) fun hc=> ?_) <;> (try simp only [hc,bs, ↓reduceIte]at h) <;> try simp only [hc]
 | (with_reducible refine ay hQ ?_;exact bT)
 | (cases h;done))
  ·rw [eY]at b0
   obtain⟨r,vt⟩ : ∃ r,(if p.may=true then p.find name else none)=r:=⟨_,rfl⟩
   rw [vt]at gQ
   cases r with
   | none=>
    simp only [dz,Option.getD_none,Option.isSome_none]at gQ
    refine aA.go mH rfl fun B Q hB hQ=> ?_
    have⟨hD,hF,hJ,hP⟩:=bI
    repeat' (first
 | simp only [go_sem,hD,hF,hJ,hP,b0,Bool.not_false]
 | (with_reducible refine CU (gQ _) ?_)
 | (with_reducible refine CU (oM _) ?_)
 | (with_reducible first | refine aJ fun hc=> ?_ | refine aK fun hc=> ?_ | refine aL (fun hc=> ?_) fun hc=> ?_) <;> (try simp only [hc,bs, ↓reduceIte]at h) <;> try simp only [hc]
 | (with_reducible refine ay hQ ?_;(try cases h);simp only [az,aB,bc,bd,go_sem,hD,hF,hJ,hP,b0,Bool.not_false];try exact br)
 | (cases h;done))
   | some g=>
    simp only [dz,Option.getD_some,Option.isSome_some]at gQ
    refine aA.go mH rfl fun B Q hB hQ=> ?_
    have⟨hD,hF,hJ,hP⟩:=bI
    repeat' (first
 | simp only [go_sem,hD,hF,hJ,hP,b0,Bool.not_false]
 | (with_reducible refine CU (gQ _) ?_)
 | (with_reducible refine CU (oM _) ?_)
 | (with_reducible first | refine aJ fun hc=> ?_ | refine aK fun hc=> ?_ | refine aL (fun hc=> ?_) fun hc=> ?_) <;> (try simp only [hc,bs, ↓reduceIte]at h) <;> try simp only [hc]
 | (with_reducible refine ay hQ ?_;(try cases h);simp only [az,aB,bc,bd,go_sem,hD,hF,hJ,hP,b0,Bool.not_false];try exact br)
 | (cases h;done))
theorem BO {p:Pg} (h:p.kK) (name:aE) (s:St):aA Tryz.prog qj [.agg (bP p), .str name] s (.slice .shared 1 ((p.kc name).map encStr)) s:=by
 refine aA.pure ?_ (by simp [D.bN,D.ok,ie]) (by simp only [D.ok,Tag.ok,dk];rfl) s
 obtain⟨od,mO,oW⟩:=h.procs
 have gQ:=fun s=>Ae (p:=p) (pJ h) (by omega) name s
 have oM:=fun s=>xT h s
 have b0:(p.scope.1 != 0) = !(p.scope.1==0):=rfl
 unfold Pg.kc
 unfold S0
 cases iF:p.k8 name with
 | some f=>
  obtain⟨eY,hf⟩:=jV iF
  have n5:=fun s=>Bf h eY hf s
  simp only [iC eY,if_true,hf,dz,Option.getD_some,Option.isSome_some]at gQ
  rw [eY]at b0
  refine aA.go lV rfl fun B Q hB hQ=> ?_
  have⟨hD,hF,hJ,hP⟩:=bI
  repeat' (first
 | simp only [go_sem,hD,hF,hJ,hP,b0,Bool.not_true]
 | (with_reducible refine CU (gQ _) ?_)
 | (with_reducible refine CU (oM _) ?_)
 | (with_reducible refine CU (n5 _) ?_)
 | (with_reducible first | refine aJ fun hc=> ?_ | refine aK fun hc=> ?_ | refine aL (fun hc=> ?_) fun hc=> ?_) <;> (try simp only [hc,bs, ↓reduceIte]at h) <;> try simp only [hc]
 | (with_reducible refine ay hQ ?_;(try cases h);simp only [az,aB,bc,bd,go_sem,hD,hF,hJ,hP,b0,Bool.not_true];try exact br)
 | (cases h;done))
 | none=>
  simp only [List.map_nil]
  rcases Bool.eq_false_or_eq_true (p.scope.1==0)with eY | eY
  ·have hf:p.find name=none:=by unfold Pg.k8 at iF;rw [if_pos eY]at iF;exact iF
   simp only [iC eY,if_true,hf,dz,Option.getD_none,Option.isSome_none]at gQ
   refine aA.go lV rfl fun B Q hB hQ=> ?_
   have⟨hD,hF,hJ,hP⟩:=bI
   repeat' (first
 | simp only [go_sem,hD,hF,hJ,hP]
 | (with_reducible refine CU (gQ _) ?_)
 | (with_reducible refine CU (oM _) ?_)
 | (with_reducible first | refine aJ fun hc=> ?_ | refine aK fun hc=> ?_ | refine aL (fun hc=> ?_) fun hc=> ?_) <;> (try simp only [hc,bs, ↓reduceIte]at h) <;> try simp only [hc]
 | (with_reducible refine ay hQ ?_;exact bT)
 | (cases h;done))
  ·rw [eY]at b0
   obtain⟨r,vt⟩ : ∃ r,(if p.may=true then p.find name else none)=r:=⟨_,rfl⟩
   rw [vt]at gQ
   cases r with
   | none=>
    simp only [dz,Option.getD_none,Option.isSome_none]at gQ
    refine aA.go lV rfl fun B Q hB hQ=> ?_
    have⟨hD,hF,hJ,hP⟩:=bI
    repeat' (first
 | simp only [go_sem,hD,hF,hJ,hP,b0,Bool.not_false]
 | (with_reducible refine CU (gQ _) ?_)
 | (with_reducible refine CU (oM _) ?_)
 | (with_reducible first | refine aJ fun hc=> ?_ | refine aK fun hc=> ?_ | refine aL (fun hc=> ?_) fun hc=> ?_) <;> (try simp only [hc,bs, ↓reduceIte]at h) <;> try simp only [hc]
 | (with_reducible refine ay hQ ?_;(try cases h);simp only [az,aB,bc,bd,go_sem,hD,hF,hJ,hP,b0,Bool.not_false];try exact br)
 | (cases h;done))
   | some g=>
    simp only [dz,Option.getD_some,Option.isSome_some]at gQ
    refine aA.go lV rfl fun B Q hB hQ=> ?_
    have⟨hD,hF,hJ,hP⟩:=bI
    repeat' (first
 | simp only [go_sem,hD,hF,hJ,hP,b0,Bool.not_false]
 | (with_reducible refine CU (gQ _) ?_)
 | (with_reducible refine CU (oM _) ?_)
 | (with_reducible first | refine aJ fun hc=> ?_ | refine aK fun hc=> ?_ | refine aL (fun hc=> ?_) fun hc=> ?_) <;> (try simp only [hc,bs, ↓reduceIte]at h) <;> try simp only [hc]
 | (with_reducible refine ay hQ ?_;(try cases h);simp only [az,aB,bc,bd,go_sem,hD,hF,hJ,hP,b0,Bool.not_false];try exact br)
 | (cases h;done))
end Go.Abs

/-! Tc6 -/

namespace Go.Abs
set_option maxRecDepth 8000
open Go.Proofs
def lX (p:Pg) (out:List aE):List aE→List aE
 | []=>out
 | v::l=>lX p (if dV p.globals v then out++ [v]else out) l
def lY (p:Pg) (out:List aE):List Sm→List aE
 | []=>out
 | v::l=>lY p (lX p out v.said) l
def oN (p:Pg) (n:aE):List Sm:=match p.find n with | some f=>Sm.fi f.body | none=> []
def nM (p:Pg) (out:List aE):List aE→List aE
 | []=>out
 | n::l=>nM p (lY p out (oN p n)) l
theorem pg (p:Pg) : ∀ (l out:List aE),out.length≤(lX p out l).length∧(lX p out l).length≤out.length+l.length
 | [],out=>⟨Nat.le_refl _,Nat.le_refl _⟩
 | v::l,out=>by
  simp only [lX]
  have h:=pg p l (if dV p.globals v then out++ [v]else out)
  have h2:out.length≤(if dV p.globals v then out++ [v]else out).length∧(if dV p.globals v then out++ [v]else out).length≤out.length+1:=by split <;> simp
  simp only [List.length_cons]
  omega
def lZ:List Sm→Nat
 | []=>0
 | v::l=>v.said.length+lZ l
theorem wq : ∀ a b:List Sm,lZ (a++b)=lZ a+lZ b
 | [],b=>by simp [lZ]
 | v::a,b=>by simp only [List.cons_append,lZ,wq a b];omega
theorem PG (v:Sm):v.said.length≤1+v.x.size+2*Ar.aP v.args:=by
 have : ∀ (l:List Ar) (out:List aE),(Ar.said out l).length≤out.length+2*Ar.aP l:=by
  intro l
  induction l with
  | nil=>intro out;simp [Ar.said]
  | cons a l ih=>
   intro out
   simp only [Ar.said,Ar.aP]
   refine Nat.le_trans (ih _) ?_
   have:=fp a.x
   have:1≤a.x.size:=by obtain⟨_,_,_,_⟩:=a.x;simp [Ex.size]
   simp only [List.length_append]
   split <;> simp <;> omega
 have h1:=this v.args (v.oI++v.x.names)
 have h2:=fp v.x
 have h4:v.oI.length≤1:=by unfold Sm.oI;split <;> simp
 simp only [List.length_append]at h1
 unfold Sm.said
 omega
mutual
theorem J4 : ∀ s:Sm,lZ s.pre≤2*s.size
 | ⟨id,kind,labels,name,proc,x,has,args,bk,aY⟩=>by
  simp only [Sm.pre,lZ,wq,Sm.size]
  have h1:=PG ⟨id,kind,labels,name,proc,x,has,args,bk,aY⟩
  have h2:=qR bk
  have h3:=qR aY
  dsimp only at h1
  omega
theorem qR : ∀ l:List Sm,lZ (Sm.fi l)≤2*Sm.aP l
 | []=>by simp [Sm.fi,lZ,Sm.aP]
 | s::l=>by
  simp only [Sm.fi,wq,Sm.aP]
  have:=J4 s;have:=qR l;omega
end
theorem ph (p:Pg) : ∀ (l:List Sm) (out:List aE),out.length≤(lY p out l).length∧(lY p out l).length≤out.length+lZ l
 | [],out=>⟨Nat.le_refl _,Nat.le_refl _⟩
 | v::l,out=>by
  simp only [lY,lZ]
  have h:=ph p l (lX p out v.said)
  have h2:=pg p v.said out
  omega
theorem pj {p:Pg} (h:p.kK) : ∀ (l out:List aE),out.length≤(nM p out l).length∧(nM p out l).length≤out.length+l.length*1800000
 | [],out=>⟨Nat.le_refl _,by simp [nM]⟩
 | n::l,out=>by
  simp only [nM]
  have h1:=pj h l (lY p out (oN p n))
  have h2:=ph p (oN p n) out
  have h3:lZ (oN p n)≤1800000:=by
   unfold oN
   split
   ·rename_i f hf
    have:=qR f.body
    have h4:=Pc.bS (kb hf).1
    have h5:=h.procs.2.1
    simp only [Pc.size]at h4
    omega
   ·simp [lZ]
  simp only [List.length_cons]
  omega
theorem Bh {p:Pg} (h:p.may=true):p.procs.length≤16:=by
 unfold Pg.may at h
 split at h
 ·cases h
 ·rename_i c
  simp only [Bool.or_eq_true,decide_eq_true_eq,not_or,Int.not_lt,gt_iff_lt]at c
  have:=c.1.2
  omega
def Pg.mC (p:Pg) (name:aE):List aE:=nM p [] (fD (p.work name))
def Pg.nD (p:Pg) (name:aE):List aE:=match p.k8 name with | some _=>fD (p.mC name) | none=> []
theorem um {p:Pg} (eY:(p.scope.1==0)=true) {name:aE} {f:Pc} (hf:p.find name=some f):Good p (fD (p.work name)):=by
 have h:=wo eY (p.procs.length+1) 0 [name] (xV hf)
 refine⟨mL (iE _).1,fun x m=>h.2 x ?_⟩
 exact((iE _).2 x).1 m
theorem HJ {p:Pg} (h:p.kK) (eY:(p.scope.1==0)=true) {name:aE} {f:Pc} (hf:p.find name=some f) (s:St):aA Tryz.prog pd [.agg (bP p), .str name] s (.slice .shared 1 ((fD (p.mC name)).map encStr)) s:=by
 refine aA.pure ?_ (by simp [D.bN,D.ok,ie]) (by simp only [D.ok,Tag.ok,dk];rfl) s
 have hb:=iC eY
 obtain⟨od,mO,oW⟩:=h.procs
 have hN:=um eY hf
 obtain⟨N,DO⟩ : ∃ N,fD (p.work name)=N:=⟨_,rfl⟩
 rw [DO]at hN
 have hNl:=hN.len
 obtain⟨R,hR⟩ : ∃ R,p.mC name=R:=⟨_,rfl⟩
 rw [hR]
 unfold Pg.mC at hR
 rw [DO]at hR
 have Ol:R.length≤28800000:=by
  have:=(pj h N []).2
  rw [hR]at this
  have h4:=Bh (iC eY)
  have h3:N.length*1800000≤16*1800000:=Nat.mul_le_mul_right _ (by omega)
  simp only [List.length_nil]at this
  omega
 have n5:=fun s=>Bf h eY hf s
 simp only [DO]at n5
 unfold S0
 refine aA.go xI rfl fun B Q hB hQ=> ?_
 have⟨hD,hF,hJ,hP⟩:=bI
 repeat' (first
 | simp only [go_sem,hD,hF,hJ,hP]
 | (with_reducible refine CU (n5 _) ?_)
 | (with_reducible first | refine aJ fun hc=> ?_ | refine aK fun hc=> ?_ | refine aL (fun hc=> ?_) fun hc=> ?_) <;> (try simp only [hc,bs, ↓reduceIte]at h) <;> try simp only [hc]
 | (with_reducible refine ay hQ ?_;exact bT)
 | (cases h;done))
 refine bj.mh 5 1 rfl ?_
 simp only [go_sem,hD,hF,hJ,hP]
 refine cV 1 1 (bj.ind (ι:=List aE×Nat×List aE×Nat) (fun i=>N.drop i.2.1=i.1∧nM p i.2.2.1 i.1=R∧i.2.2.1.length≤R.length∧i.2.2.2=i.2.2.1.length) (fun i=>i.1.length)
  (fun i=> [(2, .ptr 0 0),(5, .slice (.tok 0) 1 (i.2.2.1.map encStr)),(16, .slice .shared 1 (N.map encStr)),(17, .int .i64 (N.length:Int)),(18, .int .i64 (i.2.1:Int))]) (fun i=>⟨[bP p],[some i.2.2.2]⟩) ?_ (N,0,[],0) ⟨rfl,hR,Nat.zero_le _,rfl⟩)
 rintro⟨rest,k,out,no⟩ ⟨h1,h2,h3,h4⟩ IH
 dsimp only at h1 h2 h3 h4
 subst h4
 cases rest with
 | nil=>
  have hD:=drop_nil h1
  simp only [nM]at h2
  subst h2
  have J0:=fun g s=>xU (l:=out) (by omega) g s
  repeat' (first
 | simp only [go_sem,hD,hF,hJ,hP]
 | (with_reducible refine CU (J0 _ _) ?_)
 | (with_reducible first | refine aJ fun hc=> ?_ | refine aK fun hc=> ?_ | refine aL (fun hc=> ?_) fun hc=> ?_) <;> (try simp only [hc,bs, ↓reduceIte]at h) <;> try simp only [hc]
 | (with_reducible refine ay hQ ?_;exact bT)
 | (cases h;done))
 | cons x rest=>
  obtain⟨hF,g2,hD,g4⟩:=drop_cons h1
  have bm:k<4611686018427387904:=by omega
  obtain⟨g,rA⟩:=hN.2 x (List.mem_of_getElem? hF)
  have za:=(kb rA).1
  have Si:oN p x=Sm.fi g.body:=by unfold oN;rw [rA]
  simp only [nM,Si]at h2
  have xc:=fun s=>Ad (p:=p) (by omega) x s
  simp only [rA,dz,Option.getD_some,Option.isSome_some]at xc
  have q4:Sm.aP g.body<4611686018427387000:=by have:=Pc.bS za;simp only [Pc.size]at this;omega
  have kd:=fun s=>yO (f:=g) q4 s
  obtain⟨it,Wj⟩ : ∃ it,g.flat=it:=⟨_,rfl⟩
  have mz:=(xR hb).1 g za
  have Af:g.flat.length≤201:=g.rz
  rw [Wj]at mz Af
  simp only [Wj]at kd
  rw [← mz]at h2
  repeat' (first
 | simp only [go_sem,hD,hF,hJ,hP,hF]
 | (with_reducible refine CU (xc _) ?_)
 | (with_reducible refine CU (kd _) ?_)
 | (with_reducible first | refine aJ fun hc=> ?_ | refine aK fun hc=> ?_ | refine aL (fun hc=> ?_) fun hc=> ?_) <;> (try simp only [hc,bs, ↓reduceIte]at h) <;> try simp only [hc]
 | (with_reducible refine ay hQ ?_;(try cases h);simp only [az,aB,bc,bd,go_sem,hD,hF,hJ,hP,hF];try exact br)
 | (cases h;done))
  obtain⟨W,hW⟩ : ∃ W,lY p out (it.map It.s)=W:=⟨_,rfl⟩
  rw [hW]at h2
  have Sj:W.length≤R.length:=by have:=(pj h rest W).1;rw [h2]at this;exact this
  have DA:out.length≤W.length:=by have:=(ph p (it.map It.s) out).1;rw [hW]at this;exact this
  refine cV 1 1 (bj.ind (ι:=List It×Nat×List aE×Nat) (fun i=>it.drop i.2.1=i.1∧lY p i.2.2.1 (i.1.map It.s)=W∧i.2.2.1.length≤W.length∧i.2.2.2=i.2.2.1.length) (fun i=>i.1.length)
   (fun i=> [(2, .ptr 0 0),(5, .slice (.tok 0) 1 (i.2.2.1.map encStr)),(16, .slice .shared 1 (N.map encStr)),(17, .int .i64 (N.length:Int)),(18, .int .i64 (k:Int)),(29, .slice .shared 16 (it.map ew)),(30, .int .i64 (it.length:Int)),(31, .int .i64 (i.2.1:Int))]) (fun i=>⟨[bP p],[some i.2.2.2]⟩) ?_ (it,0,out,out.length) ⟨rfl,hW,DA,rfl⟩)
  rintro⟨mK,k2,nV,no⟩ ⟨j1,j2,j3,j4⟩ tq
  dsimp only at j1 j2 j3 j4
  subst j4
  cases mK with
  | nil=>
   have DP:=drop_nil j1
   simp only [List.map_nil,lY]at j2
   subst j2
   repeat' (first
 | simp only [go_sem,hD,hF,hJ,hP,DP]
 | (with_reducible first | refine aJ fun hc=> ?_ | refine aK fun hc=> ?_ | refine aL (fun hc=> ?_) fun hc=> ?_) <;> (try simp only [hc,bs, ↓reduceIte]at h) <;> try simp only [hc]
 | (with_reducible refine ay hQ ?_;(try cases h);simp only [az,aB,bc,bd,go_sem,hD,hF,hJ,hP,DP];try exact br)
 | (cases h;done))
   refine cd 1 1 ?_ ?_ (IH (rest,k+1,nV,nV.length) ⟨g2,h2,Sj,rfl⟩ (Nat.lt_succ_self _))
   ·(simp only [go_sem,hD,hF,hJ,hP,au bm];try exact aZ)
   ·(simp only [go_sem,hD,hF,hJ,hP,au bm];try exact aZ)
  | cons y mK=>
   obtain⟨dN,kg,fK,yW⟩:=drop_cons j1
   have fB:k2<4611686018427387904:=by omega
   have Sk:y.s∈Sm.fi g.body:=by rw [← mz];exact List.mem_map_of_mem (List.mem_of_getElem? dN)
   have wZ:=h.said za _ Sk
   have EZ:=fun s=>xf wZ s
   have wg:=ui _ wZ
   simp only [List.map_cons,lY]at j2
   repeat' (first
 | simp only [go_sem,hD,hF,hJ,hP,fK,dN]
 | (with_reducible refine CU (EZ _) ?_)
 | (with_reducible first | refine aJ fun hc=> ?_ | refine aK fun hc=> ?_ | refine aL (fun hc=> ?_) fun hc=> ?_) <;> (try simp only [hc,bs, ↓reduceIte]at h) <;> try simp only [hc]
 | (with_reducible refine ay hQ ?_;(try cases h);simp only [az,aB,bc,bd,go_sem,hD,hF,hJ,hP,fK,dN];try exact br)
 | (cases h;done))
   obtain⟨V,hV⟩ : ∃ V,lX p nV y.s.said=V:=⟨_,rfl⟩
   rw [hV]at j2
   have Sl:V.length≤W.length:=by have:=(ph p (mK.map It.s) V).1;rw [j2]at this;exact this
   have Sn:nV.length≤V.length:=by have:=(pg p y.s.said nV).1;rw [hV]at this;exact this
   refine cV 1 1 (bj.ind (ι:=List aE×Nat×List aE×Nat) (fun i=>y.s.said.drop i.2.1=i.1∧lX p i.2.2.1 i.1=V∧i.2.2.1.length≤V.length∧i.2.2.2=i.2.2.1.length) (fun i=>i.1.length)
    (fun i=> [(2, .ptr 0 0),(5, .slice (.tok 0) 1 (i.2.2.1.map encStr)),(16, .slice .shared 1 (N.map encStr)),(17, .int .i64 (N.length:Int)),(18, .int .i64 (k:Int)),(29, .slice .shared 16 (it.map ew)),(30, .int .i64 (it.length:Int)),(31, .int .i64 (k2:Int)),(37, .slice .shared 1 (y.s.said.map encStr)),(38, .int .i64 (y.s.said.length:Int)),(39, .int .i64 (i.2.1:Int))]) (fun i=>⟨[bP p],[some i.2.2.2]⟩) ?_ (y.s.said,0,nV,nV.length) ⟨rfl,hV,Sn,rfl⟩)
   rintro⟨oO,k3,k9,no⟩ ⟨l1,l2,l3,l4⟩ J5
   dsimp only at l1 l2 l3 l4
   subst l4
   cases oO with
   | nil=>
    have DQ:=drop_nil l1
    simp only [lX]at l2
    subst l2
    repeat' (first
 | simp only [go_sem,hD,hF,hJ,hP,DQ]
 | (with_reducible first | refine aJ fun hc=> ?_ | refine aK fun hc=> ?_ | refine aL (fun hc=> ?_) fun hc=> ?_) <;> (try simp only [hc,bs, ↓reduceIte]at h) <;> try simp only [hc]
 | (with_reducible refine ay hQ ?_;(try cases h);simp only [az,aB,bc,bd,go_sem,hD,hF,hJ,hP,DQ];try exact br)
 | (cases h;done))
    refine cd 1 1 ?_ ?_ (tq (mK,k2+1,k9,k9.length) ⟨kg,j2,Sl,rfl⟩ (Nat.lt_succ_self _))
    ·(simp only [go_sem,hD,hF,hJ,hP,au fB];try exact aZ)
    ·(simp only [go_sem,hD,hF,hJ,hP,au fB];try exact aZ)
   | cons z oO=>
    obtain⟨oK,DD,su,Wc⟩:=drop_cons l1
    have uQ:k3<4611686018427387904:=by omega
    have kh:=fun g s=>xO (l:=p.globals) (by omega) z g s
    simp only [lX]at l2
    rcases Bool.eq_false_or_eq_true (dV p.globals z)with c1 | c1
    ·simp only [c1,if_true]at l2
     have hJ:(k9.length+1)*17≤bf:=by unfold bf;omega
     have Sq:(k9++ [z]).length≤V.length:=by have:=(pg p oO (k9++ [z])).1;rw [l2]at this;exact this
     repeat' (first
 | simp only [go_sem,hD,hF,hJ,hP,su,oK,c1]
 | (with_reducible refine CU (kh _ _) ?_)
 | (with_reducible first | refine aJ fun hc=> ?_ | refine aK fun hc=> ?_ | refine aL (fun hc=> ?_) fun hc=> ?_) <;> (try simp only [hc,bs, ↓reduceIte]at h) <;> try simp only [hc]
 | (with_reducible refine ay hQ ?_;(try cases h);simp only [az,aB,bc,bd,go_sem,hD,hF,hJ,hP,su,oK,c1];try exact br)
 | (cases h;done))
     refine cd 1 1 ?_ ?_ (J5 (oO,k3+1,k9++ [z],k9.length+1) ⟨DD,l2,Sq,by simp⟩ (Nat.lt_succ_self _))
     ·(simp only [go_sem,hD,hF,hJ,hP,au uQ,List.map_append,List.map_cons,List.map_nil,encStr];try exact aZ)
     ·(simp only [go_sem,hD,hF,hJ,hP,au uQ,List.map_append,List.map_cons,List.map_nil,encStr];try exact aZ)
    ·simp only [c1,Bool.false_eq_true,if_false]at l2
     repeat' (first
 | simp only [go_sem,hD,hF,hJ,hP,su,oK,c1]
 | (with_reducible refine CU (kh _ _) ?_)
 | (with_reducible first | refine aJ fun hc=> ?_ | refine aK fun hc=> ?_ | refine aL (fun hc=> ?_) fun hc=> ?_) <;> (try simp only [hc,bs, ↓reduceIte]at h) <;> try simp only [hc]
 | (with_reducible refine ay hQ ?_;(try cases h);simp only [az,aB,bc,bd,go_sem,hD,hF,hJ,hP,su,oK,c1];try exact br)
 | (cases h;done))
     refine cd 1 1 ?_ ?_ (J5 (oO,k3+1,k9,k9.length) ⟨DD,l2,l3,rfl⟩ (Nat.lt_succ_self _))
     ·(simp only [go_sem,hD,hF,hJ,hP,au uQ];try exact aZ)
     ·(simp only [go_sem,hD,hF,hJ,hP,au uQ];try exact aZ)
theorem Bi {p:Pg} (h:p.kK) (name:aE) (s:St):aA Tryz.prog lS [.agg (bP p), .str name] s (.slice .shared 1 ((p.nD name).map encStr)) s:=by
 refine aA.pure ?_ (by simp [D.bN,D.ok,ie]) (by simp only [D.ok,Tag.ok,dk];rfl) s
 have hk:=fun s=>xW h name s
 have dI:=fun s=>BX (p:=p) (by have:=h.procs;omega) s
 unfold Pg.nD
 unfold S0
 cases iF:p.k8 name with
 | none=>
  simp only [iF,Option.isSome_none]at hk
  simp only [List.map_nil]
  refine aA.go qB rfl fun B Q hB hQ=> ?_
  have⟨hD,hF,hJ,hP⟩:=bI
  repeat' (first
 | simp only [go_sem,hD,hF,hJ,hP]
 | (with_reducible refine CU (hk _) ?_)
 | (with_reducible first | refine aJ fun hc=> ?_ | refine aK fun hc=> ?_ | refine aL (fun hc=> ?_) fun hc=> ?_) <;> (try simp only [hc,bs, ↓reduceIte]at h) <;> try simp only [hc]
 | (with_reducible refine ay hQ ?_;exact bT)
 | (cases h;done))
 | some f=>
 obtain⟨eY,hf⟩:=jV iF
 simp only [iF,Option.isSome_some]at hk
 dsimp only
 obtain⟨od,mO,oW⟩:=h.procs
 have hN:=um eY hf
 obtain⟨N,DO⟩ : ∃ N,fD (p.work name)=N:=⟨_,rfl⟩
 rw [DO]at hN
 have hNl:=hN.len
 obtain⟨R,hR⟩ : ∃ R,p.mC name=R:=⟨_,rfl⟩
 rw [hR]
 unfold Pg.mC at hR
 rw [DO]at hR
 have Ol:R.length≤28800000:=by
  have:=(pj h N []).2
  rw [hR]at this
  have h4:=Bh (iC eY)
  have h3:N.length*1800000≤16*1800000:=Nat.mul_le_mul_right _ (by omega)
  simp only [List.length_nil]at this
  omega
 have n5:=fun s=>On h eY hf s
 simp only [DO]at n5
 obtain⟨fn,sj,DB⟩:=qB
 refine aA.intro ⟨fn,sj,DB⟩ (Nat.le_of_ble_eq_true rfl) fun B hB=> ?_
 generalize hQ:ku (⟨[],[]⟩:St).av.length (⟨[],[]⟩:St).ax.length _ _ (⟨[],[]⟩:St)=Q
 have⟨hD,hF,hJ,hP⟩:=bI
 refine Sem.kX ?_
 repeat' (first
 | simp only [go_sem,hD,hF,hJ,hP]
 | (with_reducible first | refine aJ fun hc=> ?_ | refine aK fun hc=> ?_ | refine aL (fun hc=> ?_) fun hc=> ?_) <;> (try simp only [hc,bs, ↓reduceIte]at h) <;> try simp only [hc]
 | (with_reducible refine ay hQ ?_;exact bT)
 | (cases h;done))
 refine Sem.kX ?_
 repeat' (first
 | simp only [go_sem,hD,hF,hJ,hP]
 | (with_reducible refine CU (hk _) ?_)
 | (with_reducible first | refine aJ fun hc=> ?_ | refine aK fun hc=> ?_ | refine aL (fun hc=> ?_) fun hc=> ?_) <;> (try simp only [hc,bs, ↓reduceIte]at h) <;> try simp only [hc]
 | (with_reducible refine ay hQ ?_;exact bT)
 | (cases h;done))
 refine Sem.kX ?_
 repeat' (first
 | simp only [go_sem,hD,hF,hJ,hP]
 | (with_reducible refine CU (dI _) ?_)
 | (with_reducible first | refine aJ fun hc=> ?_ | refine aK fun hc=> ?_ | refine aL (fun hc=> ?_) fun hc=> ?_) <;> (try simp only [hc,bs, ↓reduceIte]at h) <;> try simp only [hc]
 | (with_reducible refine ay hQ ?_;exact bT)
 | (cases h;done))
 refine Sem.kX ?_
 repeat' (first
 | simp only [go_sem,hD,hF,hJ,hP]
 | (with_reducible first | refine aJ fun hc=> ?_ | refine aK fun hc=> ?_ | refine aL (fun hc=> ?_) fun hc=> ?_) <;> (try simp only [hc,bs, ↓reduceIte]at h) <;> try simp only [hc]
 | (with_reducible refine ay hQ ?_;exact bT)
 | (cases h;done))
 refine Sem.kX ?_
 repeat' (first
 | simp only [go_sem,hD,hF,hJ,hP]
 | (with_reducible refine CU (n5 _) ?_)
 | (with_reducible first | refine aJ fun hc=> ?_ | refine aK fun hc=> ?_ | refine aL (fun hc=> ?_) fun hc=> ?_) <;> (try simp only [hc,bs, ↓reduceIte]at h) <;> try simp only [hc]
 | (with_reducible refine ay hQ ?_;exact bT)
 | (cases h;done))
 refine bj.mh 6 1 rfl ?_
 simp only [go_sem,hD,hF,hJ,hP]
 refine cV 1 1 (bj.ind (ι:=List aE×Nat×List aE×Nat) (fun i=>N.drop i.2.1=i.1∧nM p i.2.2.1 i.1=R∧i.2.2.1.length≤R.length∧i.2.2.2=i.2.2.1.length) (fun i=>i.1.length)
  (fun i=> [(2, .ptr 0 0),(5, .dE (jy p) 0),(6, .slice (.tok 0) 1 (i.2.2.1.map encStr)),(21, .slice .shared 1 (N.map encStr)),(22, .int .i64 (N.length:Int)),(23, .int .i64 (i.2.1:Int))]) (fun i=>⟨[bP p],[some i.2.2.2]⟩) ?_ (N,0,[],0) ⟨rfl,hR,Nat.zero_le _,rfl⟩)
 rintro⟨rest,k,out,no⟩ ⟨h1,h2,h3,h4⟩ IH
 dsimp only at h1 h2 h3 h4
 subst h4
 cases rest with
 | nil=>
  have hD:=drop_nil h1
  simp only [nM]at h2
  subst h2
  have wg:(jU out).length=out.length:=List.length_mergeSort out
  repeat' (first
 | simp only [go_sem,hD,hF,hJ,hP]
 | (with_reducible first | refine aJ fun hc=> ?_ | refine aK fun hc=> ?_ | refine aL (fun hc=> ?_) fun hc=> ?_) <;> (try simp only [hc,bs, ↓reduceIte]at h) <;> try simp only [hc]
 | (with_reducible refine ay hQ ?_;exact bT)
 | (cases h;done))
  refine Sem.seq (Sem.sort (k:=6) (t:=0) (l:=out) hB (by decide) (by decide) (by decide) rfl rfl (by omega) ?_)
  refine Sem.seq (Sem.compact (k:=6) (t:=0) (l:=jU out) hB (by decide) rfl (by rw [wg];rfl) (by rw [wg];omega) ?_)
  rw [wk]
  refine gP (ac:= .ret) (Q:=Q) (tm:= [(59, .slice (.tok 0) 1 ((fD out).map encStr)),(4, .slice (.tok 0) 1 ((fD out).map encStr))]) (s:=⟨[],[some (fD out).length]⟩) ?_
  repeat' (first
 | simp only [go_sem,hD,hF,hJ,hP]
 | (with_reducible first | refine aJ fun hc=> ?_ | refine aK fun hc=> ?_ | refine aL (fun hc=> ?_) fun hc=> ?_) <;> (try simp only [hc,bs, ↓reduceIte]at h) <;> try simp only [hc]
 | (with_reducible refine ay hQ ?_;exact bT)
 | (cases h;done))
 | cons x rest=>
  obtain⟨hF,g2,hD,g4⟩:=drop_cons h1
  have bm:k<4611686018427387904:=by omega
  obtain⟨g,rA⟩:=hN.2 x (List.mem_of_getElem? hF)
  have za:=(kb rA).1
  have Si:oN p x=Sm.fi g.body:=by unfold oN;rw [rA]
  simp only [nM,Si]at h2
  obtain⟨j,hj,uA⟩:=wm (k:=0) rA
  have uA:p.at x=((j:Nat):Int):=by unfold Pg.at;simpa using uA
  have gQ:=fun s=>Jy (p:=p) (by omega) x s
  simp only [uA]at gQ
  obtain⟨it,mz,JV⟩:=L7 hj (by omega)
  have Af:it.length≤900000:=by
   have e:=congrArg List.length mz
   obtain⟨a,b,e',_,_,e3,e4⟩:=(sg p).2 j g hj
   have e5:=sh p
   have e6:=congrArg List.length e3
   rw [e4]at e5
   simp only [List.length_map,List.length_append]at e e5 e6
   omega
  rw [← mz]at h2
  repeat' (first
 | simp only [go_sem,hD,hF,hJ,hP,hF]
 | (with_reducible refine CU (gQ _) ?_)
 | (with_reducible refine CU (JV _) ?_)
 | (with_reducible first | refine aJ fun hc=> ?_ | refine aK fun hc=> ?_ | refine aL (fun hc=> ?_) fun hc=> ?_) <;> (try simp only [hc,bs, ↓reduceIte]at h) <;> try simp only [hc]
 | (with_reducible refine ay hQ ?_;(try cases h);simp only [az,aB,bc,bd,go_sem,hD,hF,hJ,hP,hF];try exact br)
 | (cases h;done))
  obtain⟨W,hW⟩ : ∃ W,lY p out (it.map Im.s)=W:=⟨_,rfl⟩
  rw [hW]at h2
  have Sj:W.length≤R.length:=by have:=(pj h rest W).1;rw [h2]at this;exact this
  have DA:out.length≤W.length:=by have:=(ph p (it.map Im.s) out).1;rw [hW]at this;exact this
  refine cV 1 1 (bj.ind (ι:=List Im×Nat×List aE×Nat) (fun i=>it.drop i.2.1=i.1∧lY p i.2.2.1 (i.1.map Im.s)=W∧i.2.2.1.length≤W.length∧i.2.2.2=i.2.2.1.length) (fun i=>i.1.length)
   (fun i=> [(2, .ptr 0 0),(5, .dE (jy p) 0),(6, .slice (.tok 0) 1 (i.2.2.1.map encStr)),(21, .slice .shared 1 (N.map encStr)),(22, .int .i64 (N.length:Int)),(23, .int .i64 (k:Int)),(31, .slice .shared 17 (it.map fc)),(32, .int .i64 (it.length:Int)),(33, .int .i64 (i.2.1:Int))]) (fun i=>⟨[bP p],[some i.2.2.2]⟩) ?_ (it,0,out,out.length) ⟨rfl,hW,DA,rfl⟩)
  rintro⟨mK,k2,nV,no⟩ ⟨j1,j2,j3,j4⟩ tq
  dsimp only at j1 j2 j3 j4
  subst j4
  cases mK with
  | nil=>
   have DP:=drop_nil j1
   simp only [List.map_nil,lY]at j2
   subst j2
   repeat' (first
 | simp only [go_sem,hD,hF,hJ,hP,DP]
 | (with_reducible first | refine aJ fun hc=> ?_ | refine aK fun hc=> ?_ | refine aL (fun hc=> ?_) fun hc=> ?_) <;> (try simp only [hc,bs, ↓reduceIte]at h) <;> try simp only [hc]
 | (with_reducible refine ay hQ ?_;(try cases h);simp only [az,aB,bc,bd,go_sem,hD,hF,hJ,hP,DP];try exact br)
 | (cases h;done))
   refine cd 1 1 ?_ ?_ (IH (rest,k+1,nV,nV.length) ⟨g2,h2,Sj,rfl⟩ (Nat.lt_succ_self _))
   ·(simp only [go_sem,hD,hF,hJ,hP,au bm];try exact aZ)
   ·(simp only [go_sem,hD,hF,hJ,hP,au bm];try exact aZ)
  | cons y mK=>
   obtain⟨dN,kg,fK,yW⟩:=drop_cons j1
   have fB:k2<4611686018427387904:=by omega
   have Sk:y.s∈Sm.fi g.body:=by rw [← mz];exact List.mem_map_of_mem (List.mem_of_getElem? dN)
   have wZ:=h.said za _ Sk
   have EZ:=fun s=>vY wZ s
   have wg:=ui _ wZ
   simp only [List.map_cons,lY]at j2
   repeat' (first
 | simp only [go_sem,hD,hF,hJ,hP,fK,dN]
 | (with_reducible refine CU (EZ _) ?_)
 | (with_reducible first | refine aJ fun hc=> ?_ | refine aK fun hc=> ?_ | refine aL (fun hc=> ?_) fun hc=> ?_) <;> (try simp only [hc,bs, ↓reduceIte]at h) <;> try simp only [hc]
 | (with_reducible refine ay hQ ?_;(try cases h);simp only [az,aB,bc,bd,go_sem,hD,hF,hJ,hP,fK,dN];try exact br)
 | (cases h;done))
   obtain⟨V,hV⟩ : ∃ V,lX p nV y.s.said=V:=⟨_,rfl⟩
   rw [hV]at j2
   have Sl:V.length≤W.length:=by have:=(ph p (mK.map Im.s) V).1;rw [j2]at this;exact this
   have Sn:nV.length≤V.length:=by have:=(pg p y.s.said nV).1;rw [hV]at this;exact this
   refine cV 1 1 (bj.ind (ι:=List aE×Nat×List aE×Nat) (fun i=>y.s.said.drop i.2.1=i.1∧lX p i.2.2.1 i.1=V∧i.2.2.1.length≤V.length∧i.2.2.2=i.2.2.1.length) (fun i=>i.1.length)
    (fun i=> [(2, .ptr 0 0),(5, .dE (jy p) 0),(6, .slice (.tok 0) 1 (i.2.2.1.map encStr)),(21, .slice .shared 1 (N.map encStr)),(22, .int .i64 (N.length:Int)),(23, .int .i64 (k:Int)),(31, .slice .shared 17 (it.map fc)),(32, .int .i64 (it.length:Int)),(33, .int .i64 (k2:Int)),(39, .slice .shared 1 (y.s.said.map encStr)),(40, .int .i64 (y.s.said.length:Int)),(41, .int .i64 (i.2.1:Int))]) (fun i=>⟨[bP p],[some i.2.2.2]⟩) ?_ (y.s.said,0,nV,nV.length) ⟨rfl,hV,Sn,rfl⟩)
   rintro⟨oO,k3,k9,no⟩ ⟨l1,l2,l3,l4⟩ J5
   dsimp only at l1 l2 l3 l4
   subst l4
   cases oO with
   | nil=>
    have DQ:=drop_nil l1
    simp only [lX]at l2
    subst l2
    repeat' (first
 | simp only [go_sem,hD,hF,hJ,hP,DQ]
 | (with_reducible first | refine aJ fun hc=> ?_ | refine aK fun hc=> ?_ | refine aL (fun hc=> ?_) fun hc=> ?_) <;> (try simp only [hc,bs, ↓reduceIte]at h) <;> try simp only [hc]
 | (with_reducible refine ay hQ ?_;(try cases h);simp only [az,aB,bc,bd,go_sem,hD,hF,hJ,hP,DQ];try exact br)
 | (cases h;done))
    refine cd 1 1 ?_ ?_ (tq (mK,k2+1,k9,k9.length) ⟨kg,j2,Sl,rfl⟩ (Nat.lt_succ_self _))
    ·(simp only [go_sem,hD,hF,hJ,hP,au fB];try exact aZ)
    ·(simp only [go_sem,hD,hF,hJ,hP,au fB];try exact aZ)
   | cons z oO=>
    obtain⟨oK,DD,su,Wc⟩:=drop_cons l1
    have uQ:k3<4611686018427387904:=by omega
    have kh:=fun g s=>iV (l:=p.globals) (by omega) z g s
    simp only [lX]at l2
    rcases Bool.eq_false_or_eq_true (dV p.globals z)with c1 | c1
    ·simp only [c1,if_true]at l2
     have hJ:(k9.length+1)*17≤bf:=by unfold bf;omega
     have Sq:(k9++ [z]).length≤V.length:=by have:=(pg p oO (k9++ [z])).1;rw [l2]at this;exact this
     repeat' (first
 | simp only [go_sem,hD,hF,hJ,hP,su,oK,c1]
 | (with_reducible refine CU (kh _ _) ?_)
 | (with_reducible first | refine aJ fun hc=> ?_ | refine aK fun hc=> ?_ | refine aL (fun hc=> ?_) fun hc=> ?_) <;> (try simp only [hc,bs, ↓reduceIte]at h) <;> try simp only [hc]
 | (with_reducible refine ay hQ ?_;(try cases h);simp only [az,aB,bc,bd,go_sem,hD,hF,hJ,hP,su,oK,c1];try exact br)
 | (cases h;done))
     refine cd 1 1 ?_ ?_ (J5 (oO,k3+1,k9++ [z],k9.length+1) ⟨DD,l2,Sq,by simp⟩ (Nat.lt_succ_self _))
     ·(simp only [go_sem,hD,hF,hJ,hP,au uQ,List.map_append,List.map_cons,List.map_nil,encStr];try exact aZ)
     ·(simp only [go_sem,hD,hF,hJ,hP,au uQ,List.map_append,List.map_cons,List.map_nil,encStr];try exact aZ)
    ·simp only [c1,Bool.false_eq_true,if_false]at l2
     repeat' (first
 | simp only [go_sem,hD,hF,hJ,hP,su,oK,c1]
 | (with_reducible refine CU (kh _ _) ?_)
 | (with_reducible first | refine aJ fun hc=> ?_ | refine aK fun hc=> ?_ | refine aL (fun hc=> ?_) fun hc=> ?_) <;> (try simp only [hc,bs, ↓reduceIte]at h) <;> try simp only [hc]
 | (with_reducible refine ay hQ ?_;(try cases h);simp only [az,aB,bc,bd,go_sem,hD,hF,hJ,hP,su,oK,c1];try exact br)
 | (cases h;done))
     refine cd 1 1 ?_ ?_ (J5 (oO,k3+1,k9,k9.length) ⟨DD,l2,l3,rfl⟩ (Nat.lt_succ_self _))
     ·(simp only [go_sem,hD,hF,hJ,hP,au uQ];try exact aZ)
     ·(simp only [go_sem,hD,hF,hJ,hP,au uQ];try exact aZ)
end Go.Abs

/-! Tc7 -/

namespace Go.Abs
set_option maxRecDepth 8000
open Go.Proofs
theorem Ah {p:Pg} (h:p.kK) (name:aE) (s:St):aA Tryz.prog pb [.agg (bP p), .str name] s (.slice .shared 1 ((p.nD name).map encStr)) s:=by
 refine aA.pure ?_ (by simp [D.bN,D.ok,ie]) (by simp only [D.ok,Tag.ok,dk];rfl) s
 obtain⟨od,mO,oW⟩:=h.procs
 have gQ:=fun s=>Ae (p:=p) (pJ h) (by omega) name s
 have oM:=fun s=>xT h s
 have b0:(p.scope.1 != 0) = !(p.scope.1==0):=rfl
 unfold Pg.nD
 unfold S0
 cases iF:p.k8 name with
 | some f=>
  obtain⟨eY,hf⟩:=jV iF
  have n5:=fun s=>HJ h eY hf s
  simp only [iC eY,if_true,hf,dz,Option.getD_some,Option.isSome_some]at gQ
  rw [eY]at b0
  refine aA.go k7 rfl fun B Q hB hQ=> ?_
  have⟨hD,hF,hJ,hP⟩:=bI
  repeat' (first
 | simp only [go_sem,hD,hF,hJ,hP,b0,Bool.not_true]
 | (with_reducible refine CU (gQ _) ?_)
 | (with_reducible refine CU (oM _) ?_)
 | (with_reducible refine CU (n5 _) ?_)
 | (with_reducible first | refine aJ fun hc=> ?_ | refine aK fun hc=> ?_ | refine aL (fun hc=> ?_) fun hc=> ?_) <;> (try simp only [hc,bs, ↓reduceIte]at h) <;> try simp only [hc]
 | (with_reducible refine ay hQ ?_;(try cases h);simp only [az,aB,bc,bd,go_sem,hD,hF,hJ,hP,b0,Bool.not_true];try exact br)
 | (cases h;done))
 | none=>
  simp only [List.map_nil]
  rcases Bool.eq_false_or_eq_true (p.scope.1==0)with eY | eY
  ·have hf:p.find name=none:=by unfold Pg.k8 at iF;rw [if_pos eY]at iF;exact iF
   simp only [iC eY,if_true,hf,dz,Option.getD_none,Option.isSome_none]at gQ
   refine aA.go k7 rfl fun B Q hB hQ=> ?_
   have⟨hD,hF,hJ,hP⟩:=bI
   repeat' (first
 | simp only [go_sem,hD,hF,hJ,hP]
 | (with_reducible refine CU (gQ _) ?_)
 | (with_reducible refine CU (oM _) ?_)
 | (with_reducible first | refine aJ fun hc=> ?_ | refine aK fun hc=> ?_ | refine aL (fun hc=> ?_) fun hc=> ?_) <;> (try simp only [hc,bs, ↓reduceIte]at h) <;> try simp only [hc]
 | (with_reducible refine ay hQ ?_;exact bT)
 | (cases h;done))
  ·rw [eY]at b0
   obtain⟨r,vt⟩ : ∃ r,(if p.may=true then p.find name else none)=r:=⟨_,rfl⟩
   rw [vt]at gQ
   cases r with
   | none=>
    simp only [dz,Option.getD_none,Option.isSome_none]at gQ
    refine aA.go k7 rfl fun B Q hB hQ=> ?_
    have⟨hD,hF,hJ,hP⟩:=bI
    repeat' (first
 | simp only [go_sem,hD,hF,hJ,hP,b0,Bool.not_false]
 | (with_reducible refine CU (gQ _) ?_)
 | (with_reducible refine CU (oM _) ?_)
 | (with_reducible first | refine aJ fun hc=> ?_ | refine aK fun hc=> ?_ | refine aL (fun hc=> ?_) fun hc=> ?_) <;> (try simp only [hc,bs, ↓reduceIte]at h) <;> try simp only [hc]
 | (with_reducible refine ay hQ ?_;(try cases h);simp only [az,aB,bc,bd,go_sem,hD,hF,hJ,hP,b0,Bool.not_false];try exact br)
 | (cases h;done))
   | some g=>
    simp only [dz,Option.getD_some,Option.isSome_some]at gQ
    refine aA.go k7 rfl fun B Q hB hQ=> ?_
    have⟨hD,hF,hJ,hP⟩:=bI
    repeat' (first
 | simp only [go_sem,hD,hF,hJ,hP,b0,Bool.not_false]
 | (with_reducible refine CU (gQ _) ?_)
 | (with_reducible refine CU (oM _) ?_)
 | (with_reducible first | refine aJ fun hc=> ?_ | refine aK fun hc=> ?_ | refine aL (fun hc=> ?_) fun hc=> ?_) <;> (try simp only [hc,bs, ↓reduceIte]at h) <;> try simp only [hc]
 | (with_reducible refine ay hQ ?_;(try cases h);simp only [az,aB,bc,bd,go_sem,hD,hF,hJ,hP,b0,Bool.not_false];try exact br)
 | (cases h;done))
end Go.Abs

/-! Full1 -/

namespace Go.Abs
set_option maxRecDepth 8000
open Go.Proofs
def b8 (t:aE) (n:Int):Int:=if n > 20000 then 20001 else if(t.length:Int)≥20000 - n then 20001 else n+1+t.length
mutual
def dR:Ex→Int→Int
 | ⟨_,_,name,kids⟩,n=>kL kids (b8 name n)
def kL:List Ex→Int→Int
 | [],n=>n
 | x::l,n=>if n≤20000 then kL l (dR x n)else n
end
theorem jW {t:aE} {n:Int} (h0:0≤n):b8 t n≤20001∧(n≤20000→n+1≤b8 t n)∧0≤b8 t n∧(b8 t n≤20000→n+1+t.length=b8 t n):=by
 unfold b8;split
 ·omega
 ·split <;> omega
theorem rB : ∀ (m:Nat) (x:Ex),x.size≤m→∀ n:Int,0≤n→dR x n≤20001∧(n≤20000→n+1≤dR x n)∧0≤dR x n∧(dR x n≤20000→(x.size:Int)+1≤2*(dR x n - n)∧x.texts):=by
 intro m
 induction m with
 | zero=>rintro⟨op,v,name,kids⟩ h;simp only [Ex.size]at h;omega
 | succ m ih=>
  rintro⟨op,v,name,kids⟩ h n h0
  simp only [Ex.size]at h
  obtain⟨t1,t2,t3,t4⟩:=jW (t:=name) h0
  have go : ∀ (l:List Ex),Ex.aP l≤m→∀ c:Int,0≤c→c≤20001→kL l c≤20001∧c≤kL l c∧(kL l c≤20000→(Ex.aP l:Int)≤2*(kL l c - c)∧Ex.rp l):=by
   intro l
   induction l with
   | nil=>intro _ c h0 h1;simp only [kL,Ex.aP];exact⟨h1,Int.le_refl _,fun _=>⟨by omega,trivial⟩⟩
   | cons y l ihl=>
    intro hs c h0 h1
    simp only [Ex.aP]at hs ⊢
    simp only [kL]
    split
    ·rename_i hc
     obtain⟨a1,a2,a3,a4⟩:=ih y (by omega) c h0
     obtain⟨b1,b2,b3⟩:=ihl (by omega) (dR y c) a3 a1
     have:=a2 hc
     refine⟨b1,by omega,fun hw=> ?_⟩
     obtain⟨c1,c2⟩:=b3 hw
     obtain⟨d1,d2⟩:=a4 (by omega)
     exact⟨by omega,d2,c2⟩
    ·exact⟨h1,Int.le_refl _,fun hw=>by omega⟩
  obtain⟨g1,g2,g3⟩:=go kids (by omega) (b8 name n) t3 t1
  simp only [dR,Ex.size]
  refine⟨g1,fun hn=>by have:=t2 hn;omega,by omega,fun hw=> ?_⟩
  obtain⟨k1,k2⟩:=g3 hw
  have:=t4 (by omega)
  exact⟨by omega,by omega,k2⟩
theorem nW (t:aE) {n:Int} (h0:0≤n) (h1:n≤20001) (s:St):aA Tryz.prog fa [.str t, .int .i64 n] s (.int .i64 (b8 t n)) s:=by
 refine aA.pure ?_ rfl rfl s
 unfold S0
 have w1:IntKind.wrap .i64 (20000 - n)=20000 - n:=dt (by omega) (by omega)
 have w2:IntKind.wrap .i64 (n+1)=n+1:=dt (by omega) (by omega)
 by_cases c:n > 20000
 ·have c1:decide (n > 20000)=true:=by simp;omega
  have e:b8 t n=20001:=by simp [b8,c]
  rw [e]
  refine aA.go mr rfl fun B Q hB hQ=> ?_
  have⟨hD,hF,hJ,hP⟩:=bI
  repeat' (first
 | simp only [go_sem,hD,hF,hJ,hP,c1,w1,w2]
 | (with_reducible first | refine aJ fun hc=> ?_ | refine aK fun hc=> ?_ | refine aL (fun hc=> ?_) fun hc=> ?_) <;> (try simp only [hc,bs, ↓reduceIte]at h) <;> try simp only [hc]
 | (with_reducible refine ay hQ ?_;(try cases h);simp only [az,aB,bc,bd,go_sem,hD,hF,hJ,hP,c1,w1,w2];try exact br)
 | (cases h;done))
 ·have c1:decide (n > 20000)=false:=by simp;omega
  by_cases d:(t.length:Int)≥20000 - n
  ·have d1:decide ((t.length:Int)≥20000 - n)=true:=by simp;omega
   have e:b8 t n=20001:=by unfold b8;rw [if_neg c,if_pos d]
   rw [e]
   refine aA.go mr rfl fun B Q hB hQ=> ?_
   have⟨hD,hF,hJ,hP⟩:=bI
   repeat' (first
 | simp only [go_sem,hD,hF,hJ,hP,c1,d1,w1,w2]
 | (with_reducible first | refine aJ fun hc=> ?_ | refine aK fun hc=> ?_ | refine aL (fun hc=> ?_) fun hc=> ?_) <;> (try simp only [hc,bs, ↓reduceIte]at h) <;> try simp only [hc]
 | (with_reducible refine ay hQ ?_;(try cases h);simp only [az,aB,bc,bd,go_sem,hD,hF,hJ,hP,c1,d1,w1,w2];try exact br)
 | (cases h;done))
  ·have d1:decide ((t.length:Int)≥20000 - n)=false:=by simp;omega
   have e:b8 t n=n+1+t.length:=by unfold b8;rw [if_neg c,if_neg d]
   have w3:IntKind.wrap .i64 (n+1+t.length)=n+1+t.length:=dt (by omega) (by omega)
   rw [e]
   refine aA.go mr rfl fun B Q hB hQ=> ?_
   have⟨hD,hF,hJ,hP⟩:=bI
   repeat' (first
 | simp only [go_sem,hD,hF,hJ,hP,c1,d1,w1,w2,w3]
 | (with_reducible first | refine aJ fun hc=> ?_ | refine aK fun hc=> ?_ | refine aL (fun hc=> ?_) fun hc=> ?_) <;> (try simp only [hc,bs, ↓reduceIte]at h) <;> try simp only [hc]
 | (with_reducible refine ay hQ ?_;(try cases h);simp only [az,aB,bc,bd,go_sem,hD,hF,hJ,hP,c1,d1,w1,w2,w3];try exact br)
 | (cases h;done))
theorem DR : ∀ (m:Nat) (x:Ex),x.size≤m→∀ {n:Int},0≤n→n≤20000→∀ s:St,aA Tryz.prog ig [.agg (bB x), .int .i64 n] s (.int .i64 (dR x n)) s:=by
 intro m
 induction m with
 | zero=>rintro⟨op,v,name,kids⟩ h;simp only [Ex.size]at h;omega
 | succ m ih=>
  rintro⟨op,v,name,kids⟩ eg n h0 h1 s
  refine aA.pure ?_ (by simp [D.bN,D.ok,iA]) rfl s
  simp only [Ex.size]at eg
  have hk : ∀ y∈kids,∀ {n:Int},0≤n→n≤20000→∀ s:St,aA Tryz.prog ig [.agg (bB y), .int .i64 n] s (.int .i64 (dR y n)) s:=fun y hy=>ih y (by have:=Ex.bS hy;omega)
  have ht:=fun s=>nW name h0 (by omega) s
  obtain⟨t1,t2,t3,t4⟩:=jW (t:=name) h0
  unfold S0
  generalize h:dR ⟨op,v,name,kids⟩ n=p
  simp only [dR]at h
  refine aA.go vN rfl fun B Q hB hQ=> ?_
  have⟨hD,hF,hJ,hP⟩:=bI
  repeat' (first
 | simp only [go_sem,hD,hF,hJ,hP]
 | (with_reducible refine CU (ht _) ?_)
 | (with_reducible first | refine aJ fun hc=> ?_ | refine aK fun hc=> ?_ | refine aL (fun hc=> ?_) fun hc=> ?_) <;> (try simp only [hc,bs, ↓reduceIte]at h) <;> try simp only [hc]
 | (with_reducible refine ay hQ ?_;exact bT)
 | (cases h;done))
  refine cV 1 0 (bj.ind (ι:=List Ex×Nat×Int) (fun i=>kids.drop i.2.1=i.1∧kL i.1 i.2.2=p∧(i.2.1:Int)≤i.2.2∧i.2.2≤20001) (fun i=>i.1.length)
   (fun i=> [(1, .int .i64 i.2.2),(2, .ptr 0 0),(5, .int .i64 (i.2.1:Int))]) (fun i=>⟨[bB ⟨op,v,name,kids⟩],[]⟩) ?_ (kids,0,b8 name n) ⟨rfl,h,t3,t1⟩)
  rintro⟨rest,k,c⟩ ⟨g1,h,g3,g4⟩ IH
  dsimp only at g1 h g3 g4
  cases rest with
  | nil=>
   have hD:=drop_nil g1
   simp only [kL]at h
   repeat' (first
 | simp only [go_sem,hD,hF,hJ,hP]
 | (with_reducible first | refine aJ fun hc=> ?_ | refine aK fun hc=> ?_ | refine aL (fun hc=> ?_) fun hc=> ?_) <;> (try simp only [hc,bs, ↓reduceIte]at h) <;> try simp only [hc]
 | (with_reducible refine ay hQ ?_;exact bT)
 | (cases h;done))
  | cons y rest=>
   obtain⟨hF,g2,hD,g5⟩:=drop_cons g1
   simp only [kL]at h
   by_cases hc:c≤20000
   ·have c1:decide (c≤20000)=true:=by simp;omega
    have hy:=fun s=>hk y (List.mem_of_getElem? hF) (n:=c) (by omega) hc s
    obtain⟨a1,a2,a3,a4⟩:=rB _ y (Nat.le_refl _) c (by omega)
    have:=a2 hc
    have w3:IntKind.wrap .i64 ((k:Int)+1)=((k+1:Nat):Int):=by rw [dt] <;> omega
    rw [if_pos hc]at h
    repeat' (first
 | simp only [go_sem,hD,hF,hJ,hP,c1,w3]
 | (with_reducible refine CU (hy _) ?_)
 | (with_reducible first | refine aJ fun hc=> ?_ | refine aK fun hc=> ?_ | refine aL (fun hc=> ?_) fun hc=> ?_) <;> (try simp only [hc,bs, ↓reduceIte]at h) <;> try simp only [hc]
 | (with_reducible refine ay hQ ?_;(try cases h);simp only [az,aB,bc,bd,go_sem,hD,hF,hJ,hP,c1,w3];try exact br)
 | (cases h;done))
    refine cV 1 0 (IH (rest,k+1,dR y c) ⟨g2,h,by dsimp only;omega,a1⟩ (Nat.lt_succ_self _))
   ·have c1:decide (c≤20000)=false:=by simp;omega
    rw [if_neg hc]at h
    repeat' (first
 | simp only [go_sem,hD,hF,hJ,hP,c1]
 | (with_reducible first | refine aJ fun hc=> ?_ | refine aK fun hc=> ?_ | refine aL (fun hc=> ?_) fun hc=> ?_) <;> (try simp only [hc,bs, ↓reduceIte]at h) <;> try simp only [hc]
 | (with_reducible refine ay hQ ?_;(try cases h);simp only [az,aB,bc,bd,go_sem,hD,hF,hJ,hP,c1];try exact br)
 | (cases h;done))
end Go.Abs

/-! Fits1 -/

namespace Go.Abs
set_option maxRecDepth 8000
open Go.Proofs
def c7:List aE→Int→Int
 | [],n=>n
 | t::l,n=>if n≤20000 then c7 l (b8 t n)else n
def fY:List Ar→Int→Int
 | [],n=>n
 | a::l,n=>if n≤20000 then fY l (b8 a.name (dR a.x n))else n
def iH:List Pm→Int→Int
 | [],n=>n
 | a::l,n=>if n≤20000 then iH l (b8 a.name n)else n
mutual
def oP:Sm→Int→Int
 | ⟨_,_,labels,name,proc,x,_,args,bk,aY⟩,n=>ey aY (ey bk (fY args (b8 proc (b8 name (c7 labels (dR x n))))))
def ey:List Sm→Int→Int
 | [],n=>n
 | s::l,n=>if n≤20000 then ey l (oP s n)else n
end
theorem J6 (s:Sm) (n:Int):oP s n=ey s.aY (ey s.bk (fY s.args (b8 s.proc (b8 s.name (c7 s.labels (dR s.x n)))))):=by cases s;simp only [oP]
def qb (f:Pc) (n:Int):Int:=ey f.body (iH f.params (c7 f.fin (c7 f.vars (b8 f.name n))))
def kM:List Pc→Int→Int
 | [],n=>n
 | f::l,n=>if n≤20000 then kM l (qb f n)else n
def Pg.wJ (p:Pg):Int:=kM p.procs (c7 p.globals 0)
theorem iY : ∀ (l:List aE) {n:Int},0≤n→n≤20001→c7 l n≤20001∧n≤c7 l n∧(c7 l n≤20000→n+l.length≤c7 l n∧∀ t∈l,t.length<4611686018427387904)
 | [],n,h0,h1=>by simp only [c7];exact⟨h1,Int.le_refl _,fun _=>⟨by simp,by simp⟩⟩
 | t::l,n,h0,h1=>by
  simp only [c7]
  split
  ·rename_i hc
   obtain⟨a1,a2,a3,a4⟩:=jW (t:=t) h0
   obtain⟨b1,b2,b3⟩:=iY l (n:=b8 t n) a3 a1
   have:=a2 hc
   refine⟨b1,by omega,fun hw=> ?_⟩
   obtain⟨c1,c2⟩:=b3 hw
   have:=a4 (by omega)
   refine⟨by simp only [List.length_cons];omega,fun s m=> ?_⟩
   rcases List.mem_cons.1 m with rfl | m
   ·omega
   ·exact c2 s m
  ·exact⟨h1,Int.le_refl _,fun hw=>by omega⟩
theorem uq : ∀ (l:List Pm) {n:Int},0≤n→n≤20001→iH l n≤20001∧n≤iH l n∧(iH l n≤20000→n+l.length≤iH l n∧∀ t∈l,t.name.length<4611686018427387904)
 | [],n,h0,h1=>by simp only [iH];exact⟨h1,Int.le_refl _,fun _=>⟨by simp,by simp⟩⟩
 | t::l,n,h0,h1=>by
  simp only [iH]
  split
  ·rename_i hc
   obtain⟨a1,a2,a3,a4⟩:=jW (t:=t.name) h0
   obtain⟨b1,b2,b3⟩:=uq l (n:=b8 t.name n) a3 a1
   have:=a2 hc
   refine⟨b1,by omega,fun hw=> ?_⟩
   obtain⟨c1,c2⟩:=b3 hw
   have:=a4 (by omega)
   refine⟨by simp only [List.length_cons];omega,fun s m=> ?_⟩
   rcases List.mem_cons.1 m with rfl | m
   ·omega
   ·exact c2 s m
  ·exact⟨h1,Int.le_refl _,fun hw=>by omega⟩
theorem ur : ∀ (l:List Ar) {n:Int},0≤n→n≤20001→fY l n≤20001∧n≤fY l n∧
 (fY l n≤20000→(Ar.aP l:Int)≤2*(fY l n - n)∧∀ a∈l,a.x.size<4611686018427387904∧a.x.texts∧a.name.length<4611686018427387904)
 | [],n,h0,h1=>by simp only [fY];exact⟨h1,Int.le_refl _,fun _=>⟨by simp [Ar.aP],by simp⟩⟩
 | a::l,n,h0,h1=>by
  simp only [fY]
  split
  ·rename_i hc
   obtain⟨a1,a2,a3,a4⟩:=rB _ a.x (Nat.le_refl _) n h0
   obtain⟨e1,e2,e3,e4⟩:=jW (t:=a.name) a3
   obtain⟨b1,b2,b3⟩:=ur l (n:=b8 a.name (dR a.x n)) e3 e1
   have:=a2 hc
   have:dR a.x n≤b8 a.name (dR a.x n):=by
    by_cases h:dR a.x n≤20000
    ·have:=e2 h;omega
    ·have:b8 a.name (dR a.x n)=20001:=by unfold b8;rw [if_pos (by omega)]
     omega
   refine⟨b1,by omega,fun hw=> ?_⟩
   obtain⟨c1,c2⟩:=b3 hw
   have:=e4 (by omega)
   obtain⟨d1,d2⟩:=a4 (by omega)
   refine⟨by simp only [Ar.aP];omega,fun s m=> ?_⟩
   rcases List.mem_cons.1 m with rfl | m
   ·exact⟨by omega,d2,by omega⟩
   ·exact c2 s m
  ·exact⟨h1,Int.le_refl _,fun hw=>by omega⟩
theorem je {t:aE} {n:Int} (h0:0≤n) (h1:n≤20001):n≤b8 t n∧b8 t n≤20001∧(b8 t n≤20000→n+1≤b8 t n∧t.length<4611686018427387904):=by
 obtain⟨e1,e2,e3,e4⟩:=jW (t:=t) h0
 by_cases h:n≤20000
 ·have:=e2 h
  exact⟨by omega,e1,fun hw=>⟨by omega,by have:=e4 hw;omega⟩⟩
 ·have:b8 t n=20001:=by unfold b8;rw [if_pos (by omega)]
  exact⟨by omega,e1,fun hw=>by omega⟩
mutual
theorem Bj : ∀ (s:Sm) {n:Int},0≤n→n≤20000→oP s n≤20001∧n+1≤oP s n∧(oP s n≤20000→(s.size:Int)+1≤2*(oP s n - n)∧s.pH)
 | ⟨id,kind,labels,name,proc,x,has,args,bk,aY⟩,n,h0,h1=>by
  obtain⟨a1,a2,a3,a4⟩:=rB _ x (Nat.le_refl _) n h0
  have a2:=a2 h1
  obtain⟨b1,b2,b3⟩:=iY labels a3 a1
  obtain⟨c1,c2,c3⟩:=je (t:=name) (n:=c7 labels (dR x n)) (by omega) b1
  obtain⟨d1,d2,d3⟩:=je (t:=proc) (n:=b8 name (c7 labels (dR x n))) (by omega) c2
  obtain⟨e1,e2,e3⟩:=ur args (n:=b8 proc (b8 name (c7 labels (dR x n)))) (by omega) d2
  obtain⟨f1,f2,f3⟩:=oQ bk (n:=fY args (b8 proc (b8 name (c7 labels (dR x n))))) (by omega) e1
  obtain⟨g1,g2,g3⟩:=oQ aY (n:=ey bk (fY args (b8 proc (b8 name (c7 labels (dR x n)))))) (by omega) f1
  simp only [oP,Sm.size]
  refine⟨g1,by omega,fun hw=> ?_⟩
  obtain⟨g4,g5⟩:=g3 hw
  obtain⟨f4,f5⟩:=f3 (by omega)
  obtain⟨e4,e5⟩:=e3 (by omega)
  obtain⟨d4,d5⟩:=d3 (by omega)
  obtain⟨c4,c5⟩:=c3 (by omega)
  obtain⟨b4,b5⟩:=b3 (by omega)
  obtain⟨a5,a6⟩:=a4 (by omega)
  have:=Ar.dc args
  refine⟨by omega, ?_⟩
  rw [xM]
  exact⟨⟨b5,by dsimp only;omega,c5,d5,by dsimp only;omega,a6,by dsimp only;omega,e5⟩,f5,g5⟩
theorem oQ : ∀ (l:List Sm) {n:Int},0≤n→n≤20001→ey l n≤20001∧n≤ey l n∧(ey l n≤20000→(Sm.aP l:Int)≤2*(ey l n - n)∧Sm.gy l)
 | [],n,h0,h1=>by simp only [ey];exact⟨h1,Int.le_refl _,fun _=>⟨by simp [Sm.aP],by simp only [Sm.gy]⟩⟩
 | s::l,n,h0,h1=>by
  simp only [ey]
  split
  ·rename_i hc
   obtain⟨a1,a2,a3⟩:=Bj s h0 hc
   obtain⟨b1,b2,b3⟩:=oQ l (n:=oP s n) (by omega) a1
   refine⟨b1,by omega,fun hw=> ?_⟩
   obtain⟨c1,c2⟩:=b3 hw
   obtain⟨d1,d2⟩:=a3 (by omega)
   exact⟨by simp only [Sm.aP];omega,d2,c2⟩
  ·exact⟨h1,Int.le_refl _,fun hw=>by omega⟩
end
theorem Bk (f:Pc) {n:Int} (h0:0≤n) (h1:n≤20000):qb f n≤20001∧n+1≤qb f n∧(qb f n≤20000→(f.size:Int)+1≤2*(qb f n - n)∧
 (f.name.length<4611686018427387904∧(∀ t∈f.vars,t.length<4611686018427387904)∧(∀ t∈f.fin,t.length<4611686018427387904)∧∀ a∈f.params,a.name.length<4611686018427387904)∧Sm.gy f.body):=by
 obtain⟨c1,c2,c3⟩:=je (t:=f.name) h0 (by omega:n≤20001)
 have c4:=(jW (t:=f.name) h0).2.1 h1
 obtain⟨d1,d2,d3⟩:=iY f.vars (n:=b8 f.name n) (by omega) c2
 obtain⟨e1,e2,e3⟩:=iY f.fin (n:=c7 f.vars (b8 f.name n)) (by omega) d1
 obtain⟨g1,g2,g3⟩:=uq f.params (n:=c7 f.fin (c7 f.vars (b8 f.name n))) (by omega) e1
 obtain⟨k1,k2,k3⟩:=oQ f.body (n:=iH f.params (c7 f.fin (c7 f.vars (b8 f.name n)))) (by omega) g1
 unfold qb Pc.size
 refine⟨k1,by omega,fun hw=> ?_⟩
 obtain⟨k4,k5⟩:=k3 hw
 obtain⟨g4,g5⟩:=g3 (by omega)
 obtain⟨e4,e5⟩:=e3 (by omega)
 obtain⟨d4,d5⟩:=d3 (by omega)
 obtain⟨_,c5⟩:=c3 (by omega)
 exact⟨by omega,⟨c5,d5,e5,g5⟩,k5⟩
theorem zb : ∀ (l:List Pc) {n:Int},0≤n→n≤20001→kM l n≤20001∧n≤kM l n∧(kM l n≤20000→(Pc.aP l:Int)≤2*(kM l n - n)∧∀ f∈l,
 (f.name.length<4611686018427387904∧(∀ t∈f.vars,t.length<4611686018427387904)∧(∀ t∈f.fin,t.length<4611686018427387904)∧∀ a∈f.params,a.name.length<4611686018427387904)∧Sm.gy f.body)
 | [],n,h0,h1=>by simp only [kM];exact⟨h1,Int.le_refl _,fun _=>⟨by simp [Pc.aP],by simp⟩⟩
 | f::l,n,h0,h1=>by
  simp only [kM]
  split
  ·rename_i hc
   obtain⟨a1,a2,a3⟩:=Bk f h0 hc
   obtain⟨b1,b2,b3⟩:=zb l (n:=qb f n) (by omega) a1
   refine⟨b1,by omega,fun hw=> ?_⟩
   obtain⟨c1,c2⟩:=b3 hw
   obtain⟨d1,d2⟩:=a3 (by omega)
   refine⟨by simp only [Pc.aP];omega,fun s m=> ?_⟩
   rcases List.mem_cons.1 m with rfl | m
   ·exact d2
   ·exact c2 s m
  ·exact⟨h1,Int.le_refl _,fun hw=>by omega⟩
theorem HK {p:Pg} (h:p.wJ≤20000):p.size≤40001∧p.yQ:=by
 unfold Pg.wJ at h
 obtain⟨a1,a2,a3⟩:=iY p.globals (n:=0) (by omega) (by omega)
 obtain⟨b1,b2,b3⟩:=zb p.procs (n:=c7 p.globals 0) (by omega) a1
 obtain⟨c1,c2⟩:=b3 h
 obtain⟨d1,d2⟩:=a3 (by omega)
 have:p.size≤40001:=by unfold Pg.size;omega
 exact⟨this,by omega,d2,fun f m=>(c2 f m).1,fun f m=>(c2 f m).2⟩
theorem sw {l:List aE} {n:Int} (h0:0≤n) (h1:n≤20001) (s:St):aA Tryz.prog gK [.slice .shared 1 (l.map encStr), .int .i64 n] s (.int .i64 (c7 l n)) s:=by
 refine aA.pure ?_ (by simp [D.bN,D.ok,dk,Tag.ok]) rfl s
 unfold S0
 generalize h:c7 l n=p
 refine aA.go uV rfl fun B Q hB hQ=> ?_
 have⟨hD,hF,hJ,hP⟩:=bI
 repeat' (first
 | simp only [go_sem,hD,hF,hJ,hP]
 | (with_reducible first | refine aJ fun hc=> ?_ | refine aK fun hc=> ?_ | refine aL (fun hc=> ?_) fun hc=> ?_) <;> (try simp only [hc,bs, ↓reduceIte]at h) <;> try simp only [hc]
 | (with_reducible refine ay hQ ?_;exact bT)
 | (cases h;done))
 refine cV 0 0 (bj.ind (ι:=List aE×Nat×Int) (fun i=>l.drop i.2.1=i.1∧c7 i.1 i.2.2=p∧(i.2.1:Int)≤i.2.2∧i.2.2≤20001) (fun i=>i.1.length)
  (fun i=> [(0, .slice .shared 1 (l.map encStr)),(1, .int .i64 i.2.2),(5, .int .i64 (i.2.1:Int))]) (fun i=>⟨[],[]⟩) ?_ (l,0,n) ⟨rfl,h,h0,h1⟩)
 rintro⟨rest,k,c⟩ ⟨g1,h,g3,g4⟩ IH
 dsimp only at g1 h g3 g4
 cases rest with
 | nil=>
  have hD:=drop_nil g1
  simp only [c7]at h
  subst h
  repeat' (first
 | simp only [go_sem,hD,hF,hJ,hP]
 | (with_reducible first | refine aJ fun hc=> ?_ | refine aK fun hc=> ?_ | refine aL (fun hc=> ?_) fun hc=> ?_) <;> (try simp only [hc,bs, ↓reduceIte]at h) <;> try simp only [hc]
 | (with_reducible refine ay hQ ?_;exact bT)
 | (cases h;done))
 | cons y rest=>
  obtain⟨hF,g2,hD,g5⟩:=drop_cons g1
  simp only [c7]at h
  by_cases hc:c≤20000
  ·have c1:decide (c≤20000)=true:=by simp;omega
   have hy:=fun s=>nW y (n:=c) (by omega) g4 s
   obtain⟨a1,a2,a3,a4⟩:=jW (t:=y) (n:=c) (by omega)
   have:=a2 hc
   have w3:IntKind.wrap .i64 ((k:Int)+1)=((k+1:Nat):Int):=by rw [dt] <;> omega
   rw [if_pos hc]at h
   repeat' (first
 | simp only [go_sem,hD,hF,hJ,hP,c1,w3]
 | (with_reducible refine CU (hy _) ?_)
 | (with_reducible first | refine aJ fun hc=> ?_ | refine aK fun hc=> ?_ | refine aL (fun hc=> ?_) fun hc=> ?_) <;> (try simp only [hc,bs, ↓reduceIte]at h) <;> try simp only [hc]
 | (with_reducible refine ay hQ ?_;(try cases h);simp only [az,aB,bc,bd,go_sem,hD,hF,hJ,hP,c1,w3];try exact br)
 | (cases h;done))
   refine cV 0 0 (IH (rest,k+1,b8 y c) ⟨g2,h,by dsimp only;omega,a1⟩ (Nat.lt_succ_self _))
  ·have c1:decide (c≤20000)=false:=by simp;omega
   rw [if_neg hc]at h
   subst h
   repeat' (first
 | simp only [go_sem,hD,hF,hJ,hP,c1]
 | (with_reducible first | refine aJ fun hc=> ?_ | refine aK fun hc=> ?_ | refine aL (fun hc=> ?_) fun hc=> ?_) <;> (try simp only [hc,bs, ↓reduceIte]at h) <;> try simp only [hc]
 | (with_reducible refine ay hQ ?_;(try cases h);simp only [az,aB,bc,bd,go_sem,hD,hF,hJ,hP,c1];try exact br)
 | (cases h;done))
theorem J7 : ∀ (m:Nat) (l:List Sm),Sm.aP l≤m→∀ {n:Int},0≤n→n≤20001→∀ s:St,aA Tryz.prog iP [.slice .shared 13 (l.map bp), .int .i64 n] s (.int .i64 (ey l n)) s:=by
 intro m
 induction m with
 | zero=>
  intro l h n h0 h1 s
  cases l with
  | nil=>
   have z:decide ((0:Int)<0)=false:=rfl
   refine aA.pure ?_ (by simp [D.bN,D.ok,D.jb,Tag.ok]) rfl s
   unfold S0
   simp only [ey]
   refine aA.go oV rfl fun B Q hB hQ=> ?_
   have⟨hD,hF,hJ,hP⟩:=bI
   repeat' (first
 | simp only [go_sem,hD,hF,hJ,hP,z]
 | (with_reducible refine bj.tP ?_)
 | (with_reducible first | refine aJ fun hc=> ?_ | refine aK fun hc=> ?_ | refine aL (fun hc=> ?_) fun hc=> ?_) <;> (try simp only [hc,bs, ↓reduceIte]at h) <;> try simp only [hc]
 | (with_reducible refine ay hQ ?_;(try cases h);simp only [az,aB,bc,bd,go_sem,hD,hF,hJ,hP,z];try exact br)
 | (cases h;done))
  | cons s l=>simp only [Sm.aP]at h;omega
 | succ m ih=>
  intro l h n h0 h1 s
  refine aA.pure ?_ (by simp [D.bN,D.ok,qK,Tag.ok]) rfl s
  unfold S0
  generalize hp:ey l n=p
  refine aA.go oV rfl fun B Q hB hQ=> ?_
  have⟨hD,hF,hJ,hP⟩:=bI
  repeat' (first
 | simp only [go_sem,hD,hF,hJ,hP]
 | (with_reducible first | refine aJ fun hc=> ?_ | refine aK fun hc=> ?_ | refine aL (fun hc=> ?_) fun hc=> ?_) <;> (try simp only [hc,bs, ↓reduceIte]at h) <;> try simp only [hc]
 | (with_reducible refine ay hQ ?_;exact bT)
 | (cases h;done))
  refine cV 0 0 (bj.ind (ι:=List Sm×Nat×Int) (fun i=>l.drop i.2.1=i.1∧ey i.1 i.2.2=p∧(i.2.1:Int)≤i.2.2∧i.2.2≤20001) (fun i=>i.1.length)
   (fun i=> [(0, .slice .shared 13 (l.map bp)),(1, .int .i64 i.2.2),(5, .int .i64 (i.2.1:Int))]) (fun i=>⟨[],[]⟩) ?_ (l,0,n) ⟨rfl,hp,h0,h1⟩)
  rintro⟨rest,k,c⟩ ⟨g1,hp,g3,g4⟩ IH
  dsimp only at g1 hp g3 g4
  cases rest with
  | nil=>
   have hD:=drop_nil g1
   simp only [ey]at hp
   subst hp
   repeat' (first
 | simp only [go_sem,hD,hF,hJ,hP]
 | (with_reducible first | refine aJ fun hc=> ?_ | refine aK fun hc=> ?_ | refine aL (fun hc=> ?_) fun hc=> ?_) <;> (try simp only [hc,bs, ↓reduceIte]at h) <;> try simp only [hc]
 | (with_reducible refine ay hQ ?_;exact bT)
 | (cases h;done))
  | cons y rest=>
   obtain⟨hF,g2,hD,g5⟩:=drop_cons g1
   simp only [ey]at hp
   by_cases hc:c≤20000
   ·have c1:decide (c≤20000)=true:=by simp;omega
    have lD:=List.mem_of_getElem? hF
    have eg:=Sm.bS lD
    have aag:s.av.length≤s.av.length∧Sm.aP y.bk<y.size∧Sm.aP y.aY<y.size:=by cases y;simp only [Sm.size];omega
    have w3:IntKind.wrap .i64 ((k:Int)+1)=((k+1:Nat):Int):=by rw [dt] <;> omega
    rw [if_pos hc]at hp
    obtain⟨a1,a2,a3,a4⟩:=rB _ y.x (Nat.le_refl _) c (by omega)
    have a2:=a2 hc
    obtain⟨b1,b2,b3⟩:=iY y.labels a3 a1
    obtain⟨c1',c2,c3⟩:=je (t:=y.name) (n:=c7 y.labels (dR y.x c)) (by omega) b1
    obtain⟨d1,d2,d3⟩:=je (t:=y.proc) (n:=b8 y.name (c7 y.labels (dR y.x c))) (by omega) c2
    have eE:=fun s=>DR _ y.x (Nat.le_refl _) (n:=c) (by omega) hc s
    have eL:=fun s=>sw (l:=y.labels) (n:=dR y.x c) (by omega) a1 s
    have eN:=fun s=>nW y.name (n:=c7 y.labels (dR y.x c)) (by omega) b1 s
    have eP:=fun s=>nW y.proc (n:=b8 y.name (c7 y.labels (dR y.x c))) (by omega) c2 s
    obtain⟨r1,r2,r3⟩:=Bj y (n:=c) (by omega) hc
    rw [J6]at hp r1 r2
    generalize hC:b8 y.proc (b8 y.name (c7 y.labels (dR y.x c)))=C at *
    obtain⟨s1,s2,s3⟩:=ur y.args (n:=C) (by omega) d2
    obtain⟨t1,t2,t3⟩:=oQ y.bk (n:=fY y.args C) (by omega) s1
    have eT:=fun s=>ih y.bk (by omega) (n:=fY y.args C) (by omega) s1 s
    have eS:=fun s=>ih y.aY (by omega) (n:=ey y.bk (fY y.args C)) (by omega) t1 s
    generalize hW:fY y.args C=W at *
    repeat' (first
 | simp only [go_sem,hD,hF,hJ,hP,c1,w3]
 | (with_reducible refine CU (eE _) ?_)
 | (with_reducible refine CU (eL _) ?_)
 | (with_reducible refine CU (eN _) ?_)
 | (with_reducible refine CU (eP _) ?_)
 | (with_reducible first | refine aJ fun hc=> ?_ | refine aK fun hc=> ?_ | refine aL (fun hc=> ?_) fun hc=> ?_) <;> (try simp only [hc,bs, ↓reduceIte]at h) <;> try simp only [hc]
 | (with_reducible refine ay hQ ?_;(try cases h);simp only [az,aB,bc,bd,go_sem,hD,hF,hJ,hP,c1,w3];try exact br)
 | (cases h;done))
    refine cV 1 0 (bj.ind (ι:=List Ar×Nat×Int) (fun i=>y.args.drop i.2.1=i.1∧fY i.1 i.2.2=W∧(i.2.1:Int)≤i.2.2∧i.2.2≤20001) (fun i=>i.1.length)
     (fun i=> [(0, .slice .shared 13 (l.map bp)),(1, .int .i64 i.2.2),(5, .int .i64 (k:Int)),(6, .ptr 0 0),(7, .int .i64 (i.2.1:Int))]) (fun i=>⟨[bp y],[]⟩) ?_ (y.args,0,C) ⟨rfl,hW,by dsimp only;omega,d2⟩)
    rintro⟨Ss,j,e⟩ ⟨k1,hw,k3,k4⟩ tq
    dsimp only at k1 hw k3 k4
    cases Ss with
    | nil=>
     have hD:=drop_nil k1
     simp only [fY]at hw
     subst hw
     repeat' (first
 | simp only [go_sem,hD,hF,hJ,hP,w3]
 | (with_reducible refine CU (eT _) ?_)
 | (with_reducible refine CU (eS _) ?_)
 | (with_reducible first | refine aJ fun hc=> ?_ | refine aK fun hc=> ?_ | refine aL (fun hc=> ?_) fun hc=> ?_) <;> (try simp only [hc,bs, ↓reduceIte]at h) <;> try simp only [hc]
 | (with_reducible refine ay hQ ?_;(try cases h);simp only [az,aB,bc,bd,go_sem,hD,hF,hJ,hP,w3];try exact br)
 | (cases h;done))
     refine cV 0 0 (IH (rest,k+1,ey y.aY (ey y.bk e)) ⟨g2,hp,by dsimp only;omega,r1⟩ (Nat.lt_succ_self _))
    | cons a Ss=>
     obtain⟨hF,k2,hD,k5⟩:=drop_cons k1
     simp only [fY]at hw
     by_cases he:e≤20000
     ·have e1:decide (e≤20000)=true:=by simp;omega
      have w4:IntKind.wrap .i64 ((j:Int)+1)=((j+1:Nat):Int):=by rw [dt] <;> omega
      rw [if_pos he]at hw
      obtain⟨u1,u2,u3,u4⟩:=rB _ a.x (Nat.le_refl _) e (by omega)
      have u2:=u2 he
      obtain⟨v1,v2,v3⟩:=je (t:=a.name) (n:=dR a.x e) u3 u1
      have eX:=fun s=>DR _ a.x (Nat.le_refl _) (n:=e) (by omega) he s
      have eM:=fun s=>nW a.name (n:=dR a.x e) u3 u1 s
      repeat' (first
 | simp only [go_sem,hD,hF,hJ,hP,e1,w4]
 | (with_reducible refine CU (eX _) ?_)
 | (with_reducible refine CU (eM _) ?_)
 | (with_reducible first | refine aJ fun hc=> ?_ | refine aK fun hc=> ?_ | refine aL (fun hc=> ?_) fun hc=> ?_) <;> (try simp only [hc,bs, ↓reduceIte]at h) <;> try simp only [hc]
 | (with_reducible refine ay hQ ?_;(try cases h);simp only [az,aB,bc,bd,go_sem,hD,hF,hJ,hP,e1,w4];try exact br)
 | (cases h;done))
      refine cV 1 0 (tq (Ss,j+1,b8 a.name (dR a.x e)) ⟨k2,hw,by dsimp only;omega,v2⟩ (Nat.lt_succ_self _))
     ·have e1:decide (e≤20000)=false:=by simp;omega
      rw [if_neg he]at hw
      subst hw
      repeat' (first
 | simp only [go_sem,hD,hF,hJ,hP,e1,w3]
 | (with_reducible refine CU (eT _) ?_)
 | (with_reducible refine CU (eS _) ?_)
 | (with_reducible first | refine aJ fun hc=> ?_ | refine aK fun hc=> ?_ | refine aL (fun hc=> ?_) fun hc=> ?_) <;> (try simp only [hc,bs, ↓reduceIte]at h) <;> try simp only [hc]
 | (with_reducible refine ay hQ ?_;(try cases h);simp only [az,aB,bc,bd,go_sem,hD,hF,hJ,hP,e1,w3];try exact br)
 | (cases h;done))
      refine cV 0 0 (IH (rest,k+1,ey y.aY (ey y.bk e)) ⟨g2,hp,by dsimp only;omega,r1⟩ (Nat.lt_succ_self _))
   ·have c1:decide (c≤20000)=false:=by simp;omega
    rw [if_neg hc]at hp
    subst hp
    repeat' (first
 | simp only [go_sem,hD,hF,hJ,hP,c1]
 | (with_reducible first | refine aJ fun hc=> ?_ | refine aK fun hc=> ?_ | refine aL (fun hc=> ?_) fun hc=> ?_) <;> (try simp only [hc,bs, ↓reduceIte]at h) <;> try simp only [hc]
 | (with_reducible refine ay hQ ?_;(try cases h);simp only [az,aB,bc,bd,go_sem,hD,hF,hJ,hP,c1];try exact br)
 | (cases h;done))
end Go.Abs

/-! Fits2 -/

namespace Go.Abs
set_option maxRecDepth 8000
open Go.Proofs
theorem Sw (p:Pg) (s:St):aA Tryz.prog sI [.agg (bP p)] s (.bool (decide (p.wJ≤20000))) s:=by
 refine aA.pure ?_ (by simp only [D.bN,D.ok,ie];rfl) rfl s
 unfold S0
 generalize hp:p.wJ=W
 unfold Pg.wJ at hp
 obtain⟨a1,a2,a3⟩:=iY p.globals (n:=0) (by omega) (by omega)
 have eG:=fun s=>sw (l:=p.globals) (n:=0) (by omega) (by omega) s
 refine aA.go Bu rfl fun B Q hB hQ=> ?_
 have⟨hD,hF,hJ,hP⟩:=bI
 repeat' (first
 | simp only [go_sem,hD,hF,hJ,hP]
 | (with_reducible refine CU (eG _) ?_)
 | (with_reducible first | refine aJ fun hc=> ?_ | refine aK fun hc=> ?_ | refine aL (fun hc=> ?_) fun hc=> ?_) <;> (try simp only [hc,bs, ↓reduceIte]at h) <;> try simp only [hc]
 | (with_reducible refine ay hQ ?_;exact bT)
 | (cases h;done))
 refine cV 1 0 (bj.ind (ι:=List Pc×Nat×Int) (fun i=>p.procs.drop i.2.1=i.1∧kM i.1 i.2.2=W∧(i.2.1:Int)≤i.2.2∧i.2.2≤20001) (fun i=>i.1.length)
  (fun i=> [(1, .ptr 0 0),(3, .int .i64 i.2.2),(4, .int .i64 (i.2.1:Int))]) (fun i=>⟨[bP p],[]⟩) ?_ (p.procs,0,c7 p.globals 0) ⟨rfl,hp,a2,a1⟩)
 rintro⟨rest,k,c⟩ ⟨g1,hp,g3,g4⟩ IH
 dsimp only at g1 hp g3 g4
 cases rest with
 | nil=>
  have hD:=drop_nil g1
  simp only [kM]at hp
  subst hp
  repeat' (first
 | simp only [go_sem,hD,hF,hJ,hP]
 | (with_reducible first | refine aJ fun hc=> ?_ | refine aK fun hc=> ?_ | refine aL (fun hc=> ?_) fun hc=> ?_) <;> (try simp only [hc,bs, ↓reduceIte]at h) <;> try simp only [hc]
 | (with_reducible refine ay hQ ?_;exact bT)
 | (cases h;done))
 | cons f rest=>
  obtain⟨hF,g2,hD,g5⟩:=drop_cons g1
  simp only [kM]at hp
  by_cases hc:c≤20000
  ·have c1:decide (c≤20000)=true:=by simp;omega
   have w3:IntKind.wrap .i64 ((k:Int)+1)=((k+1:Nat):Int):=by rw [dt] <;> omega
   rw [if_pos hc]at hp
   obtain⟨r1,r2,r3⟩:=Bk f (n:=c) (by omega) hc
   unfold qb at hp r1 r2
   obtain⟨c1',c2,c3⟩:=je (t:=f.name) (n:=c) (by omega) g4
   obtain⟨d1,d2,d3⟩:=iY f.vars (n:=b8 f.name c) (by omega) c2
   obtain⟨e1,e2,e3⟩:=iY f.fin (n:=c7 f.vars (b8 f.name c)) (by omega) d1
   have eN:=fun s=>nW f.name (n:=c) (by omega) g4 s
   have eV:=fun s=>sw (l:=f.vars) (n:=b8 f.name c) (by omega) c2 s
   have eF:=fun s=>sw (l:=f.fin) (n:=c7 f.vars (b8 f.name c)) (by omega) d1 s
   generalize hC:c7 f.fin (c7 f.vars (b8 f.name c))=C at *
   obtain⟨s1,s2,s3⟩:=uq f.params (n:=C) (by omega) e1
   have eT:=fun s=>J7 _ f.body (Nat.le_refl _) (n:=iH f.params C) (by omega) s1 s
   generalize hM:iH f.params C=M at *
   repeat' (first
 | simp only [go_sem,hD,hF,hJ,hP,c1,w3]
 | (with_reducible refine CU (eN _) ?_)
 | (with_reducible refine CU (eV _) ?_)
 | (with_reducible refine CU (eF _) ?_)
 | (with_reducible first | refine aJ fun hc=> ?_ | refine aK fun hc=> ?_ | refine aL (fun hc=> ?_) fun hc=> ?_) <;> (try simp only [hc,bs, ↓reduceIte]at h) <;> try simp only [hc]
 | (with_reducible refine ay hQ ?_;(try cases h);simp only [az,aB,bc,bd,go_sem,hD,hF,hJ,hP,c1,w3];try exact br)
 | (cases h;done))
   refine cV 2 0 (bj.ind (ι:=List Pm×Nat×Int) (fun i=>f.params.drop i.2.1=i.1∧iH i.1 i.2.2=M∧(i.2.1:Int)≤i.2.2∧i.2.2≤20001) (fun i=>i.1.length)
    (fun i=> [(1, .ptr 0 0),(3, .int .i64 i.2.2),(4, .int .i64 (k:Int)),(5, .ptr 1 0),(6, .int .i64 (i.2.1:Int))]) (fun i=>⟨[bP p,bV f],[]⟩) ?_ (f.params,0,C) ⟨rfl,hM,by dsimp only;omega,e1⟩)
   rintro⟨ms,j,e⟩ ⟨k1,hw,k3,k4⟩ tq
   dsimp only at k1 hw k3 k4
   cases ms with
   | nil=>
    have hD:=drop_nil k1
    simp only [iH]at hw
    subst hw
    repeat' (first
 | simp only [go_sem,hD,hF,hJ,hP,w3]
 | (with_reducible refine CU (eT _) ?_)
 | (with_reducible first | refine aJ fun hc=> ?_ | refine aK fun hc=> ?_ | refine aL (fun hc=> ?_) fun hc=> ?_) <;> (try simp only [hc,bs, ↓reduceIte]at h) <;> try simp only [hc]
 | (with_reducible refine ay hQ ?_;(try cases h);simp only [az,aB,bc,bd,go_sem,hD,hF,hJ,hP,w3];try exact br)
 | (cases h;done))
    refine cV 1 0 (IH (rest,k+1,ey f.body e) ⟨g2,hp,by dsimp only;omega,r1⟩ (Nat.lt_succ_self _))
   | cons a ms=>
    obtain⟨hF,k2,hD,k5⟩:=drop_cons k1
    simp only [iH]at hw
    by_cases he:e≤20000
    ·have e1:decide (e≤20000)=true:=by simp;omega
     have w4:IntKind.wrap .i64 ((j:Int)+1)=((j+1:Nat):Int):=by rw [dt] <;> omega
     rw [if_pos he]at hw
     obtain⟨v1,v2,v3⟩:=je (t:=a.name) (n:=e) (by omega) k4
     have v4:=(jW (t:=a.name) (n:=e) (by omega)).2.1 he
     have eM:=fun s=>nW a.name (n:=e) (by omega) k4 s
     repeat' (first
 | simp only [go_sem,hD,hF,hJ,hP,e1,w4]
 | (with_reducible refine CU (eM _) ?_)
 | (with_reducible first | refine aJ fun hc=> ?_ | refine aK fun hc=> ?_ | refine aL (fun hc=> ?_) fun hc=> ?_) <;> (try simp only [hc,bs, ↓reduceIte]at h) <;> try simp only [hc]
 | (with_reducible refine ay hQ ?_;(try cases h);simp only [az,aB,bc,bd,go_sem,hD,hF,hJ,hP,e1,w4];try exact br)
 | (cases h;done))
     refine cV 2 0 (tq (ms,j+1,b8 a.name e) ⟨k2,hw,by dsimp only;omega,v2⟩ (Nat.lt_succ_self _))
    ·have e1:decide (e≤20000)=false:=by simp;omega
     rw [if_neg he]at hw
     subst hw
     repeat' (first
 | simp only [go_sem,hD,hF,hJ,hP,e1,w3]
 | (with_reducible refine CU (eT _) ?_)
 | (with_reducible first | refine aJ fun hc=> ?_ | refine aK fun hc=> ?_ | refine aL (fun hc=> ?_) fun hc=> ?_) <;> (try simp only [hc,bs, ↓reduceIte]at h) <;> try simp only [hc]
 | (with_reducible refine ay hQ ?_;(try cases h);simp only [az,aB,bc,bd,go_sem,hD,hF,hJ,hP,e1,w3];try exact br)
 | (cases h;done))
     refine cV 1 0 (IH (rest,k+1,ey f.body e) ⟨g2,hp,by dsimp only;omega,r1⟩ (Nat.lt_succ_self _))
  ·have c1:decide (c≤20000)=false:=by simp;omega
   rw [if_neg hc]at hp
   subst hp
   repeat' (first
 | simp only [go_sem,hD,hF,hJ,hP,c1]
 | (with_reducible first | refine aJ fun hc=> ?_ | refine aK fun hc=> ?_ | refine aL (fun hc=> ?_) fun hc=> ?_) <;> (try simp only [hc,bs, ↓reduceIte]at h) <;> try simp only [hc]
 | (with_reducible refine ay hQ ?_;(try cases h);simp only [az,aB,bc,bd,go_sem,hD,hF,hJ,hP,c1];try exact br)
 | (cases h;done))
end Go.Abs

/-! MirEq -/

namespace Go.Abs
def xX:List aE→List aE→Bool
 | [],_=>true
 | _::_,[]=>true
 | x::l,y::l'=>if !(x==y)then false else xX l l'
def zc (l l':List aE):Bool:=if(l.length:Int) != (l'.length:Int)then false else xX l l'
def Ar.mS:List Ar→List Ar→Bool
 | [],_=>true
 | _::_,[]=>true
 | a::l,b::l'=>if !(a.ref==b.ref) || !(a.name==b.name) || !(Ex.beq a.x b.x)then false else Ar.mS l l'
mutual
def Sm.beq:Sm→Sm→Bool
 | ⟨id,kind,labels,name,proc,x,has,args,bk,aY⟩,⟨id',Vl,PH,Hb,Vm,x',aax,yu,Sx,Sy⟩=>
  if id != id' || kind != Vl || !(name==Hb) || !(proc==Vm) || !(has==aax) || !(zc labels PH) || !(Ex.beq x x') || (args.length:Int) != (yu.length:Int)then false
  else if !(Ar.mS args yu)then false
  else if(if(bk.length:Int) != (Sx.length:Int)then false else Sm.mS bk Sx)then(if(aY.length:Int) != (Sy.length:Int)then false else Sm.mS aY Sy)else false
def Sm.mS:List Sm→List Sm→Bool
 | [],_=>true
 | _::_,[]=>true
 | s::l,t::l'=>if !(Sm.beq s t)then false else Sm.mS l l'
end
def Sm.aay (l l':List Sm):Bool:=if(l.length:Int) != (l'.length:Int)then false else Sm.mS l l'
def Pm.mS:List Pm→List Pm→Bool
 | [],_=>true
 | _::_,[]=>true
 | a::l,b::l'=>if !((a.name==b.name) && (a.ref==b.ref))then false else Pm.mS l l'
def Pc.mS:List Pc→List Pc→Bool
 | [],_=>true
 | _::_,[]=>true
 | f::l,g::l'=>
  if !(f.name==g.name) || (f.params.length:Int) != (g.params.length:Int) || !(zc f.vars g.vars) || !(zc f.fin g.fin) || !(Sm.aay f.body g.body)then false
  else if !(Pm.mS f.params g.params)then false else Pc.mS l l'
def Pg.beq (p q:Pg):Bool:=if !(zc p.globals q.globals) || (p.procs.length:Int) != (q.procs.length:Int)then false else Pc.mS p.procs q.procs
theorem Bl : ∀ l,xX l l=true
 | []=>rfl
 | x::l=>by simp [xX,Bl l]
theorem MH (l:List aE):zc l l=true:=by simp [zc,Bl]
end Go.Abs

/-! RefEq -/

namespace Go.Abs
set_option maxRecDepth 8000
open Go.Proofs
theorem wu {l l':List aE} (hl:l.length<4611686018427387904) (s:St):aA Tryz.prog kz [.slice .shared 1 (l.map encStr), .slice .shared 1 (l'.map encStr)] s (.bool (zc l l')) s:=by
 refine aA.pure ?_ (by simp [D.bN,D.ok,Tag.ok,dk]) rfl s
 generalize h:zc l l'=p
 simp only [zc]at h
 unfold S0
 refine aA.go xH rfl fun B Q hB hQ=> ?_
 have⟨hD,hF,hJ,hP⟩:=bI
 repeat' (first
 | simp only [go_sem,hD,hF,hJ,hP]
 | (with_reducible first | refine aJ fun hc=> ?_ | refine aK fun hc=> ?_ | refine aL (fun hc=> ?_) fun hc=> ?_) <;> (try simp only [hc,bs, ↓reduceIte]at h) <;> try simp only [hc]
 | (with_reducible refine ay hQ ?_;exact bT)
 | (cases h;done))
 have hl5:l.length=l'.length:=by
  have:((l.length:Int) != (l'.length:Int))=false:=by assumption
  simp only [bne_eq_false_iff_eq]at this
  omega
 refine cV 0 0 (bj.ind (ι:=List aE×List aE×Nat) (fun i=>l.drop i.2.2=i.1∧l'.drop i.2.2=i.2.1∧xX i.1 i.2.1=p) (fun i=>i.1.length)
  (fun i=> [(0, .slice .shared 1 (l.map encStr)),(1, .slice .shared 1 (l'.map encStr)),(12, .int .i64 (l.length:Int)),(13, .int .i64 (i.2.2:Int))]) (fun i=>⟨[],[]⟩) ?_ (l,l',0) ⟨rfl,rfl,h⟩)
 rintro⟨r1,r2,k⟩ ⟨h1,h2,h⟩ IH
 dsimp only at h1 h2 h
 cases r1 with
 | nil=>
  have hD:=drop_nil h1
  simp only [xX]at h
  repeat' (first
 | simp only [go_sem,hD,hF,hJ,hP]
 | (with_reducible first | refine aJ fun hc=> ?_ | refine aK fun hc=> ?_ | refine aL (fun hc=> ?_) fun hc=> ?_) <;> (try simp only [hc,bs, ↓reduceIte]at h) <;> try simp only [hc]
 | (with_reducible refine ay hQ ?_;exact bT)
 | (cases h;done))
 | cons a r1=>
  obtain⟨hF,g2,hD,g4⟩:=drop_cons h1
  cases r2 with
  | nil=>have:=List.drop_eq_nil_iff.1 h2;omega
  | cons b r2=>
   obtain⟨Wl,b2,_,_⟩:=drop_cons h2
   have bm:k<4611686018427387904:=by omega
   simp only [xX]at h
   repeat' (first
 | simp only [go_sem,hD,hF,hJ,hP,Wl]
 | (with_reducible first | refine aJ fun hc=> ?_ | refine aK fun hc=> ?_ | refine aL (fun hc=> ?_) fun hc=> ?_) <;> (try simp only [hc,bs, ↓reduceIte]at h) <;> try simp only [hc]
 | (with_reducible refine ay hQ ?_;(try cases h);simp only [az,aB,bc,bd,go_sem,hD,hF,hJ,hP,Wl];try exact br)
 | (cases h;done))
   refine cd 0 0 ?_ ?_ (IH (r1,r2,k+1) ⟨g2,b2,h⟩ (Nat.lt_succ_self _))
   ·(simp only [go_sem,hD,hF,hJ,hP,au bm];try exact aZ)
   ·(simp only [go_sem,hD,hF,hJ,hP,au bm];try exact aZ)
end Go.Abs

/-! RefEq2 -/

namespace Go.Abs
set_option maxRecDepth 8000
open Go.Proofs
def wK (n:Int):Ex:=⟨1,n,[],[]⟩
def oR (s:aE):Ex:=⟨2,0,s,[]⟩
def ze (op:Int) (a b:Ex):Ex:=⟨op,0,[],[a,b]⟩
theorem Vn (n:Int) (s:St):aA Tryz.prog ox [.int .i64 n] s (.agg (bB (wK n))) s:=by
 refine aA.pure ?_ rfl (by simp [D.ok,iA]) s
 unfold S0
 refine aA.go Dd rfl fun B Q hB hQ=> ?_
 have⟨hD,hF,hJ,hP⟩:=bI
 repeat' (first
 | simp only [go_sem,hD,hF,hJ,hP,wK]
 | (with_reducible first | refine aJ fun hc=> ?_ | refine aK fun hc=> ?_ | refine aL (fun hc=> ?_) fun hc=> ?_) <;> (try simp only [hc,bs, ↓reduceIte]at h) <;> try simp only [hc]
 | (with_reducible refine ay hQ ?_;(try cases h);simp only [az,aB,bc,bd,go_sem,hD,hF,hJ,hP,wK];try exact br)
 | (cases h;done))
theorem HL (t:aE) (s:St):aA Tryz.prog jc [.str t] s (.agg (bB (oR t))) s:=by
 refine aA.pure ?_ rfl (by simp [D.ok,iA]) s
 unfold S0
 refine aA.go BA rfl fun B Q hB hQ=> ?_
 have⟨hD,hF,hJ,hP⟩:=bI
 repeat' (first
 | simp only [go_sem,hD,hF,hJ,hP,oR]
 | (with_reducible first | refine aJ fun hc=> ?_ | refine aK fun hc=> ?_ | refine aL (fun hc=> ?_) fun hc=> ?_) <;> (try simp only [hc,bs, ↓reduceIte]at h) <;> try simp only [hc]
 | (with_reducible refine ay hQ ?_;(try cases h);simp only [az,aB,bc,bd,go_sem,hD,hF,hJ,hP,oR];try exact br)
 | (cases h;done))
theorem J8 (op:Int) (a b:Ex) (s:St):aA Tryz.prog qL [.int .i64 op, .agg (bB a), .agg (bB b)] s (.agg (bB (ze op a b))) s:=by
 refine aA.pure ?_ (by simp [D.bN,D.ok,iA]) (by simp [D.ok,iA]) s
 unfold S0
 refine aA.go De rfl fun B Q hB hQ=> ?_
 have⟨hD,hF,hJ,hP⟩:=bI
 repeat' (first
 | simp only [go_sem,hD,hF,hJ,hP,ze]
 | (with_reducible first | refine aJ fun hc=> ?_ | refine aK fun hc=> ?_ | refine aL (fun hc=> ?_) fun hc=> ?_) <;> (try simp only [hc,bs, ↓reduceIte]at h) <;> try simp only [hc]
 | (with_reducible refine ay hQ ?_;(try cases h);simp only [az,aB,bc,bd,go_sem,hD,hF,hJ,hP,ze];try exact br)
 | (cases h;done))
def source:aE:= [103,108,111,98,97,108,32,103,59,10,112,114,111,99,32,109,97,105,110,40,41,32,123,10,32,118,97,114,32,118,59,10,32,118,32,61,32,50,59,10,32,103,32,61,32,112,40,51,44,32,114,101,102,32,118,41,59,10,32,112,114,105,110,116,32,118,59,10,32,112,114,105,110,116,32,103,59,10,125,10,112,114,111,99,32,112,40,120,44,32,114,101,102,32,121,41,32,123,10,32,121,32,61,32,121,32,43,32,120,59,10,32,105,102,32,40,121,32,62,32,57,41,32,123,10,32,32,103,111,116,111,32,101,59,10,32,125,10,32,114,101,116,117,114,110,32,121,59,10,101,58,32,125,10]
def nN:Pg:=⟨[[103]],[
 ⟨[109,97,105,110],[],[[118]],[
  ⟨1,1,[],[118],[],wK 2,false,[],[],[]⟩,
  ⟨2,4,[],[103],[112],om,false,[⟨false,[],wK 3⟩,⟨true,[118],om⟩],[],[]⟩,
  ⟨3,3,[],[],[],oR [118],false,[],[],[]⟩,
  ⟨4,3,[],[],[],oR [103],false,[],[],[]⟩],[]⟩,
 ⟨[112],[⟨[120],false⟩,⟨[121],true⟩],[],[
  ⟨5,1,[],[121],[],ze 8 (oR [121]) (oR [120]),false,[],[],[]⟩,
  ⟨6,5,[],[],[],ze 12 (oR [121]) (wK 9),false,[],[⟨7,10,[],[101],[],om,false,[],[],[]⟩],[]⟩,
  ⟨8,9,[],[],[],oR [121],true,[],[],[]⟩],[[101]]⟩]⟩
theorem Sz (s:St):aA Tryz.prog sJ [] s (.agg (bP nN)) s:=by
 refine aA.pure ?_ rfl (by simp [D.ok,ie]) s
 unfold S0
 refine aA.go Bx rfl fun B Q hB hQ=> ?_
 have⟨hD,hF,hJ,hP⟩:=bI
 repeat' (first
 | simp only [go_sem,hD,hF,hJ,hP,nN]
 | (with_reducible refine CU (Vn _ _) ?_)
 | (with_reducible refine CU (HL _ _) ?_)
 | (with_reducible refine CU (J8 _ _ _ _) ?_)
 | (with_reducible first | refine aJ fun hc=> ?_ | refine aK fun hc=> ?_ | refine aL (fun hc=> ?_) fun hc=> ?_) <;> (try simp only [hc,bs, ↓reduceIte]at h) <;> try simp only [hc]
 | (with_reducible refine ay hQ ?_;(try cases h);simp only [az,aB,bc,bd,go_sem,hD,hF,hJ,hP,nN];repeat' (first | exact Ok.out | with_reducible refine bO ?_ ?_ | (simp;done)))
 | (cases h;done))
 repeat' (first | exact Ok.out | with_reducible refine Wk.agg ?_ | with_reducible refine Wk.rows ?_ | with_reducible refine Wk.slice ?_ | with_reducible refine gv.cons ?_ ?_ | with_reducible refine kr.cons ?_ ?_)
end Go.Abs

/-! Prs3 -/

namespace Go.Abs
open Go.Proofs
end Go.Abs

/-! Prs4 -/

namespace Go.Abs
open Go.Proofs
end Go.Abs

/-! Prs5 -/

namespace Go.Abs
open Go.Proofs
end Go.Abs

/-! Prs6 -/

namespace Go.Abs
open Go.Proofs
end Go.Abs

/-! Lex3 -/

namespace Go.Abs
open Go.Proofs
end Go.Abs

/-! MirParse -/

namespace Go.Abs
def Wm (l:List nq):Rd:=⟨l,0,0,0,0⟩
def agN (m:Nat) (text:aE):Option (Pg×Int×Int):=
 if(tj text).2.1 != 0 then some (QK,(tj text).2)
 else(Rd.program m (Wm (tj text).1)).bind fun p=>if p.2.code != 0 then some (QK,p.2.code,p.2.CX)else(p.1.Ph).bind fun q=>some (q,0,0)
def ahb (m:Nat) (text:aE):Option (Ex×Int×Int):=
 if(tj text).2.1 != 0 then some (om,(tj text).2)
 else(Rd.whole m (Wm (tj text).1)).bind fun x=>x.2.Jm.bind fun b=>
  if b then(x.2.bad 3).bind fun r=>if !r.good then some (om,r.code,r.CX)else some (x.1,0,0)
  else if !x.2.good then some (om,x.2.code,x.2.CX)else some (x.1,0,0)
end Go.Abs

/-! Prs7 -/

namespace Go.Abs
open Go.Proofs
end Go.Abs

/-! Room1 -/

namespace Go.Abs
set_option maxRecDepth 8000
open Go.Proofs
def uu (n k:Int):Int:=if Int.tmod n k<0 then Int.tmod n k+k else Int.tmod n k
theorem PI (n:Int) {k:Int} (hk:1≤k):0≤uu n k∧uu n k<k:=by
 unfold uu
 have h1:=Int.tmod_lt_of_pos n (by omega:0<k)
 have h2:=Int.lt_tmod_of_pos n (by omega:0<k)
 split <;> omega
theorem Vo (n:Int) {k:Int} (hk:1≤k) (bm:k<1000000) (s:St):aA Tryz.prog tR [.int .i64 n, .int .i64 k] s (.int .i64 (uu n k)) s:=by
 refine aA.pure ?_ rfl rfl s
 have h1:=Int.tmod_lt_of_pos n (by omega:0<k)
 have h2:=Int.lt_tmod_of_pos n (by omega:0<k)
 have c1:decide (k<1)=false:=by simp;omega
 have w1:IntKind.wrap .i64 (Int.tmod n k)=Int.tmod n k:=dt (by omega) (by omega)
 have w2:IntKind.wrap .i64 (Int.tmod n k+k)=Int.tmod n k+k:=dt (by omega) (by omega)
 have k0:(k=0)=False:=by simp;omega
 unfold S0
 by_cases hm:Int.tmod n k<0
 ·have c2:decide (Int.tmod n k<0)=true:=by simp;omega
  rw [show uu n k=Int.tmod n k+k from if_pos hm]
  refine aA.go vM rfl fun B Q hB hQ=> ?_
  have⟨hD,hF,hJ,hP⟩:=bI
  repeat' (first
 | simp only [go_sem,hD,hF,hJ,hP,c1,c2,w1,w2,k0]
 | (with_reducible first | refine aJ fun hc=> ?_ | refine aK fun hc=> ?_ | refine aL (fun hc=> ?_) fun hc=> ?_) <;> (try simp only [hc,bs, ↓reduceIte]at h) <;> try simp only [hc]
 | (with_reducible refine ay hQ ?_;(try cases h);simp only [az,aB,bc,bd,go_sem,hD,hF,hJ,hP,c1,c2,w1,w2,k0];try exact br)
 | (cases h;done))
 ·have c2:decide (Int.tmod n k<0)=false:=by simp;omega
  rw [show uu n k=Int.tmod n k from if_neg hm]
  refine aA.go vM rfl fun B Q hB hQ=> ?_
  have⟨hD,hF,hJ,hP⟩:=bI
  repeat' (first
 | simp only [go_sem,hD,hF,hJ,hP,c1,c2,w1,w2,k0]
 | (with_reducible first | refine aJ fun hc=> ?_ | refine aK fun hc=> ?_ | refine aL (fun hc=> ?_) fun hc=> ?_) <;> (try simp only [hc,bs, ↓reduceIte]at h) <;> try simp only [hc]
 | (with_reducible refine ay hQ ?_;(try cases h);simp only [az,aB,bc,bd,go_sem,hD,hF,hJ,hP,c1,c2,w1,w2,k0];try exact br)
 | (cases h;done))
def Vp (t:aE):Nat→aE
 | 0=> []
 | n+1=>Vp t n++t
def two (i:Nat):aE:= [UInt8.ofNat (48+i / 10),UInt8.ofNat (48+i % 10)]
def SA (ahead:aE):Nat→aE
 | 0=> []
 | n+1=>(if n=0 then SA ahead n else SA ahead n++ [44])++(ahead++ [97]++two n)
def SB:Nat→aE
 | 0=> []
 | n+1=>SB n++([112,114,111,99,32,112]++two n++ [40,41,123,125])
end Go.Abs

/-! LawTo1 -/

namespace Go.Abs
set_option maxRecDepth 8000
open Go.Proofs
theorem J9:nN.may=true:=by decide +kernel
theorem Ai:nN.kK:=⟨JW J9 (by decide +kernel),by decide +kernel⟩
theorem MI:(nN.kc [109,97,105,110]).length=2:=by decide +kernel
theorem Ka:(nN.nD [109,97,105,110]).length=1:=by decide +kernel
theorem HM:(nN.nC [112]).length=0:=by decide +kernel
theorem HN (s:St):aA Tryz.prog oq [] s (.bool true) s:=by
 refine aA.pure ?_ rfl rfl s
 have hS:=fun s=>Sz s
 have h1:=fun s=>xg Ai [109,97,105,110] s
 have h2:=fun s=>Bi Ai [109,97,105,110] s
 have h3:=fun s=>uR Ai [112] s
 have e1:=MI
 have e2:=Ka
 have e3:=HM
 generalize nN.kc [109,97,105,110] = a1 at *
 generalize nN.nD [109,97,105,110] = a2 at *
 generalize nN.nC [112] = a3 at *
 generalize nN=P at *
 have e1:((a1.length:Int)==2)=true:=by rw [e1];rfl
 have e2:((a2.length:Int)==1)=true:=by rw [e2];rfl
 have e3:((a3.length:Int)==0)=true:=by rw [e3];rfl
 unfold S0
 refine aA.go wO rfl fun B Q hB hQ=> ?_
 have⟨hD,hF,hJ,hP⟩:=bI
 repeat' (first
 | simp only [go_sem,hD,hF,hJ,hP,e1,e2,e3]
 | (with_reducible refine CU (hS _) ?_)
 | (with_reducible refine CU (h1 _) ?_)
 | (with_reducible refine CU (h2 _) ?_)
 | (with_reducible refine CU (h3 _) ?_)
 | (with_reducible first | refine aJ fun hc=> ?_ | refine aK fun hc=> ?_ | refine aL (fun hc=> ?_) fun hc=> ?_) <;> (try simp only [hc,bs, ↓reduceIte]at h) <;> try simp only [hc]
 | (with_reducible refine ay hQ ?_;(try cases h);simp only [az,aB,bc,bd,go_sem,hD,hF,hJ,hP,e1,e2,e3];try exact br)
 | (cases h;done))
def Pg.tx (p:Pg) (n:Int):aE:=match p.procs[(uu n p.procs.length).toNat]? with | some f=>f.name | none=> []
theorem MJ {p:Pg} (hl:p.procs.length<1000000) (n:Int) (s:St):aA Tryz.prog qi [.agg (bP p), .int .i64 n] s (.str (p.tx n)) s:=by
 refine aA.pure ?_ (by simp [D.bN,D.ok,ie]) rfl s
 unfold S0
 by_cases hz:p.procs.length=0
 ·have hz':p.procs = []:=List.eq_nil_of_length_eq_zero hz
  have c1:((p.procs.length:Int)==0)=true:=by rw [hz];rfl
  have e:p.tx n = []:=by unfold Pg.tx;rw [hz'];rfl
  rw [e]
  refine aA.go rY rfl fun B Q hB hQ=> ?_
  have⟨hD,hF,hJ,hP⟩:=bI
  repeat' (first
 | simp only [go_sem,hD,hF,hJ,hP,c1]
 | (with_reducible first | refine aJ fun hc=> ?_ | refine aK fun hc=> ?_ | refine aL (fun hc=> ?_) fun hc=> ?_) <;> (try simp only [hc,bs, ↓reduceIte]at h) <;> try simp only [hc]
 | (with_reducible refine ay hQ ?_;(try cases h);simp only [az,aB,bc,bd,go_sem,hD,hF,hJ,hP,c1];try exact br)
 | (cases h;done))
 ·have c1:((p.procs.length:Int)==0)=false:=by simp only [beq_eq_false_iff_ne,ne_eq];omega
  have hk:=PI n (k:=(p.procs.length:Int)) (by omega)
  have hm:=fun s=>Vo n (k:=(p.procs.length:Int)) (by omega) (by omega) s
  obtain⟨j,hj⟩ : ∃ j:Nat,uu n p.procs.length=(j:Int):=⟨(uu n p.procs.length).toNat,(Int.toNat_of_nonneg hk.1).symm⟩
  have xb:j<p.procs.length:=by have h2:=hk.2;rw [hj]at h2;omega
  obtain⟨f,hf⟩ : ∃ f,p.procs[j]? = some f:=⟨_,List.getElem?_eq_getElem xb⟩
  have e:p.tx n=f.name:=by unfold Pg.tx;rw [hj,Int.toNat_natCast,hf]
  rw [hj]at hm
  rw [e]
  have s9:decide ((j:Int)<(p.procs.length:Int))=true:=by simp;omega
  refine aA.go rY rfl fun B Q hB hQ=> ?_
  have⟨hD,hF,hJ,hP⟩:=bI
  repeat' (first
 | simp only [go_sem,hD,hF,hJ,hP,c1,hf,s9]
 | (with_reducible refine CU (hm _) ?_)
 | (with_reducible first | refine aJ fun hc=> ?_ | refine aK fun hc=> ?_ | refine aL (fun hc=> ?_) fun hc=> ?_) <;> (try simp only [hc,bs, ↓reduceIte]at h) <;> try simp only [hc]
 | (with_reducible refine ay hQ ?_;(try cases h);simp only [az,aB,bc,bd,go_sem,hD,hF,hJ,hP,c1,hf,s9];try exact br)
 | (cases h;done))
theorem MK (l:List aE):(fD l).length≤l.length:=sv _ _ (mL (iE l).1) fun x m=>((iE l).2 x).1 m
theorem HO {p:Pg} (h:p.kK) (nm:aE):(p.nC nm).length≤900000:=by
 unfold Pg.nC
 cases hs:p.k8 nm with
 | none=>exact Nat.zero_le _
 | some f=>
  obtain⟨eY,hf⟩:=jV hs
  have h1:Good p f.calls:=⟨mL (iE _).1,fun y m=>pK eY (kb hf).1 m⟩
  have:=h1.len;have:=h.procs;dsimp only;omega
theorem DS {p:Pg} (h:p.kK) (nm:aE):(p.kc nm).length≤900000:=by
 unfold Pg.kc
 cases hs:p.k8 nm with
 | none=>exact Nat.zero_le _
 | some f=>
  obtain⟨eY,hf⟩:=jV hs
  have:=(um eY hf).len;have:=h.procs;dsimp only;omega
theorem HP {p:Pg} (h:p.kK) (nm:aE):(p.nD nm).length≤2000000000000:=by
 unfold Pg.nD
 cases hs:p.k8 nm with
 | none=>exact Nat.zero_le _
 | some f=>
  obtain⟨eY,hf⟩:=jV hs
  have h1:=(um eY hf).len
  have h2:=h.procs
  have h3:=(pj h (fD (p.work nm)) []).2
  have h4:(fD (p.work nm)).length*1800000≤900000*1800000:=Nat.mul_le_mul_right _ (by omega)
  have h5:=MK (p.mC nm)
  dsimp only
  unfold Pg.mC at *
  simp only [List.length_nil]at h3
  omega
theorem DT (p:Pg) (n:Int) (s:St):aA Tryz.prog rX [.agg (bP p), .int .i64 n] s (.bool true) s:=by
 refine aA.pure ?_ (by simp [D.bN,D.ok,ie]) rfl s
 have h1:=fun s=>HN s
 have h2:=fun s=>Sw p s
 unfold S0
 rcases Bool.eq_false_or_eq_true (decide (p.wJ≤20000))with hw | hw
 case inr=>
  simp only [hw]at h2
  refine aA.go qA rfl fun B Q hB hQ=> ?_
  have⟨hD,hF,hJ,hP⟩:=bI
  repeat' (first
 | simp only [go_sem,hD,hF,hJ,hP]
 | (with_reducible refine CU (h1 _) ?_)
 | (with_reducible refine CU (h2 _) ?_)
 | (with_reducible first | refine aJ fun hc=> ?_ | refine aK fun hc=> ?_ | refine aL (fun hc=> ?_) fun hc=> ?_) <;> (try simp only [hc,bs, ↓reduceIte]at h) <;> try simp only [hc]
 | (with_reducible refine ay hQ ?_;exact bT)
 | (cases h;done))
 simp only [hw]at h2
 obtain⟨eg,Vq⟩:=HK (of_decide_eq_true hw)
 have ho:p.kK:=⟨Vq,by omega⟩
 obtain⟨od,mO,oW⟩:=ho.procs
 have h3:=fun s=>MJ (p:=p) (by omega) n s
 generalize p.tx n=nm at h3
 have c1:=fun s=>uR ho nm s
 have c2:=fun s=>xg ho nm s
 have c3:=fun s=>Bi ho nm s
 have r1:=fun s=>DN ho nm s
 have r2:=fun s=>BO ho nm s
 have r3:=fun s=>Ah ho nm s
 have l1:(p.nC nm).length<4611686018427387904:=by have:=HO ho nm;omega
 have l2:(p.kc nm).length<4611686018427387904:=by have:=DS ho nm;omega
 have l3:(p.nD nm).length<4611686018427387904:=by have:=HP ho nm;omega
 have t1:=fun s=>wu (l':=p.nC nm) l1 s
 have t2:=fun s=>wu (l':=p.kc nm) l2 s
 have t3:=fun s=>wu (l':=p.nD nm) l3 s
 simp only [MH]at t1 t2 t3
 refine aA.go qA rfl fun B Q hB hQ=> ?_
 have⟨hD,hF,hJ,hP⟩:=bI
 repeat' (first
 | simp only [go_sem,hD,hF,hJ,hP]
 | (with_reducible refine CU (h1 _) ?_)
 | (with_reducible refine CU (h2 _) ?_)
 | (with_reducible refine CU (h3 _) ?_)
 | (with_reducible refine CU (c1 _) ?_)
 | (with_reducible refine CU (c2 _) ?_)
 | (with_reducible refine CU (c3 _) ?_)
 | (with_reducible refine CU (r1 _) ?_)
 | (with_reducible refine CU (r2 _) ?_)
 | (with_reducible refine CU (r3 _) ?_)
 | (with_reducible refine CU (t1 _) ?_)
 | (with_reducible refine CU (t2 _) ?_)
 | (with_reducible refine CU (t3 _) ?_)
 | (with_reducible first | refine aJ fun hc=> ?_ | refine aK fun hc=> ?_ | refine aL (fun hc=> ?_) fun hc=> ?_) <;> (try simp only [hc,bs, ↓reduceIte]at h) <;> try simp only [hc]
 | (with_reducible refine ay hQ ?_;exact bT)
 | (cases h;done))
end Go.Abs

/-! Glue2 -/

namespace Go.Abs
def M0:Map:=⟨fun _ _=>none,fun _=>(0, .any),fun _=>none⟩
def Kept (w w':World):Prop:=w.keptBut w' (fun _=>False)∧∀ a:Addr,a.block<w.heap.size→w'.frozen? a=w.frozen? a
theorem Kept.frame {w w':World} (h:Kept w w') (may:MemPlace→Prop):w.keptBut w' may:=World.keptBut_mono (fun _ f=>f.elim) h.1
theorem Ext.SC {M M':Map} {s':St} {w w':World} (e:Ext M S0 w M' s' w'):Kept w w':=by
 have hh : ∀ b,b<w.heap.size→w'.heap[b]? = w.heap[b]? :=fun b hb=>
  e.kept b hb (fun o ho=>by simp [S0]at ho) (fun t c z hl=>by obtain⟨n,hn⟩:=hl;simp [S0]at hn)
 refine⟨⟨e.os,e.output,fun i hi=> ?_⟩,fun a ha=> ?_⟩
 ·rw [hh i hi]
  exact(World.keptBut_refl w (fun _=>False)).2.2 i hi
 ·simp only [World.frozen?,hh _ ha]
theorem aaA (G:Nat→Nat→Option Value) (w:World) (h : ∀ b o v,G b o=some v→w.cell? ⟨b,o,none⟩=some v∧v.oneCell'=true):Rel ⟨G,fun _=>(0, .any),fun _=>none⟩ S0 w:=
 ⟨h,fun o ds e=>by simp [S0]at e,fun o ho=>by simp [S0]at ho,fun o o' ho=>by simp [S0]at ho,fun t n e=>by simp [S0]at e,
  fun t b c z o hl=>by obtain⟨n,hn⟩:=hl;simp [S0]at hn,fun t t' b c z c' z' hl=>by obtain⟨n,hn⟩:=hl;simp [S0]at hn⟩
def HQ (w:World):Prop:=∀ g cs,PV g=some cs→∃ T fr,w.heap[g]? = some (.cells cs T fr)
theorem Vr (G:Nat→Nat→Option Value) {w:World} (h:HQ w):Laid ⟨G,fun _=>(0, .any),fun _=>none⟩ S0 w:=
 fun g cs hg=>⟨h g cs hg,fun o ho=>by simp [S0]at ho,fun t c z hl=>by obtain⟨n,hn⟩:=hl;simp [S0]at hn⟩
theorem Kb {P:Program} {f:FuncId} {args:List D} {fk:Array Value} {w:World} {G:Nat→Nat→Option Value} (h:ef P f args S0 fun d _=>d = .bool true)
 (hG : ∀ b o v,G b o=some v→w.cell? ⟨b,o,none⟩=some v∧v.oneCell'=true) (hl:fk.size=args.length)
 (ha : ∀ (i:Nat) (d:D) (v:Value),args[i]? = some d→fk[i]? = some v→RD ⟨G,fun _=>(0, .any),fun _=>none⟩ S0 d v) (jw:HQ w) :
 Calls P f fk w fun e w'=>e = .returned (.bool true)∧Kept w w':=by
 refine(h _ w fk (aaA G w hG) (Vr G jw) hl ha).mono fun e w' hw=> ?_
 obtain⟨M',d,v,s',rfl,rfl,he,_,hv⟩:=hw
 rw [hv.kW]
 exact⟨rfl,he.SC⟩
section
variable {P:Program} {H:Type} {enc:TypeId×Value→H}
theorem DU {f:Func} {s:ChangeSpec} {apart fresh handsOn again:Bool} {W W':World} {args:Array Value} {v:Value} {ds gs:List (DataW H)} {before pa pv:List MemPlace}
 (hW:DataW.Whole enc P f.params.toList s.vars apart W args.toList ds gs before)
 (SD : ∀ (b:Nat) (sp:Nat→Bool) (hd:Bool),DataW.TrodAll enc P W' b sp hd f.resultTypes.toList (v.resultList f.resultTypes.size) (s.fn H (ds++gs)).results [])
 (BS : ∀ sp:Nat→Bool,(∀ p∈before,sp p.block=true)→DataW.TrodAll enc P W' 0 sp true f.params.toList args.toList (s.fn H (ds++gs)).args pa)
 (zf : ∀ sp:Nat→Bool,(∀ p∈before,sp p.block=true)→DataW.TrodVars enc P W' sp s.vars (s.fn H (ds++gs)).vars pv)
 (mO:before=pa++pv) (hk:Kept W W')
 (AA : ∀ (j:Nat) (t:TypeId) (r:Value),f.resultTypes[j]? = some t→(v.resultList f.resultTypes.size)[j]? = some r→Value.okWide P W' .any 0 t r) :
 s.post enc P f apart fresh handsOn again W args v W':=by
 have hD : ∀ p∈before,p.block<W.heap.size:=fun p hp=>hW.lt p hp
 have hold : ∀ p∈before,(fun b=>decide (b<W.heap.size)) p.block=true:=fun p hp=>by simpa using hD p hp
 refine⟨ds,gs,before,[],pa,pv,hW,SD _ _ _,BS _ hold,zf _ hold,World.keptBut_mono (fun p hp=>⟨hp, ?_⟩) (hk.frame (· ∈before)),fun _=> ?_⟩
 ·rw [mO,List.mem_append]at hp
  exact Or.inr hp
 ·obtain⟨_,_,_,_,_,hz,hn⟩:=hW
  refine⟨AA,_,_,([]++pa)++pv,⟨[]++pa,pv,ChangeShapes.trodAll_append (BS _ (fun _ _=>rfl)) (SD _ _ _),zf _ (fun _ _=>rfl),rfl, ?_, ?_⟩, ?_⟩
  ·intro b off hp
   have lP:MemPlace.cell b off∈before:=by rw [mO];simpa using hp
   rw [hk.2 _ (hD _ lP)]
   exact hz b off lP
  ·intro ha
   have:=hn ha
   rw [mO]at this
   simpa using this
  ·intro p hp _
   rw [mO]
   simpa using hp
end
end Go.Abs

/-! Join -/

namespace Go.Abs
open Go.RowKit Go.ChangeShapes Go.WideShapes
def Ak (w:World) (b o:Nat):Option Value:=
 match w.cell? ⟨b,o,none⟩with
 | some v=>if v.oneCell'=true then some v else none
 | none=>none
theorem E7 {w:World} (b o:Nat) (v:Value) (h:Ak w b o=some v):w.cell? ⟨b,o,none⟩=some v∧v.oneCell'=true:=by
 unfold Ak at h
 split at h
 ·split at h
  ·cases h;exact⟨‹_›, ‹_›⟩
  ·cases h
 ·cases h
def wv (w:World):Map:=⟨Ak w,fun _=>(0, .any),fun _=>none⟩
theorem Kept.sameAt {w w':World} (h:Kept w w') {p:MemPlace} (hp:p.block<w.heap.size):w.sameAt w' p:=by
 have hk:=h.1.2.2 p.block hp
 cases p with
 | cell b off=>
  simp only [MemPlace.block]at hk hp
  simp only [World.sameAt,World.cell?]
  split at hk
  ·rename_i c t fr c' t' fr' e e'
   rw [e,e']
   simp only [hk.2.2.2 off (fun f=>f)]
  ·rename_i es clock uz SE e e'
   rw [e,e']
  ·rw [hk]
 | map b=>
  simp only [MemPlace.block]at hk hp
  simp only [World.sameAt]
  split at hk
  ·rename_i c t fr c' t' fr' e e'
   rw [e,e']
   obtain⟨rfl,rfl,hs,hc⟩:=hk
   have:c'=c:=by
    apply Array.ext_getElem?
    intro i
    exact hc i (fun f=>f)
   rw [this]
  ·rename_i es clock uz SE e e'
   rcases hk with f | ⟨rfl,rfl⟩
   ·exact f.elim
   ·rw [e,e']
  ·exact hk
section
variable {P:Program} {H:Type} {enc:TypeId×Value→H} {T:TypeId→Prop}
theorem zg (K:Kids P T) (hz : ∀ {t e:TypeId},T t→P.underlying t=some (.slice e)→0<P.cellsOf e) {W W':World} (hk:Kept W W') {sp:Nat→Bool} :
 ∀ {ts:List TypeId} {vs:List Value} {ds:List (DataW H)} {ps:List MemPlace},(∀ t∈ts,T t)→(∀ p∈ps,p.block<W.heap.size)→(∀ p∈ps,sp p.block=true)→
  DataW.TrodAll enc P W 0 (fun _=>true) true ts vs ds ps→DataW.TrodAll enc P W' 0 sp true ts vs ds ps
 | [],[],[],_,_,_,_,h=>h
 | t::ts,v::vs,d::ds,ps,hT,hD,hs,⟨p,q,⟨n,h1⟩,h2,e⟩=>by
  subst e
  refine⟨p,q,⟨n,DataW.trod_stays K hz (fun f=>by cases f) (hT t (List.mem_cons_self ..)) h1 (fun x hx=>hk.sameAt (hD x (List.mem_append_left _ hx))) (fun x hx=>hs x (List.mem_append_left _ hx))⟩, ?_,rfl⟩
  exact zg K hz hk (fun t ht=>hT t (List.mem_cons_of_mem _ ht)) (fun x hx=>hD x (List.mem_append_right _ hx)) (fun x hx=>hs x (List.mem_append_right _ hx)) h2
 | [],[],_::_,_,_,_,_,h=>h.elim
 | [],_::_,_,_,_,_,_,h=>h.elim
 | _::_,[],_,_,_,_,_,h=>h.elim
 | _::_,_::_,[],_,_,_,_,h=>h.elim
theorem MM (K:Kids P T) (hz : ∀ {t e:TypeId},T t→P.underlying t=some (.slice e)→0<P.cellsOf e) {f:Func} {s:ChangeSpec} {apart fresh handsOn again:Bool} {tb:TypeId} {W W':World} {args:Array Value} {ds gs:List (DataW H)} {before:List MemPlace}
 (hT : ∀ t∈f.params.toList,T t) (hb:P.underlying tb=some .bool) (hr:f.resultTypes = #[tb]) (zf:s.vars = []) (hW:DataW.Whole enc P f.params.toList s.vars apart W args.toList ds gs before)
 (sj:s.fn H (ds++gs) = {results:= [.lit (.bool true)],args:=ds}) (hk:Kept W W'):s.post enc P f apart fresh handsOn again W args (.bool true) W':=by
 have SF:=hW
 have hD : ∀ p∈before,p.block<W.heap.size:=fun p hp=>hW.lt p hp
 obtain⟨p,q,hA,hV,rfl,hfz,hnd⟩:=hW
 rw [zf]at hV
 obtain⟨rfl,rfl⟩:=trodVars_none hV
 simp only [List.append_nil]at hD sj
 refine DU (pa:=p) (pv:= []) SF (fun b sp hd=> ?_) (fun sp mg=> ?_) (fun sp mg=> ?_) rfl hk (ok_one hr rfl (okWide_bool_mk hb _))
 ·rw [List.append_nil,sj,hr]
  exact trodAll_cons_mk (shut_bool hb _) trodAll_mk0
 ·rw [List.append_nil,sj]
  simp only [List.append_nil]at mg
  exact zg K hz hk hT hD mg hA
 ·rw [List.append_nil,sj,zf]
  rfl
theorem PK {f:FuncId} {args:List D} {fk:Array Value} {w:World} (h:ef P f args S0 fun d _=>d = .bool true) (hl:fk.size=args.length)
 (ha : ∀ (i:Nat) (d:D) (v:Value),args[i]? = some d→fk[i]? = some v→RD (wv w) S0 d v) (jw:HQ w):Calls P f fk w fun e w'=>e = .returned (.bool true)∧Kept w w':=
 Kb (G:=Ak w) h E7 hl ha jw
end
end Go.Abs

/-! Binds1 -/

namespace Go.Abs
open Go.Proofs
def zh (n:Int):List D:= [.int .i64 n]
theorem Vs (n:Int):D.bN 0 0 (zh n)=true:=rfl
theorem SG (n m:Nat) (l:List Int):D.iM n m (l.map zh)=l.map zh:=ky Vs n m l
attribute [go_sem] zh SG
def Vt (op:Int):aE:=
 if op=5 then [42]else if op=6 then [47]else if op=7 then [37]else if op=8 then [43]else if op=9 then [45]else if op=10 then [60]else if op=11 then [60,61]
 else if op=12 then [62]else if op=13 then [62,61]else if op=14 then [61,61]else if op=15 then [33,61]else if op=16 then [38,38]else [124,124]
def ahc (op:Int):Int:=(RE (Vt op)).1
def Kc:Nat→List aE
 | 0=> []
 | n+1=>Kc n++ [[UInt8.ofNat (97+n)]]
end Go.Abs

/-! Join2 -/

namespace Go.Abs
open Go.RowKit Go.ChangeShapes Go.WideShapes
end Go.Abs

/-! Join3 -/

namespace Go.Abs
open Go.RowKit Go.ChangeShapes Go.WideShapes
def ea (W:World) (ds:List D) (cs:List Value):Prop:=ds.length=cs.length∧(∀ (i:Nat) (d:D) (v:Value),ds[i]? = some d→cs[i]? = some v→RD (wv W) S0 d v)∧∀ v∈cs,v.oneCell'=true
theorem ea.one {W:World} {d:D} {v:Value} (h:RD (wv W) S0 d v) (hv:v.oneCell'=true):ea W [d] [v]:=by
 refine⟨rfl,fun i d' v' h1 h2=> ?_,fun u hu=>by simp at hu;subst hu;exact hv⟩
 cases i with
 | zero=>simp at h1 h2;subst h1 h2;exact h
 | succ i=>simp at h1
theorem ea.app {W:World} {ds lK:List D} {cs gN:List Value} (h:ea W ds cs) (h':ea W lK gN):ea W (ds++lK) (cs++gN):=by
 obtain⟨a1,a2,a3⟩:=h
 obtain⟨b1,b2,b3⟩:=h'
 refine⟨by simp [a1,b1],fun i d v h1 h2=> ?_,fun v hv=> ?_⟩
 ·by_cases hi:i<ds.length
  ·rw [List.getElem?_append_left hi]at h1
   rw [List.getElem?_append_left (by omega)]at h2
   exact a2 i d v h1 h2
  ·rw [List.getElem?_append_right (by omega)]at h1
   rw [List.getElem?_append_right (by omega), ← a1]at h2
   exact b2 _ d v h1 h2
 ·rcases List.mem_append.1 hv with hv | hv
  ·exact a3 v hv
  ·exact b3 v hv
theorem ea.at {W:World} {ds lK:List D} {cs:List Value} {o n:Nat} (h:ea W ds ((cs.drop o).take n)) (h':ea W lK (cs.drop (o+n))):ea W (ds++lK) (cs.drop o):=by
 have e:cs.drop o=(cs.drop o).take n++cs.drop (o+n):=by rw [← List.drop_drop,List.take_append_drop]
 rw [e]
 exact h.app h'
theorem ea.end {W:World} {cs:List Value} {o:Nat} (h:cs.length=o):ea W [] (cs.drop o):=by
 rw [← h,List.drop_length]
 exact⟨rfl,fun i d v h=>by simp at h,fun v hv=>by cases hv⟩
section
variable {H:Type} {enc:TypeId×Value→H} {P:Program} {W:World} {sp:Nat→Bool}
def structOf (P:Program) (t:TypeId):List (TypeId×Nat):=
 match P.underlying t with
 | some (.struct fs)=>fs.toList.map fun f=>(f.type,f.offset)
 | _=> []
theorem jG {t:TypeId} {l:List (TypeId×Nat)} {fuel:Nat} {cs:List Value} {x:DataW H×List MemPlace} (h:structOf P t=l) (eI:l≠ []) (ht:DataW.trod enc P W 0 sp true fuel t cs=some x) :
 ∃ n,fuel=n+1∧cs.length=P.cellsOf t∧∀ (i:Nat) (f:TypeId×Nat),l[i]? = some f→∃ y,DataW.trod enc P W 0 sp true n f.1 ((cs.drop f.2).take (P.cellsOf f.1))=some y:=by
 unfold structOf at h
 split at h
 ·rename_i fs hu
  obtain⟨xs,n,e,_,hl,hlen,hf⟩:=DataW.trod_struct hu ht
  refine⟨n,e,hl,fun i f hi=> ?_⟩
  subst h
  rw [List.getElem?_map,Option.map_eq_some_iff]at hi
  obtain⟨g,hg,rfl⟩:=hi
  have Nt:fs[i]? = some g:=by simpa using hg
  have hi:i<xs.length:=by rw [hlen];exact(Array.getElem?_eq_some_iff.1 Nt).1
  exact⟨xs[i],by rw [hf i g Nt,List.getElem?_eq_getElem hi]⟩
 ·exact absurd h.symm eI
theorem BQ {t:TypeId} {l:List (TypeId×Nat)} (h:structOf P t=l) (eI:l≠ []) : ∃ fs,P.underlying t=some (.struct fs):=by
 unfold structOf at h
 split at h
 ·exact⟨_, ‹_›⟩
 ·exact absurd h.symm eI
theorem xh {α:Type} {Q:Nat→α→Prop} : ∀ n,(∀ i,i<n→∃ y,Q i y)→∃ ys:List α,ys.length=n∧∀ i y,ys[i]? = some y→Q i y
 | 0,_=>⟨[],rfl,fun i y h=>by simp at h⟩
 | n+1,h=>by
  obtain⟨ys,h1,h2⟩:=xh n fun i hi=>h i (by omega)
  obtain⟨y,hy⟩:=h n (by omega)
  refine⟨ys++ [y],by simp [h1],fun i z hz=> ?_⟩
  by_cases hi:i<ys.length
  ·rw [List.getElem?_append_left hi]at hz;exact h2 i z hz
  ·rw [List.getElem?_append_right (by omega)]at hz
   have:i - ys.length=0:=by
    rcases Nat.eq_zero_or_pos (i - ys.length)with h | h
    ·exact h
    ·rw [List.getElem?_eq_none (by simp only [List.length_cons,List.length_nil];omega)]at hz;cases hz
   rw [this]at hz
   simp at hz
   subst hz
   have:i=n:=by omega
   subst this
   exact hy
theorem mD {α:Type} (en:α→List D) (good:α→Prop) {z:Nat} {t e:TypeId} {fuel:Nat} {cs:List Value} {x:DataW H×List MemPlace} (ht:P.underlying t=some (.slice e)) (hz:P.cellsOf e=z) (hz0:0<z) (SH : ∀ y,(en y).length=z)
 (hel : ∀ n<fuel,∀ cs x,DataW.trod enc P W 0 sp true n e cs=some x→∃ y,ea W (en y) cs∧good y) (h:DataW.trod enc P W 0 sp true fuel t cs=some x) :
 ∃ ys:List α,ea W [.slice .shared z (ys.map en)] cs∧∀ y∈ys,good y:=by
 rcases DataW.trod_slice ht h with ⟨rfl,_⟩ | ⟨a,len,cap,elems,rest,n,hn,rfl,_,hb,hl,hm,hlen,rL,_,_⟩
 ·exact⟨[],ea.one (.hZ _ _ _ rfl trivial) rfl,fun y hy=>by cases hy⟩
 ·by_cases h0:len=0
  ·subst h0
   exact⟨[],ea.one (.kT _ _ _) rfl,fun y hy=>by cases hy⟩
  ·obtain⟨ys,hys,xy⟩:=xh (Q:=fun i y=>good y∧∃ gN,W.cells? 0 (a.add (i*z)) z=some gN∧ea W (en y) gN) len fun i hi=>by
    have hc:=rL i hi
    rw [List.getElem?_eq_getElem (by omega),hz,Option.bind_eq_some_iff]at hc
    obtain⟨gN,h1,h2⟩:=hc
    obtain⟨y,h3,h4⟩:=hel n (by omega) _ _ h2
    exact⟨y,h4,gN,h1,h3⟩
   have cell : ∀ i y,ys[i]? = some y→∀ (j:Nat) d,(en y)[j]? = some d→∃ v,W.cell? ((a.add (i*z)).add j)=some v∧RD (wv W) S0 d v∧v.oneCell'=true:=by
    intro i y hy j d hd
    obtain⟨_,gN,h1,h2,h3,h4⟩:=xy i y hy
    obtain⟨_,k1,k2⟩:=World.cells?_some h1
    have hj:j<z:=by rw [← SH y];exact(List.getElem?_eq_some_iff.1 hd).1
    have hv:gN[j]? = some gN[j]:=List.getElem?_eq_getElem (by omega)
    exact⟨gN[j],by rw [k2 j hj,hv],h3 j d _ hd hv,h4 _ (List.getElem_mem _)⟩
   obtain⟨b,off,spot⟩:=a
   have Vu:spot=none:=by
    have hy:ys[0]? = some (ys[0]'(by omega)):=List.getElem?_eq_getElem (by omega)
    obtain⟨d,hd⟩ : ∃ d,(en (ys[0]'(by omega)))[0]? = some d:=⟨_,List.getElem?_eq_getElem (show 0<(en (ys[0]'(by omega))).length by rw [SH];exact hz0)⟩
    obtain⟨v,hv,_⟩:=cell 0 _ hy 0 _ hd
    have:=World.cell?_spot hv
    simpa [Addr.add]using this
   subst Vu
   have e:(ys.map en).length=len:=by simp [hys]
   have:=RD.slice (M:=wv W) (s:=S0) .shared z (ys.map en) b off cap (by omega) (fun row hr=>by obtain⟨y,_,rfl⟩:=List.mem_map.1 hr;exact SH y)
    (fun i row j d h1 h2=>by
     rw [List.getElem?_map,Option.map_eq_some_iff]at h1
     obtain⟨y,h1,rfl⟩:=h1
     obtain⟨v,hv,_,h4⟩:=cell i y h1 j d h2
     rw [add_plain,add_plain]at hv
     refine⟨v, ?_⟩
     show Ak W b (off+(i*z+j))=_
     unfold Ak
     rw [show off+(i*z+j)=off+i*z+j by omega,hv]
     simp [h4])
    (fun i row j d u h1 h2 hu=>by
     rw [List.getElem?_map,Option.map_eq_some_iff]at h1
     obtain⟨y,h1,rfl⟩:=h1
     obtain⟨v,hv,h3,h4⟩:=cell i y h1 j d h2
     rw [add_plain,add_plain]at hv
     obtain⟨hu,_⟩:=E7 _ _ _ hu
     rw [show off+(i*z+j)=off+i*z+j by omega,hv]at hu
     cases hu
     exact h3) trivial
   rw [e]at this
   refine⟨ys,ea.one this rfl,fun y hy=> ?_⟩
   obtain⟨i,hi⟩:=List.getElem?_of_mem hy
   exact(xy i y hi).1
theorem zi {t:TypeId} {fuel:Nat} {cs:List Value} {x:DataW H×List MemPlace} (ht:P.underlying t=some (.int .i64)) (h:DataW.trod enc P W 0 sp true fuel t cs=some x) : ∃ n:Int,ea W [.int .i64 n] cs∧n≤9223372036854775807∧ -9223372036854775808≤n:=by
 obtain⟨n,rfl,_,hw⟩:=DataW.trod_int ht h
 simp [Lit.wf,IntKind.min,IntKind.max,IntKind.signed,IntKind.bits]at hw
 exact⟨n,ea.one (.int _ _) rfl,by omega,by omega⟩
theorem Al {t:TypeId} {fuel:Nat} {cs:List Value} {x:DataW H×List MemPlace} (ht:P.underlying t=some .bool) (h:DataW.trod enc P W 0 sp true fuel t cs=some x) : ∃ b:Bool,ea W [.bool b] cs:=by
 obtain⟨n,rfl,_⟩:=DataW.trod_bool ht h
 exact⟨n,ea.one (.bool _) rfl⟩
theorem rC {t:TypeId} {fuel:Nat} {cs:List Value} {x:DataW H×List MemPlace} (ht:P.underlying t=some .string) (h:DataW.trod enc P W 0 sp true fuel t cs=some x) : ∃ s:aE,ea W (encStr s) cs∧s.length≤maxLen:=by
 obtain⟨s,rfl,_,hm⟩:=DataW.trod_string ht h
 obtain⟨⟨l⟩⟩:=s
 exact⟨l,ea.one (.str l) rfl,hm⟩
theorem Vv {tE tI tN tS tK:TypeId} (hE:structOf P tE = [(tI,0),(tN,1),(tS,2),(tK,3)]) (Wn:P.cellsOf tE=4) (hI:P.underlying tI=some (.int .i64)) (hN:P.underlying tN=some (.int .i64)) (hS:P.underlying tS=some .string) (hK:P.underlying tK=some (.slice tE))
 (cI:P.cellsOf tI=1) (cN:P.cellsOf tN=1) (cS:P.cellsOf tS=1) (cK:P.cellsOf tK=1) :
 ∀ (fuel:Nat) (cs:List Value) (x:DataW H×List MemPlace),DataW.trod enc P W 0 sp true fuel tE cs=some x→∃ y:Ex,ea W (bB y) cs∧y.oJ:=by
 intro fuel
 induction fuel using Nat.strongRecOn with
 | _ fuel ih=>
  intro cs x h
  obtain⟨n,rfl,hl,hf⟩:=jG hE (by simp) h
  obtain⟨y0,h0⟩:=hf 0 _ rfl
  obtain⟨y1,h1⟩:=hf 1 _ rfl
  obtain⟨y2,h2⟩:=hf 2 _ rfl
  obtain⟨y3,h3⟩:=hf 3 _ rfl
  dsimp only at h0 h1 h2 h3
  rw [cI]at h0
  rw [cN]at h1
  rw [cS]at h2
  rw [cK]at h3
  obtain⟨op,r0,_⟩:=zi hI h0
  obtain⟨m,r1,hm,_⟩:=zi hN h1
  obtain⟨s,r2,_⟩:=rC hS h2
  obtain⟨ks,r3,hg⟩:=mD (W:=W) bB Ex.oJ hK Wn (by decide) Nx (fun k hk cs x hx=>ih k (by omega) cs x hx) h3
  refine⟨⟨op,m,s,ks⟩, ?_,hm, ?_⟩
  ·have:=r0.at (r1.at (r2.at (r3.at (ea.end (by rw [hl,Wn])))))
   rw [gm]
   simpa [encStr]using this
  ·clear r3
   induction ks with
   | nil=>exact trivial
   | cons k ks ihk=>exact⟨hg k (by simp),ihk fun y hy=>hg y (by simp [hy])⟩
theorem ea.agg {ds:List D} {v:Value} (h:ea W ds v.cells.toList) (hv : ∃ vs,v = .agg vs):RD (wv W) S0 (.agg ds) v:=by
 obtain⟨vs,rfl⟩:=hv
 obtain⟨h1,h2,h3⟩:=h
 have e:(Value.agg vs).cells=vs:=rfl
 rw [e]at h1 h2 h3
 refine .agg ds vs (by simpa using h1) (fun v hv=>h3 v (by simpa using hv)) fun i d v hd hv=>h2 i d v hd (by simpa using hv)
end
end Go.Abs
