/-
  What is proved here: part 2 of the road to the claim (RefMay1, RefMay2, Flat1, Flat2, Flat3, Sl1, MirFlat2, Sl2, TMay1, TMay2, RefMay3, RefMay4, TMay3, TMay4, MayFine, MayEq, Nm1, Nm2, Nm3, MayEq2, Tree1, Tree2, Sc1, Sc2, Sc3, ScP, Sc4, Rng, FineM, Sc5, Ar1, Ar2, Ar3, Srt1, Shelf).
  No conditions.
-/
import Derived.Test.YthecipohmaannaaGreatTlA1
import Derived.Shelf.Small.Bits
import Derived.Shelf.Strconv.Itoa0
import Derived.Shelf.Sort.Plain
import Derived.Shelf.Slices.Turned
import Derived.Ground.Names2Prog
import Derived.Shelf.Slices.Clone
import Derived.Shelf.Slices.CompactS
import Derived.Shelf.Slices.Cells
import Derived.Shelf.Slices.In.SortNone
import Derived.Ground.SlgnProg
import Derived.Shelf.SlicesE.Clone
import Derived.Test.YthecipohmaannaaGreatProg

set_option linter.unusedSimpArgs false
set_option linter.unusedVariables false

/-! RefMay1 -/

namespace Go.Abs
set_option maxRecDepth 8000
open Go.Proofs
theorem Nh (text:aA) (hl:text.length<4611686018427387904) (s:St):aG Tryz.prog rp [.str text] s (.bool (isName text)) s:=by
 refine aG.pure ?_ rfl rfl s
 unfold S0
 cases text with
 | nil=>
  have e:(([] : aA) == [])=true:=rfl
  refine aG.go ti rfl fun B Q hB hQ=> ?_
  have⟨hD,hF,hJ,hP⟩:=bP
  repeat' (first
 | simp only [go_sem,hD,hF,hJ,hP,e,isName]
 | (with_reducible first | refine cR fun hc=> ?_ | refine cT fun hc=> ?_ | refine cU (fun hc=> ?_) fun hc=> ?_) <;> (try simp only [hc,bs, ↓reduceIte]at h) <;> try simp only [hc]
 | (with_reducible refine aJ hQ ?_;simp only [aw,ay,cm,cq,go_sem,hD,hF,hJ,hP,e,isName];repeat' (first | exact Ok.out | with_reducible refine aI ?_ ?_ | (simp;done))))
 | cons c r=>
  have e:((c::r) == [])=false:=rfl
  generalize h:isName (c::r)=p
  simp only [isName]at h
  refine aG.go ti rfl fun B Q hB hQ=> ?_
  have⟨hD,hF,hJ,hP⟩:=bP
  repeat' (first
 | simp only [go_sem,hD,hF,hJ,hP,e]
 | (with_reducible refine CU (BI _ _) ?_)
 | (with_reducible first | refine cR fun hc=> ?_ | refine cT fun hc=> ?_ | refine cU (fun hc=> ?_) fun hc=> ?_) <;> (try simp only [hc,bs, ↓reduceIte]at h) <;> try simp only [hc]
 | (with_reducible refine aJ hQ ?_;(try cases h);simp only [aw,ay,cm,cq,go_sem,hD,hF,hJ,hP,e];repeat' (first | exact Ok.out | with_reducible refine aI ?_ ?_ | (simp;done))))
  refine dc 0 0 (bk.ind (ι:=aA×Nat) (fun i=>(c::r).drop i.2=i.1∧(if pG i.1 then !(isWord (c::r))else false)=p) (fun i=>i.1.length)
   (fun i=> [(0, .str (c::r)),(3, .int .i64 (i.2:Int))]) (fun i=>⟨[],[]⟩) ?_ (r,1) ⟨rfl,h⟩)
  rintro⟨rest,k⟩ ⟨h1,h⟩ IH
  dsimp only at h1 h
  cases rest with
  | nil=>
   have hD:=drop_nil h1
   simp only [List.length_cons]at hD
   simp only [pG, ↓reduceIte]at h
   repeat' (first
 | simp only [go_sem,hD,hF,hJ,hP]
 | (with_reducible refine CU (Nf _ _) ?_)
 | (with_reducible first | refine cR fun hc=> ?_ | refine cT fun hc=> ?_ | refine cU (fun hc=> ?_) fun hc=> ?_) <;> (try simp only [hc,bs, ↓reduceIte]at h) <;> try simp only [hc]
 | (with_reducible refine aJ hQ ?_;(try cases h);simp only [aw,ay,cm,cq,go_sem,hD,hF,hJ,hP];repeat' (first | exact Ok.out | with_reducible refine aI ?_ ?_ | (simp;done))))
  | cons d rest=>
   obtain⟨hF,g2,hD,g4⟩:=drop_cons h1
   simp only [List.length_cons]at hD
   have hJ:k<4611686018427387904:=by omega
   simp only [pG]at h
   repeat' (first
 | simp only [go_sem,hD,hF,hJ,hP]
 | (with_reducible refine CU (BI _ _) ?_)
 | (with_reducible refine CU (J4 _ _) ?_)
 | (with_reducible first | refine cR fun hc=> ?_ | refine cT fun hc=> ?_ | refine cU (fun hc=> ?_) fun hc=> ?_) <;> (try simp only [hc,bs, ↓reduceIte]at h) <;> try simp only [hc]
 | (with_reducible refine aJ hQ ?_;(try cases h);simp only [aw,ay,cm,cq,go_sem,hD,hF,hJ,hP];repeat' (first | exact Ok.out | with_reducible refine aI ?_ ?_ | (simp;done)))
 | (cases h;done))
   all_goals
    refine dc 0 0 (IH (rest,k+1) ⟨g2,h⟩ (Nat.lt_succ_self _))
theorem Ni (op:Int) (s:St):aG Tryz.prog p8 [.int .i64 op] s (.int .i64 (jZ op)) s:=by
 refine aG.pure ?_ rfl rfl s
 unfold S0
 generalize h:jZ op=p
 unfold jZ at h
 refine aG.go yl rfl fun B Q hB hQ=> ?_
 have⟨hD,hF,hJ,hP⟩:=bP
 repeat' (first
 | simp only [go_sem,hD,hF,hJ,hP]
 | (with_reducible first | refine cR fun hc=> ?_ | refine cT fun hc=> ?_ | refine cU (fun hc=> ?_) fun hc=> ?_) <;> (try simp only [hc,bs, ↓reduceIte]at h) <;> try simp only [hc]
 | (with_reducible refine aJ hQ ?_;(try cases h);simp only [aw,ay,cm,cq,go_sem,hD,hF,hJ,hP];repeat' (first | exact Ok.out | with_reducible refine aI ?_ ?_ | (simp;done))))
theorem P0 : ∀ (n:Nat) (x:Ex),x.size≤n→x.size<4611686018427387904→x.texts→∀ s:St,aG Tryz.prog l6 [.agg (bj x)] s (.bool x.form) s:=by
 intro n
 induction n with
 | zero=>rintro⟨op,m,name,kids⟩ h;simp only [Ex.size]at h;omega
 | succ n ih=>
  rintro⟨op,m,name,kids⟩ h hx ht s
  refine aG.pure ?_ (by simp [D.bG,D.ok,fZ]) rfl s
  have hlen:kids.length<4611686018427387904:=by simp only [Ex.size]at hx;have:=Ex.cu kids;omega
  have hk : ∀ y∈kids,∀ s,aG Tryz.prog l6 [.agg (bj y)] s (.bool y.form) s:=fun y hy s=>
   ih y (by simp only [Ex.size]at h;have:=Ex.bA hy;omega) (by simp only [Ex.size]at hx;have:=Ex.bA hy;omega) (Ex.zc ht hy) s
  have hn:=Nh name ht.1
  unfold S0
  generalize h:Ex.form ⟨op,m,name,kids⟩=p
  simp only [Ex.form]at h
  refine aG.go Ab rfl fun B Q hB hQ=> ?_
  have⟨hD,hF,hJ,hP⟩:=bP
  repeat' (first
 | simp only [go_sem,hD,hF,hJ,hP]
 | (with_reducible refine CU (Ni _ _) ?_)
 | (with_reducible refine CU (hn _) ?_)
 | (with_reducible first | refine cR fun hc=> ?_ | refine cT fun hc=> ?_ | refine cU (fun hc=> ?_) fun hc=> ?_) <;> (try simp only [hc,bs, ↓reduceIte]at h) <;> try simp only [hc]
 | (with_reducible refine aJ hQ ?_;(try cases h);simp only [aw,ay,cm,cq,go_sem,hD,hF,hJ,hP];repeat' (first | exact Ok.out | with_reducible refine aI ?_ ?_ | (simp;done))))
  all_goals
   refine dc 1 0 (bk.ind (ι:=List Ex×Nat) (fun i=>kids.drop i.2=i.1∧Ex.lD i.1=p) (fun i=>i.1.length)
    (fun i=> [(1, .ptr 0 0),(48, .int .i64 (kids.length:Int)),(49, .int .i64 (i.2:Int))]) (fun i=>⟨[bj ⟨op,m,name,kids⟩],[]⟩) ?_ (kids,0) ⟨rfl,h⟩)
   rintro⟨rest,k⟩ ⟨h1,h⟩ IH
   dsimp only at h1 h
   cases rest with
   | nil=>
    have hD:=drop_nil h1
    simp only [Ex.lD]at h
    repeat' (first
 | simp only [go_sem,hD,hF,hJ,hP]
 | (with_reducible first | refine cR fun hc=> ?_ | refine cT fun hc=> ?_ | refine cU (fun hc=> ?_) fun hc=> ?_) <;> (try simp only [hc,bs, ↓reduceIte]at h) <;> try simp only [hc]
 | (with_reducible refine aJ hQ ?_;exact Bs)
 | (cases h;done))
   | cons y rest=>
    obtain⟨hF,g2,hD,g4⟩:=drop_cons h1
    have hy:=hk y (List.mem_of_getElem? hF)
    have hJ:k<4611686018427387904:=by omega
    simp only [Ex.lD]at h
    repeat' (first
 | simp only [go_sem,hD,hF,hJ,hP]
 | (with_reducible refine CU (hy _) ?_)
 | (with_reducible first | refine cR fun hc=> ?_ | refine cT fun hc=> ?_ | refine cU (fun hc=> ?_) fun hc=> ?_) <;> (try simp only [hc,bs, ↓reduceIte]at h) <;> try simp only [hc]
 | (with_reducible refine aJ hQ ?_;(try cases h);simp only [aw,ay,cm,cq,go_sem,hD,hF,hJ,hP];repeat' (first | exact Ok.out | with_reducible refine aI ?_ ?_ | (simp;done))))
    refine dc 1 0 (IH (rest,k+1) ⟨g2,h⟩ (Nat.lt_succ_self _))
theorem Ho {x:Ex} (hx:x.size<4611686018427387904) (ht:x.texts) (s:St):aG Tryz.prog n9 [.agg (bj x)] s (.bool x.may) s:=by
 refine aG.pure ?_ (by simp [D.bG,D.ok,fZ]) rfl s
 have hd:=fun s=>PZ 20 (by decide) x hx s
 have c20:((20:Nat):Int)=20:=rfl
 rw [c20]at hd
 have hf:=P0 _ x (Nat.le_refl _) hx ht
 unfold S0
 generalize h:Ex.may x=p
 unfold Ex.may at h
 refine aG.go wj rfl fun B Q hB hQ=> ?_
 have⟨hD,hF,hJ,hP⟩:=bP
 repeat' (first
 | simp only [go_sem,hD,hF,hJ,hP]
 | (with_reducible refine CU (hd _) ?_)
 | (with_reducible refine CU (hf _) ?_)
 | (with_reducible first | refine cR fun hc=> ?_ | refine cT fun hc=> ?_ | refine cU (fun hc=> ?_) fun hc=> ?_) <;> (try simp only [hc,bs, ↓reduceIte]at h) <;> try simp only [hc]
 | (with_reducible refine aJ hQ ?_;(try cases h);simp only [aw,ay,cm,cq,go_sem,hD,hF,hJ,hP];repeat' (first | exact Ok.out | with_reducible refine aI ?_ ?_ | (simp;done))))
end Go.Abs

/-! RefMay2 -/

namespace Go.Abs
set_option maxRecDepth 8000
open Go.Proofs
structure Sm.pe (s:Sm):Prop where
 lab : ∀ t∈s.labels,t.length<4611686018427387904
 VZ:s.labels.length<4611686018427387904
 name:s.name.length<4611686018427387904
 proc:s.proc.length<4611686018427387904
 x:s.x.size<4611686018427387904
 xt:s.x.texts
 V0:s.args.length<4611686018427387904
 arg : ∀ a∈s.args,a.x.size<4611686018427387904∧a.x.texts∧a.name.length<4611686018427387904
section
variable {v:Sm} {B:fp} {Q:Exit→Tm→St→Prop} {p:Bool}
end
theorem aG.goS {P:Program} {f:FuncId} {nt:Nat} {res:List (Nat×Option (Bool×Nat))} {body:AC} {args:List D} {s:St} {d:D} {s':St} (h0:Has P f nt res body) (hl:Nat.ble args.length nt=true)
 (h : ∀ (B:fp) (Q:Exit→Tm→St→Prop),B.s=s→n7 s.au.length s.av.length res d s'=Q→Sem P B nt body Q (kU 0 args) s):aG P f args s d s':=by
 obtain⟨fn,hf,hc⟩:=h0
 exact aG.intro ⟨fn,hf,hc⟩ (Nat.le_of_ble_eq_true hl) fun B hB=>h B _ hB rfl
end Go.Abs

/-! Flat1 -/

namespace Go.Abs
set_option maxRecDepth 8000
open Go.Proofs
def eH (i:Im):List D:= [.int .i64 i.s.id, .int .i64 i.s.kind, .slice .shared 1 (i.s.labels.map encStr), .str i.s.name, .str i.s.proc,
 .int .i64 i.s.x.op, .int .i64 i.s.x.n, .str i.s.x.name, .slice .shared 4 (i.s.x.kids.map bj), .bool i.s.has, .slice .shared 6 (i.s.args.map df), .slice .shared 13 (i.s.a7.map bd), .slice .shared 13 (i.s.aU.map bd), .int .i64 i.proc, .int .i64 i.up, .int .i64 i.next, .int .i64 i.loop]
def jl (n:Int):List D:= [.int .i64 n]
theorem J5 (i:Im):D.bG 0 0 (eH i)=true:=by simp [eH,D.bG,D.ok,Tag.ok,dJ,LS,Fj,nh]
theorem Aq (l:List Im):D.hY 0 0 (l.map eH)=true:=fq J5 l
theorem L5 (n m:Nat) (l:List Im):D.hO n m (l.map eH)=l.map eH:=jU J5 n m l
theorem Sb (n m:Nat) (i:Im):D.fD n m (eH i)=eH i:=fU n m _ (J5 i)
theorem Sc (x:Im):(eH x).length=17:=nd rfl
theorem Nj (x:Im):List.take 17 (eH x)=eH x:=nd rfl
theorem P1 (x:Im):List.drop 17 (eH x) = []:=nd rfl
theorem P2 (x:Im):List.take 13 (eH x)=bd x.s:=by simp only [eH,cZ];rfl
theorem J6 (x:Im):(eH x)[0]? = some (.int .i64 x.s.id):=nd rfl
theorem J7 (x:Im):(eH x)[1]? = some (.int .i64 x.s.kind):=nd rfl
theorem J8 (x:Im):(eH x)[4]? = some (.str x.s.proc):=nd rfl
theorem Hp (x:Im):(eH x)[13]? = some (.int .i64 x.proc):=nd rfl
theorem Hq (x:Im):(eH x)[14]? = some (.int .i64 x.up):=nd rfl
theorem Hr (x:Im):(eH x)[15]? = some (.int .i64 x.next):=nd rfl
theorem Hs (x:Im):(eH x)[16]? = some (.int .i64 x.loop):=nd rfl
theorem Fw (s:Sm) (a b c d:Int):eH ⟨s,a,b,c,d⟩ = [.int .i64 s.id, .int .i64 s.kind, .slice .shared 1 (s.labels.map encStr), .str s.name, .str s.proc,
 .int .i64 s.x.op, .int .i64 s.x.n, .str s.x.name, .slice .shared 4 (s.x.kids.map bj), .bool s.has, .slice .shared 6 (s.args.map df), .slice .shared 13 (s.a7.map bd), .slice .shared 13 (s.aU.map bd), .int .i64 a, .int .i64 b, .int .i64 c, .int .i64 d]:=nd rfl
theorem L6 (n:Int):D.bG 0 0 (jl n)=true:=rfl
theorem uD (l:List Int):D.hY 0 0 (l.map jl)=true:=fq L6 l
theorem Ht (n m:Nat) (l:List Int):D.hO n m (l.map jl)=l.map jl:=jU L6 n m l
attribute [go_sem] L5 Sb Sc Nj P1 P2 J6 J7 J8 Hp Hq Hr Hs Ht jl
theorem P3 : ∀ n,n<1000000000→∀ v:Sm,v.size≤n→aG Tryz.prog jy [.agg (bd v)] S0 (.int .i64 (v.gG:Int)) S0:=by
 intro n
 induction n with
 | zero=>intro _ v h;obtain⟨_,_,_,_,_,_,_,_,_,_⟩:=v;simp only [Sm.size]at h;omega
 | succ n ih=>
 intro hn v hv
 have dI:Sm.aN v.a7≤n∧Sm.aN v.aU≤n∧v.gG=1+Sm.gm v.a7+Sm.gm v.aU:=by
  obtain⟨_,_,_,_,_,_,_,_,_,_⟩:=v
  simp only [Sm.size]at hv;exact⟨by dsimp only;omega,by dsimp only;omega,rfl⟩
 obtain⟨h1,h2,h3⟩:=dI
 have c1:=lj v.a7
 have c2:=lj v.aU
 have l1:=Sm.cu v.a7
 have l2:=Sm.cu v.aU
 have hk : ∀ y,y∈v.a7∨y∈v.aU→∀ s,aG Tryz.prog jy [.agg (bd y)] s (.int .i64 (y.gG:Int)) s:=fun y hy s=>
  (ih (by omega) y (by rcases hy with hy | hy <;> (have:=Sm.bA hy;omega))).pure (by simp only [D.bG,D.ok,pX];rfl) rfl s
 rw [h3]
 unfold S0
 refine aG.go z8 rfl fun B Q hB hQ=> ?_
 have⟨hD,hF,hJ,hP⟩:=bP
 repeat' (first
 | simp only [go_sem,hD,hF,hJ,hP]
 | (with_reducible refine aJ hQ ?_;simp only [aw,ay,Option.some.injEq,exists_eq_left',go_sem,hD,hF,hJ,hP];repeat' (first | exact Ok.out | with_reducible refine aI ?_ ?_ | (simp;done))))
 refine dc 1 0 (bk.ind (ι:=List Sm×Nat×Nat) (fun i=>v.a7.drop i.2.1=i.1∧i.2.2+Sm.gm i.1=1+Sm.gm v.a7) (fun i=>i.1.length)
  (fun i=> [(1, .ptr 0 0),(3, .int .i64 (i.2.2:Int)),(9, .slice .shared 13 (v.a7.map bd)),(10, .int .i64 (v.a7.length:Int)),(11, .int .i64 (i.2.1:Int))]) (fun i=>⟨[bd v],[]⟩) ?_ (v.a7,0,1) ⟨rfl,rfl⟩)
 rintro⟨rest,k,c⟩ ⟨g1,g2⟩ IH
 dsimp only at g1 g2
 cases rest with
 | cons y rest=>
  obtain⟨hF,g3,hD,g4⟩:=drop_cons g1
  have hy:=hk y (.inl (List.mem_of_getElem? hF))
  simp only [Sm.gm]at g2
  have hcy:=wc y
  have Ld:=Sm.bA (List.mem_of_getElem? hF)
  have w1:IntKind.wrap .i64 ((k:Int)+1)=((k+1:Nat):Int):=by rw [c7] <;> omega
  have w2:IntKind.wrap .i64 ((c:Int)+(y.gG:Int))=((c+y.gG:Nat):Int):=by rw [c7] <;> omega
  repeat' (first
 | simp only [go_sem,hD,hF,hJ,hP,w1,w2]
 | (with_reducible refine CU (hy _) ?_)
 | (with_reducible refine aJ hQ ?_;simp only [aw,ay,Option.some.injEq,exists_eq_left',go_sem,hD,hF,hJ,hP];repeat' (first | exact Ok.out | with_reducible refine aI ?_ ?_ | (simp;done))))
  refine dc 1 0 (IH (rest,k+1,c+y.gG) ⟨g3,by dsimp only;omega⟩ (Nat.lt_succ_self _))
 | nil=>
  have hD:=drop_nil g1
  simp only [Sm.gm,Nat.add_zero]at g2
  subst g2
  repeat' (first
 | simp only [go_sem,hD,hF,hJ,hP]
 | (with_reducible refine aJ hQ ?_;simp only [aw,ay,Option.some.injEq,exists_eq_left',go_sem,hD,hF,hJ,hP];repeat' (first | exact Ok.out | with_reducible refine aI ?_ ?_ | (simp;done))))
  refine dc 1 0 (bk.ind (ι:=List Sm×Nat×Nat) (fun i=>v.aU.drop i.2.1=i.1∧i.2.2+Sm.gm i.1=1+Sm.gm v.a7+Sm.gm v.aU) (fun i=>i.1.length)
   (fun i=> [(1, .ptr 0 0),(3, .int .i64 (i.2.2:Int)),(21, .slice .shared 13 (v.aU.map bd)),(22, .int .i64 (v.aU.length:Int)),(23, .int .i64 (i.2.1:Int))]) (fun i=>⟨[bd v],[]⟩) ?_ (v.aU,0,1+Sm.gm v.a7) ⟨rfl,rfl⟩)
  rintro⟨rest,k,c⟩ ⟨g1,g2⟩ IH
  dsimp only at g1 g2
  cases rest with
  | cons y rest=>
   obtain⟨hF,g3,hD,g4⟩:=drop_cons g1
   have hy:=hk y (.inr (List.mem_of_getElem? hF))
   simp only [Sm.gm]at g2
   have hcy:=wc y
   have Ld:=Sm.bA (List.mem_of_getElem? hF)
   have w1:IntKind.wrap .i64 ((k:Int)+1)=((k+1:Nat):Int):=by rw [c7] <;> omega
   have w2:IntKind.wrap .i64 ((c:Int)+(y.gG:Int))=((c+y.gG:Nat):Int):=by rw [c7] <;> omega
   repeat' (first
 | simp only [go_sem,hD,hF,hJ,hP,w1,w2]
 | (with_reducible refine CU (hy _) ?_)
 | (with_reducible refine aJ hQ ?_;simp only [aw,ay,Option.some.injEq,exists_eq_left',go_sem,hD,hF,hJ,hP];repeat' (first | exact Ok.out | with_reducible refine aI ?_ ?_ | (simp;done))))
   refine dc 1 0 (IH (rest,k+1,c+y.gG) ⟨g3,by dsimp only;omega⟩ (Nat.lt_succ_self _))
  | nil=>
   have hD:=drop_nil g1
   simp only [Sm.gm,Nat.add_zero]at g2
   subst g2
   repeat' (first
 | simp only [go_sem,hD,hF,hJ,hP]
 | (with_reducible refine aJ hQ ?_;simp only [aw,ay,Option.some.injEq,exists_eq_left',go_sem,hD,hF,hJ,hP];repeat' (first | exact Ok.out | with_reducible refine aI ?_ ?_ | (simp;done))))
theorem P4 {v:Sm} (h:v.size<1000000000) (s:St):aG Tryz.prog jy [.agg (bd v)] s (.int .i64 (v.gG:Int)) s:=
 (P3 v.size h v (Nat.le_refl _)).pure (by simp only [D.bG,D.ok,pX];rfl) rfl s
end Go.Abs

/-! Flat2 -/

namespace Go.Abs
set_option maxRecDepth 8000
open Go.Proofs
abbrev fM (g ps:D) (L:List Im) (lo hi:List Int):List D:= [g,ps, .slice (.tok 0) 17 (L.map eH), .slice (.tok 1) 1 (lo.map jl), .slice (.tok 2) 1 (hi.map jl)]
abbrev J9 (proc up next loop:Int):List D:= [.int .i64 0, .int .i64 0, .slice .full 0 [], .str [], .str [], .int .i64 0, .int .i64 0, .str [], .slice .full 0 [], .bool false, .slice .full 0 [], .slice .full 0 [], .slice .full 0 [], .int .i64 proc, .int .i64 up, .int .i64 next, .int .i64 loop]
theorem aG.Sd {P:Program} {f:Nat} {args:List D} {g ps:D} {L L':List Im} {lo hi yO gk:List Int} {a b c a' b' c':Option Nat}
 (h:aG P f (.ptr 0 0::args) ⟨[fM g ps L lo hi],[a,b,c]⟩ (.tuple []) ⟨[fM g ps L' yO gk],[a',b',c']⟩)
 (ha:D.bG 0 0 args=true) (hg:D.ok 0 0 g=true) (hp:D.ok 0 0 ps=true)
 {s:St} {o:Nat} (ho:s.au[o]? = some (fM g ps L lo hi)) (ht:s.av = [a,b,c]):aG P f (.ptr o 0::args) s (.tuple []) ⟨s.au.set o (fM g ps L' yO gk),[a',b',c']⟩:=by
 have hr : ∀ (L:List Im) (lo hi:List Int),D.ff [o] [0,1,2] (fM g ps L lo hi)=fM g ps L lo hi:=fun L lo hi=>by
  simp [D.ff,D.db,Tag.db,n8 _ _ _ hg,n8 _ _ _ hp,kf _ _ _ (Aq L),kf _ _ _ (uD lo),kf _ _ _ (uD hi)]
 have hk : ∀ (L:List Im) (lo hi:List Int),D.bG 1 3 (fM g ps L lo hi)=true:=fun L lo hi=>by
  simp [D.bG,D.ok,Tag.ok,x4 (Nat.zero_le 1) (Nat.zero_le 3) _ hg,x4 (Nat.zero_le 1) (Nat.zero_le 3) _ hp,mB (Nat.zero_le 1) (Nat.zero_le 3) _ (Aq L),mB (Nat.zero_le 1) (Nat.zero_le 3) _ (uD lo),mB (Nat.zero_le 1) (Nat.zero_le 3) _ (uD hi)]
 refine dh.frame [o] [0,1,2] h (by simp) (by decide) (by simpa using (List.getElem?_eq_some_iff.1 ho).1) (by rw [ht];simp) rfl (fun i o' ds e1 e2=> ?_) rfl (fun i t' e1=> ?_)
  (by simp [D.ff,D.db,fi _ _ _ ha])
  (by simp [D.bG,D.ok,gT (Nat.zero_le 1) (Nat.zero_le 3) _ ha]) ?_
 ·cases i with
  | zero=>simp only [List.getElem?_cons_zero,Option.some.injEq]at e1 e2;subst e1;subst e2;exact⟨by rw [hr];exact ho,hk L lo hi⟩
  | succ i=>simp at e1
 ·rw [ht]
  match i,e1 with
  | 0,e1=>simp at e1;subst e1;rfl
  | 1,e1=>simp at e1;subst e1;rfl
  | 2,e1=>simp at e1;subst e1;rfl
  | i+3,e1=>simp at e1
 ·rintro _ _ ⟨rfl,rfl⟩
  refine⟨by simp [D.back,D.db,D.ff], ?_⟩
  have:=hr L' yO gk
  simp [St.back,iJ,iZ,this,ht]
abbrev L7 (N:Nat):Prop:=∀ (l:List Sm) (proc up next loop:Int) (out:List Im) (g ps:D) (lo hi:List Int) (b c:Option Nat),Sm.aN l<N→out.length+Sm.gm l<1000000000→D.ok 0 0 g=true→D.ok 0 0 ps=true→
 ∀ {s:St} {o:Nat},s.au[o]? = some (fM g ps out lo hi)→s.av = [some out.length,b,c]→
 aG Tryz.prog gE [.ptr o 0, .slice .shared 13 (l.map bd), .agg (J9 proc up next loop)] s (.tuple []) ⟨s.au.set o (fM g ps (Im.rows proc up next loop out l) lo hi),[some (Im.rows proc up next loop out l).length,b,c]⟩
theorem Se {N:Nat} (ih:L7 N) {l:List Sm} {proc up next loop:Int} {out:List Im} {g ps:D} {lo hi:List Int} {b c:Option Nat} (hs:Sm.aN l<N+1) (hc:out.length+Sm.gm l<1000000000) (hg:D.ok 0 0 g=true) (hp:D.ok 0 0 ps=true) (hN:N<1000000000) :
 aG Tryz.prog gE [.ptr 0 0, .slice .shared 13 (l.map bd), .agg (J9 proc up next loop)] ⟨[fM g ps out lo hi],[some out.length,b,c]⟩ (.tuple []) ⟨[fM g ps (Im.rows proc up next loop out l) lo hi],[some (Im.rows proc up next loop out l).length,b,c]⟩:=by
 obtain⟨R,hR⟩ : ∃ R,R=Im.rows proc up next loop out l:=⟨_,rfl⟩
 have hlR:R.length=out.length+Sm.gm l:=by rw [hR,eW]
 rw [← hR]
 have k1 : ∀ n m,D.fg n m g=g:=fun n m=>Ff n m _ hg
 have k2 : ∀ n m,D.fg n m ps=ps:=fun n m=>Ff n m _ hp
 refine aG.go uC rfl fun B Q hB hQ=> ?_
 have⟨hD,hF,hJ,hP⟩:=bP
 repeat' (first
 | simp only [go_sem,hD,hF,hJ,hP,k1,k2]
 | (with_reducible first | refine cR fun hc=> ?_ | refine cT fun hc=> ?_ | refine cU (fun hc=> ?_) fun hc=> ?_) <;> (try simp only [hc,bs, ↓reduceIte]at h) <;> try simp only [hc]
 | (with_reducible refine aJ hQ ?_;simp only [aw,ay,cm,cq,go_sem,hD,hF,hJ,hP,k1,k2];repeat' (first | exact Ok.out | with_reducible refine aI ?_ ?_ | (simp;done))))
 refine da 2 3 ?_ ?_ (bk.ind (ι:=List Sm×Nat×List Im) (fun i=>l.drop i.2.1=i.1∧Im.rows proc up next loop i.2.2 i.1=R∧i.2.2.length+Sm.gm i.1=out.length+Sm.gm l) (fun i=>i.1.length)
  (fun i=> [(0, .ptr 0 0),(1, .slice .shared 13 (l.map bd)),(5, .ptr 1 0),(11, .slice .shared 13 (l.map bd)),(12, .int .i64 (l.length:Int)),(13, .int .i64 (i.2.1:Int))]) (fun i=>⟨[fM g ps i.2.2 lo hi,J9 proc up next loop],[some i.2.2.length,b,c]⟩) ?_ (l,0,out) ⟨rfl,hR.symm,rfl⟩)
 ·(simp only [go_sem,hD,hF,hJ,hP,k1,k2];try exact bo)
 ·(simp only [go_sem,hD,hF,hJ,hP,k1,k2];try exact bo)
 rintro⟨rest,k,bt⟩ ⟨h1,h2,h3⟩ IH
 dsimp only at h1 h2 h3
 have hlen:l.length<1000000000:=by have:=Sm.cu l;omega
 cases rest with
 | nil=>
  have hD:=drop_nil h1
  simp only [Im.rows]at h2
  subst h2
  repeat' (first
 | simp only [go_sem,hD,hF,hJ,hP,k1,k2]
 | (with_reducible first | refine cR fun hc=> ?_ | refine cT fun hc=> ?_ | refine cU (fun hc=> ?_) fun hc=> ?_) <;> (try simp only [hc,bs, ↓reduceIte]at h) <;> try simp only [hc]
 | (with_reducible refine aJ hQ ?_;simp only [aw,ay,cm,cq,go_sem,hD,hF,hJ,hP,k1,k2];repeat' (first | exact Ok.out | with_reducible refine aI ?_ ?_ | (simp;done))))
 | cons v rest=>
  obtain⟨hF,g2,hD,g4⟩:=drop_cons h1
  have bq:k<4611686018427387904:=by omega
  have hv:=Sm.bA (List.mem_of_getElem? hF)
  have lb:Sm.aN v.a7<N∧Sm.aN v.aU<N∧v.gG=1+Sm.gm v.a7+Sm.gm v.aU:=by
   obtain⟨_,_,_,_,_,_,_,_,_,_⟩:=v
   simp only [Sm.size]at hv
   exact⟨by dsimp only;omega,by dsimp only;omega,rfl⟩
  obtain⟨wU,AY,hv3⟩:=lb
  simp only [Sm.gm]at h3
  simp only [Im.rows,Im.Po]at h2
  have hJ:(bt.length+1)*241≤bb:=by unfold bb;omega
  have Db:IntKind.wrap .i64 ((bt.length:Int)+1)=(bt.length:Int)+1:=c7 (by omega) (by omega)
  have qN:IntKind.wrap .i64 ((k:Int)+1)=((k+1:Nat):Int):=by rw [c7] <;> omega
  have L8:IntKind.wrap .i64 ((bt.length:Int)+1+(v.gG:Int))=(bt.length:Int)+1+(v.gG:Int):=c7 (by omega) (by omega)
  have dI:=fun s=>P4 (v:=v) (by omega) s
  simp only [cZ]at dI
  have F3:rest.length=l.length - (k+1):=by rw [← g2,List.length_drop]
  by_cases adw:k+1<l.length
  ·have d1:decide (((k+1:Nat):Int)<(l.length:Int))=true:=by simp;omega
   have e1:(rest.length=0)=False:=by simp;intro h;rw [h]at F3;simp at F3;omega
   by_cases Hu:v.kind=6
   ·have d2:(v.kind==6)=true:=by simp [Hu]
    simp only [e1,d2, ↓reduceIte,Bool.false_eq_true]at h2
    have f1:=fun {s:St} {o:Nat}=>@ih v.a7 proc ((bt.length:Int)+1) ((bt.length:Int)+1) ((bt.length:Int)+1) (bt++ [⟨v,proc,up,((bt.length:Int)+1+(v.gG:Int)),loop⟩]) g ps lo hi b c wU (by simp;omega) hg hp s o
    have f2:=fun {s:St} {o:Nat}=>@ih v.aU proc ((bt.length:Int)+1) ((bt.length:Int)+1) ((bt.length:Int)+1) _ g ps lo hi b c AY (by rw [eW proc ((bt.length:Int)+1) ((bt.length:Int)+1) ((bt.length:Int)+1) (bt++ [⟨v,proc,up,((bt.length:Int)+1+(v.gG:Int)),loop⟩]) v.a7];simp;omega) hg hp s o
    have hl:(Im.rows proc ((bt.length:Int)+1) ((bt.length:Int)+1) ((bt.length:Int)+1) (Im.rows proc ((bt.length:Int)+1) ((bt.length:Int)+1) ((bt.length:Int)+1) (bt++ [⟨v,proc,up,((bt.length:Int)+1+(v.gG:Int)),loop⟩]) v.a7) v.aU).length=bt.length+v.gG:=by rw [eW,eW];simp;omega
    simp only [fM,List.map_append,List.map_cons,List.map_nil,Fw,List.length_append,List.length_cons,List.length_nil]at f1
    repeat' (first
 | simp only [go_sem,hD,hF,hJ,hP,k1,k2,Db,qN,L8,d1,d2,cZ]
 | (with_reducible refine CU (dI _) ?_)
 | (with_reducible refine CU (f1 (by with_unfolding_all rfl) (by with_unfolding_all rfl)) ?_)
 | (with_reducible refine CU (f2 (by with_unfolding_all rfl) (by with_unfolding_all rfl)) ?_)
 | (with_reducible refine aJ hQ ?_;simp only [aw,ay,cm,cq,go_sem,hD,hF,hJ,hP];repeat' (first | exact Ok.out | with_reducible refine aI ?_ ?_ | (simp;done))))
    refine da 2 3 ?_ ?_ (IH (rest,k+1,_) ⟨g2,h2,by dsimp only;rw [hl];omega⟩ (Nat.lt_succ_self _))
    ·(simp only [go_sem,hD,hF,hJ,hP,qN,k1,k2];try exact bo)
    ·(simp only [go_sem,hD,hF,hJ,hP,qN,k1,k2];try exact bo)
   ·have d2:(v.kind==6)=false:=by simp [Hu]
    simp only [e1,d2, ↓reduceIte,Bool.false_eq_true]at h2
    have f1:=fun {s:St} {o:Nat}=>@ih v.a7 proc ((bt.length:Int)+1) ((bt.length:Int)+1+(v.gG:Int)) loop (bt++ [⟨v,proc,up,((bt.length:Int)+1+(v.gG:Int)),loop⟩]) g ps lo hi b c wU (by simp;omega) hg hp s o
    have f2:=fun {s:St} {o:Nat}=>@ih v.aU proc ((bt.length:Int)+1) ((bt.length:Int)+1+(v.gG:Int)) loop _ g ps lo hi b c AY (by rw [eW proc ((bt.length:Int)+1) ((bt.length:Int)+1+(v.gG:Int)) loop (bt++ [⟨v,proc,up,((bt.length:Int)+1+(v.gG:Int)),loop⟩]) v.a7];simp;omega) hg hp s o
    have hl:(Im.rows proc ((bt.length:Int)+1) ((bt.length:Int)+1+(v.gG:Int)) loop (Im.rows proc ((bt.length:Int)+1) ((bt.length:Int)+1+(v.gG:Int)) loop (bt++ [⟨v,proc,up,((bt.length:Int)+1+(v.gG:Int)),loop⟩]) v.a7) v.aU).length=bt.length+v.gG:=by rw [eW,eW];simp;omega
    simp only [fM,List.map_append,List.map_cons,List.map_nil,Fw,List.length_append,List.length_cons,List.length_nil]at f1
    repeat' (first
 | simp only [go_sem,hD,hF,hJ,hP,k1,k2,Db,qN,L8,d1,d2,cZ]
 | (with_reducible refine CU (dI _) ?_)
 | (with_reducible refine CU (f1 (by with_unfolding_all rfl) (by with_unfolding_all rfl)) ?_)
 | (with_reducible refine CU (f2 (by with_unfolding_all rfl) (by with_unfolding_all rfl)) ?_)
 | (with_reducible refine aJ hQ ?_;simp only [aw,ay,cm,cq,go_sem,hD,hF,hJ,hP];repeat' (first | exact Ok.out | with_reducible refine aI ?_ ?_ | (simp;done))))
    refine da 2 3 ?_ ?_ (IH (rest,k+1,_) ⟨g2,h2,by dsimp only;rw [hl];omega⟩ (Nat.lt_succ_self _))
    ·(simp only [go_sem,hD,hF,hJ,hP,qN,k1,k2];try exact bo)
    ·(simp only [go_sem,hD,hF,hJ,hP,qN,k1,k2];try exact bo)
  ·have d1:decide (((k+1:Nat):Int)<(l.length:Int))=false:=by simp;omega
   have e1:(rest.length=0)=True:=by simp only [eq_iff_iff,iff_true];omega
   by_cases Hu:v.kind=6
   ·have d2:(v.kind==6)=true:=by simp [Hu]
    simp only [e1,d2, ↓reduceIte,Bool.false_eq_true]at h2
    have f1:=fun {s:St} {o:Nat}=>@ih v.a7 proc ((bt.length:Int)+1) ((bt.length:Int)+1) ((bt.length:Int)+1) (bt++ [⟨v,proc,up,next,loop⟩]) g ps lo hi b c wU (by simp;omega) hg hp s o
    have f2:=fun {s:St} {o:Nat}=>@ih v.aU proc ((bt.length:Int)+1) ((bt.length:Int)+1) ((bt.length:Int)+1) _ g ps lo hi b c AY (by rw [eW proc ((bt.length:Int)+1) ((bt.length:Int)+1) ((bt.length:Int)+1) (bt++ [⟨v,proc,up,next,loop⟩]) v.a7];simp;omega) hg hp s o
    have hl:(Im.rows proc ((bt.length:Int)+1) ((bt.length:Int)+1) ((bt.length:Int)+1) (Im.rows proc ((bt.length:Int)+1) ((bt.length:Int)+1) ((bt.length:Int)+1) (bt++ [⟨v,proc,up,next,loop⟩]) v.a7) v.aU).length=bt.length+v.gG:=by rw [eW,eW];simp;omega
    simp only [fM,List.map_append,List.map_cons,List.map_nil,Fw,List.length_append,List.length_cons,List.length_nil]at f1
    repeat' (first
 | simp only [go_sem,hD,hF,hJ,hP,k1,k2,Db,qN,L8,d1,d2,cZ]
 | (with_reducible refine CU (dI _) ?_)
 | (with_reducible refine CU (f1 (by with_unfolding_all rfl) (by with_unfolding_all rfl)) ?_)
 | (with_reducible refine CU (f2 (by with_unfolding_all rfl) (by with_unfolding_all rfl)) ?_)
 | (with_reducible refine aJ hQ ?_;simp only [aw,ay,cm,cq,go_sem,hD,hF,hJ,hP];repeat' (first | exact Ok.out | with_reducible refine aI ?_ ?_ | (simp;done))))
    refine da 2 3 ?_ ?_ (IH (rest,k+1,_) ⟨g2,h2,by dsimp only;rw [hl];omega⟩ (Nat.lt_succ_self _))
    ·(simp only [go_sem,hD,hF,hJ,hP,qN,k1,k2];try exact bo)
    ·(simp only [go_sem,hD,hF,hJ,hP,qN,k1,k2];try exact bo)
   ·have d2:(v.kind==6)=false:=by simp [Hu]
    simp only [e1,d2, ↓reduceIte,Bool.false_eq_true]at h2
    have f1:=fun {s:St} {o:Nat}=>@ih v.a7 proc ((bt.length:Int)+1) next loop (bt++ [⟨v,proc,up,next,loop⟩]) g ps lo hi b c wU (by simp;omega) hg hp s o
    have f2:=fun {s:St} {o:Nat}=>@ih v.aU proc ((bt.length:Int)+1) next loop _ g ps lo hi b c AY (by rw [eW proc ((bt.length:Int)+1) next loop (bt++ [⟨v,proc,up,next,loop⟩]) v.a7];simp;omega) hg hp s o
    have hl:(Im.rows proc ((bt.length:Int)+1) next loop (Im.rows proc ((bt.length:Int)+1) next loop (bt++ [⟨v,proc,up,next,loop⟩]) v.a7) v.aU).length=bt.length+v.gG:=by rw [eW,eW];simp;omega
    simp only [fM,List.map_append,List.map_cons,List.map_nil,Fw,List.length_append,List.length_cons,List.length_nil]at f1
    repeat' (first
 | simp only [go_sem,hD,hF,hJ,hP,k1,k2,Db,qN,L8,d1,d2,cZ]
 | (with_reducible refine CU (dI _) ?_)
 | (with_reducible refine CU (f1 (by with_unfolding_all rfl) (by with_unfolding_all rfl)) ?_)
 | (with_reducible refine CU (f2 (by with_unfolding_all rfl) (by with_unfolding_all rfl)) ?_)
 | (with_reducible refine aJ hQ ?_;simp only [aw,ay,cm,cq,go_sem,hD,hF,hJ,hP];repeat' (first | exact Ok.out | with_reducible refine aI ?_ ?_ | (simp;done))))
    refine da 2 3 ?_ ?_ (IH (rest,k+1,_) ⟨g2,h2,by dsimp only;rw [hl];omega⟩ (Nat.lt_succ_self _))
    ·(simp only [go_sem,hD,hF,hJ,hP,qN,k1,k2];try exact bo)
    ·(simp only [go_sem,hD,hF,hJ,hP,qN,k1,k2];try exact bo)
theorem Nk : ∀ N,N<1000000000→L7 N:=by
 intro N
 induction N with
 | zero=>exact fun _ l proc up next loop out g ps lo hi b c h=>absurd h (Nat.not_lt_zero _)
 | succ N ih=>
  intro h l proc up next loop out g ps lo hi b c hs hc hg hp s o ho ht
  exact(Se (ih (by omega)) hs hc hg hp (by omega)).Sd (by simp [D.bG,D.ok,Tag.ok,nh,D.hY]) hg hp ho ht
end Go.Abs

/-! Flat3 -/

namespace Go.Abs
set_option maxRecDepth 8000
open Go.Proofs
def iS (p:Pg):List D:= [.slice .shared 1 (p.globals.map encStr), .slice .shared 5 (p.procs.map bR), .slice .shared 17 (p.fv.L.map eH), .slice .shared 1 (p.fv.lo.map jl), .slice .shared 1 (p.fv.hi.map jl)]
theorem BJ (p:Pg):iS p = [.slice .shared 1 (p.globals.map encStr), .slice .shared 5 (p.procs.map bR), .slice .shared 17 (p.fv.L.map eH), .slice .shared 1 (p.fv.lo.map jl), .slice .shared 1 (p.fv.hi.map jl)]:=nd rfl
theorem yo (p:Pg):D.bG 0 0 (iS p)=true:=by simp [iS,D.bG,D.ok,Tag.ok,dJ,Ap,Aq,uD]
theorem Hv (p:Pg):bX p = [.slice .shared 1 (p.globals.map encStr), .slice .shared 5 (p.procs.map bR)]:=nd rfl
theorem Sf {p:Pg} (hs:Pc.aN p.procs<1000000000):aG Tryz.prog kn [.agg (bX p)] S0 (.ptr 1 0) ⟨[bX p,fM (.slice .shared 1 (p.globals.map encStr)) (.slice .shared 5 (p.procs.map bR)) p.fv.L p.fv.lo p.fv.hi],[some p.fv.L.length,some p.fv.lo.length,some p.fv.hi.length]⟩:=by
 have hlen:p.procs.length<1000000000:=by have:=Pc.cu p.procs;omega
 obtain⟨R,hR⟩ : ∃ R,R=p.fv:=⟨_,rfl⟩
 have Tl:=hR
 unfold Pg.fv at Tl
 unfold S0
 rw [Hv, ← hR]
 refine aG.goK 2 3 (Nat.zero_le _) (Nat.zero_le _) BE rfl fun B Q hB hQ=> ?_
 have⟨hD,hF,hJ,hP⟩:=bP
 repeat' (first
 | simp only [go_sem,hD,hF,hJ,hP,Hv]
 | (with_reducible refine aJ hQ ?_;simp only [aw,ay,Option.some.injEq,exists_eq_left',go_sem,hD,hF,hJ,hP];repeat' (first | exact Ok.out | with_reducible refine aI ?_ ?_ | (simp;done))))
 refine bk.x8 1 2 17 rfl rfl ?_
 simp only [go_sem,hD,hF,hJ,hP]
 refine bk.x8 1 3 1 rfl rfl ?_
 simp only [go_sem,hD,hF,hJ,hP]
 refine bk.x8 1 4 1 rfl rfl ?_
 simp only [go_sem,hD,hF,hJ,hP]
 refine da 2 3 ?_ ?_ (bk.ind (ι:=List Pc×Nat×Sh×Nat×Nat) (fun i=>p.procs.drop i.2.1=i.1∧Sh.go i.2.1 i.2.2.1 i.1=R∧i.2.2.1.L.length+Pc.aN i.1≤Pc.aN p.procs∧i.2.2.1.lo.length=i.2.1∧i.2.2.1.hi.length=i.2.1∧i.2.2.2.1=i.2.2.1.lo.length∧i.2.2.2.2=i.2.2.1.hi.length) (fun i=>i.1.length)
  (fun i=> [(1, .ptr 0 0),(3, .ptr 1 0),(10, .slice .shared 5 (p.procs.map bR)),(11, .int .i64 (p.procs.length:Int)),(12, .int .i64 (i.2.1:Int))]) (fun i=>⟨[[.slice .shared 1 (p.globals.map encStr), .slice .shared 5 (p.procs.map bR)],fM (.slice .shared 1 (p.globals.map encStr)) (.slice .shared 5 (p.procs.map bR)) i.2.2.1.L i.2.2.1.lo i.2.2.1.hi],[some i.2.2.1.L.length,some i.2.2.2.1,some i.2.2.2.2]⟩) ?_ (p.procs,0,⟨[],[],[]⟩,0,0) ⟨rfl,Tl.symm,by simp,rfl,rfl,rfl,rfl⟩)
 ·(simp only [go_sem,hD,hF,hJ,hP,fM];try exact bo)
 ·(simp only [go_sem,hD,hF,hJ,hP,fM];try exact bo)
 rintro⟨rest,k,h,n1,n2⟩ ⟨h1,h2,h3,h4,h5,h6,h7⟩ IH
 dsimp only at h1 h2 h3 h4 h5 h6 h7
 subst h6 h7
 cases rest with
 | nil=>
  have hD:=drop_nil h1
  simp only [Sh.go]at h2
  rw [← h2]at hQ
  repeat' (first
 | simp only [go_sem,hD,hF,hJ,hP,fM]
 | (with_reducible refine aJ hQ ?_;simp only [aw,ay,Option.some.injEq,exists_eq_left',go_sem,hD,hF,hJ,hP];repeat' (first | exact Ok.out | with_reducible refine aI ?_ ?_ | (simp;done))))
 | cons f rest=>
  obtain⟨hF,g2,hD,g4⟩:=drop_cons h1
  have bq:k<4611686018427387904:=by omega
  simp only [Pc.aN,Pc.size]at h3
  simp only [Sh.go]at h2
  have c1:=lj f.body
  have hJ:(h.lo.length+1)*9≤bb:=by unfold bb;omega
  have V2:(h.hi.length+1)*9≤bb:=by unfold bb;omega
  have Db:IntKind.wrap .i64 ((h.L.length:Int)+1)=(h.L.length:Int)+1:=c7 (by omega) (by omega)
  have hl:(Im.rows (k:Int) 0 (-1) 0 h.L f.body).length=h.L.length+Sm.gm f.body:=eW ..
  have qN:IntKind.wrap .i64 (((Im.rows (k:Int) 0 (-1) 0 h.L f.body).length:Int)+1)=((Im.rows (k:Int) 0 (-1) 0 h.L f.body).length:Int)+1:=c7 (by omega) (by omega)
  have hr:=fun {s:St} {o:Nat}=>@Nk (Sm.aN f.body+1) (by omega) f.body (k:Int) 0 (-1) 0 h.L (.slice .shared 1 (p.globals.map encStr)) (.slice .shared 5 (p.procs.map bR)) (h.lo++ [(h.L.length:Int)+1]) h.hi (some (h.lo.length+1)) (some h.hi.length) (Nat.lt_succ_self _) (by omega) (by simp [D.ok,Tag.ok,dJ]) (by simp [D.ok,Tag.ok,Ap]) s o
  simp only [fM,List.map_append,List.map_cons,List.map_nil,jl]at hr
  repeat' (first
 | simp only [go_sem,hD,hF,hJ,hP,Db,qN,V2,fM]
 | (with_reducible refine CU (hr (by with_unfolding_all rfl) (by with_unfolding_all rfl)) ?_)
 | (with_reducible refine aJ hQ ?_;simp only [aw,ay,Option.some.injEq,exists_eq_left',go_sem,hD,hF,hJ,hP];repeat' (first | exact Ok.out | with_reducible refine aI ?_ ?_ | (simp;done))))
  refine da 2 3 ?_ ?_ (IH (rest,k+1,⟨Im.rows (k:Int) 0 (-1) 0 h.L f.body,h.lo++ [(h.L.length:Int)+1],h.hi++ [((Im.rows (k:Int) 0 (-1) 0 h.L f.body).length:Int)+1]⟩,_,_) ⟨g2,h2,by dsimp only;rw [hl];omega,by simp [h4],by simp [h5],by simp,by simp⟩ (Nat.lt_succ_self _))
  ·(simp only [go_sem,hD,hF,hJ,hP,fM,aD bq,List.map_append,List.map_cons,List.map_nil,jl];try exact bo)
  ·(simp only [go_sem,hD,hF,hJ,hP,fM,aD bq,List.map_append,List.map_cons,List.map_nil,jl];try exact bo)
theorem As {p:Pg} (hs:Pc.aN p.procs<1000000000) (s:St):aG Tryz.prog kn [.agg (bX p)] s (.dd (iS p) 0) s:=by
 refine aG.pure ?_ (by simp only [D.bG,D.ok,kN];rfl) (by simp only [D.ok,yo]) s
 have h:=(Sf hs).tG (n:=0) (m:=0) rfl (Nat.le_refl _) (Nat.zero_le _) (Nat.le_refl _)
 simpa [D.fD,D.fg,Tag.fg,Hk,LV,L5,Ht,St.cut,iS,S0]using h
end Go.Abs

/-! Sl1 -/

namespace Go.Abs
set_option maxRecDepth 8000
open Go.Proofs
def kQ (x:aA) (k:Int):List aA→Int
 | []=> -1
 | s::l=>if x==s then k else kQ x (k+1) l
def dK (l:List aA) (x:aA):Bool:=decide (kQ x 0 l≥0)
def jB {α:Type} (b:α→Bool) (k:Int):List α→Int
 | []=> -1
 | s::l=>if b s then k else jB b (k+1) l
theorem Dc (x:aA) : ∀ (l:List aA) (k:Int),0≤k→(kQ x k l≥0↔x∈l)
 | [],k,h=>by simp [kQ]
 | s::l,k,h=>by
  by_cases e:x=s
  ·simp [kQ,e];omega
  ·have e':(x==s)=false:=by simp [e]
   simp only [kQ,e',Bool.false_eq_true,if_false,List.mem_cons,e,false_or]
   exact Dc x l (k+1) (by omega)
theorem gd (l:List aA) (x:aA):dK l x=true↔x∈l:=by
 simp only [dK,decide_eq_true_eq];exact Dc x l 0 (Int.le_refl 0)
theorem yp {α:Type} (b:α→Bool) : ∀ (l:List α) (k:Int),0≤k→(jB b k l≥0↔l.any b=true)
 | [],k,h=>by simp [jB]
 | s::l,k,h=>by
  by_cases e:b s=true
  ·simp [jB,e];omega
  ·have e':b s=false:=by simpa using e
   simp only [jB,e',Bool.false_eq_true,if_false,List.any_cons,Bool.or_eq_true,false_or]
   exact yp b l (k+1) (by omega)
theorem Dd {l:List aA} (hl:l.length<4611686018427387904) (x:aA) (s:St):aG Tryz.prog fV [.slice .shared 1 (l.map encStr), .str x] s (.int .i64 (kQ x 0 l)) s:=by
 refine aG.pure ?_ (by simp [D.bG,D.ok,Tag.ok,dJ]) rfl s
 generalize h:kQ x 0 l=p
 unfold S0
 refine aG.go qm rfl fun B Q hB hQ=> ?_
 have⟨hD,hF,hJ,hP⟩:=bP
 repeat' (first
 | simp only [go_sem,hD,hF,hJ,hP]
 | (with_reducible first | refine cR fun hc=> ?_ | refine cT fun hc=> ?_ | refine cU (fun hc=> ?_) fun hc=> ?_) <;> (try simp only [hc,bs, ↓reduceIte]at h) <;> try simp only [hc]
 | (with_reducible refine aJ hQ ?_;(try cases h);simp only [aw,ay,cm,cq,go_sem,hD,hF,hJ,hP];repeat' (first | exact Ok.out | with_reducible refine aI ?_ ?_ | (simp;done))))
 refine dc 0 0 (bk.ind (ι:=List aA×Nat) (fun i=>l.drop i.2=i.1∧kQ x (i.2:Int) i.1=p) (fun i=>i.1.length)
  (fun i=> [(0, .slice .shared 1 (l.map encStr)),(1, .str x),(7, .int .i64 (l.length:Int)),(8, .int .i64 (i.2:Int))]) (fun i=>⟨[],[]⟩) ?_ (l,0) ⟨rfl,h⟩)
 rintro⟨rest,k⟩ ⟨h1,h⟩ IH
 dsimp only at h1 h
 cases rest with
 | nil=>
  have hD:=drop_nil h1
  simp only [kQ]at h
  repeat' (first
 | simp only [go_sem,hD,hF,hJ,hP]
 | (with_reducible first | refine cR fun hc=> ?_ | refine cT fun hc=> ?_ | refine cU (fun hc=> ?_) fun hc=> ?_) <;> (try simp only [hc,bs, ↓reduceIte]at h) <;> try simp only [hc]
 | (with_reducible refine aJ hQ ?_;(try cases h);simp only [aw,ay,cm,cq,go_sem,hD,hF,hJ,hP];repeat' (first | exact Ok.out | with_reducible refine aI ?_ ?_ | (simp;done))))
 | cons a rest=>
  obtain⟨hF,g2,hD,g4⟩:=drop_cons h1
  have bq:k<4611686018427387904:=by omega
  simp only [kQ]at h
  repeat' (first
 | simp only [go_sem,hD,hF,hJ,hP]
 | (with_reducible first | refine cR fun hc=> ?_ | refine cT fun hc=> ?_ | refine cU (fun hc=> ?_) fun hc=> ?_) <;> (try simp only [hc,bs, ↓reduceIte]at h) <;> try simp only [hc]
 | (with_reducible refine aJ hQ ?_;(try cases h);simp only [aw,ay,cm,cq,go_sem,hD,hF,hJ,hP];repeat' (first | exact Ok.out | with_reducible refine aI ?_ ?_ | (simp;done))))
  refine da 0 0 ?_ ?_ (IH (rest,k+1) ⟨g2,h⟩ (Nat.lt_succ_self _))
  ·(simp only [go_sem,hD,hF,hJ,hP,aD bq];try exact bo)
  ·(simp only [go_sem,hD,hF,hJ,hP,aD bq];try exact bo)
theorem xk {l:List aA} (hl:l.length<4611686018427387904) (x:aA) (s:St):aG Tryz.prog bZ [.slice .shared 1 (l.map encStr), .str x] s (.bool (dK l x)) s:=by
 refine aG.pure ?_ (by simp [D.bG,D.ok,Tag.ok,dJ]) rfl s
 have hi:=fun s=>Dd hl x s
 unfold S0
 refine aG.go o9 rfl fun B Q hB hQ=> ?_
 have⟨hD,hF,hJ,hP⟩:=bP
 repeat' (first
 | simp only [go_sem,hD,hF,hJ,hP,dK]
 | (with_reducible refine CU (hi _) ?_)
 | (with_reducible first | refine cR fun hc=> ?_ | refine cT fun hc=> ?_ | refine cU (fun hc=> ?_) fun hc=> ?_) <;> (try simp only [hc,bs, ↓reduceIte]at h) <;> try simp only [hc]
 | (with_reducible refine aJ hQ ?_;simp only [aw,ay,cm,cq,go_sem,hD,hF,hJ,hP,dK];repeat' (first | exact Ok.out | with_reducible refine aI ?_ ?_ | (simp;done))))
theorem aG.Hw {P:Program} {f:Nat} {d d':D} {r:List D} {s s':St} {x:D} (h:aG P f (d'::r) s x s') (hw:Wk d d'):aG P f (d::r) s x s':=dh.uk (.cons hw (jR.refl r)) h
theorem ik {l:List aA} (hl:l.length<4611686018427387904) (x:aA) (g:Tag) (s:St):aG Tryz.prog bZ [.slice g 1 (l.map encStr), .str x] s (.bool (dK l x)) s:=
 (xk hl x s).Hw (Wk.shared _ _ _)
theorem BK (x:aA) (z:Nat) (g:Tag) (s:St):aG Tryz.prog bZ [.slice g z [], .str x] s (.bool false) s:=
 (xk (l:= []) (by simp) x s).Hw (Wk.nil _ _ _)
theorem uE {l:List aA} (hl:l.length<4611686018427387904) {f:Nat} {row:List D} {b:aA→Bool} (pw:D.bG 0 0 row=true) (he:enters Tryz.prog f=true)
 (hb : ∀ x∈l,aG Tryz.prog f ([.str x]++ [.ptr 0 0]) ⟨[row],[]⟩ (.bool (b x)) ⟨[row],[]⟩) :
 aG Tryz.prog ij [.slice .shared 1 (l.map encStr), .fa f [.ptr 0 0]] ⟨[row],[]⟩ (.int .i64 (jB b 0 l)) ⟨[row],[]⟩:=by
 generalize h:jB b 0 l=p
 have k1 : ∀ n m,D.fD n m row=row:=fun n m=>fU n m _ pw
 refine aG.go oO rfl fun B Q hB hQ=> ?_
 have⟨hD,hF,hJ,hP⟩:=bP
 repeat' (first
 | simp only [go_sem,hD,hF,hJ,hP,k1]
 | (with_reducible first | refine cR fun hc=> ?_ | refine cT fun hc=> ?_ | refine cU (fun hc=> ?_) fun hc=> ?_) <;> (try simp only [hc,bs, ↓reduceIte]at h) <;> try simp only [hc]
 | (with_reducible refine aJ hQ ?_;(try cases h);simp only [aw,ay,cm,cq,go_sem,hD,hF,hJ,hP,k1];repeat' (first | exact Ok.out | with_reducible refine aI ?_ ?_ | (simp;done))))
 refine da 1 0 ?_ ?_ (bk.ind (ι:=List aA×Nat) (fun i=>l.drop i.2=i.1∧jB b (i.2:Int) i.1=p) (fun i=>i.1.length)
  (fun i=> [(0, .slice .shared 1 (l.map encStr)),(1, .fa f [.ptr 0 0]),(7, .int .i64 (l.length:Int)),(8, .int .i64 (i.2:Int))]) (fun i=>⟨[row],[]⟩) ?_ (l,0) ⟨rfl,h⟩)
 ·(simp only [go_sem,hD,hF,hJ,hP,k1];try exact bo)
 ·(simp only [go_sem,hD,hF,hJ,hP,k1];try exact bo)
 rintro⟨rest,k⟩ ⟨h1,h⟩ IH
 dsimp only at h1 h
 cases rest with
 | nil=>
  have hD:=drop_nil h1
  simp only [jB]at h
  repeat' (first
 | simp only [go_sem,hD,hF,hJ,hP,k1]
 | (with_reducible first | refine cR fun hc=> ?_ | refine cT fun hc=> ?_ | refine cU (fun hc=> ?_) fun hc=> ?_) <;> (try simp only [hc,bs, ↓reduceIte]at h) <;> try simp only [hc]
 | (with_reducible refine aJ hQ ?_;(try cases h);simp only [aw,ay,cm,cq,go_sem,hD,hF,hJ,hP,k1];repeat' (first | exact Ok.out | with_reducible refine aI ?_ ?_ | (simp;done))))
 | cons a rest=>
  obtain⟨hF,g2,hD,g4⟩:=drop_cons h1
  have bq:k<4611686018427387904:=by omega
  have P5:=hb a (List.mem_of_getElem? hF)
  simp only [jB]at h
  repeat' (first
 | simp only [go_sem,hD,hF,hJ,hP,k1]
 | (with_reducible refine CV.use (he) (P5) ?_)
 | (with_reducible first | refine cR fun hc=> ?_ | refine cT fun hc=> ?_ | refine cU (fun hc=> ?_) fun hc=> ?_) <;> (try simp only [hc,bs, ↓reduceIte]at h) <;> try simp only [hc]
 | (with_reducible refine aJ hQ ?_;(try cases h);simp only [aw,ay,cm,cq,go_sem,hD,hF,hJ,hP,k1];repeat' (first | exact Ok.out | with_reducible refine aI ?_ ?_ | (simp;done))))
  refine da 1 0 ?_ ?_ (IH (rest,k+1) ⟨g2,h⟩ (Nat.lt_succ_self _))
  ·(simp only [go_sem,hD,hF,hJ,hP,k1,aD bq];try exact bo)
  ·(simp only [go_sem,hD,hF,hJ,hP,k1,aD bq];try exact bo)
theorem uF {P:Program} {g f:Nat} {row:List D} {rows:List (List D)} {z:Nat} {d:D} (h:aG P g [.slice .shared z rows, .fa f [.ptr 0 0]] ⟨[row],[]⟩ d ⟨[row],[]⟩) (pw:D.bG 0 0 row=true) (hw:D.hY 0 0 rows=true) (hd:D.ok 0 0 d=true) {s:St} {o:Nat} (ho:s.au[o]? = some row) :
 aG P g [.slice .shared z rows, .fa f [.ptr o 0]] s d s:=by
 refine dh.frame [o] [] h (by simp) List.nodup_nil (by simpa using (List.getElem?_eq_some_iff.1 ho).1) (by simp) rfl (fun i o' ds e1 e2=> ?_) rfl (by simp) (by simp [D.ff,D.db,Tag.db,kf _ _ _ hw])
  (by simp [D.bG,D.ok,Tag.ok,mB (Nat.zero_le 1) (Nat.le_refl 0) _ hw]) ?_
 ·cases i with
  | zero=>simp at e1 e2;subst e1;subst e2;exact⟨by rw [fi _ _ _ pw];exact ho,gT (Nat.zero_le 1) (Nat.le_refl 0) _ pw⟩
  | succ i=>simp at e1
 ·rintro _ _ ⟨rfl,rfl⟩
  refine⟨n8 _ _ _ hd, ?_⟩
  have:s.au.set o row=s.au:=by
   apply List.ext_getElem?
   intro i
   rw [List.getElem?_set]
   split
   ·rename_i e;subst e;rw [ho];split
    ·rfl
    ·rename_i hh;exact absurd (List.getElem?_eq_some_iff.1 ho).1 hh
   ·rfl
  simp [St.back,iJ,fi _ _ _ pw,this]
theorem sd {l:List aA} (hl:l.length<4611686018427387904) {f:Nat} {row:List D} {b:aA→Bool} (pw:D.bG 0 0 row=true) (he:enters Tryz.prog f=true)
 (hb : ∀ x∈l,aG Tryz.prog f ([.str x]++ [.ptr 0 0]) ⟨[row],[]⟩ (.bool (b x)) ⟨[row],[]⟩) :
 aG Tryz.prog eo [.slice .shared 1 (l.map encStr), .fa f [.ptr 0 0]] ⟨[row],[]⟩ (.bool (l.any b)) ⟨[row],[]⟩:=by
 have k1 : ∀ n m,D.fD n m row=row:=fun n m=>fU n m _ pw
 have hi:=uE hl pw he hb
 have e:decide (jB b 0 l≥0)=l.any b:=by
  have:=yp b l 0 (Int.le_refl 0)
  cases hh:l.any b <;> simp_all
 refine aG.go nA rfl fun B Q hB hQ=> ?_
 have⟨hD,hF,hJ,hP⟩:=bP
 repeat' (first
 | simp only [go_sem,hD,hF,hJ,hP,k1,e]
 | (with_reducible refine CU (hi) ?_)
 | (with_reducible first | refine cR fun hc=> ?_ | refine cT fun hc=> ?_ | refine cU (fun hc=> ?_) fun hc=> ?_) <;> (try simp only [hc,bs, ↓reduceIte]at h) <;> try simp only [hc]
 | (with_reducible refine aJ hQ ?_;simp only [aw,ay,cm,cq,go_sem,hD,hF,hJ,hP,k1,e];repeat' (first | exact Ok.out | with_reducible refine aI ?_ ?_ | (simp;done))))
theorem se {l:List aA} (hl:l.length<4611686018427387904) {f:Nat} {row:List D} {b:aA→Bool} (pw:D.bG 0 0 row=true) (he:enters Tryz.prog f=true)
 (hb : ∀ x∈l,aG Tryz.prog f ([.str x]++ [.ptr 0 0]) ⟨[row],[]⟩ (.bool (b x)) ⟨[row],[]⟩) {s:St} {o:Nat} (ho:s.au[o]? = some row) :
 aG Tryz.prog eo [.slice .shared 1 (l.map encStr), .fa f [.ptr o 0]] s (.bool (l.any b)) s:=
 uF (sd hl pw he hb) pw (dJ l) rfl ho
theorem qe {l:List Pc} (hl:l.length<4611686018427387904) {f:Nat} {row:List D} {b:Pc→Bool} (pw:D.bG 0 0 row=true) (he:enters Tryz.prog f=true)
 (hb : ∀ x∈l,aG Tryz.prog f ([.agg (bR x)]++ [.ptr 0 0]) ⟨[row],[]⟩ (.bool (b x)) ⟨[row],[]⟩) :
 aG Tryz.prog ez [.slice .shared 5 (l.map bR), .fa f [.ptr 0 0]] ⟨[row],[]⟩ (.int .i64 (jB b 0 l)) ⟨[row],[]⟩:=by
 generalize h:jB b 0 l=p
 have k1 : ∀ n m,D.fD n m row=row:=fun n m=>fU n m _ pw
 refine aG.go nR rfl fun B Q hB hQ=> ?_
 have⟨hD,hF,hJ,hP⟩:=bP
 repeat' (first
 | simp only [go_sem,hD,hF,hJ,hP,k1]
 | (with_reducible first | refine cR fun hc=> ?_ | refine cT fun hc=> ?_ | refine cU (fun hc=> ?_) fun hc=> ?_) <;> (try simp only [hc,bs, ↓reduceIte]at h) <;> try simp only [hc]
 | (with_reducible refine aJ hQ ?_;(try cases h);simp only [aw,ay,cm,cq,go_sem,hD,hF,hJ,hP,k1];repeat' (first | exact Ok.out | with_reducible refine aI ?_ ?_ | (simp;done))))
 refine da 1 0 ?_ ?_ (bk.ind (ι:=List Pc×Nat) (fun i=>l.drop i.2=i.1∧jB b (i.2:Int) i.1=p) (fun i=>i.1.length)
  (fun i=> [(0, .slice .shared 5 (l.map bR)),(1, .fa f [.ptr 0 0]),(7, .int .i64 (l.length:Int)),(8, .int .i64 (i.2:Int))]) (fun i=>⟨[row],[]⟩) ?_ (l,0) ⟨rfl,h⟩)
 ·(simp only [go_sem,hD,hF,hJ,hP,k1];try exact bo)
 ·(simp only [go_sem,hD,hF,hJ,hP,k1];try exact bo)
 rintro⟨rest,k⟩ ⟨h1,h⟩ IH
 dsimp only at h1 h
 cases rest with
 | nil=>
  have hD:=drop_nil h1
  simp only [jB]at h
  repeat' (first
 | simp only [go_sem,hD,hF,hJ,hP,k1]
 | (with_reducible first | refine cR fun hc=> ?_ | refine cT fun hc=> ?_ | refine cU (fun hc=> ?_) fun hc=> ?_) <;> (try simp only [hc,bs, ↓reduceIte]at h) <;> try simp only [hc]
 | (with_reducible refine aJ hQ ?_;(try cases h);simp only [aw,ay,cm,cq,go_sem,hD,hF,hJ,hP,k1];repeat' (first | exact Ok.out | with_reducible refine aI ?_ ?_ | (simp;done))))
 | cons a rest=>
  obtain⟨hF,g2,hD,g4⟩:=drop_cons h1
  have bq:k<4611686018427387904:=by omega
  have P5:=hb a (List.mem_of_getElem? hF)
  simp only [jB]at h
  repeat' (first
 | simp only [go_sem,hD,hF,hJ,hP,k1]
 | (with_reducible refine CV.use (he) (P5) ?_)
 | (with_reducible first | refine cR fun hc=> ?_ | refine cT fun hc=> ?_ | refine cU (fun hc=> ?_) fun hc=> ?_) <;> (try simp only [hc,bs, ↓reduceIte]at h) <;> try simp only [hc]
 | (with_reducible refine aJ hQ ?_;(try cases h);simp only [aw,ay,cm,cq,go_sem,hD,hF,hJ,hP,k1];repeat' (first | exact Ok.out | with_reducible refine aI ?_ ?_ | (simp;done))))
  refine da 1 0 ?_ ?_ (IH (rest,k+1) ⟨g2,h⟩ (Nat.lt_succ_self _))
  ·(simp only [go_sem,hD,hF,hJ,hP,k1,aD bq];try exact bo)
  ·(simp only [go_sem,hD,hF,hJ,hP,k1,aD bq];try exact bo)
theorem tB {l:List Pc} (hl:l.length<4611686018427387904) {f:Nat} {row:List D} {b:Pc→Bool} (pw:D.bG 0 0 row=true) (he:enters Tryz.prog f=true)
 (hb : ∀ x∈l,aG Tryz.prog f ([.agg (bR x)]++ [.ptr 0 0]) ⟨[row],[]⟩ (.bool (b x)) ⟨[row],[]⟩) :
 aG Tryz.prog e7 [.slice .shared 5 (l.map bR), .fa f [.ptr 0 0]] ⟨[row],[]⟩ (.bool (l.any b)) ⟨[row],[]⟩:=by
 have k1 : ∀ n m,D.fD n m row=row:=fun n m=>fU n m _ pw
 have hi:=qe hl pw he hb
 have e:decide (jB b 0 l≥0)=l.any b:=by
  have:=yp b l 0 (Int.le_refl 0)
  cases hh:l.any b <;> simp_all
 refine aG.go mI rfl fun B Q hB hQ=> ?_
 have⟨hD,hF,hJ,hP⟩:=bP
 repeat' (first
 | simp only [go_sem,hD,hF,hJ,hP,k1,e]
 | (with_reducible refine CU (hi) ?_)
 | (with_reducible first | refine cR fun hc=> ?_ | refine cT fun hc=> ?_ | refine cU (fun hc=> ?_) fun hc=> ?_) <;> (try simp only [hc,bs, ↓reduceIte]at h) <;> try simp only [hc]
 | (with_reducible refine aJ hQ ?_;simp only [aw,ay,cm,cq,go_sem,hD,hF,hJ,hP,k1,e];repeat' (first | exact Ok.out | with_reducible refine aI ?_ ?_ | (simp;done))))
end Go.Abs

/-! MirFlat2 -/

namespace Go.Abs
mutual
def Sm.pre:Sm→List Sm
 | ⟨id,kind,labels,name,pc,x,has,args,a7,aU⟩=>⟨id,kind,labels,name,pc,x,has,args,a7,aU⟩::(Sm.dW a7++Sm.dW aU)
def Sm.dW:List Sm→List Sm
 | []=> []
 | s::l=>s.pre++Sm.dW l
end
def Pg.pre (p:Pg):List Sm:=(p.procs.map fun f=>Sm.dW f.body).flatten
mutual
theorem Nl (proc up next loop:Int) (out:List Im) : ∀ s:Sm,∃ e:List Im,Im.one proc up next loop out s=out++e∧e.map Im.s=s.pre
 | ⟨id,kind,labels,name,pc,x,has,args,a7,aU⟩=>by
  simp only [Im.one,Sm.pre]
  obtain⟨e1,h1,k1⟩:=sK proc ((out.length:Int)+1) (if kind==6 then(out.length:Int)+1 else next) (if kind==6 then(out.length:Int)+1 else loop) (out++ [⟨⟨id,kind,labels,name,pc,x,has,args,a7,aU⟩,proc,up,next,loop⟩]) a7
  obtain⟨e2,h2,k2⟩:=sK proc ((out.length:Int)+1) (if kind==6 then(out.length:Int)+1 else next) (if kind==6 then(out.length:Int)+1 else loop) (Im.rows proc ((out.length:Int)+1) (if kind==6 then(out.length:Int)+1 else next) (if kind==6 then(out.length:Int)+1 else loop) (out++ [⟨⟨id,kind,labels,name,pc,x,has,args,a7,aU⟩,proc,up,next,loop⟩]) a7) aU
  refine⟨⟨⟨id,kind,labels,name,pc,x,has,args,a7,aU⟩,proc,up,next,loop⟩::(e1++e2), ?_, ?_⟩
  ·rw [h2,h1];simp
  ·simp [k1,k2]
theorem sK (proc up next loop:Int) (out:List Im) : ∀ l:List Sm,∃ e:List Im,Im.rows proc up next loop out l=out++e∧e.map Im.s=Sm.dW l
 | []=>⟨[],by simp [Im.rows],rfl⟩
 | s::l=>by
  simp only [Im.rows,Sm.dW]
  obtain⟨e1,h1,k1⟩:=Nl proc up (if l.length=0 then next else(out.length:Int)+1+(s.gG:Int)) loop out s
  obtain⟨e2,h2,k2⟩:=sK proc up next loop (Im.one proc up (if l.length=0 then next else(out.length:Int)+1+(s.gG:Int)) loop out s) l
  refine⟨e1++e2, ?_,by simp [k1,k2]⟩
  rw [h2,h1];simp
end
theorem Hx : ∀ (l:List Pc) (n:Nat) (h:Sh),h.lo.length=n→h.hi.length=n→
 ∃ e lo hi,Sh.go n h l = ⟨h.L++e,h.lo++lo,h.hi++hi⟩∧e.map Im.s=(l.map fun f=>Sm.dW f.body).flatten∧lo.length=l.length∧hi.length=l.length∧
  ∀ (i:Nat) (f:Pc),l[i]? = some f→∃ a b e' FP:List Im,lo[i]? = some (((h.L++a).length:Int)+1)∧hi[i]? = some (((h.L++a++b).length:Int)+1)∧b.map Im.s=Sm.dW f.body∧e=a++b++e'
 | [],n,h,hl,hh=>⟨[],[],[],by simp [Sh.go],rfl,rfl,rfl,fun i f h=>by simp at h⟩
 | f::l,n,h,hl,hh=>by
  simp only [Sh.go]
  obtain⟨e1,h1,k1⟩:=sK (n:Int) 0 (-1) 0 h.L f.body
  obtain⟨e2,lo,hi,h2,k2,h3,h4,h5⟩:=Hx l (n+1) ⟨Im.rows (n:Int) 0 (-1) 0 h.L f.body,h.lo++ [(h.L.length:Int)+1],h.hi++ [((Im.rows (n:Int) 0 (-1) 0 h.L f.body).length:Int)+1]⟩ (by simp [hl]) (by simp [hh])
  refine⟨e1++e2,((h.L.length:Int)+1)::lo,(((Im.rows (n:Int) 0 (-1) 0 h.L f.body).length:Int)+1)::hi, ?_,by simp [k1,k2],by simp [h3],by simp [h4],fun i g gk=> ?_⟩
  ·rw [h2,h1];simp
  ·cases i with
   | zero=>
    simp only [List.getElem?_cons_zero,Option.some.injEq]at gk
    subst gk
    exact⟨[],e1,e2,[],by simp,by rw [h1];simp,k1,by simp⟩
   | succ i=>
    simp only [List.getElem?_cons_succ]at gk
    obtain⟨a,b,e',FP,g1,g2,g3,g4⟩:=h5 i g gk
    refine⟨e1++a,b,e',FP, ?_, ?_,g3,by rw [g4];simp⟩
    ·rw [List.getElem?_cons_succ,g1,h1];simp
    ·rw [List.getElem?_cons_succ,g2,h1];simp
theorem qO (p:Pg):p.fv.L.map Im.s=p.pre∧∀ (i:Nat) (f:Pc),p.procs[i]? = some f→∃ a b e:List Im,p.fv.lo[i]? = some ((a.length:Int)+1)∧p.fv.hi[i]? = some (((a++b).length:Int)+1)∧b.map Im.s=Sm.dW f.body∧p.fv.L=a++b++e:=by
 obtain⟨e,lo,hi,h1,h2,h3,h4,h5⟩:=Hx p.procs 0 ⟨[],[],[]⟩ rfl rfl
 unfold Pg.fv
 rw [h1]
 refine⟨by simpa [Pg.pre]using h2,fun i f hf=> ?_⟩
 obtain⟨a,b,e',_,g1,g2,g3,g4⟩:=h5 i f hf
 exact⟨a,b,e',by simpa using g1,by simpa using g2,g3,by simpa using g4⟩
end Go.Abs

/-! Sl2 -/

namespace Go.Abs
set_option maxRecDepth 8000
open Go.Proofs
def Pg.at (p:Pg) (name:aA):Int:=jB (fun f:Pc=>f.name==name) 0 p.procs
theorem Nn (name:aA) (f:Pc):aG Tryz.prog iR ([.agg (bR f)]++ [.ptr 0 0]) ⟨[[.str name]],[]⟩ (.bool (f.name==name)) ⟨[[.str name]],[]⟩:=by
 show aG Tryz.prog iR [.agg (bR f), .ptr 0 0] _ _ _
 refine aG.go rZ rfl fun B Q hB hQ=> ?_
 have⟨hD,hF,hJ,hP⟩:=bP
 repeat' (first
 | simp only [go_sem,hD,hF,hJ,hP]
 | (with_reducible refine aJ hQ ?_;simp only [aw,ay,Option.some.injEq,exists_eq_left',go_sem,hD,hF,hJ,hP];repeat' (first | exact Ok.out | with_reducible refine aI ?_ ?_ | (simp;done))))
theorem Hy {p:Pg} (hs:p.procs.length<4611686018427387904) (name:aA) (s:St):aG Tryz.prog jM [.dd (iS p) 0, .str name] s (.int .i64 (p.at name)) s:=by
 refine aG.pure ?_ (by simp [D.bG,D.ok,yo]) rfl s
 have hi:=fun {s:St} {o:Nat} (ho:s.au[o]? = some [.str name])=>uF (qe (l:=p.procs) (f:=iR) (row:= [.str name]) (b:=fun f:Pc=>f.name==name) hs rfl (by with_unfolding_all rfl) (fun x _=>Nn name x)) rfl (Ap _) rfl ho
 have gk:=fun {s:St} {o:Nat} (ho:s.au[o]? = some [.str name])=>(show aG Tryz.prog ez [.slice .shared 5 (p.procs.map bR), .fa 86 [.ptr o 0]] s (.int .i64 (p.at name)) s from hi ho)
 unfold S0
 rw [BJ]
 refine aG.go tA rfl fun B Q hB hQ=> ?_
 have⟨hD,hF,hJ,hP⟩:=bP
 repeat' (first
 | simp only [go_sem,hD,hF,hJ,hP]
 | (with_reducible refine CU (gk (by with_unfolding_all rfl)) ?_)
 | (with_reducible refine aJ hQ ?_;simp only [aw,ay,Option.some.injEq,exists_eq_left',go_sem,hD,hF,hJ,hP];repeat' (first | exact Ok.out | with_reducible refine aI ?_ ?_ | (simp;done))))
theorem Hz : ∀ (l:List Pc) (n:Nat) (h:Sh),(Sh.go n h l).L.length≤h.L.length+Pc.aN l
 | [],n,h=>by simp [Sh.go]
 | f::l,n,h=>by
  simp only [Sh.go]
  refine Nat.le_trans (Hz l _ _) ?_
  have:=eW (n:Int) 0 (-1) 0 h.L f.body
  have:=lj f.body
  simp only [Pc.aN,Pc.size];omega
theorem qP (p:Pg):p.fv.L.length≤Pc.aN p.procs:=by have:=Hz p.procs 0 ⟨[],[],[]⟩;simpa [Pg.fv]using this
theorem Ka {p:Pg} {i:Nat} {f:Pc} (hf:p.procs[i]? = some f) (hs:Pc.aN p.procs<1000000000) : ∃ it:List Im,it.map Im.s=Sm.dW f.body∧∀ s,aG Tryz.prog jk [.dd (iS p) 0, .int .i64 (i:Int)] s (.slice .shared 17 (it.map eH)) s:=by
 obtain⟨a,b,e,h1,h2,h3,h4⟩:=(qO p).2 i f hf
 refine⟨b,h3,fun s=> ?_⟩
 refine aG.pure ?_ (by simp [D.bG,D.ok,yo]) (by simp [D.ok,Tag.ok,Aq]) s
 have hL:p.fv.L.length<1000000000:=Nat.lt_of_le_of_lt (qP p) hs
 have l1:(i:Int)<(p.fv.lo.length:Int):=by have:=(List.getElem?_eq_some_iff.1 h1).1;omega
 have l2:(i:Int)<(p.fv.hi.length:Int):=by have:=(List.getElem?_eq_some_iff.1 h2).1;omega
 have L9:a.length+b.length≤p.fv.L.length:=by rw [h4];simp
 have w1:IntKind.wrap .i64 ((a.length:Int)+1 - 1)=(a.length:Int):=by rw [show(a.length:Int)+1 - 1=(a.length:Int) by omega];exact c7 (by omega) (by omega)
 have w2:IntKind.wrap .i64 (((a.length+b.length:Nat):Int)+1 - 1)=((a.length+b.length:Nat):Int):=by rw [show((a.length+b.length:Nat):Int)+1 - 1=((a.length+b.length:Nat):Int) by omega];exact c7 (by omega) (by omega)
 have c1:((a.length:Int)≤((a.length+b.length:Nat):Int))=True:=by simp only [eq_iff_iff,iff_true];omega
 have c2:(((a.length+b.length:Nat):Int)≤(p.fv.L.length:Int))=True:=by simp only [eq_iff_iff,iff_true];omega
 have hb:List.drop a.length (List.take (a.length+b.length) (List.map eH p.fv.L))=List.map eH b:=by rw [h4];simp [List.map_append,List.take_append,List.drop_append]
 unfold S0
 rw [BJ]
 refine aG.go vn rfl fun B Q hB hQ=> ?_
 have⟨hD,hF,hJ,hP⟩:=bP
 repeat' (first
 | simp only [go_sem,hD,hF,hJ,hP,h1,h2,w1,w2,c1,c2,or_true,true_and,and_self,ite_self,Int.toNat_natCast,hb]
 | (with_reducible refine aJ hQ ?_;simp only [aw,ay,Option.some.injEq,exists_eq_left',go_sem,hD,hF,hJ,hP];repeat' (first | exact Ok.out | with_reducible refine aI ?_ ?_ | (simp;done))))
end Go.Abs

/-! TMay1 -/

namespace Go.Abs
set_option maxRecDepth 8000
open Go.Proofs
theorem ze {r:aA} : pG r=true↔lu r=r.length:=by
 induction r with
 | nil=>simp [pG,lu]
 | cons c r ih=>
  simp only [pG,lu]
  cases h1:qM c <;> cases h2:tp c <;> simp [ih]
theorem uG (t:aA) (hl:t.length<4611686018427387904) (s:St):aG Tryz.prog ko [.str t] s (.bool (isName t)) s:=by
 refine aG.pure ?_ rfl rfl s
 have hr:=fun s=>R7 (pos:=0) hl s
 simp only [List.drop_zero,Nat.zero_add]at hr
 unfold S0
 cases t with
 | nil=>
  have z:decide (((0:Nat):Int)<1)=true:=rfl
  have z':decide ((0:Int)<1)=true:=rfl
  have e:isName [] = false:=rfl
  rw [e]
  refine aG.go jY rfl fun B Q hB hQ=> ?_
  have⟨hD,hF,hJ,hP⟩:=bP
  repeat' (first
 | simp only [go_sem,hD,hF,hJ,hP,z,z']
 | (with_reducible refine aJ hQ ?_;simp only [aw,ay,Option.some.injEq,exists_eq_left',go_sem,hD,hF,hJ,hP];repeat' (first | exact Ok.out | with_reducible refine aI ?_ ?_ | (simp;done))))
 | cons c r=>
  have l1:decide (((r.length+1:Nat):Int)<1)=false:=by simp;omega
  generalize h:isName (c::r)=p
  simp only [isName]at h
  cases hL:qM c
  ·simp only [hL,Bool.not_false,Bool.or_true, ↓reduceIte]at h
   subst h
   by_cases c8:decide (((r.length+1:Nat):Int) > 8)=true
   ·refine aG.go jY rfl fun B Q hB hQ=> ?_
    have⟨hD,hF,hJ,hP⟩:=bP
    repeat' (first
 | simp only [go_sem,hD,hF,hJ,hP,l1,c8]
 | (with_reducible refine aJ hQ ?_;simp only [aw,ay,Option.some.injEq,exists_eq_left',go_sem,hD,hF,hJ,hP];repeat' (first | exact Ok.out | with_reducible refine aI ?_ ?_ | (simp;done))))
   ·have c8:decide (((r.length+1:Nat):Int) > 8)=false:=by simpa using c8
    refine aG.go jY rfl fun B Q hB hQ=> ?_
    have⟨hD,hF,hJ,hP⟩:=bP
    repeat' (first
 | simp only [go_sem,hD,hF,hJ,hP,l1,c8,hL]
 | (with_reducible refine CU (og _ _) ?_)
 | (with_reducible refine aJ hQ ?_;simp only [aw,ay,Option.some.injEq,exists_eq_left',go_sem,hD,hF,hJ,hP];repeat' (first | exact Ok.out | with_reducible refine aI ?_ ?_ | (simp;done))))
  ·simp only [hL,Bool.not_true,Bool.or_false]at h
   by_cases c8:decide (((r.length+1:Nat):Int) > 8)=true
   ·simp only [c8, ↓reduceIte]at h
    subst h
    refine aG.go jY rfl fun B Q hB hQ=> ?_
    have⟨hD,hF,hJ,hP⟩:=bP
    repeat' (first
 | simp only [go_sem,hD,hF,hJ,hP,l1,c8]
 | (with_reducible refine aJ hQ ?_;simp only [aw,ay,Option.some.injEq,exists_eq_left',go_sem,hD,hF,hJ,hP];repeat' (first | exact Ok.out | with_reducible refine aI ?_ ?_ | (simp;done))))
   ·have c8:decide (((r.length+1:Nat):Int) > 8)=false:=by simpa using c8
    simp only [c8,Bool.false_eq_true, ↓reduceIte]at h
    have de:lu (c::r)=lu r+1:=by simp [lu,hL]
    cases hn:pG r
    ·simp only [hn,Bool.false_eq_true, ↓reduceIte]at h
     have:lu r≠r.length:=fun e=>by rw [ze.2 e]at hn;cases hn
     have e:(((lu (c::r):Nat):Int)==((r.length+1:Nat):Int))=false:=by rw [de];simp;omega
     subst h
     refine aG.go jY rfl fun B Q hB hQ=> ?_
     have⟨hD,hF,hJ,hP⟩:=bP
     repeat' (first
 | simp only [go_sem,hD,hF,hJ,hP,l1,c8,hL,e]
 | (with_reducible refine CU (og _ _) ?_)
 | (with_reducible refine CU (hr _) ?_)
 | (with_reducible refine aJ hQ ?_;simp only [aw,ay,Option.some.injEq,exists_eq_left',go_sem,hD,hF,hJ,hP];repeat' (first | exact Ok.out | with_reducible refine aI ?_ ?_ | (simp;done))))
    ·simp only [hn, ↓reduceIte]at h
     have:=ze.1 hn
     have e:(((lu (c::r):Nat):Int)==((r.length+1:Nat):Int))=true:=by rw [de];simp;omega
     subst h
     refine aG.go jY rfl fun B Q hB hQ=> ?_
     have⟨hD,hF,hJ,hP⟩:=bP
     repeat' (first
 | simp only [go_sem,hD,hF,hJ,hP,l1,c8,hL,e]
 | (with_reducible refine CU (og _ _) ?_)
 | (with_reducible refine CU (hr _) ?_)
 | (with_reducible refine CU (PX _ _) ?_)
 | (with_reducible refine aJ hQ ?_;simp only [aw,ay,Option.some.injEq,exists_eq_left',go_sem,hD,hF,hJ,hP];repeat' (first | exact Ok.out | with_reducible refine aI ?_ ?_ | (simp;done))))
theorem De (op:Int) (s:St):aG Tryz.prog rz [.int .i64 op] s (.int .i64 (jZ op)) s:=by
 refine aG.pure ?_ rfl rfl s
 unfold S0
 generalize h:jZ op=p
 unfold jZ at h
 refine aG.go Af rfl fun B Q hB hQ=> ?_
 have⟨hD,hF,hJ,hP⟩:=bP
 repeat' (first
 | simp only [go_sem,hD,hF,hJ,hP]
 | (with_reducible first | refine cR fun hc=> ?_ | refine cT fun hc=> ?_ | refine cU (fun hc=> ?_) fun hc=> ?_) <;> (try simp only [hc,bs, ↓reduceIte]at h) <;> try simp only [hc]
 | (with_reducible refine aJ hQ ?_;(try cases h);simp only [aw,ay,cm,cq,go_sem,hD,hF,hJ,hP];repeat' (first | exact Ok.out | with_reducible refine aI ?_ ?_ | (simp;done))))
theorem sL {l:List aA} (hl:l.length<4611686018427387904) (hs : ∀ t∈l,t.length<4611686018427387904) (s:St):aG Tryz.prog jV [.slice .shared 1 (l.map encStr)] s (.bool (dr l)) s:=by
 refine aG.pure ?_ (by simp [D.bG,D.ok,dJ,Tag.ok]) rfl s
 unfold S0
 generalize h:dr l=p
 refine aG.go ye rfl fun B Q hB hQ=> ?_
 have⟨hD,hF,hJ,hP⟩:=bP
 repeat' (first
 | simp only [go_sem,hD,hF,hJ,hP]
 | (with_reducible first | refine cR fun hc=> ?_ | refine cT fun hc=> ?_ | refine cU (fun hc=> ?_) fun hc=> ?_) <;> (try simp only [hc,bs, ↓reduceIte]at h) <;> try simp only [hc]
 | (with_reducible refine aJ hQ ?_;(try cases h);simp only [aw,ay,cm,cq,go_sem,hD,hF,hJ,hP];repeat' (first | exact Ok.out | with_reducible refine aI ?_ ?_ | (simp;done))))
 refine dc 0 0 (bk.ind (ι:=List aA×Nat) (fun i=>l.drop i.2=i.1∧dr i.1=p) (fun i=>i.1.length)
  (fun i=> [(5, .slice .shared 1 (l.map encStr)),(6, .int .i64 (l.length:Int)),(7, .int .i64 (i.2:Int))]) (fun i=>⟨[],[]⟩) ?_ (l,0) ⟨rfl,h⟩)
 rintro⟨rest,k⟩ ⟨h1,h⟩ IH
 dsimp only at h1 h
 cases rest with
 | nil=>
  have hD:=drop_nil h1
  simp only [dr]at h
  repeat' (first
 | simp only [go_sem,hD,hF,hJ,hP]
 | (with_reducible first | refine cR fun hc=> ?_ | refine cT fun hc=> ?_ | refine cU (fun hc=> ?_) fun hc=> ?_) <;> (try simp only [hc,bs, ↓reduceIte]at h) <;> try simp only [hc]
 | (with_reducible refine aJ hQ ?_;(try cases h);simp only [aw,ay,cm,cq,go_sem,hD,hF,hJ,hP];repeat' (first | exact Ok.out | with_reducible refine aI ?_ ?_ | (simp;done))))
 | cons t rest=>
  obtain⟨hF,g2,hD,g4⟩:=drop_cons h1
  have hJ:k<4611686018427387904:=by omega
  have hn:=uG t (hs t (List.mem_of_getElem? hF))
  simp only [dr]at h
  repeat' (first
 | simp only [go_sem,hD,hF,hJ,hP]
 | (with_reducible refine CU (hn _) ?_)
 | (with_reducible first | refine cR fun hc=> ?_ | refine cT fun hc=> ?_ | refine cU (fun hc=> ?_) fun hc=> ?_) <;> (try simp only [hc,bs, ↓reduceIte]at h) <;> try simp only [hc]
 | (with_reducible refine aJ hQ ?_;(try cases h);simp only [aw,ay,cm,cq,go_sem,hD,hF,hJ,hP];repeat' (first | exact Ok.out | with_reducible refine aI ?_ ?_ | (simp;done))))
  refine dc 0 0 (IH (rest,k+1) ⟨g2,h⟩ (Nat.lt_succ_self _))
mutual
def Ex.dp (left:Int):Ex→Bool
 | ⟨op,n,name,kids⟩=>
  if decide (left<1) || (kids.length:Int) != jZ op then false
  else if op==1 then decide (n≥0) && name == []
  else if op==2 then n==0 && isName name
  else if n != 0 || !(name == [])then false
  else Ex.xm (left - 1) kids
def Ex.xm (left:Int):List Ex→Bool
 | []=>true
 | x::l=>if !(Ex.dp left x)then false else Ex.xm left l
end
theorem No : ∀ (m:Nat) (x:Ex),x.size≤m→x.size<4611686018427387904→x.texts→∀ left:Int,0≤left→left≤100→∀ s:St,aG Tryz.prog l7 [.agg (bj x), .int .i64 left] s (.bool (x.dp left)) s:=by
 intro m
 induction m with
 | zero=>rintro⟨op,v,name,kids⟩ h;simp only [Ex.size]at h;omega
 | succ m ih=>
  rintro⟨op,v,name,kids⟩ h hx ht left h0 adM s
  refine aG.pure ?_ (by simp [D.bG,D.ok,fZ]) rfl s
  have hlen:kids.length<4611686018427387904:=by simp only [Ex.size]at hx;have:=Ex.cu kids;omega
  have hn:=uG name ht.1
  generalize hp:Ex.dp left ⟨op,v,name,kids⟩=p
  simp only [Ex.dp]at hp
  unfold S0
  by_cases zf:left<1
  ·have d1:decide (left<1)=true:=by simpa using zf
   simp only [d1,Bool.true_or, ↓reduceIte]at hp
   subst hp
   refine aG.go tn rfl fun B Q hB hQ=> ?_
   have⟨hD,hF,hJ,hP⟩:=bP
   repeat' (first
 | simp only [go_sem,hD,hF,hJ,hP,d1]
 | (with_reducible refine CU (De _ _) ?_)
 | (with_reducible refine CU (hn _) ?_)
 | (with_reducible refine aJ hQ ?_;simp only [aw,ay,cm,cq,go_sem,hD,hF,hJ,hP];repeat' (first | exact Ok.out | with_reducible refine aI ?_ ?_ | (simp;done))))
  ·have d1:decide (left<1)=false:=by simpa using zf
   have w1:IntKind.wrap .i64 (left - 1)=left - 1:=c7 (by omega) (by omega)
   have hk : ∀ y∈kids,∀ s,aG Tryz.prog l7 [.agg (bj y), .int .i64 (left - 1)] s (.bool (y.dp (left - 1))) s:=fun y hy s=>
    ih y (by simp only [Ex.size]at h;have:=Ex.bA hy;omega) (by simp only [Ex.size]at hx;have:=Ex.bA hy;omega) (Ex.zc ht hy) (left - 1) (by omega) (by omega) s
   simp only [d1,Bool.false_or]at hp
   have h:=hp
   clear hp
   refine aG.go tn rfl fun B Q hB hQ=> ?_
   have⟨hD,hF,hJ,hP⟩:=bP
   repeat' (first
 | simp only [go_sem,hD,hF,hJ,hP,d1]
 | (with_reducible refine CU (De _ _) ?_)
 | (with_reducible refine CU (hn _) ?_)
 | (with_reducible first | refine cR fun hc=> ?_ | refine cT fun hc=> ?_ | refine cU (fun hc=> ?_) fun hc=> ?_) <;> (try simp only [hc,bs, ↓reduceIte]at h) <;> try simp only [hc]
 | (with_reducible refine aJ hQ ?_;(try cases h);simp only [aw,ay,cm,cq,go_sem,hD,hF,hJ,hP,d1];repeat' (first | exact Ok.out | with_reducible refine aI ?_ ?_ | (simp;done))))
   all_goals
    refine dc 1 0 (bk.ind (ι:=List Ex×Nat) (fun i=>kids.drop i.2=i.1∧Ex.xm (left - 1) i.1=p) (fun i=>i.1.length)
     (fun i=> [(1, .int .i64 left),(49, .slice .shared 4 (kids.map bj)),(50, .int .i64 (kids.length:Int)),(51, .int .i64 (i.2:Int))]) (fun i=>⟨[bj ⟨op,v,name,kids⟩],[]⟩) ?_ (kids,0) ⟨rfl,h⟩)
    rintro⟨rest,k⟩ ⟨h1,h⟩ IH
    dsimp only at h1 h
    cases rest with
    | nil=>
     have hD:=drop_nil h1
     simp only [Ex.xm]at h
     repeat' (first
 | simp only [go_sem,hD,hF,hJ,hP]
 | (with_reducible first | refine cR fun hc=> ?_ | refine cT fun hc=> ?_ | refine cU (fun hc=> ?_) fun hc=> ?_) <;> (try simp only [hc,bs, ↓reduceIte]at h) <;> try simp only [hc]
 | (with_reducible refine aJ hQ ?_;exact Bs)
 | (cases h;done))
    | cons y rest=>
     obtain⟨hF,g2,hD,g4⟩:=drop_cons h1
     have hy:=hk y (List.mem_of_getElem? hF)
     have hJ:k<4611686018427387904:=by omega
     simp only [Ex.xm]at h
     repeat' (first
 | simp only [go_sem,hD,hF,hJ,hP,w1]
 | (with_reducible refine CU (hy _) ?_)
 | (with_reducible first | refine cR fun hc=> ?_ | refine cT fun hc=> ?_ | refine cU (fun hc=> ?_) fun hc=> ?_) <;> (try simp only [hc,bs, ↓reduceIte]at h) <;> try simp only [hc]
 | (with_reducible refine aJ hQ ?_;(try cases h);simp only [aw,ay,cm,cq,go_sem,hD,hF,hJ,hP,w1];repeat' (first | exact Ok.out | with_reducible refine aI ?_ ?_ | (simp;done))))
     refine dc 1 0 (IH (rest,k+1) ⟨g2,h⟩ (Nat.lt_succ_self _))
end Go.Abs

/-! TMay2 -/

namespace Go.Abs
set_option maxRecDepth 8000
open Go.Proofs
theorem xn {x:Ex} (hx:x.size<4611686018427387904) (ht:x.texts) (s:St):aG Tryz.prog lC [.agg (bj x)] s (.bool (x.dp 20)) s:=by
 refine aG.pure ?_ (by simp [D.bG,D.ok,fZ]) rfl s
 have hd:=fun s=>No _ x (Nat.le_refl _) hx ht 20 (by omega) (by omega) s
 unfold S0
 refine aG.go wk rfl fun B Q hB hQ=> ?_
 have⟨hD,hF,hJ,hP⟩:=bP
 repeat' (first
 | simp only [go_sem,hD,hF,hJ,hP]
 | (with_reducible refine CU (hd _) ?_)
 | (with_reducible refine aJ hQ ?_;simp only [aw,ay,Option.some.injEq,exists_eq_left',go_sem,hD,hF,hJ,hP];repeat' (first | exact Ok.out | with_reducible refine aI ?_ ?_ | (simp;done))))
theorem Np (x:Ex) (s:St):aG Tryz.prog ry [.agg (bj x)] s (.bool x.none) s:=by
 refine aG.pure ?_ (by simp [D.bG,D.ok,fZ]) rfl s
 unfold S0
 generalize h:Ex.none x=p
 unfold Ex.none at h
 refine aG.go Ae rfl fun B Q hB hQ=> ?_
 have⟨hD,hF,hJ,hP⟩:=bP
 repeat' (first
 | simp only [go_sem,hD,hF,hJ,hP]
 | (with_reducible first | refine cR fun hc=> ?_ | refine cT fun hc=> ?_ | refine cU (fun hc=> ?_) fun hc=> ?_) <;> (try simp only [hc,bs, ↓reduceIte]at h) <;> try simp only [hc]
 | (with_reducible refine aJ hQ ?_;(try cases h);simp only [aw,ay,cm,cq,go_sem,hD,hF,hJ,hP];repeat' (first | exact Ok.out | with_reducible refine aI ?_ ?_ | (simp;done))))
def oP (t:aA) (is:Bool):Bool:=(is && isName t) || (!is && t == [])
theorem wm (t:aA) (is:Bool) (hl:t.length<4611686018427387904) (s:St):aG Tryz.prog lk [.str t, .bool is] s (.bool (oP t is)) s:=by
 refine aG.pure ?_ rfl rfl s
 have hn:=uG t hl
 unfold S0
 generalize h:oP t is=p
 unfold oP at h
 refine aG.go yh rfl fun B Q hB hQ=> ?_
 have⟨hD,hF,hJ,hP⟩:=bP
 repeat' (first
 | simp only [go_sem,hD,hF,hJ,hP]
 | (with_reducible refine CU (hn _) ?_)
 | (with_reducible first | refine cR fun hc=> ?_ | refine cT fun hc=> ?_ | refine cU (fun hc=> ?_) fun hc=> ?_) <;> (try simp only [hc,bs, ↓reduceIte]at h) <;> try simp only [hc]
 | (with_reducible refine aJ hQ ?_;(try cases h);simp only [aw,ay,cm,cq,go_sem,hD,hF,hJ,hP];repeat' (first | exact Ok.out | with_reducible refine aI ?_ ?_ | (simp;done))))
def qf (x:Ex) (is:Bool):Bool:=(is && x.dp 20) || (!is && x.none)
theorem Df {x:Ex} (is:Bool) (hx:x.size<4611686018427387904) (ht:x.texts) (s:St):aG Tryz.prog nr [.agg (bj x), .bool is] s (.bool (qf x is)) s:=by
 refine aG.pure ?_ (by simp [D.bG,D.ok,fZ]) rfl s
 have hm:=xn hx ht
 unfold S0
 generalize h:qf x is=p
 unfold qf at h
 refine aG.go yi rfl fun B Q hB hQ=> ?_
 have⟨hD,hF,hJ,hP⟩:=bP
 repeat' (first
 | simp only [go_sem,hD,hF,hJ,hP]
 | (with_reducible refine CU (hm _) ?_)
 | (with_reducible refine CU (Np _ _) ?_)
 | (with_reducible first | refine cR fun hc=> ?_ | refine cT fun hc=> ?_ | refine cU (fun hc=> ?_) fun hc=> ?_) <;> (try simp only [hc,bs, ↓reduceIte]at h) <;> try simp only [hc]
 | (with_reducible refine aJ hQ ?_;(try cases h);simp only [aw,ay,cm,cq,go_sem,hD,hF,hJ,hP];repeat' (first | exact Ok.out | with_reducible refine aI ?_ ?_ | (simp;done))))
def lF:List Ar→Bool
 | []=>true
 | a::l=>if !(oP a.name a.ref) || !(qf a.x !a.ref)then false else lF l
theorem Kb {l:List Ar} (hl:l.length<4611686018427387904) (hs : ∀ a∈l,a.x.size<4611686018427387904∧a.x.texts∧a.name.length<4611686018427387904) (s:St) :
 aG Tryz.prog o8 [.slice .shared 6 (l.map df)] s (.bool (lF l)) s:=by
 refine aG.pure ?_ (by simp [D.bG,D.ok,Fj,Tag.ok]) rfl s
 unfold S0
 generalize h:lF l=p
 refine aG.go xi rfl fun B Q hB hQ=> ?_
 have⟨hD,hF,hJ,hP⟩:=bP
 repeat' (first
 | simp only [go_sem,hD,hF,hJ,hP]
 | (with_reducible first | refine cR fun hc=> ?_ | refine cT fun hc=> ?_ | refine cU (fun hc=> ?_) fun hc=> ?_) <;> (try simp only [hc,bs, ↓reduceIte]at h) <;> try simp only [hc]
 | (with_reducible refine aJ hQ ?_;(try cases h);simp only [aw,ay,cm,cq,go_sem,hD,hF,hJ,hP];repeat' (first | exact Ok.out | with_reducible refine aI ?_ ?_ | (simp;done))))
 refine dc 0 0 (bk.ind (ι:=List Ar×Nat) (fun i=>l.drop i.2=i.1∧lF i.1=p) (fun i=>i.1.length)
  (fun i=> [(5, .slice .shared 6 (l.map df)),(6, .int .i64 (l.length:Int)),(7, .int .i64 (i.2:Int))]) (fun i=>⟨[],[]⟩) ?_ (l,0) ⟨rfl,h⟩)
 rintro⟨rest,k⟩ ⟨h1,h⟩ IH
 dsimp only at h1 h
 cases rest with
 | nil=>
  have hD:=drop_nil h1
  simp only [lF]at h
  repeat' (first
 | simp only [go_sem,hD,hF,hJ,hP]
 | (with_reducible first | refine cR fun hc=> ?_ | refine cT fun hc=> ?_ | refine cU (fun hc=> ?_) fun hc=> ?_) <;> (try simp only [hc,bs, ↓reduceIte]at h) <;> try simp only [hc]
 | (with_reducible refine aJ hQ ?_;(try cases h);simp only [aw,ay,cm,cq,go_sem,hD,hF,hJ,hP];repeat' (first | exact Ok.out | with_reducible refine aI ?_ ?_ | (simp;done))))
 | cons a rest=>
  obtain⟨hF,g2,hD,g4⟩:=drop_cons h1
  have hJ:k<4611686018427387904:=by omega
  obtain⟨a1,a2,a3⟩:=hs a (List.mem_of_getElem? hF)
  have hn:=fun b s=>wm a.name b a3 s
  have hw:=fun b s=>Df b a1 a2 s
  simp only [lF]at h
  repeat' (first
 | simp only [go_sem,hD,hF,hJ,hP]
 | (with_reducible refine CU (hn _ _) ?_)
 | (with_reducible refine CU (hw _ _) ?_)
 | (with_reducible first | refine cR fun hc=> ?_ | refine cT fun hc=> ?_ | refine cU (fun hc=> ?_) fun hc=> ?_) <;> (try simp only [hc,bs, ↓reduceIte]at h) <;> try simp only [hc]
 | (with_reducible refine aJ hQ ?_;(try cases h);simp only [aw,ay,cm,cq,go_sem,hD,hF,hJ,hP];repeat' (first | exact Ok.out | with_reducible refine aI ?_ ?_ | (simp;done))))
  refine dc 0 0 (IH (rest,k+1) ⟨g2,h⟩ (Nat.lt_succ_self _))
def Sm.flags (s:Sm):Option (Bool×Bool×Bool×Bool×Bool×Bool):=
 if s.kind==1 then some (true,false,true,s.has,false,false)
 else if s.kind==2 || s.kind==10 then some (true,false,false,s.has,false,false)
 else if s.kind==3 then some (false,false,true,s.has,false,false)
 else if s.kind==4 then some (!(s.name == []),true,false,s.has,false,false)
 else if s.kind==5 then some (false,false,true,s.has,true,true)
 else if s.kind==6 then some (false,false,true,s.has,true,false)
 else if s.kind==9 then some (false,false,s.has,false,false,false)
 else if s.kind==7 || s.kind==8 then some (false,false,false,s.has,false,false)
 else none
def Sm.Au (s:Sm) (nm pr x:Bool):Bool:=if !(oP s.name nm) || !(oP s.proc pr) || !(qf s.x x)then false else lF s.args
def Sm.Av (s:Sm) (f:Bool×Bool×Bool×Bool×Bool×Bool):Bool:=
 if f.2.2.2.1 || (!f.2.2.2.2.1 && decide ((s.a7.length:Int) > 0)) || (!f.2.2.2.2.2 && decide ((s.aU.length:Int) > 0)) || (!(s.kind==4) && decide ((s.args.length:Int) > 0))then false
 else s.Au f.1 f.2.1 f.2.2.1
def Sm.fields (s:Sm):Bool:=match s.flags with
 | none=>false
 | some f=>s.Av f
section
variable {v:Sm} {B:fp} {Q:Exit→Tm→St→Prop} {p:Bool}
theorem Kd {nm pr x:Bool} (hf:v.pe) (hB:B.s = ⟨[],[]⟩) (hQ:n7 0 0 [(2,none)] (.bool p) ⟨[],[]⟩=Q) (h:v.Au nm pr x=p) :
 Sem Tryz.prog B 93 PR Q [(1, .ptr 0 0),(3, .bool nm),(4, .bool pr),(5, .bool x)] ⟨[bd v],[]⟩:=by
 have h1:=fun b s=>wm v.name b hf.name s
 have h2:=fun b s=>wm v.proc b hf.proc s
 have h3:=fun b s=>Df b hf.x hf.xt s
 have h4:=fun s=>Kb hf.V0 hf.arg s
 unfold Sm.Au at h
 have⟨hD,hF,hJ,hP⟩:=bP
 refine gO ?_
 repeat' (first
 | simp only [go_sem,hD,hF,hJ,hP]
 | (with_reducible refine CU (h1 _ _) ?_)
 | (with_reducible refine CU (h2 _ _) ?_)
 | (with_reducible refine CU (h3 _ _) ?_)
 | (with_reducible refine CU (h4 _) ?_)
 | (with_reducible first | refine cR fun hc=> ?_ | refine cT fun hc=> ?_ | refine cU (fun hc=> ?_) fun hc=> ?_) <;> (try simp only [hc,bs, ↓reduceIte]at h) <;> try simp only [hc]
 | (with_reducible refine aJ hQ ?_;(try cases h);simp only [aw,ay,cm,cq,go_sem,hD,hF,hJ,hP];repeat' (first | exact Ok.out | with_reducible refine aI ?_ ?_ | (simp;done))))
theorem Ke {nm pr x has th ot ar:Bool} (hf:v.pe) (hB:B.s = ⟨[],[]⟩) (hQ:n7 0 0 [(2,none)] (.bool p) ⟨[],[]⟩=Q) (e:(v.kind==4)=ar) (h:v.Av (nm,pr,x,has,th,ot)=p) :
 Sem Tryz.prog B 93 PS Q [(1, .ptr 0 0),(3, .bool nm),(4, .bool pr),(5, .bool x),(6, .bool has),(7, .bool th),(8, .bool ot),(9, .bool ar)] ⟨[bd v],[]⟩:=by
 simp only [Sm.Av,e]at h
 have⟨hD,hF,hJ,hP⟩:=bP
 refine Sem.o5 ?_
 repeat' (first
 | simp only [go_sem,hD,hF,hJ,hP]
 | (with_reducible first | refine cR fun hc=> ?_ | refine cT fun hc=> ?_ | refine cU (fun hc=> ?_) fun hc=> ?_) <;> (try simp only [hc,bs, ↓reduceIte]at h) <;> try simp only [hc]
 | (with_reducible refine aJ hQ ?_;(try cases h);simp only [aw,ay,cm,cq,go_sem,hD,hF,hJ,hP];repeat' (first | exact Ok.out | with_reducible refine aI ?_ ?_ | (simp;done))))
 all_goals
  refine Sem.re _ _ 1 0 (by rw [hB];exact vF rfl) (by rw [hB];exact vF rfl) ?_ ?_ (Kd hf hB hQ h)
  ·(simp only [go_sem,hD,hF,hJ,hP];repeat' (first | exact Ok.out | with_reducible refine aI ?_ ?_))
  ·(simp only [go_sem,hD,hF,hJ,hP];repeat' (first | exact Ok.out | with_reducible refine aI ?_ ?_))
theorem Kf {ar:Bool} (hf:v.pe) (hB:B.s = ⟨[],[]⟩) (hQ:n7 0 0 [(2,none)] (.bool p) ⟨[],[]⟩=Q) (e:(v.kind==4)=ar) (h:v.fields=p) :
 Sem Tryz.prog B 93 J3 Q [(1, .ptr 0 0),(3, .bool false),(4, .bool false),(5, .bool false),(6, .bool v.has),(7, .bool false),(8, .bool false),(9, .bool ar)] ⟨[bd v],[]⟩:=by
 simp only [Sm.fields,Sm.flags]at h
 have⟨hD,hF,hJ,hP⟩:=bP
 refine Sem.o5 ?_
 repeat' (first
 | simp only [go_sem,hD,hF,hJ,hP]
 | (with_reducible first | refine cR fun hc=> ?_ | refine cT fun hc=> ?_ | refine cU (fun hc=> ?_) fun hc=> ?_) <;> (try simp only [hc,bs, ↓reduceIte]at h) <;> try simp only [hc]
 | (with_reducible refine aJ hQ ?_;(try cases h);simp only [aw,ay,cm,cq,go_sem,hD,hF,hJ,hP];repeat' (first | exact Ok.out | with_reducible refine aI ?_ ?_ | (simp;done))))
 all_goals
  refine Sem.re _ _ 1 0 (by rw [hB];exact vF rfl) (by rw [hB];exact vF rfl) ?_ ?_ (Ke hf hB hQ e h)
  ·(simp only [go_sem,hD,hF,hJ,hP];repeat' (first | exact Ok.out | with_reducible refine aI ?_ ?_))
  ·(simp only [go_sem,hD,hF,hJ,hP];repeat' (first | exact Ok.out | with_reducible refine aI ?_ ?_))
end
theorem Kg {v:Sm} (hf:v.pe) (s:St):aG Tryz.prog o7 [.agg (bd v)] s (.bool v.fields) s:=by
 refine aG.pure ?_ (by simp [D.bG,D.ok,pX]) rfl s
 unfold S0
 refine aG.goS xh rfl fun B Q hB hQ=> ?_
 have⟨hD,hF,hJ,hP⟩:=bP
 refine Sem.seq (b:=PU) (gO ?_)
 repeat' (first
 | simp only [go_sem,hD,hF,hJ,hP]
 | (with_reducible refine aJ hQ ?_;simp only [aw,ay,Option.some.injEq,exists_eq_left',go_sem,hD,hF,hJ,hP];repeat' (first | exact Ok.out | with_reducible refine aI ?_ ?_ | (simp;done))))
 refine Sem.seq (b:=PT) (gO ?_)
 repeat' (first
 | simp only [go_sem,hD,hF,hJ,hP]
 | (with_reducible refine aJ hQ ?_;simp only [aw,ay,Option.some.injEq,exists_eq_left',go_sem,hD,hF,hJ,hP];repeat' (first | exact Ok.out | with_reducible refine aI ?_ ?_ | (simp;done))))
 refine Sem.seq (b:=J3) (gO ?_)
 repeat' (first
 | simp only [go_sem,hD,hF,hJ,hP]
 | (with_reducible refine aJ hQ ?_;simp only [aw,ay,Option.some.injEq,exists_eq_left',go_sem,hD,hF,hJ,hP];repeat' (first | exact Ok.out | with_reducible refine aI ?_ ?_ | (simp;done))))
 refine Sem.re _ _ 1 0 (by rw [hB];exact vF rfl) (by rw [hB];exact vF rfl) ?_ ?_ (Kf hf hB hQ rfl rfl)
 ·(simp only [go_sem,hD,hF,hJ,hP];repeat' (first | exact Ok.out | with_reducible refine aI ?_ ?_))
 ·(simp only [go_sem,hD,hF,hJ,hP];repeat' (first | exact Ok.out | with_reducible refine aI ?_ ?_))
end Go.Abs

/-! RefMay3 -/

namespace Go.Abs
set_option maxRecDepth 8000
open Go.Proofs
def fy (i:It):List D:= [.int .i64 i.s.id, .int .i64 i.s.kind, .slice .shared 1 (i.s.labels.map encStr), .str i.s.name, .str i.s.proc,
 .int .i64 i.s.x.op, .int .i64 i.s.x.n, .str i.s.x.name, .slice .shared 4 (i.s.x.kids.map bj), .bool i.s.has, .slice .shared 6 (i.s.args.map df), .slice .shared 13 (i.s.a7.map bd), .slice .shared 13 (i.s.aU.map bd), .int .i64 i.deep, .int .i64 i.bJ, .bool i.aU]
theorem Kh (i:It):D.bG 0 0 (fy i)=true:=by simp [fy,D.bG,D.ok,Tag.ok,dJ,LS,Fj,nh]
theorem Aw (l:List It):D.hY 0 0 (l.map fy)=true:=fq Kh l
theorem Sg (n m:Nat) (l:List It):D.hO n m (l.map fy)=l.map fy:=jU Kh n m l
theorem Si (n m:Nat) (i:It):D.fD n m (fy i)=fy i:=fU n m _ (Kh i)
theorem Sj (x:It):(fy x).length=16:=nd rfl
theorem HA (x:It):List.take 13 (fy x)=bd x.s:=by simp only [fy,cZ];rfl
theorem Ki (x:It):(fy x)[0]? = some (.int .i64 x.s.id):=nd rfl
theorem HC (x:It):(fy x)[13]? = some (.int .i64 x.deep):=nd rfl
theorem yq (s:Sm) (d n:Int) (e:Bool):fy ⟨s,d,n,e⟩ = [.int .i64 s.id, .int .i64 s.kind, .slice .shared 1 (s.labels.map encStr), .str s.name, .str s.proc,
 .int .i64 s.x.op, .int .i64 s.x.n, .str s.x.name, .slice .shared 4 (s.x.kids.map bj), .bool s.has, .slice .shared 6 (s.args.map df), .slice .shared 13 (s.a7.map bd), .slice .shared 13 (s.aU.map bd), .int .i64 d, .int .i64 n, .bool e]:=nd rfl
attribute [go_sem] Sg Si Sj HA Ki HC
theorem BL (deep bJ:Int) (aU:Bool) (out:List It) (s:Sm) :
 fL deep bJ aU out s=if decide (deep≤12)then cL (deep+1) s.id true (cL (deep+1) s.id false (out++ [⟨s,deep,bJ,aU⟩]) s.a7) s.aU else out++ [⟨s,deep,bJ,aU⟩]:=by
 cases s;simp only [fL]
mutual
theorem HD (deep bJ:Int) (aU:Bool) (out:List It) (h:out.length≤200) : ∀ s:Sm,(fL deep bJ aU out s).length≤201
 | ⟨id,kind,labels,name,proc,x,has,args,a7,e⟩=>by
  simp only [fL]
  have h1:(out++ [(⟨⟨id,kind,labels,name,proc,x,has,args,a7,e⟩,deep,bJ,aU⟩:It)]).length≤201:=by simp;omega
  split
  ·exact iy _ _ _ _ (iy _ _ _ _ h1 a7) e
  ·exact h1
theorem iy (deep bJ:Int) (aU:Bool) (out:List It) (h:out.length≤201) : ∀ l:List Sm,(cL deep bJ aU out l).length≤201
 | []=>by simpa only [cL]using h
 | s::l=>by
  simp only [cL]
  split
  ·rename_i hc
   simp only [decide_eq_true_eq]at hc
   exact iy deep bJ aU _ (HD _ _ _ _ (by omega) s) l
  ·exact h
end
abbrev HE (N:Nat):Prop:=∀ (l:List Sm) (deep bJ:Int) (aU:Bool) (out:List It),Sm.aN l<N→0≤deep→deep≤13→out.length≤201→∀ {s:St} {t:Nat},s.av[t]? = some (some out.length)→
 aG Tryz.prog jx [.slice .shared 13 (l.map bd), .int .i64 deep, .int .i64 bJ, .bool aU, .slice (.tok t) 16 (out.map fy)] s (.slice (.tok t) 16 ((cL deep bJ aU out l).map fy)) ⟨s.au,s.av.set t (some (cL deep bJ aU out l).length)⟩
theorem P7 {N:Nat} (hN:N<4611686018427387904) (ih:HE N) {l:List Sm} {deep bJ:Int} {aU:Bool} {out:List It} (hs:Sm.aN l<N+1) (zg:0≤deep) (hd:deep≤13) (ho:out.length≤201) :
 aG Tryz.prog jx [.slice .shared 13 (l.map bd), .int .i64 deep, .int .i64 bJ, .bool aU, .slice (.tok 0) 16 (out.map fy)] ⟨[],[some out.length]⟩ (.slice (.tok 0) 16 ((cL deep bJ aU out l).map fy)) ⟨[],[some (cL deep bJ aU out l).length]⟩:=by
 generalize hR:cL deep bJ aU out l=R
 refine aG.go tg rfl fun B Q hB hQ=> ?_
 have⟨hD,hF,hJ,hP⟩:=bP
 repeat' (first
 | simp only [go_sem,hD,hF,hJ,hP]
 | (with_reducible refine aJ hQ ?_;simp only [aw,ay,Option.some.injEq,exists_eq_left',go_sem,hD,hF,hJ,hP];repeat' (first | exact Ok.out | with_reducible refine aI ?_ ?_ | (simp;done))))
 refine dc 0 1 (bk.ind (ι:=List Sm×Nat×List It×Nat) (fun i=>l.drop i.2.1=i.1∧cL deep bJ aU i.2.2.1 i.1=R∧i.2.2.1.length≤201∧i.2.2.2=i.2.2.1.length) (fun i=>i.1.length)
  (fun i=> [(0, .slice .shared 13 (l.map bd)),(1, .int .i64 deep),(2, .int .i64 bJ),(3, .bool aU),(4, .slice (.tok 0) 16 (i.2.2.1.map fy)),(11, .int .i64 (i.2.1:Int))]) (fun i=>⟨[],[some i.2.2.2]⟩) ?_ (l,0,out,out.length) ⟨rfl,hR,ho,rfl⟩)
 rintro⟨rest,k,out,n⟩ ⟨h1,h2,h3,h4⟩ IH
 dsimp only at h1 h2 h3 h4
 subst h4
 have hlen:l.length<4611686018427387904:=by have:=Sm.cu l;omega
 cases rest with
 | nil=>
  have hD:=drop_nil h1
  simp only [cL]at h2
  subst h2
  repeat' (first
 | simp only [go_sem,hD,hF,hJ,hP]
 | (with_reducible refine aJ hQ ?_;simp only [aw,ay,Option.some.injEq,exists_eq_left',go_sem,hD,hF,hJ,hP];repeat' (first | exact Ok.out | with_reducible refine aI ?_ ?_ | (simp;done))))
 | cons v rest=>
  obtain⟨hF,g2,hD,g4⟩:=drop_cons h1
  have bq:k<4611686018427387904:=by omega
  have hv:=Sm.bA (List.mem_of_getElem? hF)
  have lb:Sm.aN v.a7<N∧Sm.aN v.aU<N:=by
   obtain⟨_,_,_,_,_,_,_,_,_,_⟩:=v
   simp only [Sm.size]at hv ⊢;omega
  simp only [cL]at h2
  by_cases hc:out.length≤200
  ·have c1:decide ((out.length:Int)≤200)=true:=by simp;omega
   simp only [c1, ↓reduceIte,BL]at h2
   have hJ:(out.length+1)*233≤bb:=by unfold bb;omega
   have jQ:(out++ [(⟨v,deep,bJ,aU⟩:It)]).length≤201:=by simp;omega
   have hw:IntKind.wrap .i64 (deep+1)=deep+1:=c7 (by omega) (by omega)
   by_cases V3:deep≤12
   ·have c2:decide (deep≤12)=true:=by simp;omega
    simp only [c2, ↓reduceIte]at h2
    have f1:=fun {s:St} {t:Nat} (ht:s.av[t]? = some (some (out++ [(⟨v,deep,bJ,aU⟩:It)]).length))=>ih v.a7 (deep+1) v.id false _ lb.1 (by omega) (by omega) jQ ht
    have f2:=fun {s:St} {t:Nat} (ht:s.av[t]? = some (some (cL (deep+1) v.id false (out++ [(⟨v,deep,bJ,aU⟩:It)]) v.a7).length))=>ih v.aU (deep+1) v.id true _ lb.2 (by omega) (by omega) (iy _ _ _ _ jQ _) ht
    simp only [List.map_append,List.map_cons,List.map_nil,yq,List.length_append,List.length_cons,List.length_nil]at f1
    repeat' (first
 | simp only [go_sem,hD,hF,hJ,hP,c1,c2,hw,cZ]
 | (with_reducible refine CU (f1 (by with_unfolding_all rfl)) ?_)
 | (with_reducible refine CU (f2 (by with_unfolding_all rfl)) ?_)
 | (with_reducible refine aJ hQ ?_;simp only [aw,ay,Option.some.injEq,exists_eq_left',go_sem,hD,hF,hJ,hP];repeat' (first | exact Ok.out | with_reducible refine aI ?_ ?_ | (simp;done))))
    refine da 0 1 ?_ ?_ (IH (rest,k+1,_,_) ⟨g2,h2,iy _ _ _ _ (iy _ _ _ _ jQ _) _,rfl⟩ (Nat.lt_succ_self _))
    ·(simp only [go_sem,hD,hF,hJ,hP,aD bq];try exact bo)
    ·(simp only [go_sem,hD,hF,hJ,hP,aD bq];try exact bo)
   ·have c2:decide (deep≤12)=false:=by simp;omega
    simp only [c2,Bool.false_eq_true, ↓reduceIte]at h2
    repeat' (first
 | simp only [go_sem,hD,hF,hJ,hP,c1,c2,cZ]
 | (with_reducible refine aJ hQ ?_;simp only [aw,ay,Option.some.injEq,exists_eq_left',go_sem,hD,hF,hJ,hP];repeat' (first | exact Ok.out | with_reducible refine aI ?_ ?_ | (simp;done))))
    refine da 0 1 ?_ ?_ (IH (rest,k+1,out++ [⟨v,deep,bJ,aU⟩],out.length+1) ⟨g2,h2,jQ,by simp⟩ (Nat.lt_succ_self _))
    ·(simp only [go_sem,hD,hF,hJ,hP,aD bq,yq,List.map_append,List.map_cons,List.map_nil];try exact bo)
    ·(simp only [go_sem,hD,hF,hJ,hP,aD bq,yq,List.map_append,List.map_cons,List.map_nil];try exact bo)
  ·have c1:decide ((out.length:Int)≤200)=false:=by simp;omega
   simp only [c1,Bool.false_eq_true, ↓reduceIte]at h2
   subst h2
   repeat' (first
 | simp only [go_sem,hD,hF,hJ,hP,c1]
 | (with_reducible refine aJ hQ ?_;simp only [aw,ay,Option.some.injEq,exists_eq_left',go_sem,hD,hF,hJ,hP];repeat' (first | exact Ok.out | with_reducible refine aI ?_ ?_ | (simp;done))))
theorem Kj : ∀ N,N<4611686018427387904→HE N:=by
 intro N
 induction N with
 | zero=>exact fun _ l deep bJ aU out h=>absurd h (Nat.not_lt_zero _)
 | succ N ih=>
  intro h l deep bJ aU out hs zg hd ho s t ht
  exact(P7 (by omega) (ih (by omega)) hs zg hd ho).Ea (pre:= [_,_,_,_]) (post:= []) (by simp [D.bG,D.ok,Tag.ok,nh]) rfl (Aw out) (Aw _) ht
theorem Kk {l:List Sm} (hs:Sm.aN l<4611686018427387000) (s:St) :
 aG Tryz.prog jx [.slice .shared 13 (l.map bd), .int .i64 1, .int .i64 0, .bool false, .slice .full 0 []] s (.slice .shared 16 ((cL 1 0 false [] l).map fy)) s:=by
 refine aG.pure ?_ (by simp [D.bG,D.ok,Tag.ok,nh,D.hY]) (by simp [D.ok,Tag.ok,Aw]) s
 obtain⟨N,hN⟩ : ∃ N,N=Sm.aN l:=⟨_,rfl⟩
 have ih:=Kj N (by omega)
 replace hs:Sm.aN l<N+1∧N<4611686018427387000:=by omega
 obtain⟨hs,hN⟩:=hs
 generalize hR:cL 1 0 false [] l=R
 obtain⟨deep,Fy⟩ : ∃ d:Int,d=1:=⟨_,rfl⟩
 obtain⟨bJ,Kl⟩ : ∃ d:Int,d=0:=⟨_,rfl⟩
 obtain⟨aU,Km⟩ : ∃ d:Bool,d=false:=⟨_,rfl⟩
 rw [← Fy, ← Kl, ← Km]at hR
 rw [← Fy, ← Kl, ← Km]
 have zg:0≤deep:=by omega
 have hd:deep≤13:=by omega
 clear Fy Kl Km
 have ho:([] : List It).length≤201:=Nat.zero_le _
 unfold S0
 refine aG.go tg rfl fun B Q hB hQ=> ?_
 have⟨hD,hF,hJ,hP⟩:=bP
 repeat' (first
 | simp only [go_sem,hD,hF,hJ,hP]
 | (with_reducible refine aJ hQ ?_;simp only [aw,ay,Option.some.injEq,exists_eq_left',go_sem,hD,hF,hJ,hP];repeat' (first | exact Ok.out | with_reducible refine aI ?_ ?_ | (simp;done))))
 refine bk.ng 4 16 rfl ?_
 simp only [go_sem,hD,hF,hJ,hP]
 refine dc 0 1 (bk.ind (ι:=List Sm×Nat×List It×Nat) (fun i=>l.drop i.2.1=i.1∧cL deep bJ aU i.2.2.1 i.1=R∧i.2.2.1.length≤201∧i.2.2.2=i.2.2.1.length) (fun i=>i.1.length)
  (fun i=> [(0, .slice .shared 13 (l.map bd)),(1, .int .i64 deep),(2, .int .i64 bJ),(3, .bool aU),(4, .slice (.tok 0) 16 (i.2.2.1.map fy)),(11, .int .i64 (i.2.1:Int))]) (fun i=>⟨[],[some i.2.2.2]⟩) ?_ (l,0,[],0) ⟨rfl,hR,ho,rfl⟩)
 rintro⟨rest,k,out,n⟩ ⟨h1,h2,h3,h4⟩ IH
 dsimp only at h1 h2 h3 h4
 subst h4
 have hlen:l.length<4611686018427387904:=by have:=Sm.cu l;omega
 cases rest with
 | nil=>
  have hD:=drop_nil h1
  simp only [cL]at h2
  subst h2
  repeat' (first
 | simp only [go_sem,hD,hF,hJ,hP]
 | (with_reducible refine aJ hQ ?_;simp only [aw,ay,Option.some.injEq,exists_eq_left',go_sem,hD,hF,hJ,hP];repeat' (first | exact Ok.out | with_reducible refine aI ?_ ?_ | (simp;done))))
 | cons v rest=>
  obtain⟨hF,g2,hD,g4⟩:=drop_cons h1
  have bq:k<4611686018427387904:=by omega
  have hv:=Sm.bA (List.mem_of_getElem? hF)
  have lb:Sm.aN v.a7<N∧Sm.aN v.aU<N:=by
   obtain⟨_,_,_,_,_,_,_,_,_,_⟩:=v
   simp only [Sm.size]at hv ⊢;omega
  simp only [cL]at h2
  by_cases hc:out.length≤200
  ·have c1:decide ((out.length:Int)≤200)=true:=by simp;omega
   simp only [c1, ↓reduceIte,BL]at h2
   have hJ:(out.length+1)*233≤bb:=by unfold bb;omega
   have jQ:(out++ [(⟨v,deep,bJ,aU⟩:It)]).length≤201:=by simp;omega
   have hw:IntKind.wrap .i64 (deep+1)=deep+1:=c7 (by omega) (by omega)
   by_cases V3:deep≤12
   ·have c2:decide (deep≤12)=true:=by simp;omega
    simp only [c2, ↓reduceIte]at h2
    have f1:=fun {s:St} {t:Nat} (ht:s.av[t]? = some (some (out++ [(⟨v,deep,bJ,aU⟩:It)]).length))=>ih v.a7 (deep+1) v.id false _ lb.1 (by omega) (by omega) jQ ht
    have f2:=fun {s:St} {t:Nat} (ht:s.av[t]? = some (some (cL (deep+1) v.id false (out++ [(⟨v,deep,bJ,aU⟩:It)]) v.a7).length))=>ih v.aU (deep+1) v.id true _ lb.2 (by omega) (by omega) (iy _ _ _ _ jQ _) ht
    simp only [List.map_append,List.map_cons,List.map_nil,yq,List.length_append,List.length_cons,List.length_nil]at f1
    repeat' (first
 | simp only [go_sem,hD,hF,hJ,hP,c1,c2,hw,cZ]
 | (with_reducible refine CU (f1 (by with_unfolding_all rfl)) ?_)
 | (with_reducible refine CU (f2 (by with_unfolding_all rfl)) ?_)
 | (with_reducible refine aJ hQ ?_;simp only [aw,ay,Option.some.injEq,exists_eq_left',go_sem,hD,hF,hJ,hP];repeat' (first | exact Ok.out | with_reducible refine aI ?_ ?_ | (simp;done))))
    refine da 0 1 ?_ ?_ (IH (rest,k+1,_,_) ⟨g2,h2,iy _ _ _ _ (iy _ _ _ _ jQ _) _,rfl⟩ (Nat.lt_succ_self _))
    ·(simp only [go_sem,hD,hF,hJ,hP,aD bq];try exact bo)
    ·(simp only [go_sem,hD,hF,hJ,hP,aD bq];try exact bo)
   ·have c2:decide (deep≤12)=false:=by simp;omega
    simp only [c2,Bool.false_eq_true, ↓reduceIte]at h2
    repeat' (first
 | simp only [go_sem,hD,hF,hJ,hP,c1,c2,cZ]
 | (with_reducible refine aJ hQ ?_;simp only [aw,ay,Option.some.injEq,exists_eq_left',go_sem,hD,hF,hJ,hP];repeat' (first | exact Ok.out | with_reducible refine aI ?_ ?_ | (simp;done))))
    refine da 0 1 ?_ ?_ (IH (rest,k+1,out++ [⟨v,deep,bJ,aU⟩],out.length+1) ⟨g2,h2,jQ,by simp⟩ (Nat.lt_succ_self _))
    ·(simp only [go_sem,hD,hF,hJ,hP,aD bq,yq,List.map_append,List.map_cons,List.map_nil];try exact bo)
    ·(simp only [go_sem,hD,hF,hJ,hP,aD bq,yq,List.map_append,List.map_cons,List.map_nil];try exact bo)
  ·have c1:decide ((out.length:Int)≤200)=false:=by simp;omega
   simp only [c1,Bool.false_eq_true, ↓reduceIte]at h2
   subst h2
   repeat' (first
 | simp only [go_sem,hD,hF,hJ,hP,c1]
 | (with_reducible refine aJ hQ ?_;simp only [aw,ay,Option.some.injEq,exists_eq_left',go_sem,hD,hF,hJ,hP];repeat' (first | exact Ok.out | with_reducible refine aI ?_ ?_ | (simp;done))))
theorem P8 {f:Pc} (hs:Sm.aN f.body<4611686018427387000) (s:St):aG Tryz.prog rk [.agg (bR f)] s (.slice .shared 16 (f.flat.map fy)) s:=by
 refine aG.pure ?_ (by simp only [D.bG,D.ok,sG];rfl) (by simp [D.ok,Tag.ok,Aw]) s
 have h:=fun s=>Kk hs s
 unfold S0
 refine aG.go zX rfl fun B Q hB hQ=> ?_
 have⟨hD,hF,hJ,hP⟩:=bP
 repeat' (first
 | simp only [go_sem,hD,hF,hJ,hP,Pc.flat]
 | (with_reducible refine CU (h _) ?_)
 | (with_reducible first | refine cR fun hc=> ?_ | refine cT fun hc=> ?_ | refine cU (fun hc=> ?_) fun hc=> ?_) <;> (try simp only [hc,bs, ↓reduceIte]at h) <;> try simp only [hc]
 | (with_reducible refine aJ hQ ?_;simp only [aw,ay,cm,cq,go_sem,hD,hF,hJ,hP,Pc.flat];repeat' (first | exact Ok.out | with_reducible refine aI ?_ ?_ | (simp;done))))
end Go.Abs

/-! RefMay4 -/

namespace Go.Abs
set_option maxRecDepth 8000
open Go.Proofs
theorem Pc.Kn (f:Pc):f.flat.length≤201:=iy _ _ _ _ (Nat.zero_le _) _
structure Pg.pe (p:Pg):Prop where
 sz:p.size<4611686018427387000
 BM : ∀ t∈p.globals,t.length<4611686018427387904
 mn : ∀ f∈p.procs,f.name.length<4611686018427387904∧(∀ t∈f.vars,t.length<4611686018427387904)∧(∀ t∈f.fin,t.length<4611686018427387904)∧∀ a∈f.params,a.name.length<4611686018427387904
 items : ∀ i∈p.all,i.s.pe
end Go.Abs

/-! TMay3 -/

namespace Go.Abs
set_option maxRecDepth 8000
open Go.Proofs
def gate (nest:Int) (len n:Nat) (r:Bool×Nat):Bool×Nat:=if decide (nest > 12) && decide ((len:Int) > 0)then(false,n)else r
mutual
def Sm.lS (nest:Int) (n:Nat):Sm→Bool×Nat
 | ⟨id,kind,labels,name,proc,x,has,args,a7,aU⟩=>
  if decide (((n+1:Nat):Int) > 200) || id != ((n+1:Nat):Int) || !(dr labels) || !(Sm.fields ⟨id,kind,labels,name,proc,x,has,args,a7,aU⟩)then(false,n+1)
  else if !(gate (nest+1) a7.length (n+1) (Sm.dF (nest+1) (n+1) a7)).1 then(false,(gate (nest+1) a7.length (n+1) (Sm.dF (nest+1) (n+1) a7)).2)
  else gate (nest+1) aU.length (gate (nest+1) a7.length (n+1) (Sm.dF (nest+1) (n+1) a7)).2 (Sm.dF (nest+1) (gate (nest+1) a7.length (n+1) (Sm.dF (nest+1) (n+1) a7)).2 aU)
def Sm.dF (nest:Int) (n:Nat):List Sm→Bool×Nat
 | []=>(true,n)
 | s::l=>if !(Sm.lS nest n s).1 then(false,(Sm.lS nest n s).2)else Sm.dF nest (Sm.lS nest n s).2 l
end
def Sm.eO (nest:Int) (n:Nat) (l:List Sm):Bool×Nat:=gate nest l.length n (Sm.dF nest n l)
theorem yr (nest:Int) (n:Nat) (s:Sm):Sm.lS nest n s =
 if decide (((n+1:Nat):Int) > 200) || s.id != ((n+1:Nat):Int) || !(dr s.labels) || !(s.fields)then(false,n+1)
 else if !(Sm.eO (nest+1) (n+1) s.a7).1 then(false,(Sm.eO (nest+1) (n+1) s.a7).2)
 else Sm.eO (nest+1) (Sm.eO (nest+1) (n+1) s.a7).2 s.aU:=by
 cases s;simp only [Sm.lS,Sm.eO];rfl
mutual
def Sm.qQ:Sm→Prop
 | ⟨id,kind,labels,name,proc,x,has,args,a7,aU⟩=>Sm.pe ⟨id,kind,labels,name,proc,x,has,args,a7,aU⟩∧Sm.gR a7∧Sm.gR aU
def Sm.gR:List Sm→Prop
 | []=>True
 | s::l=>s.qQ∧Sm.gR l
end
theorem wo (s:Sm):s.qQ↔s.pe∧Sm.gR s.a7∧Sm.gR s.aU:=by cases s;simp only [Sm.qQ]
theorem xo {s:Sm} : ∀ {l:List Sm},Sm.gR l→s∈l→s.qQ
 | y::l,h,m=>by
  simp only [Sm.gR]at h
  rcases List.mem_cons.1 m with rfl | m
  ·exact h.1
  ·exact xo h.2 m
mutual
theorem Nq (nest:Int) (n:Nat) : ∀ s:Sm,n≤201→(Sm.lS nest n s).2≤202∧((Sm.lS nest n s).1=true→(Sm.lS nest n s).2≤200)
 | ⟨id,kind,labels,name,proc,x,has,args,a7,aU⟩,hn=>by
  simp only [Sm.lS]
  split
  ·exact⟨by dsimp only;omega,fun h=>by cases h⟩
  rename_i hc
  simp only [Bool.or_eq_true,decide_eq_true_eq,not_or]at hc
  have tq:n+1≤200:=by omega
  have g1 : ∀ (nest:Int) (l:List Sm) (m:Nat),m≤200→(Sm.dF nest m l).2≤202∧((Sm.dF nest m l).1=true→(Sm.dF nest m l).2≤200)→
   (gate nest l.length m (Sm.dF nest m l)).2≤202∧((gate nest l.length m (Sm.dF nest m l)).1=true→(gate nest l.length m (Sm.dF nest m l)).2≤200):=by
   intro nest l m hm h
   unfold gate
   split
   ·exact⟨by dsimp only;omega,fun h=>by cases h⟩
   ·exact h
  have h1:=g1 (nest+1) a7 (n+1) tq (ve (nest+1) (n+1) a7 tq)
  split
  ·exact⟨h1.1,fun h=>by cases h⟩
  rename_i NY
  have h2:=h1.2 (by simpa using NY)
  exact g1 (nest+1) aU _ h2 (ve (nest+1) _ aU h2)
theorem ve (nest:Int) (n:Nat) : ∀ l:List Sm,n≤200→(Sm.dF nest n l).2≤202∧((Sm.dF nest n l).1=true→(Sm.dF nest n l).2≤200)
 | [],hn=>by simp only [Sm.dF];exact⟨by omega,fun _=>hn⟩
 | s::l,hn=>by
  simp only [Sm.dF]
  have h1:=Nq nest n s (by omega)
  split
  ·exact⟨h1.1,fun h=>by cases h⟩
  rename_i hc
  exact ve nest _ l (h1.2 (by simpa using hc))
end
theorem yu {nest:Int} {n:Nat} {l:List Sm} (hn:n≤200):(Sm.eO nest n l).2≤202∧((Sm.eO nest n l).1=true→(Sm.eO nest n l).2≤200):=by
 unfold Sm.eO gate
 split
 ·exact⟨by dsimp only;omega,fun h=>by cases h⟩
 ·exact ve nest n l hn
theorem Nr : ∀ (m:Nat) (l:List Sm),Sm.aN l≤m→Sm.aN l<4611686018427387000→Sm.gR l→∀ (nest:Int) (n:Nat),0≤nest→nest≤13→n≤200→
 aG Tryz.prog gP [.ptr 0 0, .slice .shared 13 (l.map bd), .int .i64 nest] ⟨[[.int .i64 n]],[]⟩ (.bool (Sm.eO nest n l).1) ⟨[[.int .i64 (Sm.eO nest n l).2]],[]⟩:=by
 intro m
 induction m with
 | zero=>
  intro l h hs hf nest n h0 h13 hn
  cases l with
  | nil=>
   have d1:decide ((0:Int) > 0)=false:=rfl
   have e:Sm.eO nest n [] = (true,n):=by simp [Sm.eO,gate,Sm.dF]
   have z:decide ((0:Int)<0)=false:=rfl
   rw [e]
   refine aG.go nB rfl fun B Q hB hQ=> ?_
   have⟨hD,hF,hJ,hP⟩:=bP
   repeat' (first
 | simp only [go_sem,hD,hF,hJ,hP,d1,z]
 | (with_reducible refine bk.sF ?_)
 | (with_reducible first | refine cR fun hc=> ?_ | refine cT fun hc=> ?_ | refine cU (fun hc=> ?_) fun hc=> ?_) <;> (try simp only [hc,bs, ↓reduceIte]at h) <;> try simp only [hc]
 | (with_reducible refine aJ hQ ?_;simp only [aw,ay,cm,cq,go_sem,hD,hF,hJ,hP];repeat' (first | exact Ok.out | with_reducible refine aI ?_ ?_ | (simp;done))))
  | cons s l=>simp only [Sm.aN]at h;omega
 | succ m ih=>
  intro l h hs hf nest n h0 h13 hn
  generalize hR:Sm.eO nest n l=R
  have hlen:=Sm.cu l
  unfold Sm.eO gate at hR
  have h:=hR
  refine aG.go nB rfl fun B Q hB hQ=> ?_
  have⟨hD,hF,hJ,hP⟩:=bP
  repeat' (first
 | simp only [go_sem,hD,hF,hJ,hP]
 | (with_reducible first | refine cR fun hc=> ?_ | refine cT fun hc=> ?_ | refine cU (fun hc=> ?_) fun hc=> ?_) <;> (try simp only [hc,bs, ↓reduceIte]at h) <;> try simp only [hc]
 | (with_reducible refine aJ hQ ?_;(try cases h);simp only [aw,ay,cm,cq,go_sem,hD,hF,hJ,hP];repeat' (first | exact Ok.out | with_reducible refine aI ?_ ?_ | (simp;done))))
  all_goals
   have Sk:l≠ []→nest≤12:=by
    intro dX
    have:l.length≠0:=by simpa using dX
    simp_all <;> omega
   refine dc 1 0 (bk.ind (ι:=List Sm×Nat×Nat) (fun i=>l.drop i.2.1=i.1∧Sm.dF nest i.2.2 i.1=R∧i.2.2≤200) (fun i=>i.1.length)
    (fun i=> [(0, .ptr 0 0),(2, .int .i64 nest),(16, .slice .shared 13 (l.map bd)),(17, .int .i64 (l.length:Int)),(18, .int .i64 (i.2.1:Int))]) (fun i=>⟨[[.int .i64 (i.2.2:Int)]],[]⟩) ?_ (l,0,n) ⟨rfl,h,hn⟩)
   rintro⟨rest,k,j⟩ ⟨h1,h,hj⟩ IH
   dsimp only at h1 h hj
   cases rest with
   | nil=>
    have hD:=drop_nil h1
    simp only [Sm.dF]at h
    repeat' (first
 | simp only [go_sem,hD,hF,hJ,hP]
 | (with_reducible first | refine cR fun hc=> ?_ | refine cT fun hc=> ?_ | refine cU (fun hc=> ?_) fun hc=> ?_) <;> (try simp only [hc,bs, ↓reduceIte]at h) <;> try simp only [hc]
 | (with_reducible refine aJ hQ ?_;(try cases h);simp only [aw,ay,cm,cq,go_sem,hD,hF,hJ,hP];repeat' (first | exact Ok.out | with_reducible refine aI ?_ ?_ | (simp;done))))
   | cons s rest=>
    obtain⟨hF,g2,hD,g4⟩:=drop_cons h1
    have hJ:k<4611686018427387904:=by omega
    have kM:=List.mem_of_getElem? hF
    have dI:=Sm.bA kM
    have adN:=Sk (by rintro rfl;simp at kM)
    obtain⟨wS,hft,hfe⟩:=(wo s).1 (xo hf kM)
    have V4:Sm.aN s.a7<s.size∧Sm.aN s.aU<s.size:=by cases s;simp only [Sm.size];omega
    have w1:IntKind.wrap .i64 ((j:Int)+1)=((j+1:Nat):Int):=by rw [c7] <;> omega
    have w2:IntKind.wrap .i64 (nest+1)=nest+1:=c7 (by omega) (by omega)
    have c1:=fun s=>sL wS.VZ wS.lab s
    have c2:=fun s=>Kg wS s
    simp only [Sm.dF,yr]at h
    by_cases HF:j+1≤200
    ·have r1:=yu (nest:=nest+1) (l:=s.a7) HF
     have c3:=fun s' ho=>(ih s.a7 (by omega) (by omega) hft (nest+1) (j+1) (by omega) (by omega) HF).IS (s:=s') (o:=0) (by simp [D.bG,D.ok,nh,Tag.ok]) rfl rfl rfl ho
     by_cases tr:(Sm.eO (nest+1) (j+1) s.a7).1=true
     ·have c4:=fun s' ho=>(ih s.aU (by omega) (by omega) hfe (nest+1) _ (by omega) (by omega) (r1.2 tr)).IS (s:=s') (o:=0) (by simp [D.bG,D.ok,nh,Tag.ok]) rfl rfl rfl ho
      have r2:=yu (nest:=nest+1) (l:=s.aU) (r1.2 tr)
      simp only [tr]at c3
      simp only [tr,Bool.not_true,Bool.false_eq_true, ↓reduceIte]at h
      repeat' (first
 | simp only [go_sem,hD,hF,hJ,hP,w1,w2,tr]
 | (with_reducible refine CU (c1 _) ?_)
 | (with_reducible refine CU (c2 _) ?_)
 | (with_reducible refine CU (c3 _ rfl) ?_)
 | (with_reducible refine CU (c4 _ rfl) ?_)
 | (with_reducible first | refine cR fun hc=> ?_ | refine cT fun hc=> ?_ | refine cU (fun hc=> ?_) fun hc=> ?_) <;> (try simp only [hc,bs, ↓reduceIte]at h) <;> try simp only [hc]
 | (with_reducible refine aJ hQ ?_;(try cases h);simp only [aw,ay,cm,cq,go_sem,hD,hF,hJ,hP,w1,w2,tr];repeat' (first | exact Ok.out | with_reducible refine aI ?_ ?_ | (simp;done))))
      refine dc 1 0 (IH (rest,k+1,(Sm.eO (nest+1) (Sm.eO (nest+1) (j+1) s.a7).2 s.aU).2) ⟨g2,h,r2.2 (by assumption)⟩ (Nat.lt_succ_self _))
     ·have tr:(Sm.eO (nest+1) (j+1) s.a7).1=false:=by simpa using tr
      simp only [tr]at c3
      simp only [tr,Bool.not_false, ↓reduceIte]at h
      repeat' (first
 | simp only [go_sem,hD,hF,hJ,hP,w1,w2,tr]
 | (with_reducible refine CU (c1 _) ?_)
 | (with_reducible refine CU (c2 _) ?_)
 | (with_reducible refine CU (c3 _ rfl) ?_)
 | (with_reducible first | refine cR fun hc=> ?_ | refine cT fun hc=> ?_ | refine cU (fun hc=> ?_) fun hc=> ?_) <;> (try simp only [hc,bs, ↓reduceIte]at h) <;> try simp only [hc]
 | (with_reducible refine aJ hQ ?_;(try cases h);simp only [aw,ay,cm,cq,go_sem,hD,hF,hJ,hP,w1,w2,tr];repeat' (first | exact Ok.out | with_reducible refine aI ?_ ?_ | (simp;done))))
    ·have d1:decide (((j+1:Nat):Int) > 200)=true:=by simp;omega
     simp only [d1,Bool.true_or,Bool.not_false, ↓reduceIte]at h
     repeat' (first
 | simp only [go_sem,hD,hF,hJ,hP,w1,w2,d1]
 | (with_reducible refine CU (c1 _) ?_)
 | (with_reducible refine CU (c2 _) ?_)
 | (with_reducible first | refine cR fun hc=> ?_ | refine cT fun hc=> ?_ | refine cU (fun hc=> ?_) fun hc=> ?_) <;> (try simp only [hc,bs, ↓reduceIte]at h) <;> try simp only [hc]
 | (with_reducible refine aJ hQ ?_;(try cases h);simp only [aw,ay,cm,cq,go_sem,hD,hF,hJ,hP,w1,w2,d1];repeat' (first | exact Ok.out | with_reducible refine aI ?_ ?_ | (simp;done))))
end Go.Abs

/-! TMay4 -/

namespace Go.Abs
set_option maxRecDepth 8000
open Go.Proofs
def Pc.dF (n:Nat):List Pc→Bool
 | []=>true
 | f::l=>
  if decide ((f.params.length:Int) > 8) || decide ((f.vars.length:Int) > 16) || !(isName f.name) || !(dr f.vars) || !(dr f.fin)then false
  else if !(Pm.er f.params)then false
  else if !(Sm.eO 1 n f.body).1 then false
  else Pc.dF (Sm.eO 1 n f.body).2 l
def Pg.yv (p:Pg):Bool:=
 if decide ((p.globals.length:Int) > 16) || decide ((p.procs.length:Int) > 16) || !(dr p.globals)then false
 else Pc.dF 0 p.procs
structure Pg.Ax (p:Pg):Prop where
 sz:p.size<4611686018427387000
 BM : ∀ t∈p.globals,t.length<4611686018427387904
 mn : ∀ f∈p.procs,f.name.length<4611686018427387904∧(∀ t∈f.vars,t.length<4611686018427387904)∧(∀ t∈f.fin,t.length<4611686018427387904)∧∀ a∈f.params,a.name.length<4611686018427387904
 body : ∀ f∈p.procs,Sm.gR f.body
theorem HH {p:Pg} (hf:p.Ax) (s:St):aG Tryz.prog pE [.agg (bX p)] s (.bool p.yv) s:=by
 refine aG.pure ?_ (by simp only [D.bG,D.ok,kN];rfl) rfl s
 obtain⟨dI,vG,P9,DR⟩:=hf
 have qR:Pc.aN p.procs<4611686018427387000:=by simp only [Pg.size]at dI;omega
 have Sl:p.globals.length<4611686018427387904:=by simp only [Pg.size]at dI;omega
 have adx:p.procs.length<4611686018427387904:=by have:=Pc.cu p.procs;omega
 have hg:=fun s=>sL Sl vG s
 unfold S0
 generalize h:p.yv=R
 unfold Pg.yv at h
 refine aG.go BD rfl fun B Q hB hQ=> ?_
 have⟨hD,hF,hJ,hP⟩:=bP
 repeat' (first
 | simp only [go_sem,hD,hF,hJ,hP]
 | (with_reducible refine CU (hg _) ?_)
 | (with_reducible first | refine cR fun hc=> ?_ | refine cT fun hc=> ?_ | refine cU (fun hc=> ?_) fun hc=> ?_) <;> (try simp only [hc,bs, ↓reduceIte]at h) <;> try simp only [hc]
 | (with_reducible refine aJ hQ ?_;(try cases h);simp only [aw,ay,cm,cq,go_sem,hD,hF,hJ,hP];repeat' (first | exact Ok.out | with_reducible refine aI ?_ ?_ | (simp;done))))
 refine dc 2 0 (bk.ind (ι:=List Pc×Nat×Nat) (fun i=>p.procs.drop i.2.1=i.1∧Pc.dF i.2.2 i.1=R∧i.2.2≤200) (fun i=>i.1.length)
  (fun i=> [(1, .ptr 0 0),(3, .ptr 1 0),(27, .slice .shared 5 (p.procs.map bR)),(28, .int .i64 (p.procs.length:Int)),(29, .int .i64 (i.2.1:Int))]) (fun i=>⟨[bX p,[.int .i64 (i.2.2:Int)]],[]⟩) ?_ (p.procs,0,0) ⟨rfl,h,Nat.zero_le _⟩)
 rintro⟨rest,k,n⟩ ⟨h1,h,hn⟩ IH
 dsimp only at h1 h hn
 cases rest with
 | nil=>
  have hD:=drop_nil h1
  simp only [Pc.dF]at h
  repeat' (first
 | simp only [go_sem,hD,hF,hJ,hP]
 | (with_reducible first | refine cR fun hc=> ?_ | refine cT fun hc=> ?_ | refine cU (fun hc=> ?_) fun hc=> ?_) <;> (try simp only [hc,bs, ↓reduceIte]at h) <;> try simp only [hc]
 | (with_reducible refine aJ hQ ?_;(try cases h);simp only [aw,ay,cm,cq,go_sem,hD,hF,hJ,hP];repeat' (first | exact Ok.out | with_reducible refine aI ?_ ?_ | (simp;done))))
 | cons f rest=>
  obtain⟨hF,g2,hD,g4⟩:=drop_cons h1
  have bq:k<4611686018427387904:=by omega
  have kM:=List.mem_of_getElem? hF
  have BN:=Pc.bA kM
  simp only [Pc.size]at BN
  obtain⟨tt,hfv,hff,hfp⟩:=P9 f kM
  have hnm:=uG f.name tt
  have hv:=fun s=>sL (by omega) hfv s
  have he:=fun s=>sL (by omega) hff s
  have hb:=fun s' o ho=>(Nr _ f.body (Nat.le_refl _) (by omega) (DR f kM) 1 n (by omega) (by omega) hn).IS (s:=s') (o:=o) (by simp [D.bG,D.ok,nh,Tag.ok]) rfl rfl rfl ho
  have hle:=yu (nest:=1) (l:=f.body) hn
  simp only [Pc.dF]at h
  repeat' (first
 | simp only [go_sem,hD,hF,hJ,hP]
 | (with_reducible refine CU (hnm _) ?_)
 | (with_reducible refine CU (hv _) ?_)
 | (with_reducible refine CU (he _) ?_)
 | (with_reducible first | refine cR fun hc=> ?_ | refine cT fun hc=> ?_ | refine cU (fun hc=> ?_) fun hc=> ?_) <;> (try simp only [hc,bs, ↓reduceIte]at h) <;> try simp only [hc]
 | (with_reducible refine aJ hQ ?_;exact Bs)
 | (cases h;done))
  refine dc 3 0 (bk.ind (ι:=List Pm×Nat) (fun i=>f.params.drop i.2=i.1∧(if !(Pm.er i.1)then false else if !(Sm.eO 1 n f.body).1 then false else Pc.dF (Sm.eO 1 n f.body).2 rest)=R) (fun i=>i.1.length)
   (fun i=> [(1, .ptr 0 0),(3, .ptr 1 0),(5, .ptr 2 0),(27, .slice .shared 5 (p.procs.map bR)),(28, .int .i64 (p.procs.length:Int)),(29, .int .i64 (k:Int)),(62, .slice .shared 2 (f.params.map fu)),(63, .int .i64 (f.params.length:Int)),(64, .int .i64 (i.2:Int))]) (fun i=>⟨[bX p,[.int .i64 (n:Int)],bR f],[]⟩) ?_ (f.params,0) ⟨rfl,h⟩)
  rintro⟨Fz,j⟩ ⟨j1,h⟩ xp
  dsimp only at j1 h
  cases Fz with
  | nil=>
   have hD:=drop_nil j1
   simp only [Pm.er,Bool.not_true,Bool.false_eq_true, ↓reduceIte]at h
   repeat' (first
 | simp only [go_sem,hD,hF,hJ,hP]
 | (with_reducible refine CU (hb _ _ rfl) ?_)
 | (with_reducible first | refine cR fun hc=> ?_ | refine cT fun hc=> ?_ | refine cU (fun hc=> ?_) fun hc=> ?_) <;> (try simp only [hc,bs, ↓reduceIte]at h) <;> try simp only [hc]
 | (with_reducible refine aJ hQ ?_;exact Bs)
 | (cases h;done))
   refine da 2 0 ?_ ?_ (IH (rest,k+1,(Sm.eO 1 n f.body).2) ⟨g2,h,hle.2 (by assumption)⟩ (Nat.lt_succ_self _))
   ·(simp only [go_sem,hD,hF,hJ,hP,aD bq];try exact bo)
   ·(simp only [go_sem,hD,hF,hJ,hP,aD bq];try exact bo)
  | cons a Fz=>
   obtain⟨hF,b2,hD,b4⟩:=drop_cons j1
   have HF:j<4611686018427387904:=by omega
   have ha:=uG a.name (hfp a (List.mem_of_getElem? hF))
   simp only [Pm.er]at h
   repeat' (first
 | simp only [go_sem,hD,hF,hJ,hP]
 | (with_reducible refine CU (ha _) ?_)
 | (with_reducible first | refine cR fun hc=> ?_ | refine cT fun hc=> ?_ | refine cU (fun hc=> ?_) fun hc=> ?_) <;> (try simp only [hc,bs, ↓reduceIte]at h) <;> try simp only [hc]
 | (with_reducible refine aJ hQ ?_;exact Bs)
 | (cases h;done))
   refine da 3 0 ?_ ?_ (xp (Fz,j+1) ⟨b2,h⟩ (Nat.lt_succ_self _))
   ·(simp only [go_sem,hD,hF,hJ,hP,aD HF];try exact bo)
   ·(simp only [go_sem,hD,hF,hJ,hP,aD HF];try exact bo)
end Go.Abs

/-! MayFine -/

namespace Go.Abs
theorem sM {s:aA} (h:isName s=true):s.length≤8:=by
 cases s with
 | nil=>simp
 | cons c r=>
  simp only [isName]at h
  split at h
  ·cases h
  ·rename_i hc
   simp only [Bool.or_eq_true,decide_eq_true_eq,not_or]at hc
   simp only [List.length_cons];omega
theorem lx {t:aA} : ∀ {l:List aA},dr l=true→t∈l→isName t=true
 | s::l,h,m=>by
  simp only [dr]at h
  cases hs:isName s
  ·simp [hs]at h
  ·simp [hs]at h
   rcases List.mem_cons.1 m with rfl | m
   ·exact hs
   ·exact lx h m
theorem BO {a:Ar} : ∀ {l:List Ar},Ar.er l=true→a∈l→a.may=true
 | s::l,h,m=>by
  simp only [Ar.er]at h
  cases hs:s.may
  ·simp [hs]at h
  ·simp [hs]at h
   rcases List.mem_cons.1 m with rfl | m
   ·exact hs
   ·exact BO h m
theorem zh {a:Pm} : ∀ {l:List Pm},Pm.er l=true→a∈l→isName a.name=true
 | s::l,h,m=>by
  simp only [Pm.er]at h
  cases hs:isName s.name
  ·simp [hs]at h
  ·simp [hs]at h
   rcases List.mem_cons.1 m with rfl | m
   ·exact hs
   ·exact zh h m
mutual
theorem xq : ∀ x:Ex,x.form=true→x.texts
 | ⟨op,n,name,kids⟩,h=>by
  simp only [Ex.form]at h
  split at h
  ·cases h
  ·rename_i hc
   refine⟨?_,vH kids h⟩
   simp only [Bool.or_eq_true,Bool.and_eq_true,Bool.not_eq_true',not_or,not_and,Bool.not_eq_false]at hc
   cases hn:(name == [])
   ·have:=sM (hc.2 hn);omega
   ·simp at hn;subst hn;simp
theorem vH : ∀ l:List Ex,Ex.lD l=true→Ex.qd l
 | [],_=>trivial
 | x::l,h=>by
  simp only [Ex.lD]at h
  cases hx:x.form
  ·simp [hx]at h
  ·simp [hx]at h
   exact⟨xq x hx,vH l h⟩
end
theorem zi {x:Ex} (h:x.may=true):x.texts:=by
 unfold Ex.may at h
 simp only [Bool.and_eq_true]at h
 exact xq x h.2
theorem xr {x:Ex} (h:x.none=true):x.texts:=by
 obtain⟨op,n,name,kids⟩:=x
 simp [Ex.none]at h
 obtain⟨⟨_,h1⟩,h2⟩:=h
 subst h1 h2
 exact⟨by simp,trivial⟩
mutual
theorem HI {deep bJ:Int} {aU:Bool} {out:List It} {i:It} : ∀ s:Sm,i∈fL deep bJ aU out s→i∈out∨i.s.size≤s.size
 | ⟨id,kind,labels,name,proc,x,has,args,a7,e⟩,h=>by
  simp only [fL]at h
  have key:i∈out++ [(⟨⟨id,kind,labels,name,proc,x,has,args,a7,e⟩,deep,bJ,aU⟩:It)]→i∈out∨i.s.size≤(⟨id,kind,labels,name,proc,x,has,args,a7,e⟩:Sm).size:=by
   intro h
   rcases List.mem_append.1 h with h | h
   ·exact .inl h
   ·simp at h;subst h;exact .inr (Nat.le_refl _)
  split at h
  ·rcases qS e h with h | h
   ·rcases qS a7 h with h | h
    ·exact key h
    ·right;simp only [Sm.size];omega
   ·right;simp only [Sm.size];omega
  ·exact key h
theorem qS {deep bJ:Int} {aU:Bool} {out:List It} {i:It} : ∀ l:List Sm,i∈cL deep bJ aU out l→i∈out∨i.s.size<Sm.aN l
 | [],h=>by simp only [cL]at h;exact .inl h
 | s::l,h=>by
  simp only [cL]at h
  split at h
  ·rcases qS l h with h | h
   ·rcases HI s h with h | h
    ·exact .inl h
    ·right;simp only [Sm.aN];omega
   ·right;simp only [Sm.aN];omega
  ·exact .inl h
end
theorem BP {i:It} : ∀ (l:List Pc) (out:List It),i∈allM out l→i∈out∨i.s.size<Pc.aN l
 | [],out,h=>by simp only [allM]at h;exact .inl h
 | f::l,out,h=>by
  have key:i∈out++f.flat→i∈out∨i.s.size<Pc.aN (f::l):=by
   intro h
   rcases List.mem_append.1 h with h | h
   ·exact .inl h
   ·rcases qS _ h with h | h
    ·simp at h
    ·right;simp only [Pc.aN,Pc.size];omega
  simp only [allM]at h
  split at h
  ·exact key h
  ·rcases BP l _ h with h | h
   ·exact key h
   ·right;simp only [Pc.aN];omega
theorem xu {i:It} : ∀ (l:List It) (n:Nat),It.er n l=true→i∈l→i.s.one=true
 | s::l,n,h,m=>by
  simp only [It.er]at h
  split at h
  ·cases h
  ·rename_i hc
   simp only [Bool.or_eq_true,Bool.not_eq_true',not_or,Bool.not_eq_false]at hc
   rcases List.mem_cons.1 m with rfl | m
   ·exact hc.2
   ·exact xu l (n+1) h m
theorem BQ {s:Sm} (h:s.one=true) (hs:s.size<4611686018427387000):s.pe:=by
 unfold Sm.one at h
 split at h
 ·cases h
 split at h
 ·cases h
 split at h
 ·cases h
 split at h
 ·cases h
 rename_i c1 c2 c3 c4
 simp only [Bool.or_eq_true,Bool.and_eq_true,Bool.not_eq_true',not_or,not_and,Bool.not_eq_false,decide_eq_true_eq]at c1 c2 c3 c4
 obtain⟨⟨⟨⟨⟨_,_⟩,V5⟩,cx⟩,cn⟩,_⟩:=c1
 obtain⟨c21,c22⟩:=c2
 obtain⟨⟨Tn,c32⟩,c33⟩:=c3
 have nm : ∀ {t:aA},isName t=true→t.length<4611686018427387904:=fun h=>by have:=sM h;omega
 have dI:1+s.labels.length+s.x.size+Ar.aN s.args≤s.size:=by cases s;simp only [Sm.size];omega
 have C5:=Ar.cu s.args
 refine⟨fun t ht=>nm (lx V5 ht),by omega, ?_, ?_,by omega, ?_,by omega,fun a ha=> ?_⟩
 ·cases hn:s.hasName
  ·cases he:(s.name == [])
   ·exact nm (c22 ⟨hn,he⟩).2
   ·simp at he;rw [he];simp
  ·exact nm (c21 hn)
 ·cases wX:s.sc
  ·rw [wX]at Tn
   have:s.proc = []:=by simpa using Tn
   rw [this];simp
  ·exact nm (c32 wX)
 ·cases hx:s.Fu
  ·exact xr (cn hx)
  ·exact zi (cx hx)
 ·have hm:=BO c4 ha
  have Ma:=Ar.bA ha
  unfold Ar.may at hm
  split at hm
  ·simp only [Bool.and_eq_true]at hm
   exact⟨by omega,xr hm.2,nm hm.1⟩
  ·simp only [Bool.and_eq_true,beq_iff_eq]at hm
   exact⟨by omega,zi hm.2,by rw [hm.1];simp⟩
theorem zj {f:Pc} : ∀ {l:List Pc},Pc.mn l=true→f∈l→isName f.name=true∧dr f.vars=true∧dr f.fin=true∧Pm.er f.params=true
 | s::l,h,m=>by
  simp only [Pc.mn]at h
  split at h
  ·cases h
  split at h
  ·cases h
  rename_i c1 c2
  simp only [Bool.or_eq_true,Bool.not_eq_true',not_or,Bool.not_eq_false]at c1 c2
  rcases List.mem_cons.1 m with rfl | m
  ·exact⟨c1.1.1.1.1,c1.1.2,c1.2,c2⟩
  ·exact zj h m
theorem Kp {p:Pg} (h:p.may=true) (hs:p.size<4611686018427387000):p.pe:=by
 unfold Pg.may at h
 split at h
 ·cases h
 split at h
 ·cases h
 split at h
 ·cases h
 rename_i c1 c2 c3
 simp only [Bool.or_eq_true,Bool.not_eq_true',not_or,Bool.not_eq_false]at c1 c2
 have nm : ∀ {t:aA},isName t=true→t.length<4611686018427387904:=fun h=>by have:=sM h;omega
 refine⟨hs,fun t ht=>nm (lx c1.2 ht),fun f hf=> ?_,fun i hi=> ?_⟩
 ·obtain⟨a,b,c,d⟩:=zj c2 hf
  exact⟨nm a,fun t ht=>nm (lx b ht),fun t ht=>nm (lx c ht),fun t ht=>nm (zh d ht)⟩
 ·refine BQ (xu _ _ h hi) ?_
  rcases BP _ _ hi with h1 | h1
  ·simp at h1
  ·simp only [Pg.size]at hs;omega
end Go.Abs

/-! MayEq -/

namespace Go.Abs
theorem HJ {t:aA} (h:isName t=true):t≠ []:=by rintro rfl;cases h
theorem Kq (op n:Int) (name:aA) (kids:List Ex):Ex.form ⟨op,n,name,kids⟩=true↔
 jZ op=(kids.length:Int)∧(op=1∨n=0)∧0≤n∧(op=2↔name≠ [])∧(name = []∨isName name=true)∧Ex.lD kids=true:=by
 simp only [Ex.form]
 split
 ·rename_i h
  simp only [Bool.or_eq_true,Bool.and_eq_true,bne_iff_ne,ne_eq,decide_eq_true_eq,Bool.not_eq_true']at h
  refine⟨fun h=>(Bool.false_ne_true h).elim,fun⟨h1,h2,h3,h4,h5,_⟩=> ?_⟩
  exfalso
  rcases h with (((h | h) | h) | h) | h
  ·exact h h1
  ·rcases h2 with h2 | h2
   ·exact h.1 h2
   ·exact h.2 h2
  ·omega
  ·by_cases h2:op=2 <;> cases name <;> simp_all
  ·rcases h5 with h5 | h5
   ·subst h5;simp at h
   ·rw [h5]at h;simp at h
 ·rename_i h
  simp only [Bool.or_eq_true,Bool.and_eq_true,bne_iff_ne,ne_eq,decide_eq_true_eq,Bool.not_eq_true',not_or,not_and,Decidable.not_not,Bool.not_eq_false]at h
  obtain⟨⟨⟨⟨h1,h2⟩,h3⟩,h4⟩,h5⟩:=h
  refine⟨fun h=>⟨h1, ?_,by omega, ?_, ?_,h⟩,fun h=>h.2.2.2.2.2⟩
  ·by_cases h:op=1
   ·exact .inl h
   ·exact .inr (h2 h)
  ·by_cases h2:op=2 <;> cases name <;> simp_all
  ·cases name with
   | nil=>exact .inl rfl
   | cons c r=>exact .inr (h5 rfl)
theorem Qa (op n:Int) (name:aA) (kids:List Ex) (k:Int):Ex.dp k ⟨op,n,name,kids⟩=true↔
 1≤k∧(kids.length:Int)=jZ op∧(if op=1 then 0≤n∧name = []else if op=2 then n=0∧isName name=true else n=0∧name = []∧Ex.xm (k - 1) kids=true):=by
 simp only [Ex.dp]
 split
 ·rename_i h
  simp only [Bool.or_eq_true,decide_eq_true_eq,bne_iff_ne,ne_eq]at h
  refine⟨fun h=>(Bool.false_ne_true h).elim,fun⟨h1,h2,_⟩=> ?_⟩
  rcases h with h | h
  ·omega
  ·exact(h h2).elim
 rename_i h
 simp only [Bool.or_eq_true,decide_eq_true_eq,bne_iff_ne,ne_eq,not_or,Decidable.not_not]at h
 have h1:1≤k:=by omega
 simp only [h1,h.2,true_and]
 by_cases o1:op=1
 ·subst o1
  cases name <;> simp
 ·have o1' : ¬ (op==1)=true:=by simpa using o1
  rw [if_neg o1',if_neg o1]
  by_cases o2:op=2
  ·subst o2;simp
  ·have BR : ¬ (op==2)=true:=by simpa using o2
   rw [if_neg BR,if_neg o2]
   by_cases hn:n=0
   ·subst hn
    cases name <;> simp
   ·simp [hn]
mutual
theorem Mb : ∀ (x:Ex) (k:Int),0≤k→(x.dp k=true↔(x.depth:Int)≤k∧x.form=true)
 | ⟨op,n,name,kids⟩,k,hk=>by
  rw [Qa,Kq]
  have hd:Ex.depth ⟨op,n,name,kids⟩=Ex.hZ kids+1:=by simp only [Ex.depth]
  rw [hd]
  by_cases h1:1≤k
  ·have ih:=HK kids (k - 1) (by omega)
   by_cases o1:op=1
   ·subst o1
    have ha:jZ 1=0:=rfl
    rw [ha,if_pos rfl]
    constructor
    ·rintro⟨_,h2,h3,h4⟩
     have:kids = []:=List.eq_nil_of_length_eq_zero (by omega)
     subst this;subst h4
     simp [Ex.hZ,Ex.lD,h3];omega
    ·rintro⟨h2,h3,_,h4,h5,_⟩
     refine⟨h1,h3.symm,h4, ?_⟩
     cases name
     ·rfl
     ·simp at h5
   ·rw [if_neg o1]
    by_cases o2:op=2
    ·subst o2
     have ha:jZ 2=0:=rfl
     rw [ha,if_pos rfl]
     constructor
     ·rintro⟨_,h2,h3,h4⟩
      have:kids = []:=List.eq_nil_of_length_eq_zero (by omega)
      subst this;subst h3
      have:=HJ h4
      simp [Ex.hZ,Ex.lD,h4,this];omega
     ·rintro⟨h2,h3,h4,_,h5,h6,_⟩
      refine⟨h1,h3.symm,h4.resolve_left o1, ?_⟩
      exact h6.resolve_left (h5.1 rfl)
    ·rw [if_neg o2,ih]
     constructor
     ·rintro⟨_,h2,h3,h4,h5,h6⟩
      subst h3;subst h4
      exact⟨by omega,h2.symm, .inr rfl,Int.le_refl _,by simp [o2], .inl rfl,h6⟩
     ·rintro⟨h2,h3,h4,_,h5,h6,h7⟩
      refine⟨h1,h3.symm,h4.resolve_left o1, ?_,by omega,h7⟩
      exact Decidable.byContradiction fun h=>o2 (h5.2 h)
  ·constructor
   ·rintro⟨h,_⟩;exact(h1 h).elim
   ·rintro⟨h,_⟩;omega
theorem HK : ∀ (l:List Ex) (k:Int),0≤k→(Ex.xm k l=true↔(Ex.hZ l:Int)≤k∧Ex.lD l=true)
 | [],k,hk=>by simp [Ex.xm,Ex.hZ,Ex.lD,hk]
 | x::l,k,hk=>by
  have h1:=Mb x k hk
  have h2:=HK l k hk
  have hd:Ex.hZ (x::l)=max x.depth (Ex.hZ l):=by simp only [Ex.hZ]
  rw [hd]
  simp only [Ex.xm,Ex.lD]
  cases hx:Ex.dp k x
  ·simp only [Bool.not_false, ↓reduceIte,Bool.false_eq_true,false_iff,not_and]
   intro h3
   have : ¬ ((x.depth:Int)≤k∧x.form=true):=by rw [← h1,hx];simp
   have hf:x.form=false:=by
    cases hf:x.form
    ·rfl
    ·exact(this ⟨by omega,hf⟩).elim
   simp [hf]
  ·have:=h1.1 hx
   simp only [Bool.not_true,Bool.false_eq_true, ↓reduceIte,this.2,h2]
   have h3:=this.1
   refine and_congr_left fun _=> ?_
   omega
end
theorem HL (x:Ex):x.dp 20=x.may:=by
 rw [Bool.eq_iff_iff,Mb x 20 (by omega)]
 unfold Ex.may
 simp only [Bool.and_eq_true,decide_eq_true_eq]
 refine and_congr_left fun _=> ?_
 omega
theorem zk (x:Ex) (b:Bool):qf x b=if b then x.may else x.none:=by
 unfold qf
 rw [HL]
 cases b <;> simp
theorem zl (t:aA) (b:Bool):oP t b=if b then isName t else t == []:=by
 unfold oP
 cases b <;> simp
theorem vI : ∀ l:List Ar,lF l=Ar.er l
 | []=>rfl
 | a::l=>by
  simp only [lF,Ar.er,Ar.may,zk,zl,vI l]
  grind
theorem V6 {α:Type} (l:List α):((l.length:Int)==0) = !(decide ((l.length:Int) > 0)):=by
 cases l with
 | nil=>rfl
 | cons a l=>
  have h1:(((a::l).length:Int)==0)=false:=by simp only [List.length_cons,beq_eq_false_iff_ne];omega
  have h2:decide (((a::l).length:Int) > 0)=true:=by simp only [List.length_cons,decide_eq_true_eq];omega
  rw [h1,h2];rfl
theorem xv (s:Sm):s.one=(dr s.labels && s.fields):=by
 have hk:s.kind=1∨s.kind=2∨s.kind=3∨s.kind=4∨s.kind=5∨s.kind=6∨s.kind=7∨s.kind=8∨s.kind=9∨s.kind=10∨s.kind<1∨s.kind > 10:=by omega
 unfold Sm.one Sm.fields Sm.flags Sm.Fu Sm.hasName Sm.sc
 have p1:isName [] = false:=rfl
 rcases hk with h | h | h | h | h | h | h | h | h | h | h | h
 all_goals
  simp only [h,V6,vI,zk,zl,Sm.Av,Sm.Au]
  grind
end Go.Abs

/-! Nm1 -/

namespace Go.Abs
set_option maxRecDepth 8000
open Go.Proofs
mutual
def Ex.fB (out:List aA):Ex→List aA
 | ⟨op,_,name,kids⟩=>Ex.eI (if op==2 && !(dK out name)then out++ [name]else out) kids
def Ex.eI (out:List aA):List Ex→List aA
 | []=>out
 | x::l=>Ex.eI (Ex.fB out x) l
end
def Ex.names (x:Ex):List aA:=if x.may then x.fB []else []
mutual
theorem jC (out:List aA) : ∀ x:Ex,(Ex.fB out x).length≤out.length+x.size
 | ⟨op,n,name,kids⟩=>by
  simp only [Ex.fB,Ex.size]
  have h:=zm (if op==2 && !(dK out name)then out++ [name]else out) kids
  refine Nat.le_trans h ?_
  split <;> simp <;> omega
theorem zm (out:List aA) : ∀ l:List Ex,(Ex.eI out l).length≤out.length+Ex.aN l
 | []=>by simp [Ex.eI,Ex.aN]
 | x::l=>by
  simp only [Ex.eI,Ex.aN]
  have h1:=jC out x
  have h2:=zm (Ex.fB out x) l
  omega
end
def kr (out:List aA) (x:aA):List aA:=if dK out x then out else out++ [x]
def nE (x:aA):List aA→Bool
 | []=>false
 | s::l=>if s==x then true else nE x l
theorem uH (x:aA) : ∀ l:List aA,nE x l=dK l x
 | []=>rfl
 | s::l=>by
  have h1:=gd (s::l) x
  have h2:=gd l x
  have h3:=uH x l
  simp only [nE]
  by_cases e:s=x
  ·subst e;simp only [beq_self_eq_true,if_true];exact(h1.2 List.mem_cons_self).symm
  ·have e':(s==x)=false:=by simp [e]
   simp only [e',Bool.false_eq_true,if_false,h3]
   cases ha:dK l x <;> cases hb:dK (s::l) x <;> simp_all [Ne.symm e]
theorem Kr {out:List aA} (hl:out.length<1000000000) (x:aA):aG Tryz.prog kF [.slice (.tok 0) 1 (out.map encStr), .str x] ⟨[],[some out.length]⟩ (.slice (.tok 0) 1 ((kr out x).map encStr)) ⟨[],[some (kr out x).length]⟩:=by
 rw [kr, ← uH]
 cases h:nE x out
 all_goals
  simp only [Bool.false_eq_true,if_false,if_true]
  refine aG.go qK rfl fun B Q hB hQ=> ?_
  have⟨hD,hF,hJ,hP⟩:=bP
  have hJ:(out.length+1)*17≤bb:=by unfold bb;omega
  repeat' (first
 | simp only [go_sem,hD,hF,hJ,hP]
 | (with_reducible first | refine cR fun hc=> ?_ | refine cT fun hc=> ?_ | refine cU (fun hc=> ?_) fun hc=> ?_) <;> (try simp only [hc,bs, ↓reduceIte]at h) <;> try simp only [hc]
 | (with_reducible refine aJ hQ ?_;exact Bs)
 | (cases h;done))
  refine dc 0 1 (bk.ind (ι:=List aA×Nat) (fun i=>out.drop i.2=i.1∧nE x i.1=_) (fun i=>i.1.length)
   (fun i=> [(0, .slice (.tok 0) 1 (out.map encStr)),(1, .str x),(7, .slice (.tok 0) 1 (out.map encStr)),(8, .int .i64 (out.length:Int)),(9, .int .i64 (i.2:Int))]) (fun i=>⟨[],[some out.length]⟩) ?_ (out,0) ⟨rfl,h⟩)
  rintro⟨rest,k⟩ ⟨h1,h⟩ IH
  dsimp only at h1 h
  cases rest with
  | nil=>
   have hD:=drop_nil h1
   simp only [nE]at h
   repeat' (first
 | simp only [go_sem,hD,hF,hJ,hP,List.map_append,List.map_cons,List.map_nil,List.length_append,List.length_cons,List.length_nil,encStr]
 | (with_reducible first | refine cR fun hc=> ?_ | refine cT fun hc=> ?_ | refine cU (fun hc=> ?_) fun hc=> ?_) <;> (try simp only [hc,bs, ↓reduceIte]at h) <;> try simp only [hc]
 | (with_reducible refine aJ hQ ?_;(try cases h);simp only [aw,ay,cm,cq,go_sem,hD,hF,hJ,hP,List.map_append,List.map_cons,List.map_nil,List.length_append,List.length_cons,List.length_nil,encStr];try exact Xh)
 | (cases h;done))
  | cons a rest=>
   obtain⟨hF,g2,hD,g4⟩:=drop_cons h1
   have bq:k<4611686018427387904:=by omega
   simp only [nE]at h
   repeat' (first
 | simp only [go_sem,hD,hF,hJ,hP]
 | (with_reducible first | refine cR fun hc=> ?_ | refine cT fun hc=> ?_ | refine cU (fun hc=> ?_) fun hc=> ?_) <;> (try simp only [hc,bs, ↓reduceIte]at h) <;> try simp only [hc]
 | (with_reducible refine aJ hQ ?_;exact Bs)
 | (cases h;done))
   refine da 0 1 ?_ ?_ (IH (rest,k+1) ⟨g2,h⟩ (Nat.lt_succ_self _))
   ·(simp only [go_sem,hD,hF,hJ,hP,aD bq];try exact bo)
   ·(simp only [go_sem,hD,hF,hJ,hP,aD bq];try exact bo)
theorem Ks {out:List aA} (hl:out.length<1000000000) (x:aA) {s:St} {t:Nat} (ht:s.av[t]? = some (some out.length)):aG Tryz.prog kF [.slice (.tok t) 1 (out.map encStr), .str x] s (.slice (.tok t) 1 ((kr out x).map encStr)) ⟨s.au,s.av.set t (some (kr out x).length)⟩:=
 (Kr hl x).Ea (pre:= []) (post:= [_]) rfl rfl (dJ out) (dJ _) ht
abbrev HM (N:Nat):Prop:=∀ (x:Ex),x.size≤N→∀ out:List aA,out.length+x.size≤1000000000→∀ {s:St} {t:Nat},s.av[t]? = some (some out.length)→
 aG Tryz.prog fK [.agg (bj x), .slice (.tok t) 1 (out.map encStr)] s (.slice (.tok t) 1 ((x.fB out).map encStr)) ⟨s.au,s.av.set t (some (x.fB out).length)⟩
theorem Qb {N:Nat} (ih:HM N) {op m:Int} {name:aA} {kids:List Ex} (h:Ex.size ⟨op,m,name,kids⟩≤N+1) {out:List aA} (ho:out.length+Ex.size ⟨op,m,name,kids⟩≤1000000000) :
 aG Tryz.prog fK [.agg (bj ⟨op,m,name,kids⟩), .slice (.tok 0) 1 (out.map encStr)] ⟨[],[some out.length]⟩ (.slice (.tok 0) 1 ((Ex.fB out ⟨op,m,name,kids⟩).map encStr)) ⟨[],[some (Ex.fB out ⟨op,m,name,kids⟩).length]⟩:=by
 obtain⟨R,hG⟩ : ∃ R,Ex.fB out ⟨op,m,name,kids⟩=R:=⟨_,rfl⟩
 rw [hG]
 simp only [Ex.fB]at hG
 simp only [Ex.size]at h ho
 have hlen:kids.length<1000000000:=by have:=Ex.cu kids;omega
 have hk : ∀ y∈kids,∀ out:List aA,out.length+y.size≤1000000000→∀ {s:St} {t:Nat},s.av[t]? = some (some out.length)→
  aG Tryz.prog fK [.agg (bj y), .slice (.tok t) 1 (out.map encStr)] s (.slice (.tok t) 1 ((y.fB out).map encStr)) ⟨s.au,s.av.set t (some (y.fB out).length)⟩:=fun y hy out ho=>
  ih y (by have:=Ex.bA hy;omega) out ho
 refine aG.go nC rfl fun B Q hB hQ=> ?_
 have⟨hD,hF,hJ,hP⟩:=bP
 have hJ:(out.length+1)*17≤bb:=by unfold bb;omega
 rcases Bool.eq_false_or_eq_true (op==2)with b1 | b1
 ·rcases Bool.eq_false_or_eq_true (dK out name)with b2 | b2
  ·simp only [b1,b2,Bool.not_true,Bool.and_false,Bool.false_eq_true,if_false]at hG
   repeat' (first
 | simp only [go_sem,hD,hF,hJ,hP,b1,b2]
 | (with_reducible refine CU (ik (l:=out) (by omega) name _ _) ?_)
 | (with_reducible refine aJ hQ ?_;simp only [aw,ay,Option.some.injEq,exists_eq_left',go_sem,hD,hF,hJ,hP];repeat' (first | exact Ok.out | with_reducible refine aI ?_ ?_ | (simp;done))))
   refine dc 1 1 (bk.ind (ι:=List Ex×Nat×List aA×Nat) (fun i=>kids.drop i.2.1=i.1∧Ex.eI i.2.2.1 i.1=R∧i.2.2.1.length+Ex.aN i.1≤1000000000∧i.2.2.2=i.2.2.1.length) (fun i=>i.1.length)
    (fun i=> [(1, .slice (.tok 0) 1 (i.2.2.1.map encStr)),(2, .ptr 0 0),(23, .slice .shared 4 (kids.map bj)),(24, .int .i64 (kids.length:Int)),(25, .int .i64 (i.2.1:Int))]) (fun i=>⟨[bj ⟨op,m,name,kids⟩],[some i.2.2.2]⟩) ?_ (kids,0,out,out.length) ⟨rfl,hG,by simp;omega,by simp⟩)
   rintro⟨rest,k,bt,n'⟩ ⟨h1,h2,h3,h4⟩ IH
   dsimp only at h1 h2 h3 h4
   subst h4
   cases rest with
   | nil=>
    have hD:=drop_nil h1
    simp only [Ex.eI]at h2
    subst h2
    repeat' (first
 | simp only [go_sem,hD,hF,hJ,hP]
 | (with_reducible refine aJ hQ ?_;simp only [aw,ay,Option.some.injEq,exists_eq_left',go_sem,hD,hF,hJ,hP];repeat' (first | exact Ok.out | with_reducible refine aI ?_ ?_ | (simp;done))))
   | cons y rest=>
    obtain⟨hF,g2,hD,g4⟩:=drop_cons h1
    have bq:k<4611686018427387904:=by omega
    simp only [Ex.eI]at h2
    simp only [Ex.aN]at h3
    have hy:=fun {s:St} {t:Nat} (ht:s.av[t]? = some (some bt.length))=>hk y (List.mem_of_getElem? hF) bt (by omega) ht
    have hl:=jC bt y
    repeat' (first
 | simp only [go_sem,hD,hF,hJ,hP]
 | (with_reducible refine CU (hy (by with_unfolding_all rfl)) ?_)
 | (with_reducible refine aJ hQ ?_;simp only [aw,ay,Option.some.injEq,exists_eq_left',go_sem,hD,hF,hJ,hP];repeat' (first | exact Ok.out | with_reducible refine aI ?_ ?_ | (simp;done))))
    refine da 1 1 ?_ ?_ (IH (rest,k+1,_,_) ⟨g2,h2,by dsimp only;omega,rfl⟩ (Nat.lt_succ_self _))
    ·(simp only [go_sem,hD,hF,hJ,hP,aD bq];try exact bo)
    ·(simp only [go_sem,hD,hF,hJ,hP,aD bq];try exact bo)
  ·simp only [b1,b2,Bool.not_false,Bool.and_true,if_true]at hG
   repeat' (first
 | simp only [go_sem,hD,hF,hJ,hP,b1,b2]
 | (with_reducible refine CU (ik (l:=out) (by omega) name _ _) ?_)
 | (with_reducible refine aJ hQ ?_;simp only [aw,ay,Option.some.injEq,exists_eq_left',go_sem,hD,hF,hJ,hP];repeat' (first | exact Ok.out | with_reducible refine aI ?_ ?_ | (simp;done))))
   refine da 1 1 ?_ ?_ (bk.ind (ι:=List Ex×Nat×List aA×Nat) (fun i=>kids.drop i.2.1=i.1∧Ex.eI i.2.2.1 i.1=R∧i.2.2.1.length+Ex.aN i.1≤1000000000∧i.2.2.2=i.2.2.1.length) (fun i=>i.1.length)
    (fun i=> [(1, .slice (.tok 0) 1 (i.2.2.1.map encStr)),(2, .ptr 0 0),(23, .slice .shared 4 (kids.map bj)),(24, .int .i64 (kids.length:Int)),(25, .int .i64 (i.2.1:Int))]) (fun i=>⟨[bj ⟨op,m,name,kids⟩],[some i.2.2.2]⟩) ?_ (kids,0,(out++ [name]),(out.length+1)) ⟨rfl,hG,by simp;omega,by simp⟩)
   ·(simp only [go_sem,hD,hF,hJ,hP,List.map_append,List.map_cons,List.map_nil,List.length_append,List.length_cons,List.length_nil,encStr];try exact bo)
   ·(simp only [go_sem,hD,hF,hJ,hP,List.map_append,List.map_cons,List.map_nil,List.length_append,List.length_cons,List.length_nil,encStr];try exact bo)
   rintro⟨rest,k,bt,n'⟩ ⟨h1,h2,h3,h4⟩ IH
   dsimp only at h1 h2 h3 h4
   subst h4
   cases rest with
   | nil=>
    have hD:=drop_nil h1
    simp only [Ex.eI]at h2
    subst h2
    repeat' (first
 | simp only [go_sem,hD,hF,hJ,hP]
 | (with_reducible refine aJ hQ ?_;simp only [aw,ay,Option.some.injEq,exists_eq_left',go_sem,hD,hF,hJ,hP];repeat' (first | exact Ok.out | with_reducible refine aI ?_ ?_ | (simp;done))))
   | cons y rest=>
    obtain⟨hF,g2,hD,g4⟩:=drop_cons h1
    have bq:k<4611686018427387904:=by omega
    simp only [Ex.eI]at h2
    simp only [Ex.aN]at h3
    have hy:=fun {s:St} {t:Nat} (ht:s.av[t]? = some (some bt.length))=>hk y (List.mem_of_getElem? hF) bt (by omega) ht
    have hl:=jC bt y
    repeat' (first
 | simp only [go_sem,hD,hF,hJ,hP]
 | (with_reducible refine CU (hy (by with_unfolding_all rfl)) ?_)
 | (with_reducible refine aJ hQ ?_;simp only [aw,ay,Option.some.injEq,exists_eq_left',go_sem,hD,hF,hJ,hP];repeat' (first | exact Ok.out | with_reducible refine aI ?_ ?_ | (simp;done))))
    refine da 1 1 ?_ ?_ (IH (rest,k+1,_,_) ⟨g2,h2,by dsimp only;omega,rfl⟩ (Nat.lt_succ_self _))
    ·(simp only [go_sem,hD,hF,hJ,hP,aD bq];try exact bo)
    ·(simp only [go_sem,hD,hF,hJ,hP,aD bq];try exact bo)
 ·simp only [b1,Bool.false_and,Bool.false_eq_true,if_false]at hG
  repeat' (first
 | simp only [go_sem,hD,hF,hJ,hP,b1]
 | (with_reducible refine aJ hQ ?_;simp only [aw,ay,Option.some.injEq,exists_eq_left',go_sem,hD,hF,hJ,hP];repeat' (first | exact Ok.out | with_reducible refine aI ?_ ?_ | (simp;done))))
  refine dc 1 1 (bk.ind (ι:=List Ex×Nat×List aA×Nat) (fun i=>kids.drop i.2.1=i.1∧Ex.eI i.2.2.1 i.1=R∧i.2.2.1.length+Ex.aN i.1≤1000000000∧i.2.2.2=i.2.2.1.length) (fun i=>i.1.length)
   (fun i=> [(1, .slice (.tok 0) 1 (i.2.2.1.map encStr)),(2, .ptr 0 0),(23, .slice .shared 4 (kids.map bj)),(24, .int .i64 (kids.length:Int)),(25, .int .i64 (i.2.1:Int))]) (fun i=>⟨[bj ⟨op,m,name,kids⟩],[some i.2.2.2]⟩) ?_ (kids,0,out,out.length) ⟨rfl,hG,by simp;omega,by simp⟩)
  rintro⟨rest,k,bt,n'⟩ ⟨h1,h2,h3,h4⟩ IH
  dsimp only at h1 h2 h3 h4
  subst h4
  cases rest with
  | nil=>
   have hD:=drop_nil h1
   simp only [Ex.eI]at h2
   subst h2
   repeat' (first
 | simp only [go_sem,hD,hF,hJ,hP]
 | (with_reducible refine aJ hQ ?_;simp only [aw,ay,Option.some.injEq,exists_eq_left',go_sem,hD,hF,hJ,hP];repeat' (first | exact Ok.out | with_reducible refine aI ?_ ?_ | (simp;done))))
  | cons y rest=>
   obtain⟨hF,g2,hD,g4⟩:=drop_cons h1
   have bq:k<4611686018427387904:=by omega
   simp only [Ex.eI]at h2
   simp only [Ex.aN]at h3
   have hy:=fun {s:St} {t:Nat} (ht:s.av[t]? = some (some bt.length))=>hk y (List.mem_of_getElem? hF) bt (by omega) ht
   have hl:=jC bt y
   repeat' (first
 | simp only [go_sem,hD,hF,hJ,hP]
 | (with_reducible refine CU (hy (by with_unfolding_all rfl)) ?_)
 | (with_reducible refine aJ hQ ?_;simp only [aw,ay,Option.some.injEq,exists_eq_left',go_sem,hD,hF,hJ,hP];repeat' (first | exact Ok.out | with_reducible refine aI ?_ ?_ | (simp;done))))
   refine da 1 1 ?_ ?_ (IH (rest,k+1,_,_) ⟨g2,h2,by dsimp only;omega,rfl⟩ (Nat.lt_succ_self _))
   ·(simp only [go_sem,hD,hF,hJ,hP,aD bq];try exact bo)
   ·(simp only [go_sem,hD,hF,hJ,hP,aD bq];try exact bo)
theorem Kt : ∀ N,HM N:=by
 intro N
 induction N with
 | zero=>rintro⟨op,m,name,kids⟩ h;simp only [Ex.size]at h;omega
 | succ N ih=>
  rintro⟨op,m,name,kids⟩ h out ho s t ht
  exact(Qb ih h ho).Ea (pre:= [_]) (post:= []) (by simp only [D.bG,D.ok,fZ];rfl) rfl (dJ out) (dJ _) ht
abbrev Dg (N:Nat):Prop:=∀ (x:Ex),x.size≤N→∀ out:List aA,out.length+x.size≤1000000000→∀ {s:St} {t:Nat},s.av[t]? = some (some out.length)→
 aG Tryz.prog gI [.agg (bj x), .slice (.tok t) 1 (out.map encStr)] s (.slice (.tok t) 1 ((x.fB out).map encStr)) ⟨s.au,s.av.set t (some (x.fB out).length)⟩
theorem Ns {N:Nat} (ih:Dg N) {op m:Int} {name:aA} {kids:List Ex} (h:Ex.size ⟨op,m,name,kids⟩≤N+1) {out:List aA} (ho:out.length+Ex.size ⟨op,m,name,kids⟩≤1000000000) :
 aG Tryz.prog gI [.agg (bj ⟨op,m,name,kids⟩), .slice (.tok 0) 1 (out.map encStr)] ⟨[],[some out.length]⟩ (.slice (.tok 0) 1 ((Ex.fB out ⟨op,m,name,kids⟩).map encStr)) ⟨[],[some (Ex.fB out ⟨op,m,name,kids⟩).length]⟩:=by
 obtain⟨R,hG⟩ : ∃ R,Ex.fB out ⟨op,m,name,kids⟩=R:=⟨_,rfl⟩
 rw [hG]
 simp only [Ex.fB]at hG
 simp only [Ex.size]at h ho
 have hlen:kids.length<1000000000:=by have:=Ex.cu kids;omega
 have hk : ∀ y∈kids,∀ out:List aA,out.length+y.size≤1000000000→∀ {s:St} {t:Nat},s.av[t]? = some (some out.length)→
  aG Tryz.prog gI [.agg (bj y), .slice (.tok t) 1 (out.map encStr)] s (.slice (.tok t) 1 ((y.fB out).map encStr)) ⟨s.au,s.av.set t (some (y.fB out).length)⟩:=fun y hy out ho=>
  ih y (by have:=Ex.bA hy;omega) out ho
 have pV:=fun {s:St} {t:Nat} (ht:s.av[t]? = some (some out.length))=>Ks (out:=out) (by omega) name ht
 refine aG.go pd rfl fun B Q hB hQ=> ?_
 have⟨hD,hF,hJ,hP⟩:=bP
 have hJ:(out.length+1)*17≤bb:=by unfold bb;omega
 rcases Bool.eq_false_or_eq_true (op==2)with b1 | b1
 ·rcases Bool.eq_false_or_eq_true (dK out name)with b2 | b2
  ·simp only [b1,b2,Bool.not_true,Bool.and_false,Bool.false_eq_true,if_false]at hG
   simp only [kr,b2,if_true]at pV
   repeat' (first
 | simp only [go_sem,hD,hF,hJ,hP,b1,b2]
 | (with_reducible refine CU (pV (by with_unfolding_all rfl)) ?_)
 | (with_reducible refine aJ hQ ?_;simp only [aw,ay,Option.some.injEq,exists_eq_left',go_sem,hD,hF,hJ,hP];repeat' (first | exact Ok.out | with_reducible refine aI ?_ ?_ | (simp;done))))
   refine dc 1 1 (bk.ind (ι:=List Ex×Nat×List aA×Nat) (fun i=>kids.drop i.2.1=i.1∧Ex.eI i.2.2.1 i.1=R∧i.2.2.1.length+Ex.aN i.1≤1000000000∧i.2.2.2=i.2.2.1.length) (fun i=>i.1.length)
    (fun i=> [(1, .slice (.tok 0) 1 (i.2.2.1.map encStr)),(2, .ptr 0 0),(15, .int .i64 (kids.length:Int)),(16, .int .i64 (i.2.1:Int))]) (fun i=>⟨[bj ⟨op,m,name,kids⟩],[some i.2.2.2]⟩) ?_ (kids,0,out,out.length) ⟨rfl,hG,by simp;omega,by simp⟩)
   rintro⟨rest,k,bt,n'⟩ ⟨h1,h2,h3,h4⟩ IH
   dsimp only at h1 h2 h3 h4
   subst h4
   cases rest with
   | nil=>
    have hD:=drop_nil h1
    simp only [Ex.eI]at h2
    subst h2
    repeat' (first
 | simp only [go_sem,hD,hF,hJ,hP]
 | (with_reducible refine aJ hQ ?_;simp only [aw,ay,Option.some.injEq,exists_eq_left',go_sem,hD,hF,hJ,hP];repeat' (first | exact Ok.out | with_reducible refine aI ?_ ?_ | (simp;done))))
   | cons y rest=>
    obtain⟨hF,g2,hD,g4⟩:=drop_cons h1
    have bq:k<4611686018427387904:=by omega
    simp only [Ex.eI]at h2
    simp only [Ex.aN]at h3
    have hy:=fun {s:St} {t:Nat} (ht:s.av[t]? = some (some bt.length))=>hk y (List.mem_of_getElem? hF) bt (by omega) ht
    have hl:=jC bt y
    repeat' (first
 | simp only [go_sem,hD,hF,hJ,hP]
 | (with_reducible refine CU (hy (by with_unfolding_all rfl)) ?_)
 | (with_reducible refine aJ hQ ?_;simp only [aw,ay,Option.some.injEq,exists_eq_left',go_sem,hD,hF,hJ,hP];repeat' (first | exact Ok.out | with_reducible refine aI ?_ ?_ | (simp;done))))
    refine da 1 1 ?_ ?_ (IH (rest,k+1,_,_) ⟨g2,h2,by dsimp only;omega,rfl⟩ (Nat.lt_succ_self _))
    ·(simp only [go_sem,hD,hF,hJ,hP,aD bq];try exact bo)
    ·(simp only [go_sem,hD,hF,hJ,hP,aD bq];try exact bo)
  ·simp only [b1,b2,Bool.not_false,Bool.and_true,if_true]at hG
   simp only [kr,b2,Bool.false_eq_true,if_false,List.length_append,List.length_cons,List.length_nil]at pV
   repeat' (first
 | simp only [go_sem,hD,hF,hJ,hP,b1,b2]
 | (with_reducible refine CU (pV (by with_unfolding_all rfl)) ?_)
 | (with_reducible refine aJ hQ ?_;simp only [aw,ay,Option.some.injEq,exists_eq_left',go_sem,hD,hF,hJ,hP];repeat' (first | exact Ok.out | with_reducible refine aI ?_ ?_ | (simp;done))))
   refine da 1 1 ?_ ?_ (bk.ind (ι:=List Ex×Nat×List aA×Nat) (fun i=>kids.drop i.2.1=i.1∧Ex.eI i.2.2.1 i.1=R∧i.2.2.1.length+Ex.aN i.1≤1000000000∧i.2.2.2=i.2.2.1.length) (fun i=>i.1.length)
    (fun i=> [(1, .slice (.tok 0) 1 (i.2.2.1.map encStr)),(2, .ptr 0 0),(15, .int .i64 (kids.length:Int)),(16, .int .i64 (i.2.1:Int))]) (fun i=>⟨[bj ⟨op,m,name,kids⟩],[some i.2.2.2]⟩) ?_ (kids,0,(out++ [name]),(out.length+1)) ⟨rfl,hG,by simp;omega,by simp⟩)
   ·(simp only [go_sem,hD,hF,hJ,hP,List.map_append,List.map_cons,List.map_nil,List.length_append,List.length_cons,List.length_nil,encStr];try exact bo)
   ·(simp only [go_sem,hD,hF,hJ,hP,List.map_append,List.map_cons,List.map_nil,List.length_append,List.length_cons,List.length_nil,encStr];try exact bo)
   rintro⟨rest,k,bt,n'⟩ ⟨h1,h2,h3,h4⟩ IH
   dsimp only at h1 h2 h3 h4
   subst h4
   cases rest with
   | nil=>
    have hD:=drop_nil h1
    simp only [Ex.eI]at h2
    subst h2
    repeat' (first
 | simp only [go_sem,hD,hF,hJ,hP]
 | (with_reducible refine aJ hQ ?_;simp only [aw,ay,Option.some.injEq,exists_eq_left',go_sem,hD,hF,hJ,hP];repeat' (first | exact Ok.out | with_reducible refine aI ?_ ?_ | (simp;done))))
   | cons y rest=>
    obtain⟨hF,g2,hD,g4⟩:=drop_cons h1
    have bq:k<4611686018427387904:=by omega
    simp only [Ex.eI]at h2
    simp only [Ex.aN]at h3
    have hy:=fun {s:St} {t:Nat} (ht:s.av[t]? = some (some bt.length))=>hk y (List.mem_of_getElem? hF) bt (by omega) ht
    have hl:=jC bt y
    repeat' (first
 | simp only [go_sem,hD,hF,hJ,hP]
 | (with_reducible refine CU (hy (by with_unfolding_all rfl)) ?_)
 | (with_reducible refine aJ hQ ?_;simp only [aw,ay,Option.some.injEq,exists_eq_left',go_sem,hD,hF,hJ,hP];repeat' (first | exact Ok.out | with_reducible refine aI ?_ ?_ | (simp;done))))
    refine da 1 1 ?_ ?_ (IH (rest,k+1,_,_) ⟨g2,h2,by dsimp only;omega,rfl⟩ (Nat.lt_succ_self _))
    ·(simp only [go_sem,hD,hF,hJ,hP,aD bq];try exact bo)
    ·(simp only [go_sem,hD,hF,hJ,hP,aD bq];try exact bo)
 ·simp only [b1,Bool.false_and,Bool.false_eq_true,if_false]at hG
  repeat' (first
 | simp only [go_sem,hD,hF,hJ,hP,b1]
 | (with_reducible refine aJ hQ ?_;simp only [aw,ay,Option.some.injEq,exists_eq_left',go_sem,hD,hF,hJ,hP];repeat' (first | exact Ok.out | with_reducible refine aI ?_ ?_ | (simp;done))))
  refine dc 1 1 (bk.ind (ι:=List Ex×Nat×List aA×Nat) (fun i=>kids.drop i.2.1=i.1∧Ex.eI i.2.2.1 i.1=R∧i.2.2.1.length+Ex.aN i.1≤1000000000∧i.2.2.2=i.2.2.1.length) (fun i=>i.1.length)
   (fun i=> [(1, .slice (.tok 0) 1 (i.2.2.1.map encStr)),(2, .ptr 0 0),(15, .int .i64 (kids.length:Int)),(16, .int .i64 (i.2.1:Int))]) (fun i=>⟨[bj ⟨op,m,name,kids⟩],[some i.2.2.2]⟩) ?_ (kids,0,out,out.length) ⟨rfl,hG,by simp;omega,by simp⟩)
  rintro⟨rest,k,bt,n'⟩ ⟨h1,h2,h3,h4⟩ IH
  dsimp only at h1 h2 h3 h4
  subst h4
  cases rest with
  | nil=>
   have hD:=drop_nil h1
   simp only [Ex.eI]at h2
   subst h2
   repeat' (first
 | simp only [go_sem,hD,hF,hJ,hP]
 | (with_reducible refine aJ hQ ?_;simp only [aw,ay,Option.some.injEq,exists_eq_left',go_sem,hD,hF,hJ,hP];repeat' (first | exact Ok.out | with_reducible refine aI ?_ ?_ | (simp;done))))
  | cons y rest=>
   obtain⟨hF,g2,hD,g4⟩:=drop_cons h1
   have bq:k<4611686018427387904:=by omega
   simp only [Ex.eI]at h2
   simp only [Ex.aN]at h3
   have hy:=fun {s:St} {t:Nat} (ht:s.av[t]? = some (some bt.length))=>hk y (List.mem_of_getElem? hF) bt (by omega) ht
   have hl:=jC bt y
   repeat' (first
 | simp only [go_sem,hD,hF,hJ,hP]
 | (with_reducible refine CU (hy (by with_unfolding_all rfl)) ?_)
 | (with_reducible refine aJ hQ ?_;simp only [aw,ay,Option.some.injEq,exists_eq_left',go_sem,hD,hF,hJ,hP];repeat' (first | exact Ok.out | with_reducible refine aI ?_ ?_ | (simp;done))))
   refine da 1 1 ?_ ?_ (IH (rest,k+1,_,_) ⟨g2,h2,by dsimp only;omega,rfl⟩ (Nat.lt_succ_self _))
   ·(simp only [go_sem,hD,hF,hJ,hP,aD bq];try exact bo)
   ·(simp only [go_sem,hD,hF,hJ,hP,aD bq];try exact bo)
theorem HN : ∀ N,Dg N:=by
 intro N
 induction N with
 | zero=>rintro⟨op,m,name,kids⟩ h;simp only [Ex.size]at h;omega
 | succ N ih=>
  rintro⟨op,m,name,kids⟩ h out ho s t ht
  exact(Ns ih h ho).Ea (pre:= [_]) (post:= []) (by simp only [D.bG,D.ok,fZ];rfl) rfl (dJ out) (dJ _) ht
end Go.Abs

/-! Nm2 -/

namespace Go.Abs
set_option maxRecDepth 8000
open Go.Proofs
theorem FA (x:aA) (s:St):aG Tryz.prog kF [.slice .full 0 [], .str x] s (.slice .shared 1 [[.str x]]) s:=by
 refine aG.pure ?_ rfl rfl s
 unfold S0
 refine aG.go qK rfl fun B Q hB hQ=> ?_
 have⟨hD,hF,hJ,hP⟩:=bP
 have hJ:17≤bb:=by unfold bb;omega
 repeat' (first
 | simp only [go_sem,hD,hF,hJ,hP,Int.lt_irrefl,decide_false]
 | (with_reducible refine bk.sF ?_)
 | (with_reducible refine aJ hQ ?_;simp only [aw,ay,Option.some.injEq,exists_eq_left',go_sem,hD,hF,hJ,hP];repeat' (first | exact Ok.out | with_reducible refine aI ?_ ?_ | (simp;done))))
theorem zn {op m:Int} {name:aA} {kids:List Ex} (h:Ex.form ⟨op,m,name,kids⟩=true) (h2:(op==2)=true):kids = []:=by
 have e:op=2:=by simpa using h2
 subst e
 simp only [Ex.form]at h
 split at h
 ·cases h
 ·rename_i hh
  simp only [Bool.or_eq_true,not_or,bne_iff_ne,ne_eq,Decidable.not_not]at hh
  have:=hh.1.1.1.1
  have e:jZ 2=0:=rfl
  rw [e]at this
  exact List.length_eq_zero_iff.1 (by omega)
theorem Ku {op m:Int} {name:aA} {kids:List Ex} (hf:(op==2)=true→kids = []) (ho:Ex.size ⟨op,m,name,kids⟩≤1000000000) (s:St) :
 aG Tryz.prog fK [.agg (bj ⟨op,m,name,kids⟩), .slice .full 0 []] s (.slice .shared 1 ((Ex.fB [] ⟨op,m,name,kids⟩).map encStr)) s:=by
 refine aG.pure ?_ (by simp only [D.bG,D.ok,fZ];rfl) (by simp only [D.ok,Tag.ok,dJ];rfl) s
 obtain⟨R,hG⟩ : ∃ R,Ex.fB [] ⟨op,m,name,kids⟩=R:=⟨_,rfl⟩
 rw [hG]
 simp only [Ex.fB]at hG
 simp only [Ex.size]at ho
 have hlen:kids.length<1000000000:=by have:=Ex.cu kids;omega
 have hk : ∀ y∈kids,∀ out:List aA,out.length+y.size≤1000000000→∀ {s:St} {t:Nat},s.av[t]? = some (some out.length)→
  aG Tryz.prog fK [.agg (bj y), .slice (.tok t) 1 (out.map encStr)] s (.slice (.tok t) 1 ((y.fB out).map encStr)) ⟨s.au,s.av.set t (some (y.fB out).length)⟩:=fun y hy out ho=>
  Kt y.size y (Nat.le_refl _) out ho
 unfold S0
 rcases Bool.eq_false_or_eq_true (op==2)with b1 | b1
 ·have HO:=hf b1
  subst HO
  have e:dK [] name=false:=rfl
  simp only [b1,e,Bool.not_false,Bool.and_true,if_true,Ex.eI,List.nil_append]at hG
  subst hG
  refine aG.go nC rfl fun B Q hB hQ=> ?_
  have⟨hD,hF,hJ,hP⟩:=bP
  have hJ:17≤bb:=by unfold bb;omega
  repeat' (first
 | simp only [go_sem,hD,hF,hJ,hP,b1,List.map_nil,List.map_cons,List.length_nil,encStr,Int.natCast_zero,Int.lt_irrefl,decide_false]
 | (with_reducible refine CU (BK name _ _ _) ?_)
 | (with_reducible refine bk.sF ?_)
 | (with_reducible refine aJ hQ ?_;simp only [aw,ay,Option.some.injEq,exists_eq_left',go_sem,hD,hF,hJ,hP];repeat' (first | exact Ok.out | with_reducible refine aI ?_ ?_ | (simp;done))))
 ·simp only [b1,Bool.false_and,Bool.false_eq_true,if_false]at hG
  refine aG.go nC rfl fun B Q hB hQ=> ?_
  have⟨hD,hF,hJ,hP⟩:=bP
  repeat' (first
 | simp only [go_sem,hD,hF,hJ,hP,b1]
 | (with_reducible refine aJ hQ ?_;simp only [aw,ay,Option.some.injEq,exists_eq_left',go_sem,hD,hF,hJ,hP];repeat' (first | exact Ok.out | with_reducible refine aI ?_ ?_ | (simp;done))))
  refine bk.ng 1 1 rfl ?_
  simp only [go_sem,hD,hF,hJ,hP]
  refine dc 1 1 (bk.ind (ι:=List Ex×Nat×List aA×Nat) (fun i=>kids.drop i.2.1=i.1∧Ex.eI i.2.2.1 i.1=R∧i.2.2.1.length+Ex.aN i.1≤1000000000∧i.2.2.2=i.2.2.1.length) (fun i=>i.1.length)
   (fun i=> [(1, .slice (.tok 0) 1 (i.2.2.1.map encStr)),(2, .ptr 0 0),(23, .slice .shared 4 (kids.map bj)),(24, .int .i64 (kids.length:Int)),(25, .int .i64 (i.2.1:Int))]) (fun i=>⟨[bj ⟨op,m,name,kids⟩],[some i.2.2.2]⟩) ?_ (kids,0,[],0) ⟨rfl,hG,by simp;omega,by simp⟩)
  rintro⟨rest,k,bt,n'⟩ ⟨h1,h2,h3,h4⟩ IH
  dsimp only at h1 h2 h3 h4
  subst h4
  cases rest with
  | nil=>
   have hD:=drop_nil h1
   simp only [Ex.eI]at h2
   subst h2
   repeat' (first
 | simp only [go_sem,hD,hF,hJ,hP]
 | (with_reducible refine aJ hQ ?_;simp only [aw,ay,Option.some.injEq,exists_eq_left',go_sem,hD,hF,hJ,hP];repeat' (first | exact Ok.out | with_reducible refine aI ?_ ?_ | (simp;done))))
  | cons y rest=>
   obtain⟨hF,g2,hD,g4⟩:=drop_cons h1
   have bq:k<4611686018427387904:=by omega
   simp only [Ex.eI]at h2
   simp only [Ex.aN]at h3
   have hy:=fun {s:St} {t:Nat} (ht:s.av[t]? = some (some bt.length))=>hk y (List.mem_of_getElem? hF) bt (by omega) ht
   have hl:=jC bt y
   repeat' (first
 | simp only [go_sem,hD,hF,hJ,hP]
 | (with_reducible refine CU (hy (by with_unfolding_all rfl)) ?_)
 | (with_reducible refine aJ hQ ?_;simp only [aw,ay,Option.some.injEq,exists_eq_left',go_sem,hD,hF,hJ,hP];repeat' (first | exact Ok.out | with_reducible refine aI ?_ ?_ | (simp;done))))
   refine da 1 1 ?_ ?_ (IH (rest,k+1,_,_) ⟨g2,h2,by dsimp only;omega,rfl⟩ (Nat.lt_succ_self _))
   ·(simp only [go_sem,hD,hF,hJ,hP,aD bq];try exact bo)
   ·(simp only [go_sem,hD,hF,hJ,hP,aD bq];try exact bo)
theorem HP {op m:Int} {name:aA} {kids:List Ex} (hf:(op==2)=true→kids = []) (ho:Ex.size ⟨op,m,name,kids⟩≤1000000000) (s:St) :
 aG Tryz.prog gI [.agg (bj ⟨op,m,name,kids⟩), .slice .full 0 []] s (.slice .shared 1 ((Ex.fB [] ⟨op,m,name,kids⟩).map encStr)) s:=by
 refine aG.pure ?_ (by simp only [D.bG,D.ok,fZ];rfl) (by simp only [D.ok,Tag.ok,dJ];rfl) s
 obtain⟨R,hG⟩ : ∃ R,Ex.fB [] ⟨op,m,name,kids⟩=R:=⟨_,rfl⟩
 rw [hG]
 simp only [Ex.fB]at hG
 simp only [Ex.size]at ho
 have hlen:kids.length<1000000000:=by have:=Ex.cu kids;omega
 have hk : ∀ y∈kids,∀ out:List aA,out.length+y.size≤1000000000→∀ {s:St} {t:Nat},s.av[t]? = some (some out.length)→
  aG Tryz.prog gI [.agg (bj y), .slice (.tok t) 1 (out.map encStr)] s (.slice (.tok t) 1 ((y.fB out).map encStr)) ⟨s.au,s.av.set t (some (y.fB out).length)⟩:=fun y hy out ho=>
  HN y.size y (Nat.le_refl _) out ho
 unfold S0
 rcases Bool.eq_false_or_eq_true (op==2)with b1 | b1
 ·have HO:=hf b1
  subst HO
  have e:dK [] name=false:=rfl
  simp only [b1,e,Bool.not_false,Bool.and_true,if_true,Ex.eI,List.nil_append]at hG
  subst hG
  refine aG.go pd rfl fun B Q hB hQ=> ?_
  have⟨hD,hF,hJ,hP⟩:=bP
  have hJ:17≤bb:=by unfold bb;omega
  repeat' (first
 | simp only [go_sem,hD,hF,hJ,hP,b1,List.map_nil,List.map_cons,List.length_nil,encStr,Int.natCast_zero,Int.lt_irrefl,decide_false]
 | (with_reducible refine CU (FA name _) ?_)
 | (with_reducible refine bk.sF ?_)
 | (with_reducible refine aJ hQ ?_;simp only [aw,ay,Option.some.injEq,exists_eq_left',go_sem,hD,hF,hJ,hP];repeat' (first | exact Ok.out | with_reducible refine aI ?_ ?_ | (simp;done))))
 ·simp only [b1,Bool.false_and,Bool.false_eq_true,if_false]at hG
  refine aG.go pd rfl fun B Q hB hQ=> ?_
  have⟨hD,hF,hJ,hP⟩:=bP
  repeat' (first
 | simp only [go_sem,hD,hF,hJ,hP,b1]
 | (with_reducible refine aJ hQ ?_;simp only [aw,ay,Option.some.injEq,exists_eq_left',go_sem,hD,hF,hJ,hP];repeat' (first | exact Ok.out | with_reducible refine aI ?_ ?_ | (simp;done))))
  refine bk.ng 1 1 rfl ?_
  simp only [go_sem,hD,hF,hJ,hP]
  refine dc 1 1 (bk.ind (ι:=List Ex×Nat×List aA×Nat) (fun i=>kids.drop i.2.1=i.1∧Ex.eI i.2.2.1 i.1=R∧i.2.2.1.length+Ex.aN i.1≤1000000000∧i.2.2.2=i.2.2.1.length) (fun i=>i.1.length)
   (fun i=> [(1, .slice (.tok 0) 1 (i.2.2.1.map encStr)),(2, .ptr 0 0),(15, .int .i64 (kids.length:Int)),(16, .int .i64 (i.2.1:Int))]) (fun i=>⟨[bj ⟨op,m,name,kids⟩],[some i.2.2.2]⟩) ?_ (kids,0,[],0) ⟨rfl,hG,by simp;omega,by simp⟩)
  rintro⟨rest,k,bt,n'⟩ ⟨h1,h2,h3,h4⟩ IH
  dsimp only at h1 h2 h3 h4
  subst h4
  cases rest with
  | nil=>
   have hD:=drop_nil h1
   simp only [Ex.eI]at h2
   subst h2
   repeat' (first
 | simp only [go_sem,hD,hF,hJ,hP]
 | (with_reducible refine aJ hQ ?_;simp only [aw,ay,Option.some.injEq,exists_eq_left',go_sem,hD,hF,hJ,hP];repeat' (first | exact Ok.out | with_reducible refine aI ?_ ?_ | (simp;done))))
  | cons y rest=>
   obtain⟨hF,g2,hD,g4⟩:=drop_cons h1
   have bq:k<4611686018427387904:=by omega
   simp only [Ex.eI]at h2
   simp only [Ex.aN]at h3
   have hy:=fun {s:St} {t:Nat} (ht:s.av[t]? = some (some bt.length))=>hk y (List.mem_of_getElem? hF) bt (by omega) ht
   have hl:=jC bt y
   repeat' (first
 | simp only [go_sem,hD,hF,hJ,hP]
 | (with_reducible refine CU (hy (by with_unfolding_all rfl)) ?_)
 | (with_reducible refine aJ hQ ?_;simp only [aw,ay,Option.some.injEq,exists_eq_left',go_sem,hD,hF,hJ,hP];repeat' (first | exact Ok.out | with_reducible refine aI ?_ ?_ | (simp;done))))
   refine da 1 1 ?_ ?_ (IH (rest,k+1,_,_) ⟨g2,h2,by dsimp only;omega,rfl⟩ (Nat.lt_succ_self _))
   ·(simp only [go_sem,hD,hF,hJ,hP,aD bq];try exact bo)
   ·(simp only [go_sem,hD,hF,hJ,hP,aD bq];try exact bo)
theorem j6 {x:Ex} (hx:x.size≤1000000000) (ht:x.texts) (s:St):aG Tryz.prog np [.agg (bj x)] s (.slice .shared 1 (x.names.map encStr)) s:=by
 refine aG.pure ?_ (by simp only [D.bG,D.ok,fZ];rfl) (by simp only [D.ok,Tag.ok,dJ];rfl) s
 have hm:=fun s=>xn (x:=x) (by omega) ht s
 simp only [HL]at hm
 unfold Ex.names
 unfold S0
 cases hb:x.may
 ·simp only [hb]at hm
  simp only [Bool.false_eq_true,if_false,List.map_nil]
  refine aG.go sa rfl fun B Q hB hQ=> ?_
  have⟨hD,hF,hJ,hP⟩:=bP
  repeat' (first
 | simp only [go_sem,hD,hF,hJ,hP]
 | (with_reducible refine CU (hm _) ?_)
 | (with_reducible refine aJ hQ ?_;simp only [aw,ay,Option.some.injEq,exists_eq_left',go_sem,hD,hF,hJ,hP];repeat' (first | exact Ok.out | with_reducible refine aI ?_ ?_ | (simp;done))))
 ·simp only [hb]at hm
  simp only [if_true]
  have hg : ∀ s,aG Tryz.prog fK [.agg (bj x), .slice .full 0 []] s (.slice .shared 1 ((x.fB []).map encStr)) s:=by
   intro s
   obtain⟨op,m,name,kids⟩:=x
   exact Ku (fun h2=>zn (by simp only [Ex.may,Bool.and_eq_true]at hb;exact hb.2) h2) hx s
  refine aG.go sa rfl fun B Q hB hQ=> ?_
  have⟨hD,hF,hJ,hP⟩:=bP
  repeat' (first
 | simp only [go_sem,hD,hF,hJ,hP]
 | (with_reducible refine CU (hm _) ?_)
 | (with_reducible refine CU (hg _) ?_)
 | (with_reducible refine aJ hQ ?_;simp only [aw,ay,Option.some.injEq,exists_eq_left',go_sem,hD,hF,hJ,hP];repeat' (first | exact Ok.out | with_reducible refine aI ?_ ?_ | (simp;done))))
theorem j7 {x:Ex} (hx:x.size≤1000000000) (ht:x.texts) (s:St):aG Tryz.prog nk [.agg (bj x)] s (.slice .shared 1 (x.names.map encStr)) s:=by
 refine aG.pure ?_ (by simp only [D.bG,D.ok,fZ];rfl) (by simp only [D.ok,Tag.ok,dJ];rfl) s
 have hm:=fun s=>Ho (x:=x) (by omega) ht s
 unfold Ex.names
 unfold S0
 cases hb:x.may
 ·simp only [hb]at hm
  simp only [Bool.false_eq_true,if_false,List.map_nil]
  refine aG.go rY rfl fun B Q hB hQ=> ?_
  have⟨hD,hF,hJ,hP⟩:=bP
  repeat' (first
 | simp only [go_sem,hD,hF,hJ,hP]
 | (with_reducible refine CU (hm _) ?_)
 | (with_reducible refine aJ hQ ?_;simp only [aw,ay,Option.some.injEq,exists_eq_left',go_sem,hD,hF,hJ,hP];repeat' (first | exact Ok.out | with_reducible refine aI ?_ ?_ | (simp;done))))
 ·simp only [hb]at hm
  simp only [if_true]
  have hg : ∀ s,aG Tryz.prog gI [.agg (bj x), .slice .full 0 []] s (.slice .shared 1 ((x.fB []).map encStr)) s:=by
   intro s
   obtain⟨op,m,name,kids⟩:=x
   exact HP (fun h2=>zn (by simp only [Ex.may,Bool.and_eq_true]at hb;exact hb.2) h2) hx s
  refine aG.go rY rfl fun B Q hB hQ=> ?_
  have⟨hD,hF,hJ,hP⟩:=bP
  repeat' (first
 | simp only [go_sem,hD,hF,hJ,hP]
 | (with_reducible refine CU (hm _) ?_)
 | (with_reducible refine CU (hg _) ?_)
 | (with_reducible refine aJ hQ ?_;simp only [aw,ay,Option.some.injEq,exists_eq_left',go_sem,hD,hF,hJ,hP];repeat' (first | exact Ok.out | with_reducible refine aI ?_ ?_ | (simp;done))))
end Go.Abs

/-! Nm3 -/

namespace Go.Abs
set_option maxRecDepth 8000
open Go.Proofs
def Ar.said (out:List aA):List Ar→List aA
 | []=>out
 | a::l=>Ar.said ((if a.ref then out++ [a.name]else out)++a.x.names) l
def Sm.nF (v:Sm):List aA:=if v.kind != 10 && v.name != []then [v.name]else []
def Sm.said (v:Sm):List aA:=Ar.said (v.nF++v.x.names) v.args
theorem eU (x:Ex):x.names.length≤x.size:=by
 unfold Ex.names
 split
 ·simpa using jC [] x
 ·exact Nat.zero_le _
def Ar.qd:List Ar→Prop
 | []=>True
 | a::l=>a.x.texts∧Ar.qd l
def Sm.oQ (v:Sm):Prop:=v.x.texts∧(∀ a∈v.args,a.x.texts)∧v.x.size+Ar.aN v.args<1000000
theorem dR {l nx:List aA} {n:Nat} (hn:n=l.length) (h:l.length+nx.length≤1000000000) {g:Tag} (o:List (List D)) :
 fY 1 16 (.slice (.tok 0) 1 (l.map encStr)) (.slice g 1 (nx.map encStr)) ⟨o,[some n]⟩=some (.slice (.tok 0) 1 ((l++nx).map encStr),⟨o,[some (l++nx).length]⟩):=by
 subst hn
 have:=wb (size:=1) (bytes:=16) (t:=0) (rows:=l.map encStr) (new:=nx.map encStr) (g:=g) (s:=⟨o,[some l.length]⟩) (by simp only [List.length_map];unfold bb;omega) (by simp)
 rw [this]
 simp
theorem uI {v:Sm} (hv:v.oQ) (s:St):aG Tryz.prog nj [.agg (bd v)] s (.slice .shared 1 (v.said.map encStr)) s:=by
 refine aG.pure ?_ (by simp only [D.bG,D.ok,pX];rfl) (by simp only [D.ok,Tag.ok,dJ];rfl) s
 obtain⟨Qc,uJ,dI⟩:=hv
 obtain⟨R,hG⟩ : ∃ R,v.said=R:=⟨_,rfl⟩
 rw [hG]
 simp only [Sm.said]at hG
 have hlen:v.args.length<1000000000:=by have:=Ar.cu v.args;omega
 have hx:=fun s=>j6 (x:=v.x) (by omega) Qc s
 have sf:=eU v.x
 unfold S0
 refine aG.go yd rfl fun B Q hB hQ=> ?_
 have⟨hD,hF,hJ,hP⟩:=bP
 have hJ:17≤bb:=by unfold bb;omega
 by_cases hb:(v.kind != 10 && v.name != [])=true
 ·simp only [Sm.nF,hb,if_true]at hG
  rw [Bool.and_eq_true]at hb
  obtain⟨b1,b2⟩:=hb
  have cP:=dR (l:= [v.name]) (nx:=v.x.names) (n:=1) rfl (by simp;omega) (g:= .shared)
  simp only [List.map_append,List.map_cons,List.map_nil,encStr]at cP
  have b3:(v.name == [])=false:=by simpa using b2
  repeat' (first
 | simp only [go_sem,hD,hF,hJ,hP,b1,b2,b3,cP]
 | (with_reducible refine CU (hx _) ?_)
 | (with_reducible refine aJ hQ ?_;simp only [aw,ay,Option.some.injEq,exists_eq_left',go_sem,hD,hF,hJ,hP];repeat' (first | exact Ok.out | with_reducible refine aI ?_ ?_ | (simp;done))))
  refine da 1 1 ?_ ?_ (bk.ind (ι:=List Ar×Nat×List aA×Nat) (fun i=>v.args.drop i.2.1=i.1∧Ar.said i.2.2.1 i.1=R∧i.2.2.1.length+Ar.aN i.1≤2000000∧i.2.2.2=i.2.2.1.length) (fun i=>i.1.length)
   (fun i=> [(3, .slice (.tok 0) 1 (i.2.2.1.map encStr)),(1, .ptr 0 0),(25, .slice .shared 6 (v.args.map df)),(26, .int .i64 (v.args.length:Int)),(27, .int .i64 (i.2.1:Int))]) (fun i=>⟨[bd v],[some i.2.2.2]⟩) ?_ (v.args,0,([v.name]++v.x.names),(v.x.names.length+1)) ⟨rfl,hG,by simp at sf ⊢;omega,by simp⟩)
  ·(simp only [go_sem,hD,hF,hJ,hP,List.map_append,List.map_cons,List.map_nil,encStr];try exact bo)
  ·(simp only [go_sem,hD,hF,hJ,hP,List.map_append,List.map_cons,List.map_nil,encStr];try exact bo)
  rintro⟨rest,k,out,n'⟩ ⟨h1,h2,h3,h4⟩ IH
  dsimp only at h1 h2 h3 h4
  subst h4
  cases rest with
  | nil=>
   have hD:=drop_nil h1
   simp only [Ar.said]at h2
   subst h2
   repeat' (first
 | simp only [go_sem,hD,hF,hJ,hP]
 | (with_reducible refine aJ hQ ?_;simp only [aw,ay,Option.some.injEq,exists_eq_left',go_sem,hD,hF,hJ,hP];repeat' (first | exact Ok.out | with_reducible refine aI ?_ ?_ | (simp;done))))
  | cons a rest=>
   obtain⟨hF,g2,hD,g4⟩:=drop_cons h1
   have bq:k<4611686018427387904:=by omega
   simp only [Ar.said]at h2
   simp only [Ar.aN]at h3
   have jm:=fun s=>j6 (x:=a.x) (by have:=Ar.bA (List.mem_of_getElem? hF);omega) (uJ a (List.mem_of_getElem? hF)) s
   have hl:=eU a.x
   have hJ:(out.length+1)*17≤bb:=by unfold bb;omega
   rcases Bool.eq_false_or_eq_true a.ref with b1 | b1
   ·simp only [b1,if_true]at h2
    have cP:=dR (l:=out++ [a.name]) (nx:=a.x.names) (n:=out.length+1) (by simp) (by simp;omega) (g:= .shared)
    simp only [List.map_append,List.map_cons,List.map_nil,encStr]at cP
    repeat' (first
 | simp only [go_sem,hD,hF,hJ,hP,b1,cP]
 | (with_reducible refine CU (jm _) ?_)
 | (with_reducible refine aJ hQ ?_;simp only [aw,ay,Option.some.injEq,exists_eq_left',go_sem,hD,hF,hJ,hP];repeat' (first | exact Ok.out | with_reducible refine aI ?_ ?_ | (simp;done))))
    refine da 1 1 ?_ ?_ (IH (rest,k+1,out++ [a.name]++a.x.names,_) ⟨g2,h2,by simp;omega,by simp <;> omega⟩ (Nat.lt_succ_self _))
    ·(simp only [go_sem,hD,hF,hJ,hP,aD bq,List.map_append,List.map_cons,List.map_nil,encStr];try exact bo)
    ·(simp only [go_sem,hD,hF,hJ,hP,aD bq,List.map_append,List.map_cons,List.map_nil,encStr];try exact bo)
   ·simp only [b1,Bool.false_eq_true,if_false]at h2
    have cP:=dR (l:=out) (nx:=a.x.names) rfl (by omega) (g:= .shared)
    repeat' (first
 | simp only [go_sem,hD,hF,hJ,hP,b1,cP]
 | (with_reducible refine CU (jm _) ?_)
 | (with_reducible refine aJ hQ ?_;simp only [aw,ay,Option.some.injEq,exists_eq_left',go_sem,hD,hF,hJ,hP];repeat' (first | exact Ok.out | with_reducible refine aI ?_ ?_ | (simp;done))))
    refine da 1 1 ?_ ?_ (IH (rest,k+1,out++a.x.names,_) ⟨g2,h2,by simp;omega,by simp <;> omega⟩ (Nat.lt_succ_self _))
    ·(simp only [go_sem,hD,hF,hJ,hP,aD bq];try exact bo)
    ·(simp only [go_sem,hD,hF,hJ,hP,aD bq];try exact bo)
 ·simp only [Sm.nF,hb,Bool.false_eq_true,if_false,List.nil_append]at hG
  have na:(v.kind != 10 && v.name != [])=false:=by simpa using hb
  obtain⟨nx,HQ⟩ : ∃ nx,nx=v.x.names:=⟨_,rfl⟩
  rw [← HQ]at hG sf
  simp only [← HQ]at hx
  by_cases vy:nx = []
  ·subst vy
   simp only [List.map_nil]at hx
   have cP : ∀ o:List (List D),fY 1 16 (.slice .full 0 []) (.slice .shared 1 []) ⟨o,[]⟩=some (.slice .full 0 [],⟨o,[]⟩):=fun o=>by simp [fY,bb]
   have HB:(v.kind != 10)=false∨(v.kind != 10)=true∧(v.name != [])=false:=by
    cases h1:(v.kind != 10)
    ·exact .inl rfl
    ·rw [h1]at na;exact .inr ⟨rfl,by simpa using na⟩
   rcases HB with b1 | ⟨b1,b2⟩
   ·rcases Bool.eq_false_or_eq_true (v.name != [])with b2 | b2
    all_goals
     have b3:(v.name == []) = !(v.name != []):=by simp only [bne,Bool.not_not]
     rw [b2]at b3
     repeat' (first
 | simp only [go_sem,hD,hF,hJ,hP,b1,b2,b3,Bool.not_true,Bool.not_false,cP]
 | (with_reducible refine CU (hx _) ?_)
 | (with_reducible refine aJ hQ ?_;simp only [aw,ay,Option.some.injEq,exists_eq_left',go_sem,hD,hF,hJ,hP];repeat' (first | exact Ok.out | with_reducible refine aI ?_ ?_ | (simp;done))))
    all_goals
     refine bk.ng 3 1 rfl ?_
     simp only [go_sem,hD,hF,hJ,hP]
     refine dc 1 1 (bk.ind (ι:=List Ar×Nat×List aA×Nat) (fun i=>v.args.drop i.2.1=i.1∧Ar.said i.2.2.1 i.1=R∧i.2.2.1.length+Ar.aN i.1≤2000000∧i.2.2.2=i.2.2.1.length) (fun i=>i.1.length)
      (fun i=> [(3, .slice (.tok 0) 1 (i.2.2.1.map encStr)),(1, .ptr 0 0),(25, .slice .shared 6 (v.args.map df)),(26, .int .i64 (v.args.length:Int)),(27, .int .i64 (i.2.1:Int))]) (fun i=>⟨[bd v],[some i.2.2.2]⟩) ?_ (v.args,0,[],0) ⟨rfl,hG,by simp at sf ⊢;omega,by simp⟩)
     rintro⟨rest,k,out,n'⟩ ⟨h1,h2,h3,h4⟩ IH
     dsimp only at h1 h2 h3 h4
     subst h4
     cases rest with
     | nil=>
      have hD:=drop_nil h1
      simp only [Ar.said]at h2
      subst h2
      repeat' (first
 | simp only [go_sem,hD,hF,hJ,hP]
 | (with_reducible refine aJ hQ ?_;simp only [aw,ay,Option.some.injEq,exists_eq_left',go_sem,hD,hF,hJ,hP];repeat' (first | exact Ok.out | with_reducible refine aI ?_ ?_ | (simp;done))))
     | cons a rest=>
      obtain⟨hF,g2,hD,g4⟩:=drop_cons h1
      have bq:k<4611686018427387904:=by omega
      simp only [Ar.said]at h2
      simp only [Ar.aN]at h3
      have jm:=fun s=>j6 (x:=a.x) (by have:=Ar.bA (List.mem_of_getElem? hF);omega) (uJ a (List.mem_of_getElem? hF)) s
      have hl:=eU a.x
      have hJ:(out.length+1)*17≤bb:=by unfold bb;omega
      rcases Bool.eq_false_or_eq_true a.ref with b1 | b1
      ·simp only [b1,if_true]at h2
       have cP:=dR (l:=out++ [a.name]) (nx:=a.x.names) (n:=out.length+1) (by simp) (by simp;omega) (g:= .shared)
       simp only [List.map_append,List.map_cons,List.map_nil,encStr]at cP
       repeat' (first
 | simp only [go_sem,hD,hF,hJ,hP,b1,cP]
 | (with_reducible refine CU (jm _) ?_)
 | (with_reducible refine aJ hQ ?_;simp only [aw,ay,Option.some.injEq,exists_eq_left',go_sem,hD,hF,hJ,hP];repeat' (first | exact Ok.out | with_reducible refine aI ?_ ?_ | (simp;done))))
       refine da 1 1 ?_ ?_ (IH (rest,k+1,out++ [a.name]++a.x.names,_) ⟨g2,h2,by simp;omega,by simp <;> omega⟩ (Nat.lt_succ_self _))
       ·(simp only [go_sem,hD,hF,hJ,hP,aD bq,List.map_append,List.map_cons,List.map_nil,encStr];try exact bo)
       ·(simp only [go_sem,hD,hF,hJ,hP,aD bq,List.map_append,List.map_cons,List.map_nil,encStr];try exact bo)
      ·simp only [b1,Bool.false_eq_true,if_false]at h2
       have cP:=dR (l:=out) (nx:=a.x.names) rfl (by omega) (g:= .shared)
       repeat' (first
 | simp only [go_sem,hD,hF,hJ,hP,b1,cP]
 | (with_reducible refine CU (jm _) ?_)
 | (with_reducible refine aJ hQ ?_;simp only [aw,ay,Option.some.injEq,exists_eq_left',go_sem,hD,hF,hJ,hP];repeat' (first | exact Ok.out | with_reducible refine aI ?_ ?_ | (simp;done))))
       refine da 1 1 ?_ ?_ (IH (rest,k+1,out++a.x.names,_) ⟨g2,h2,by simp;omega,by simp <;> omega⟩ (Nat.lt_succ_self _))
       ·(simp only [go_sem,hD,hF,hJ,hP,aD bq];try exact bo)
       ·(simp only [go_sem,hD,hF,hJ,hP,aD bq];try exact bo)
   ·have b3:(v.name == [])=true:=by simpa using b2
    repeat' (first
 | simp only [go_sem,hD,hF,hJ,hP,b1,b2,b3,cP]
 | (with_reducible refine CU (hx _) ?_)
 | (with_reducible refine aJ hQ ?_;simp only [aw,ay,Option.some.injEq,exists_eq_left',go_sem,hD,hF,hJ,hP];repeat' (first | exact Ok.out | with_reducible refine aI ?_ ?_ | (simp;done))))
    refine bk.ng 3 1 rfl ?_
    simp only [go_sem,hD,hF,hJ,hP]
    refine dc 1 1 (bk.ind (ι:=List Ar×Nat×List aA×Nat) (fun i=>v.args.drop i.2.1=i.1∧Ar.said i.2.2.1 i.1=R∧i.2.2.1.length+Ar.aN i.1≤2000000∧i.2.2.2=i.2.2.1.length) (fun i=>i.1.length)
     (fun i=> [(3, .slice (.tok 0) 1 (i.2.2.1.map encStr)),(1, .ptr 0 0),(25, .slice .shared 6 (v.args.map df)),(26, .int .i64 (v.args.length:Int)),(27, .int .i64 (i.2.1:Int))]) (fun i=>⟨[bd v],[some i.2.2.2]⟩) ?_ (v.args,0,[],0) ⟨rfl,hG,by simp at sf ⊢;omega,by simp⟩)
    rintro⟨rest,k,out,n'⟩ ⟨h1,h2,h3,h4⟩ IH
    dsimp only at h1 h2 h3 h4
    subst h4
    cases rest with
    | nil=>
     have hD:=drop_nil h1
     simp only [Ar.said]at h2
     subst h2
     repeat' (first
 | simp only [go_sem,hD,hF,hJ,hP]
 | (with_reducible refine aJ hQ ?_;simp only [aw,ay,Option.some.injEq,exists_eq_left',go_sem,hD,hF,hJ,hP];repeat' (first | exact Ok.out | with_reducible refine aI ?_ ?_ | (simp;done))))
    | cons a rest=>
     obtain⟨hF,g2,hD,g4⟩:=drop_cons h1
     have bq:k<4611686018427387904:=by omega
     simp only [Ar.said]at h2
     simp only [Ar.aN]at h3
     have jm:=fun s=>j6 (x:=a.x) (by have:=Ar.bA (List.mem_of_getElem? hF);omega) (uJ a (List.mem_of_getElem? hF)) s
     have hl:=eU a.x
     have hJ:(out.length+1)*17≤bb:=by unfold bb;omega
     rcases Bool.eq_false_or_eq_true a.ref with b1 | b1
     ·simp only [b1,if_true]at h2
      have cP:=dR (l:=out++ [a.name]) (nx:=a.x.names) (n:=out.length+1) (by simp) (by simp;omega) (g:= .shared)
      simp only [List.map_append,List.map_cons,List.map_nil,encStr]at cP
      repeat' (first
 | simp only [go_sem,hD,hF,hJ,hP,b1,cP]
 | (with_reducible refine CU (jm _) ?_)
 | (with_reducible refine aJ hQ ?_;simp only [aw,ay,Option.some.injEq,exists_eq_left',go_sem,hD,hF,hJ,hP];repeat' (first | exact Ok.out | with_reducible refine aI ?_ ?_ | (simp;done))))
      refine da 1 1 ?_ ?_ (IH (rest,k+1,out++ [a.name]++a.x.names,_) ⟨g2,h2,by simp;omega,by simp <;> omega⟩ (Nat.lt_succ_self _))
      ·(simp only [go_sem,hD,hF,hJ,hP,aD bq,List.map_append,List.map_cons,List.map_nil,encStr];try exact bo)
      ·(simp only [go_sem,hD,hF,hJ,hP,aD bq,List.map_append,List.map_cons,List.map_nil,encStr];try exact bo)
     ·simp only [b1,Bool.false_eq_true,if_false]at h2
      have cP:=dR (l:=out) (nx:=a.x.names) rfl (by omega) (g:= .shared)
      repeat' (first
 | simp only [go_sem,hD,hF,hJ,hP,b1,cP]
 | (with_reducible refine CU (jm _) ?_)
 | (with_reducible refine aJ hQ ?_;simp only [aw,ay,Option.some.injEq,exists_eq_left',go_sem,hD,hF,hJ,hP];repeat' (first | exact Ok.out | with_reducible refine aI ?_ ?_ | (simp;done))))
      refine da 1 1 ?_ ?_ (IH (rest,k+1,out++a.x.names,_) ⟨g2,h2,by simp;omega,by simp <;> omega⟩ (Nat.lt_succ_self _))
      ·(simp only [go_sem,hD,hF,hJ,hP,aD bq];try exact bo)
      ·(simp only [go_sem,hD,hF,hJ,hP,aD bq];try exact bo)
  ·have cP : ∀ o:List (List D),fY 1 16 (.slice .full 0 []) (.slice .shared 1 (nx.map encStr)) ⟨o,[]⟩=some (.slice (.tok 0) 1 (nx.map encStr),⟨o,[some nx.length]⟩):=fun o=>by
    have:nx.length*17≤bb:=by unfold bb;omega
    cases nx with
    | nil=>exact absurd rfl vy
    | cons a r=>simp only [List.length_cons]at this;simp [fY,this]
   have HB:(v.kind != 10)=false∨(v.kind != 10)=true∧(v.name != [])=false:=by
    cases h1:(v.kind != 10)
    ·exact .inl rfl
    ·rw [h1]at na;exact .inr ⟨rfl,by simpa using na⟩
   rcases HB with b1 | ⟨b1,b2⟩
   ·rcases Bool.eq_false_or_eq_true (v.name != [])with b2 | b2
    all_goals
     have b3:(v.name == []) = !(v.name != []):=by simp only [bne,Bool.not_not]
     rw [b2]at b3
     repeat' (first
 | simp only [go_sem,hD,hF,hJ,hP,b1,b2,b3,Bool.not_true,Bool.not_false,cP]
 | (with_reducible refine CU (hx _) ?_)
 | (with_reducible refine aJ hQ ?_;simp only [aw,ay,Option.some.injEq,exists_eq_left',go_sem,hD,hF,hJ,hP];repeat' (first | exact Ok.out | with_reducible refine aI ?_ ?_ | (simp;done))))
    all_goals
     refine dc 1 1 (bk.ind (ι:=List Ar×Nat×List aA×Nat) (fun i=>v.args.drop i.2.1=i.1∧Ar.said i.2.2.1 i.1=R∧i.2.2.1.length+Ar.aN i.1≤2000000∧i.2.2.2=i.2.2.1.length) (fun i=>i.1.length)
      (fun i=> [(3, .slice (.tok 0) 1 (i.2.2.1.map encStr)),(1, .ptr 0 0),(25, .slice .shared 6 (v.args.map df)),(26, .int .i64 (v.args.length:Int)),(27, .int .i64 (i.2.1:Int))]) (fun i=>⟨[bd v],[some i.2.2.2]⟩) ?_ (v.args,0,nx,_) ⟨rfl,hG,by simp at sf ⊢;omega,by simp⟩)
     rintro⟨rest,k,out,n'⟩ ⟨h1,h2,h3,h4⟩ IH
     dsimp only at h1 h2 h3 h4
     subst h4
     cases rest with
     | nil=>
      have hD:=drop_nil h1
      simp only [Ar.said]at h2
      subst h2
      repeat' (first
 | simp only [go_sem,hD,hF,hJ,hP]
 | (with_reducible refine aJ hQ ?_;simp only [aw,ay,Option.some.injEq,exists_eq_left',go_sem,hD,hF,hJ,hP];repeat' (first | exact Ok.out | with_reducible refine aI ?_ ?_ | (simp;done))))
     | cons a rest=>
      obtain⟨hF,g2,hD,g4⟩:=drop_cons h1
      have bq:k<4611686018427387904:=by omega
      simp only [Ar.said]at h2
      simp only [Ar.aN]at h3
      have jm:=fun s=>j6 (x:=a.x) (by have:=Ar.bA (List.mem_of_getElem? hF);omega) (uJ a (List.mem_of_getElem? hF)) s
      have hl:=eU a.x
      have hJ:(out.length+1)*17≤bb:=by unfold bb;omega
      rcases Bool.eq_false_or_eq_true a.ref with b1 | b1
      ·simp only [b1,if_true]at h2
       have cP:=dR (l:=out++ [a.name]) (nx:=a.x.names) (n:=out.length+1) (by simp) (by simp;omega) (g:= .shared)
       simp only [List.map_append,List.map_cons,List.map_nil,encStr]at cP
       repeat' (first
 | simp only [go_sem,hD,hF,hJ,hP,b1,cP]
 | (with_reducible refine CU (jm _) ?_)
 | (with_reducible refine aJ hQ ?_;simp only [aw,ay,Option.some.injEq,exists_eq_left',go_sem,hD,hF,hJ,hP];repeat' (first | exact Ok.out | with_reducible refine aI ?_ ?_ | (simp;done))))
       refine da 1 1 ?_ ?_ (IH (rest,k+1,out++ [a.name]++a.x.names,_) ⟨g2,h2,by simp;omega,by simp <;> omega⟩ (Nat.lt_succ_self _))
       ·(simp only [go_sem,hD,hF,hJ,hP,aD bq,List.map_append,List.map_cons,List.map_nil,encStr];try exact bo)
       ·(simp only [go_sem,hD,hF,hJ,hP,aD bq,List.map_append,List.map_cons,List.map_nil,encStr];try exact bo)
      ·simp only [b1,Bool.false_eq_true,if_false]at h2
       have cP:=dR (l:=out) (nx:=a.x.names) rfl (by omega) (g:= .shared)
       repeat' (first
 | simp only [go_sem,hD,hF,hJ,hP,b1,cP]
 | (with_reducible refine CU (jm _) ?_)
 | (with_reducible refine aJ hQ ?_;simp only [aw,ay,Option.some.injEq,exists_eq_left',go_sem,hD,hF,hJ,hP];repeat' (first | exact Ok.out | with_reducible refine aI ?_ ?_ | (simp;done))))
       refine da 1 1 ?_ ?_ (IH (rest,k+1,out++a.x.names,_) ⟨g2,h2,by simp;omega,by simp <;> omega⟩ (Nat.lt_succ_self _))
       ·(simp only [go_sem,hD,hF,hJ,hP,aD bq];try exact bo)
       ·(simp only [go_sem,hD,hF,hJ,hP,aD bq];try exact bo)
   ·have b3:(v.name == [])=true:=by simpa using b2
    repeat' (first
 | simp only [go_sem,hD,hF,hJ,hP,b1,b2,b3,cP]
 | (with_reducible refine CU (hx _) ?_)
 | (with_reducible refine aJ hQ ?_;simp only [aw,ay,Option.some.injEq,exists_eq_left',go_sem,hD,hF,hJ,hP];repeat' (first | exact Ok.out | with_reducible refine aI ?_ ?_ | (simp;done))))
    refine dc 1 1 (bk.ind (ι:=List Ar×Nat×List aA×Nat) (fun i=>v.args.drop i.2.1=i.1∧Ar.said i.2.2.1 i.1=R∧i.2.2.1.length+Ar.aN i.1≤2000000∧i.2.2.2=i.2.2.1.length) (fun i=>i.1.length)
     (fun i=> [(3, .slice (.tok 0) 1 (i.2.2.1.map encStr)),(1, .ptr 0 0),(25, .slice .shared 6 (v.args.map df)),(26, .int .i64 (v.args.length:Int)),(27, .int .i64 (i.2.1:Int))]) (fun i=>⟨[bd v],[some i.2.2.2]⟩) ?_ (v.args,0,nx,_) ⟨rfl,hG,by simp at sf ⊢;omega,by simp⟩)
    rintro⟨rest,k,out,n'⟩ ⟨h1,h2,h3,h4⟩ IH
    dsimp only at h1 h2 h3 h4
    subst h4
    cases rest with
    | nil=>
     have hD:=drop_nil h1
     simp only [Ar.said]at h2
     subst h2
     repeat' (first
 | simp only [go_sem,hD,hF,hJ,hP]
 | (with_reducible refine aJ hQ ?_;simp only [aw,ay,Option.some.injEq,exists_eq_left',go_sem,hD,hF,hJ,hP];repeat' (first | exact Ok.out | with_reducible refine aI ?_ ?_ | (simp;done))))
    | cons a rest=>
     obtain⟨hF,g2,hD,g4⟩:=drop_cons h1
     have bq:k<4611686018427387904:=by omega
     simp only [Ar.said]at h2
     simp only [Ar.aN]at h3
     have jm:=fun s=>j6 (x:=a.x) (by have:=Ar.bA (List.mem_of_getElem? hF);omega) (uJ a (List.mem_of_getElem? hF)) s
     have hl:=eU a.x
     have hJ:(out.length+1)*17≤bb:=by unfold bb;omega
     rcases Bool.eq_false_or_eq_true a.ref with b1 | b1
     ·simp only [b1,if_true]at h2
      have cP:=dR (l:=out++ [a.name]) (nx:=a.x.names) (n:=out.length+1) (by simp) (by simp;omega) (g:= .shared)
      simp only [List.map_append,List.map_cons,List.map_nil,encStr]at cP
      repeat' (first
 | simp only [go_sem,hD,hF,hJ,hP,b1,cP]
 | (with_reducible refine CU (jm _) ?_)
 | (with_reducible refine aJ hQ ?_;simp only [aw,ay,Option.some.injEq,exists_eq_left',go_sem,hD,hF,hJ,hP];repeat' (first | exact Ok.out | with_reducible refine aI ?_ ?_ | (simp;done))))
      refine da 1 1 ?_ ?_ (IH (rest,k+1,out++ [a.name]++a.x.names,_) ⟨g2,h2,by simp;omega,by simp <;> omega⟩ (Nat.lt_succ_self _))
      ·(simp only [go_sem,hD,hF,hJ,hP,aD bq,List.map_append,List.map_cons,List.map_nil,encStr];try exact bo)
      ·(simp only [go_sem,hD,hF,hJ,hP,aD bq,List.map_append,List.map_cons,List.map_nil,encStr];try exact bo)
     ·simp only [b1,Bool.false_eq_true,if_false]at h2
      have cP:=dR (l:=out) (nx:=a.x.names) rfl (by omega) (g:= .shared)
      repeat' (first
 | simp only [go_sem,hD,hF,hJ,hP,b1,cP]
 | (with_reducible refine CU (jm _) ?_)
 | (with_reducible refine aJ hQ ?_;simp only [aw,ay,Option.some.injEq,exists_eq_left',go_sem,hD,hF,hJ,hP];repeat' (first | exact Ok.out | with_reducible refine aI ?_ ?_ | (simp;done))))
      refine da 1 1 ?_ ?_ (IH (rest,k+1,out++a.x.names,_) ⟨g2,h2,by simp;omega,by simp <;> omega⟩ (Nat.lt_succ_self _))
      ·(simp only [go_sem,hD,hF,hJ,hP,aD bq];try exact bo)
      ·(simp only [go_sem,hD,hF,hJ,hP,aD bq];try exact bo)
theorem CH {v:Sm} (hv:v.oQ) (s:St):aG Tryz.prog rl [.agg (bd v)] s (.slice .shared 1 (v.said.map encStr)) s:=by
 refine aG.pure ?_ (by simp only [D.bG,D.ok,pX];rfl) (by simp only [D.ok,Tag.ok,dJ];rfl) s
 obtain⟨Qc,uJ,dI⟩:=hv
 obtain⟨R,hG⟩ : ∃ R,v.said=R:=⟨_,rfl⟩
 rw [hG]
 simp only [Sm.said]at hG
 have hlen:v.args.length<1000000000:=by have:=Ar.cu v.args;omega
 have hx:=fun s=>j7 (x:=v.x) (by omega) Qc s
 have sf:=eU v.x
 unfold S0
 refine aG.go zY rfl fun B Q hB hQ=> ?_
 have⟨hD,hF,hJ,hP⟩:=bP
 have hJ:17≤bb:=by unfold bb;omega
 by_cases hb:(v.kind != 10 && v.name != [])=true
 ·simp only [Sm.nF,hb,if_true]at hG
  rw [Bool.and_eq_true]at hb
  obtain⟨b1,b2⟩:=hb
  have cP:=dR (l:= [v.name]) (nx:=v.x.names) (n:=1) rfl (by simp;omega) (g:= .shared)
  simp only [List.map_append,List.map_cons,List.map_nil,encStr]at cP
  have b3:(v.name == [])=false:=by simpa using b2
  repeat' (first
 | simp only [go_sem,hD,hF,hJ,hP,b1,b2,b3,cP]
 | (with_reducible refine CU (hx _) ?_)
 | (with_reducible refine aJ hQ ?_;simp only [aw,ay,Option.some.injEq,exists_eq_left',go_sem,hD,hF,hJ,hP];repeat' (first | exact Ok.out | with_reducible refine aI ?_ ?_ | (simp;done))))
  refine da 1 1 ?_ ?_ (bk.ind (ι:=List Ar×Nat×List aA×Nat) (fun i=>v.args.drop i.2.1=i.1∧Ar.said i.2.2.1 i.1=R∧i.2.2.1.length+Ar.aN i.1≤2000000∧i.2.2.2=i.2.2.1.length) (fun i=>i.1.length)
   (fun i=> [(3, .slice (.tok 0) 1 (i.2.2.1.map encStr)),(1, .ptr 0 0),(25, .slice .shared 6 (v.args.map df)),(26, .int .i64 (v.args.length:Int)),(27, .int .i64 (i.2.1:Int))]) (fun i=>⟨[bd v],[some i.2.2.2]⟩) ?_ (v.args,0,([v.name]++v.x.names),(v.x.names.length+1)) ⟨rfl,hG,by simp at sf ⊢;omega,by simp⟩)
  ·(simp only [go_sem,hD,hF,hJ,hP,List.map_append,List.map_cons,List.map_nil,encStr];try exact bo)
  ·(simp only [go_sem,hD,hF,hJ,hP,List.map_append,List.map_cons,List.map_nil,encStr];try exact bo)
  rintro⟨rest,k,out,n'⟩ ⟨h1,h2,h3,h4⟩ IH
  dsimp only at h1 h2 h3 h4
  subst h4
  cases rest with
  | nil=>
   have hD:=drop_nil h1
   simp only [Ar.said]at h2
   subst h2
   repeat' (first
 | simp only [go_sem,hD,hF,hJ,hP]
 | (with_reducible refine aJ hQ ?_;simp only [aw,ay,Option.some.injEq,exists_eq_left',go_sem,hD,hF,hJ,hP];repeat' (first | exact Ok.out | with_reducible refine aI ?_ ?_ | (simp;done))))
  | cons a rest=>
   obtain⟨hF,g2,hD,g4⟩:=drop_cons h1
   have bq:k<4611686018427387904:=by omega
   simp only [Ar.said]at h2
   simp only [Ar.aN]at h3
   have jm:=fun s=>j7 (x:=a.x) (by have:=Ar.bA (List.mem_of_getElem? hF);omega) (uJ a (List.mem_of_getElem? hF)) s
   have hl:=eU a.x
   have hJ:(out.length+1)*17≤bb:=by unfold bb;omega
   rcases Bool.eq_false_or_eq_true a.ref with b1 | b1
   ·simp only [b1,if_true]at h2
    have cP:=dR (l:=out++ [a.name]) (nx:=a.x.names) (n:=out.length+1) (by simp) (by simp;omega) (g:= .shared)
    simp only [List.map_append,List.map_cons,List.map_nil,encStr]at cP
    repeat' (first
 | simp only [go_sem,hD,hF,hJ,hP,b1,cP]
 | (with_reducible refine CU (jm _) ?_)
 | (with_reducible refine aJ hQ ?_;simp only [aw,ay,Option.some.injEq,exists_eq_left',go_sem,hD,hF,hJ,hP];repeat' (first | exact Ok.out | with_reducible refine aI ?_ ?_ | (simp;done))))
    refine da 1 1 ?_ ?_ (IH (rest,k+1,out++ [a.name]++a.x.names,_) ⟨g2,h2,by simp;omega,by simp <;> omega⟩ (Nat.lt_succ_self _))
    ·(simp only [go_sem,hD,hF,hJ,hP,aD bq,List.map_append,List.map_cons,List.map_nil,encStr];try exact bo)
    ·(simp only [go_sem,hD,hF,hJ,hP,aD bq,List.map_append,List.map_cons,List.map_nil,encStr];try exact bo)
   ·simp only [b1,Bool.false_eq_true,if_false]at h2
    have cP:=dR (l:=out) (nx:=a.x.names) rfl (by omega) (g:= .shared)
    repeat' (first
 | simp only [go_sem,hD,hF,hJ,hP,b1,cP]
 | (with_reducible refine CU (jm _) ?_)
 | (with_reducible refine aJ hQ ?_;simp only [aw,ay,Option.some.injEq,exists_eq_left',go_sem,hD,hF,hJ,hP];repeat' (first | exact Ok.out | with_reducible refine aI ?_ ?_ | (simp;done))))
    refine da 1 1 ?_ ?_ (IH (rest,k+1,out++a.x.names,_) ⟨g2,h2,by simp;omega,by simp <;> omega⟩ (Nat.lt_succ_self _))
    ·(simp only [go_sem,hD,hF,hJ,hP,aD bq];try exact bo)
    ·(simp only [go_sem,hD,hF,hJ,hP,aD bq];try exact bo)
 ·simp only [Sm.nF,hb,Bool.false_eq_true,if_false,List.nil_append]at hG
  have na:(v.kind != 10 && v.name != [])=false:=by simpa using hb
  obtain⟨nx,HQ⟩ : ∃ nx,nx=v.x.names:=⟨_,rfl⟩
  rw [← HQ]at hG sf
  simp only [← HQ]at hx
  by_cases vy:nx = []
  ·subst vy
   simp only [List.map_nil]at hx
   have cP : ∀ o:List (List D),fY 1 16 (.slice .full 0 []) (.slice .shared 1 []) ⟨o,[]⟩=some (.slice .full 0 [],⟨o,[]⟩):=fun o=>by simp [fY,bb]
   have HB:(v.kind != 10)=false∨(v.kind != 10)=true∧(v.name != [])=false:=by
    cases h1:(v.kind != 10)
    ·exact .inl rfl
    ·rw [h1]at na;exact .inr ⟨rfl,by simpa using na⟩
   rcases HB with b1 | ⟨b1,b2⟩
   ·rcases Bool.eq_false_or_eq_true (v.name != [])with b2 | b2
    all_goals
     have b3:(v.name == []) = !(v.name != []):=by simp only [bne,Bool.not_not]
     rw [b2]at b3
     repeat' (first
 | simp only [go_sem,hD,hF,hJ,hP,b1,b2,b3,Bool.not_true,Bool.not_false,cP]
 | (with_reducible refine CU (hx _) ?_)
 | (with_reducible refine aJ hQ ?_;simp only [aw,ay,Option.some.injEq,exists_eq_left',go_sem,hD,hF,hJ,hP];repeat' (first | exact Ok.out | with_reducible refine aI ?_ ?_ | (simp;done))))
    all_goals
     refine bk.ng 3 1 rfl ?_
     simp only [go_sem,hD,hF,hJ,hP]
     refine dc 1 1 (bk.ind (ι:=List Ar×Nat×List aA×Nat) (fun i=>v.args.drop i.2.1=i.1∧Ar.said i.2.2.1 i.1=R∧i.2.2.1.length+Ar.aN i.1≤2000000∧i.2.2.2=i.2.2.1.length) (fun i=>i.1.length)
      (fun i=> [(3, .slice (.tok 0) 1 (i.2.2.1.map encStr)),(1, .ptr 0 0),(25, .slice .shared 6 (v.args.map df)),(26, .int .i64 (v.args.length:Int)),(27, .int .i64 (i.2.1:Int))]) (fun i=>⟨[bd v],[some i.2.2.2]⟩) ?_ (v.args,0,[],0) ⟨rfl,hG,by simp at sf ⊢;omega,by simp⟩)
     rintro⟨rest,k,out,n'⟩ ⟨h1,h2,h3,h4⟩ IH
     dsimp only at h1 h2 h3 h4
     subst h4
     cases rest with
     | nil=>
      have hD:=drop_nil h1
      simp only [Ar.said]at h2
      subst h2
      repeat' (first
 | simp only [go_sem,hD,hF,hJ,hP]
 | (with_reducible refine aJ hQ ?_;simp only [aw,ay,Option.some.injEq,exists_eq_left',go_sem,hD,hF,hJ,hP];repeat' (first | exact Ok.out | with_reducible refine aI ?_ ?_ | (simp;done))))
     | cons a rest=>
      obtain⟨hF,g2,hD,g4⟩:=drop_cons h1
      have bq:k<4611686018427387904:=by omega
      simp only [Ar.said]at h2
      simp only [Ar.aN]at h3
      have jm:=fun s=>j7 (x:=a.x) (by have:=Ar.bA (List.mem_of_getElem? hF);omega) (uJ a (List.mem_of_getElem? hF)) s
      have hl:=eU a.x
      have hJ:(out.length+1)*17≤bb:=by unfold bb;omega
      rcases Bool.eq_false_or_eq_true a.ref with b1 | b1
      ·simp only [b1,if_true]at h2
       have cP:=dR (l:=out++ [a.name]) (nx:=a.x.names) (n:=out.length+1) (by simp) (by simp;omega) (g:= .shared)
       simp only [List.map_append,List.map_cons,List.map_nil,encStr]at cP
       repeat' (first
 | simp only [go_sem,hD,hF,hJ,hP,b1,cP]
 | (with_reducible refine CU (jm _) ?_)
 | (with_reducible refine aJ hQ ?_;simp only [aw,ay,Option.some.injEq,exists_eq_left',go_sem,hD,hF,hJ,hP];repeat' (first | exact Ok.out | with_reducible refine aI ?_ ?_ | (simp;done))))
       refine da 1 1 ?_ ?_ (IH (rest,k+1,out++ [a.name]++a.x.names,_) ⟨g2,h2,by simp;omega,by simp <;> omega⟩ (Nat.lt_succ_self _))
       ·(simp only [go_sem,hD,hF,hJ,hP,aD bq,List.map_append,List.map_cons,List.map_nil,encStr];try exact bo)
       ·(simp only [go_sem,hD,hF,hJ,hP,aD bq,List.map_append,List.map_cons,List.map_nil,encStr];try exact bo)
      ·simp only [b1,Bool.false_eq_true,if_false]at h2
       have cP:=dR (l:=out) (nx:=a.x.names) rfl (by omega) (g:= .shared)
       repeat' (first
 | simp only [go_sem,hD,hF,hJ,hP,b1,cP]
 | (with_reducible refine CU (jm _) ?_)
 | (with_reducible refine aJ hQ ?_;simp only [aw,ay,Option.some.injEq,exists_eq_left',go_sem,hD,hF,hJ,hP];repeat' (first | exact Ok.out | with_reducible refine aI ?_ ?_ | (simp;done))))
       refine da 1 1 ?_ ?_ (IH (rest,k+1,out++a.x.names,_) ⟨g2,h2,by simp;omega,by simp <;> omega⟩ (Nat.lt_succ_self _))
       ·(simp only [go_sem,hD,hF,hJ,hP,aD bq];try exact bo)
       ·(simp only [go_sem,hD,hF,hJ,hP,aD bq];try exact bo)
   ·have b3:(v.name == [])=true:=by simpa using b2
    repeat' (first
 | simp only [go_sem,hD,hF,hJ,hP,b1,b2,b3,cP]
 | (with_reducible refine CU (hx _) ?_)
 | (with_reducible refine aJ hQ ?_;simp only [aw,ay,Option.some.injEq,exists_eq_left',go_sem,hD,hF,hJ,hP];repeat' (first | exact Ok.out | with_reducible refine aI ?_ ?_ | (simp;done))))
    refine bk.ng 3 1 rfl ?_
    simp only [go_sem,hD,hF,hJ,hP]
    refine dc 1 1 (bk.ind (ι:=List Ar×Nat×List aA×Nat) (fun i=>v.args.drop i.2.1=i.1∧Ar.said i.2.2.1 i.1=R∧i.2.2.1.length+Ar.aN i.1≤2000000∧i.2.2.2=i.2.2.1.length) (fun i=>i.1.length)
     (fun i=> [(3, .slice (.tok 0) 1 (i.2.2.1.map encStr)),(1, .ptr 0 0),(25, .slice .shared 6 (v.args.map df)),(26, .int .i64 (v.args.length:Int)),(27, .int .i64 (i.2.1:Int))]) (fun i=>⟨[bd v],[some i.2.2.2]⟩) ?_ (v.args,0,[],0) ⟨rfl,hG,by simp at sf ⊢;omega,by simp⟩)
    rintro⟨rest,k,out,n'⟩ ⟨h1,h2,h3,h4⟩ IH
    dsimp only at h1 h2 h3 h4
    subst h4
    cases rest with
    | nil=>
     have hD:=drop_nil h1
     simp only [Ar.said]at h2
     subst h2
     repeat' (first
 | simp only [go_sem,hD,hF,hJ,hP]
 | (with_reducible refine aJ hQ ?_;simp only [aw,ay,Option.some.injEq,exists_eq_left',go_sem,hD,hF,hJ,hP];repeat' (first | exact Ok.out | with_reducible refine aI ?_ ?_ | (simp;done))))
    | cons a rest=>
     obtain⟨hF,g2,hD,g4⟩:=drop_cons h1
     have bq:k<4611686018427387904:=by omega
     simp only [Ar.said]at h2
     simp only [Ar.aN]at h3
     have jm:=fun s=>j7 (x:=a.x) (by have:=Ar.bA (List.mem_of_getElem? hF);omega) (uJ a (List.mem_of_getElem? hF)) s
     have hl:=eU a.x
     have hJ:(out.length+1)*17≤bb:=by unfold bb;omega
     rcases Bool.eq_false_or_eq_true a.ref with b1 | b1
     ·simp only [b1,if_true]at h2
      have cP:=dR (l:=out++ [a.name]) (nx:=a.x.names) (n:=out.length+1) (by simp) (by simp;omega) (g:= .shared)
      simp only [List.map_append,List.map_cons,List.map_nil,encStr]at cP
      repeat' (first
 | simp only [go_sem,hD,hF,hJ,hP,b1,cP]
 | (with_reducible refine CU (jm _) ?_)
 | (with_reducible refine aJ hQ ?_;simp only [aw,ay,Option.some.injEq,exists_eq_left',go_sem,hD,hF,hJ,hP];repeat' (first | exact Ok.out | with_reducible refine aI ?_ ?_ | (simp;done))))
      refine da 1 1 ?_ ?_ (IH (rest,k+1,out++ [a.name]++a.x.names,_) ⟨g2,h2,by simp;omega,by simp <;> omega⟩ (Nat.lt_succ_self _))
      ·(simp only [go_sem,hD,hF,hJ,hP,aD bq,List.map_append,List.map_cons,List.map_nil,encStr];try exact bo)
      ·(simp only [go_sem,hD,hF,hJ,hP,aD bq,List.map_append,List.map_cons,List.map_nil,encStr];try exact bo)
     ·simp only [b1,Bool.false_eq_true,if_false]at h2
      have cP:=dR (l:=out) (nx:=a.x.names) rfl (by omega) (g:= .shared)
      repeat' (first
 | simp only [go_sem,hD,hF,hJ,hP,b1,cP]
 | (with_reducible refine CU (jm _) ?_)
 | (with_reducible refine aJ hQ ?_;simp only [aw,ay,Option.some.injEq,exists_eq_left',go_sem,hD,hF,hJ,hP];repeat' (first | exact Ok.out | with_reducible refine aI ?_ ?_ | (simp;done))))
      refine da 1 1 ?_ ?_ (IH (rest,k+1,out++a.x.names,_) ⟨g2,h2,by simp;omega,by simp <;> omega⟩ (Nat.lt_succ_self _))
      ·(simp only [go_sem,hD,hF,hJ,hP,aD bq];try exact bo)
      ·(simp only [go_sem,hD,hF,hJ,hP,aD bq];try exact bo)
  ·have cP : ∀ o:List (List D),fY 1 16 (.slice .full 0 []) (.slice .shared 1 (nx.map encStr)) ⟨o,[]⟩=some (.slice (.tok 0) 1 (nx.map encStr),⟨o,[some nx.length]⟩):=fun o=>by
    have:nx.length*17≤bb:=by unfold bb;omega
    cases nx with
    | nil=>exact absurd rfl vy
    | cons a r=>simp only [List.length_cons]at this;simp [fY,this]
   have HB:(v.kind != 10)=false∨(v.kind != 10)=true∧(v.name != [])=false:=by
    cases h1:(v.kind != 10)
    ·exact .inl rfl
    ·rw [h1]at na;exact .inr ⟨rfl,by simpa using na⟩
   rcases HB with b1 | ⟨b1,b2⟩
   ·rcases Bool.eq_false_or_eq_true (v.name != [])with b2 | b2
    all_goals
     have b3:(v.name == []) = !(v.name != []):=by simp only [bne,Bool.not_not]
     rw [b2]at b3
     repeat' (first
 | simp only [go_sem,hD,hF,hJ,hP,b1,b2,b3,Bool.not_true,Bool.not_false,cP]
 | (with_reducible refine CU (hx _) ?_)
 | (with_reducible refine aJ hQ ?_;simp only [aw,ay,Option.some.injEq,exists_eq_left',go_sem,hD,hF,hJ,hP];repeat' (first | exact Ok.out | with_reducible refine aI ?_ ?_ | (simp;done))))
    all_goals
     refine dc 1 1 (bk.ind (ι:=List Ar×Nat×List aA×Nat) (fun i=>v.args.drop i.2.1=i.1∧Ar.said i.2.2.1 i.1=R∧i.2.2.1.length+Ar.aN i.1≤2000000∧i.2.2.2=i.2.2.1.length) (fun i=>i.1.length)
      (fun i=> [(3, .slice (.tok 0) 1 (i.2.2.1.map encStr)),(1, .ptr 0 0),(25, .slice .shared 6 (v.args.map df)),(26, .int .i64 (v.args.length:Int)),(27, .int .i64 (i.2.1:Int))]) (fun i=>⟨[bd v],[some i.2.2.2]⟩) ?_ (v.args,0,nx,_) ⟨rfl,hG,by simp at sf ⊢;omega,by simp⟩)
     rintro⟨rest,k,out,n'⟩ ⟨h1,h2,h3,h4⟩ IH
     dsimp only at h1 h2 h3 h4
     subst h4
     cases rest with
     | nil=>
      have hD:=drop_nil h1
      simp only [Ar.said]at h2
      subst h2
      repeat' (first
 | simp only [go_sem,hD,hF,hJ,hP]
 | (with_reducible refine aJ hQ ?_;simp only [aw,ay,Option.some.injEq,exists_eq_left',go_sem,hD,hF,hJ,hP];repeat' (first | exact Ok.out | with_reducible refine aI ?_ ?_ | (simp;done))))
     | cons a rest=>
      obtain⟨hF,g2,hD,g4⟩:=drop_cons h1
      have bq:k<4611686018427387904:=by omega
      simp only [Ar.said]at h2
      simp only [Ar.aN]at h3
      have jm:=fun s=>j7 (x:=a.x) (by have:=Ar.bA (List.mem_of_getElem? hF);omega) (uJ a (List.mem_of_getElem? hF)) s
      have hl:=eU a.x
      have hJ:(out.length+1)*17≤bb:=by unfold bb;omega
      rcases Bool.eq_false_or_eq_true a.ref with b1 | b1
      ·simp only [b1,if_true]at h2
       have cP:=dR (l:=out++ [a.name]) (nx:=a.x.names) (n:=out.length+1) (by simp) (by simp;omega) (g:= .shared)
       simp only [List.map_append,List.map_cons,List.map_nil,encStr]at cP
       repeat' (first
 | simp only [go_sem,hD,hF,hJ,hP,b1,cP]
 | (with_reducible refine CU (jm _) ?_)
 | (with_reducible refine aJ hQ ?_;simp only [aw,ay,Option.some.injEq,exists_eq_left',go_sem,hD,hF,hJ,hP];repeat' (first | exact Ok.out | with_reducible refine aI ?_ ?_ | (simp;done))))
       refine da 1 1 ?_ ?_ (IH (rest,k+1,out++ [a.name]++a.x.names,_) ⟨g2,h2,by simp;omega,by simp <;> omega⟩ (Nat.lt_succ_self _))
       ·(simp only [go_sem,hD,hF,hJ,hP,aD bq,List.map_append,List.map_cons,List.map_nil,encStr];try exact bo)
       ·(simp only [go_sem,hD,hF,hJ,hP,aD bq,List.map_append,List.map_cons,List.map_nil,encStr];try exact bo)
      ·simp only [b1,Bool.false_eq_true,if_false]at h2
       have cP:=dR (l:=out) (nx:=a.x.names) rfl (by omega) (g:= .shared)
       repeat' (first
 | simp only [go_sem,hD,hF,hJ,hP,b1,cP]
 | (with_reducible refine CU (jm _) ?_)
 | (with_reducible refine aJ hQ ?_;simp only [aw,ay,Option.some.injEq,exists_eq_left',go_sem,hD,hF,hJ,hP];repeat' (first | exact Ok.out | with_reducible refine aI ?_ ?_ | (simp;done))))
       refine da 1 1 ?_ ?_ (IH (rest,k+1,out++a.x.names,_) ⟨g2,h2,by simp;omega,by simp <;> omega⟩ (Nat.lt_succ_self _))
       ·(simp only [go_sem,hD,hF,hJ,hP,aD bq];try exact bo)
       ·(simp only [go_sem,hD,hF,hJ,hP,aD bq];try exact bo)
   ·have b3:(v.name == [])=true:=by simpa using b2
    repeat' (first
 | simp only [go_sem,hD,hF,hJ,hP,b1,b2,b3,cP]
 | (with_reducible refine CU (hx _) ?_)
 | (with_reducible refine aJ hQ ?_;simp only [aw,ay,Option.some.injEq,exists_eq_left',go_sem,hD,hF,hJ,hP];repeat' (first | exact Ok.out | with_reducible refine aI ?_ ?_ | (simp;done))))
    refine dc 1 1 (bk.ind (ι:=List Ar×Nat×List aA×Nat) (fun i=>v.args.drop i.2.1=i.1∧Ar.said i.2.2.1 i.1=R∧i.2.2.1.length+Ar.aN i.1≤2000000∧i.2.2.2=i.2.2.1.length) (fun i=>i.1.length)
     (fun i=> [(3, .slice (.tok 0) 1 (i.2.2.1.map encStr)),(1, .ptr 0 0),(25, .slice .shared 6 (v.args.map df)),(26, .int .i64 (v.args.length:Int)),(27, .int .i64 (i.2.1:Int))]) (fun i=>⟨[bd v],[some i.2.2.2]⟩) ?_ (v.args,0,nx,_) ⟨rfl,hG,by simp at sf ⊢;omega,by simp⟩)
    rintro⟨rest,k,out,n'⟩ ⟨h1,h2,h3,h4⟩ IH
    dsimp only at h1 h2 h3 h4
    subst h4
    cases rest with
    | nil=>
     have hD:=drop_nil h1
     simp only [Ar.said]at h2
     subst h2
     repeat' (first
 | simp only [go_sem,hD,hF,hJ,hP]
 | (with_reducible refine aJ hQ ?_;simp only [aw,ay,Option.some.injEq,exists_eq_left',go_sem,hD,hF,hJ,hP];repeat' (first | exact Ok.out | with_reducible refine aI ?_ ?_ | (simp;done))))
    | cons a rest=>
     obtain⟨hF,g2,hD,g4⟩:=drop_cons h1
     have bq:k<4611686018427387904:=by omega
     simp only [Ar.said]at h2
     simp only [Ar.aN]at h3
     have jm:=fun s=>j7 (x:=a.x) (by have:=Ar.bA (List.mem_of_getElem? hF);omega) (uJ a (List.mem_of_getElem? hF)) s
     have hl:=eU a.x
     have hJ:(out.length+1)*17≤bb:=by unfold bb;omega
     rcases Bool.eq_false_or_eq_true a.ref with b1 | b1
     ·simp only [b1,if_true]at h2
      have cP:=dR (l:=out++ [a.name]) (nx:=a.x.names) (n:=out.length+1) (by simp) (by simp;omega) (g:= .shared)
      simp only [List.map_append,List.map_cons,List.map_nil,encStr]at cP
      repeat' (first
 | simp only [go_sem,hD,hF,hJ,hP,b1,cP]
 | (with_reducible refine CU (jm _) ?_)
 | (with_reducible refine aJ hQ ?_;simp only [aw,ay,Option.some.injEq,exists_eq_left',go_sem,hD,hF,hJ,hP];repeat' (first | exact Ok.out | with_reducible refine aI ?_ ?_ | (simp;done))))
      refine da 1 1 ?_ ?_ (IH (rest,k+1,out++ [a.name]++a.x.names,_) ⟨g2,h2,by simp;omega,by simp <;> omega⟩ (Nat.lt_succ_self _))
      ·(simp only [go_sem,hD,hF,hJ,hP,aD bq,List.map_append,List.map_cons,List.map_nil,encStr];try exact bo)
      ·(simp only [go_sem,hD,hF,hJ,hP,aD bq,List.map_append,List.map_cons,List.map_nil,encStr];try exact bo)
     ·simp only [b1,Bool.false_eq_true,if_false]at h2
      have cP:=dR (l:=out) (nx:=a.x.names) rfl (by omega) (g:= .shared)
      repeat' (first
 | simp only [go_sem,hD,hF,hJ,hP,b1,cP]
 | (with_reducible refine CU (jm _) ?_)
 | (with_reducible refine aJ hQ ?_;simp only [aw,ay,Option.some.injEq,exists_eq_left',go_sem,hD,hF,hJ,hP];repeat' (first | exact Ok.out | with_reducible refine aI ?_ ?_ | (simp;done))))
      refine da 1 1 ?_ ?_ (IH (rest,k+1,out++a.x.names,_) ⟨g2,h2,by simp;omega,by simp <;> omega⟩ (Nat.lt_succ_self _))
      ·(simp only [go_sem,hD,hF,hJ,hP,aD bq];try exact bo)
      ·(simp only [go_sem,hD,hF,hJ,hP,aD bq];try exact bo)
end Go.Abs

/-! MayEq2 -/

namespace Go.Abs
theorem il : ∀ (a b:List It) (n:Nat),It.er n (a++b)=(It.er n a && It.er (n+a.length) b)
 | [],b,n=>by simp [It.er]
 | i::a,b,n=>by
  simp only [List.cons_append,It.er,il a b (n+1),List.length_cons]
  have:n+1+a.length=n+(a.length+1):=by omega
  rw [this]
  split <;> simp
theorem xw (n:Nat) (i:It):It.er n [i] = true↔i.s.id=((n+1:Nat):Int)∧i.deep≤12∧i.s.one=true:=by
 simp only [It.er]
 split
 ·rename_i h
  simp only [Bool.or_eq_true,bne_iff_ne,ne_eq,decide_eq_true_eq,Bool.not_eq_true']at h
  refine⟨fun h=>(Bool.false_ne_true h).elim,fun⟨h1,h2,h3⟩=> ?_⟩
  rcases h with (h | h) | h
  ·exact(h h1).elim
  ·omega
  ·rw [h]at h3;cases h3
 ·rename_i h
  simp only [Bool.or_eq_true,bne_iff_ne,ne_eq,decide_eq_true_eq,Bool.not_eq_true',not_or,Decidable.not_not,Bool.not_eq_false]at h
  exact⟨fun _=>⟨h.1.1,by omega,h.2⟩,fun _=>rfl⟩
mutual
theorem uK (deep bJ:Int) (aU:Bool) : ∀ (s:Sm) (out:List It),∃ new,fL deep bJ aU out s=out++(⟨s,deep,bJ,aU⟩::new)
 | ⟨id,kind,labels,name,proc,x,has,args,a7,e⟩,out=>by
  simp only [fL]
  split
  ·obtain⟨n1,h1⟩:=mQ (deep+1) id false a7 (out++ [⟨⟨id,kind,labels,name,proc,x,has,args,a7,e⟩,deep,bJ,aU⟩])
   obtain⟨n2,h2⟩:=mQ (deep+1) id true e (cL (deep+1) id false (out++ [⟨⟨id,kind,labels,name,proc,x,has,args,a7,e⟩,deep,bJ,aU⟩]) a7)
   rw [h2,h1]
   exact⟨n1++n2,by simp⟩
  ·exact⟨[],rfl⟩
theorem mQ (deep bJ:Int) (aU:Bool) : ∀ (l:List Sm) (out:List It),∃ new,cL deep bJ aU out l=out++new
 | [],out=>⟨[],by simp [cL]⟩
 | s::l,out=>by
  simp only [cL]
  split
  ·obtain⟨n1,h1⟩:=uK deep bJ aU s out
   obtain⟨n2,h2⟩:=mQ deep bJ aU l (fL deep bJ aU out s)
   rw [h2,h1]
   exact⟨⟨s,deep,bJ,aU⟩::n1++n2,by simp⟩
  ·exact⟨[],by simp⟩
end
theorem zo {nest:Int} {n:Nat} {s:Sm} (h:(Sm.lS nest n s).1=true) :
 n+1≤200∧s.id=((n+1:Nat):Int)∧s.one=true∧(Sm.eO (nest+1) (n+1) s.a7).1=true∧(Sm.eO (nest+1) (Sm.eO (nest+1) (n+1) s.a7).2 s.aU).1=true∧
 (Sm.lS nest n s).2=(Sm.eO (nest+1) (Sm.eO (nest+1) (n+1) s.a7).2 s.aU).2:=by
 rw [yr]at h ⊢
 split at h
 ·cases h
 rename_i h1
 simp only [Bool.or_eq_true,bne_iff_ne,ne_eq,decide_eq_true_eq,Bool.not_eq_true',not_or,Decidable.not_not,Bool.not_eq_false]at h1
 split at h
 ·cases h
 rename_i h2
 have rU:(Sm.eO (nest+1) (n+1) s.a7).1=true:=by simpa using h2
 refine⟨by omega,h1.1.1.2, ?_,rU,h, ?_⟩
 ·rw [xv,h1.1.2,h1.2];rfl
 ·rw [if_neg (by simp only [Bool.or_eq_true,bne_iff_ne,ne_eq,decide_eq_true_eq,Bool.not_eq_true',not_or,Decidable.not_not,Bool.not_eq_false];exact h1),if_neg h2]
theorem oR {nest:Int} {n:Nat} {l:List Sm} (h:(Sm.eO nest n l).1=true):(l = []∨nest≤12)∧Sm.eO nest n l=Sm.dF nest n l:=by
 unfold Sm.eO gate at *
 split at h
 ·cases h
 ·rename_i hc
  rw [if_neg hc]
  refine⟨?_,rfl⟩
  simp only [Bool.and_eq_true,decide_eq_true_eq,not_and]at hc
  cases l with
  | nil=>exact .inl rfl
  | cons s l=>right;simp only [List.length_cons]at hc;omega
mutual
theorem HR : ∀ (s:Sm) (nest bJ:Int) (aU:Bool) (n:Nat) (out:List It),nest≤12→out.length≤n→n≤200→(Sm.lS nest n s).1=true→
 ∃ new,fL nest bJ aU out s=out++new∧It.er n new=true∧n+new.length=(Sm.lS nest n s).2∧(Sm.lS nest n s).2≤200
 | ⟨id,kind,labels,name,proc,x,has,args,a7,e⟩,nest,bJ,aU,n,out,HS,ho,hn,h=>by
  obtain⟨h1,h2,h3,h4,h5,h6⟩:=zo h
  dsimp only at h2 h4 h5 h6
  rw [h6]
  obtain⟨g1,e1⟩:=oR h4
  rw [e1]at h4 h5 ⊢
  obtain⟨g2,e2⟩:=oR h5
  rw [e2]at h5 ⊢
  have sg:It.er n [(⟨⟨id,kind,labels,name,proc,x,has,args,a7,e⟩,nest,bJ,aU⟩:It)] = true:=(xw _ _).2 ⟨h2,HS,h3⟩
  obtain⟨n1,k1,k2,k3,k4⟩:=qT a7 (nest+1) id false (n+1) (out++ [⟨⟨id,kind,labels,name,proc,x,has,args,a7,e⟩,nest,bJ,aU⟩]) g1 (by simp;omega) h1 h4
  obtain⟨n2,j1,j2,j3,j4⟩:=qT e (nest+1) id true _ (out++ [⟨⟨id,kind,labels,name,proc,x,has,args,a7,e⟩,nest,bJ,aU⟩]++n1) g2 (by simp;omega) k4 h5
  simp only [fL]
  rw [if_pos (by simpa using HS),k1,j1]
  refine⟨⟨⟨id,kind,labels,name,proc,x,has,args,a7,e⟩,nest,bJ,aU⟩::(n1++n2),by simp, ?_, ?_,j4⟩
  ·have:(⟨⟨id,kind,labels,name,proc,x,has,args,a7,e⟩,nest,bJ,aU⟩:It)::(n1++n2) = [⟨⟨id,kind,labels,name,proc,x,has,args,a7,e⟩,nest,bJ,aU⟩]++n1++n2:=by simp
   rw [this,il,il,sg,Bool.true_and]
   have e3:n+([(⟨⟨id,kind,labels,name,proc,x,has,args,a7,e⟩,nest,bJ,aU⟩:It)]++n1).length=(Sm.dF (nest+1) (n+1) a7).2:=by simp;omega
   rw [e3,j2]
   have e4:n + [(⟨⟨id,kind,labels,name,proc,x,has,args,a7,e⟩,nest,bJ,aU⟩:It)].length=n+1:=rfl
   rw [e4,k2];rfl
  ·simp only [List.length_cons,List.length_append];omega
theorem qT : ∀ (l:List Sm) (nest bJ:Int) (aU:Bool) (n:Nat) (out:List It),(l = []∨nest≤12)→out.length≤n→n≤200→(Sm.dF nest n l).1=true→
 ∃ new,cL nest bJ aU out l=out++new∧It.er n new=true∧n+new.length=(Sm.dF nest n l).2∧(Sm.dF nest n l).2≤200
 | [],nest,bJ,aU,n,out,HS,ho,hn,h=>⟨[],by simp [cL],rfl,by simp [Sm.dF],by simpa [Sm.dF]using hn⟩
 | s::l,nest,bJ,aU,n,out,HS,ho,hn,h=>by
  have Qd:nest≤12:=HS.resolve_left (by simp)
  simp only [Sm.dF]at h ⊢
  split at h
  ·cases h
  rename_i hc
  rw [if_neg hc]
  obtain⟨n1,k1,k2,k3,k4⟩:=HR s nest bJ aU n out Qd ho hn (by simpa using hc)
  obtain⟨n2,j1,j2,j3,j4⟩:=qT l nest bJ aU _ (out++n1) (.inr Qd) (by simp;omega) k4 h
  simp only [cL]
  rw [if_pos (by simp only [decide_eq_true_eq];omega),k1,j1]
  refine⟨n1++n2,by simp, ?_,by simp;omega,j4⟩
  rw [il,k2,k3,j2];rfl
end
mutual
theorem HT : ∀ (s:Sm) (nest bJ:Int) (aU:Bool) (n:Nat) (out new:List It),fL nest bJ aU out s=out++new→It.er n new=true→out.length≤n→n+new.length≤200→
 Sm.lS nest n s=(true,n+new.length)∧nest≤12
 | ⟨id,kind,labels,name,proc,x,has,args,a7,e⟩,nest,bJ,aU,n,out,new,mL,hm,ho,hn=>by
  obtain⟨n0,h0⟩:=uK nest bJ aU ⟨id,kind,labels,name,proc,x,has,args,a7,e⟩ out
  have e0:new = ⟨⟨id,kind,labels,name,proc,x,has,args,a7,e⟩,nest,bJ,aU⟩::n0:=List.append_cancel_left (mL.symm.trans h0)
  subst e0
  have Sn:(⟨⟨id,kind,labels,name,proc,x,has,args,a7,e⟩,nest,bJ,aU⟩:It)::n0 = [⟨⟨id,kind,labels,name,proc,x,has,args,a7,e⟩,nest,bJ,aU⟩]++n0:=rfl
  rw [Sn,il,Bool.and_eq_true]at hm
  obtain⟨BT,hm2⟩:=hm
  obtain⟨c1,c2,c3⟩:=(xw _ _).1 BT
  dsimp only at c1 c2 c3
  simp only [List.length_cons]at hn ⊢
  have Kw:cL (nest+1) id true (cL (nest+1) id false (out++ [⟨⟨id,kind,labels,name,proc,x,has,args,a7,e⟩,nest,bJ,aU⟩]) a7) e=out++([⟨⟨id,kind,labels,name,proc,x,has,args,a7,e⟩,nest,bJ,aU⟩]++n0):=by
   simp only [fL]at mL
   rw [if_pos (by simpa using c2)]at mL
   exact mL
  obtain⟨n1,g1⟩:=mQ (nest+1) id false a7 (out++ [⟨⟨id,kind,labels,name,proc,x,has,args,a7,e⟩,nest,bJ,aU⟩])
  obtain⟨n2,g2⟩:=mQ (nest+1) id true e (cL (nest+1) id false (out++ [⟨⟨id,kind,labels,name,proc,x,has,args,a7,e⟩,nest,bJ,aU⟩]) a7)
  have en:n0=n1++n2:=by
   rw [g2,g1]at Kw
   simp only [List.append_assoc,List.append_cancel_left_eq]at Kw
   exact Kw.symm
  subst en
  have Kx:It.er (n+1) (n1++n2)=true:=hm2
  rw [il,Bool.and_eq_true]at Kx
  simp only [List.length_append]at hn ⊢
  obtain⟨r1,r2⟩:=qU a7 (nest+1) id false (n+1) _ n1 g1 Kx.1 (by simp;omega) (by omega)
  obtain⟨q1,q2⟩:=qU e (nest+1) id true (n+1+n1.length) _ n2 g2 Kx.2 (by rw [g1];simp;omega) (by omega)
  refine⟨?_,c2⟩
  have gg : ∀ {l:List Sm} {m:Nat} {r:Bool×Nat},Sm.dF (nest+1) m l=r→(l = []∨nest+1≤12)→Sm.eO (nest+1) m l=r:=by
   intro l m r h1 h2
   unfold Sm.eO gate
   rw [if_neg]
   ·exact h1
   ·simp only [Bool.and_eq_true,decide_eq_true_eq,not_and]
    rcases h2 with h2 | h2
    ·subst h2;simp
    ·omega
  have t1:=gg r1 r2
  have t2:=gg q1 q2
  rw [yr]
  dsimp only
  rw [t1]
  dsimp only
  rw [t2]
  rw [xv,Bool.and_eq_true]at c3
  rw [if_neg]
  ·simp;omega
  ·simp only [Bool.or_eq_true,bne_iff_ne,ne_eq,decide_eq_true_eq,Bool.not_eq_true',not_or,Decidable.not_not,Bool.not_eq_false]
   exact⟨⟨⟨by omega,c1⟩,c3.1⟩,c3.2⟩
theorem qU : ∀ (l:List Sm) (nest bJ:Int) (aU:Bool) (n:Nat) (out new:List It),cL nest bJ aU out l=out++new→It.er n new=true→out.length≤n→n+new.length≤200→
 Sm.dF nest n l=(true,n+new.length)∧(l = []∨nest≤12)
 | [],nest,bJ,aU,n,out,new,mL,hm,ho,hn=>by
  simp only [cL]at mL
  have:new = []:=by simpa using mL
  subst this
  exact⟨by simp [Sm.dF], .inl rfl⟩
 | s::l,nest,bJ,aU,n,out,new,mL,hm,ho,hn=>by
  simp only [cL]at mL
  rw [if_pos (by simp only [decide_eq_true_eq];omega)]at mL
  obtain⟨n1,g1⟩:=uK nest bJ aU s out
  obtain⟨n2,g2⟩:=mQ nest bJ aU l (fL nest bJ aU out s)
  have en:new=(⟨s,nest,bJ,aU⟩::n1)++n2:=by
   rw [g2,g1,List.append_assoc,List.append_cancel_left_eq]at mL
   exact mL.symm
  subst en
  rw [il,Bool.and_eq_true]at hm
  rw [List.length_append]at hn ⊢
  obtain⟨r1,r2⟩:=HT s nest bJ aU n out _ g1 hm.1 ho (by omega)
  obtain⟨q1,q2⟩:=qU l nest bJ aU (n+(⟨s,nest,bJ,aU⟩::n1:List It).length) _ n2 g2 hm.2 (by rw [g1,List.length_append];omega) (by omega)
  refine⟨?_, .inr r2⟩
  simp only [Sm.dF,r1,Bool.not_true,Bool.false_eq_true, ↓reduceIte,q1]
  congr 1;omega
end
theorem uL : ∀ (l:List Pc) (out:List It),out.length≤200→(Pc.dF out.length l=true↔Pc.mn l=true∧∃ new,allM out l=out++new∧(out++new).length≤200∧It.er out.length new=true)
 | [],out,ho=>by simp [Pc.dF,Pc.mn,allM,It.er];exact ho
 | f::l,out,ho=>by
  have Ky : ∀ (l:List Pc) (out:List It),∃ new,allM out l=out++new:=by
   intro l
   induction l with
   | nil=>intro out;exact⟨[],by simp [allM]⟩
   | cons f l ih=>
    intro out
    simp only [allM]
    split
    ·exact⟨_,rfl⟩
    ·obtain⟨n1,h1⟩:=ih (out++f.flat)
     exact⟨f.flat++n1,by rw [h1,List.append_assoc]⟩
  simp only [Pc.dF,Pc.mn]
  have Sp:(decide ((f.params.length:Int) > 8) || decide ((f.vars.length:Int) > 16) || !(isName f.name) || !(dr f.vars) || !(dr f.fin))=(!(isName f.name) || decide ((f.params.length:Int) > 8) || decide ((f.vars.length:Int) > 16) || !(dr f.vars) || !(dr f.fin)):=by
   cases isName f.name <;> simp
  rw [Sp]
  split
  ·simp
  split
  ·simp
  have hg:Sm.eO 1 out.length f.body=Sm.dF 1 out.length f.body:=by unfold Sm.eO gate;rw [if_neg (by simp)]
  rw [hg]
  constructor
  ·intro h
   split at h
   ·cases h
   rename_i hc
   obtain⟨n1,k1,k2,k3,k4⟩:=qT f.body 1 0 false out.length [] (.inr (by omega)) (by simp) ho (by simpa using hc)
   have mL:f.flat=n1:=by unfold Pc.flat;rw [k1];rfl
   rw [← k3, ← List.length_append]at h
   obtain⟨hh,n2,j1,j2,j3⟩:=(uL l (out++n1) (by rw [List.length_append];omega)).1 h
   refine⟨hh,n1++n2, ?_,by simpa using j2, ?_⟩
   ·simp only [allM,mL]
    rw [if_neg (by simp only [List.length_append,decide_eq_true_eq];omega),j1,List.append_assoc]
   ·rw [il,k2, ← List.length_append,j3];rfl
  ·rintro⟨hh,new,j1,j2,j3⟩
   simp only [allM]at j1
   split at j1
   ·rename_i hc
    have:new=f.flat:=(List.append_cancel_left j1).symm
    subst this
    simp only [decide_eq_true_eq]at hc
    omega
   rename_i hc
   simp only [decide_eq_true_eq]at hc
   obtain⟨n2,g2⟩:=Ky l (out++f.flat)
   have en:new=f.flat++n2:=by
    rw [g2,List.append_assoc]at j1
    exact(List.append_cancel_left j1).symm
   subst en
   rw [il,Bool.and_eq_true]at j3
   rw [List.length_append,List.length_append]at j2
   obtain⟨r1,_⟩:=qU f.body 1 0 false out.length [] f.flat (by unfold Pc.flat;rfl) j3.1 (by simp) (by omega)
   rw [r1]
   simp only [Bool.not_true,Bool.false_eq_true, ↓reduceIte]
   rw [← List.length_append]
   exact(uL l (out++f.flat) (by rw [List.length_append];omega)).2 ⟨hh,n2,g2,by simp;omega,by rw [List.length_append];exact j3.2⟩
theorem yx (p:Pg):p.yv=p.may:=by
 have h:=uL p.procs [] (by simp)
 unfold Pg.yv Pg.may
 split
 ·rfl
 ·have e:Pc.dF 0 p.procs=(if !(Pc.mn p.procs)then false else if decide ((p.all.length:Int) > 200)then false else It.er 0 p.all):=by
   rw [Bool.eq_iff_iff]
   have h':Pc.dF 0 p.procs=true↔_:=h
   rw [h']
   have ha:p.all=allM [] p.procs:=rfl
   constructor
   ·rintro⟨h1,new,h2,h3,h4⟩
    rw [ha,h2,h1]
    simp only [List.nil_append]at h3 ⊢
    simp only [Bool.not_true,Bool.false_eq_true, ↓reduceIte]
    rw [if_neg (by simp only [decide_eq_true_eq];omega)]
    exact h4
   ·intro h1
    cases hh:Pc.mn p.procs
    ·rw [hh]at h1;simp at h1
    ·rw [hh]at h1
     simp only [Bool.not_true,Bool.false_eq_true, ↓reduceIte]at h1
     split at h1
     ·cases h1
     ·rename_i hc
      simp only [decide_eq_true_eq]at hc
      exact⟨rfl,p.all,by rw [ha];rfl,by simp;omega,h1⟩
  exact e
end Go.Abs

/-! Tree1 -/

namespace Go.Abs
set_option maxRecDepth 8000
open Go.Proofs
theorem xx {size bytes z:Nat} {g:Tag} {rows:List (List D)} {s:St} (h:rows.length*(bytes+1)≤bb) (hr:rows≠ []) :
 fY size bytes (.slice .full z []) (.slice g size rows) s=some (.slice (.tok s.av.length) size rows,⟨s.au,s.av++ [some rows.length]⟩):=by
 cases rows with
 | nil=>exact absurd rfl hr
 | cons r l=>simp only [fY];simp at h ⊢;exact h
theorem qV {l:List aA} (hl:l.length<1073741824) (g:Tag) (s:St):aG Tryz.prog fb [.slice g 1 (l.map encStr)] s (.slice .shared 1 (l.map encStr)) s:=by
 refine dh.uk (.cons (Wk.shared _ _ _) .nil) (aG.pure ?_ (by simp [D.bG,D.ok,Tag.ok,dJ]) (by simp [D.ok,Tag.ok,dJ]) s)
 unfold S0
 refine aG.go qn rfl fun B Q hB hQ=> ?_
 have⟨hD,hF,hJ,hP⟩:=bP
 cases l with
 | nil=>
  repeat' (first
 | simp only [go_sem,hD,hF,hJ,hP]
 | (with_reducible refine aJ hQ ?_;simp only [aw,ay,Option.some.injEq,exists_eq_left',go_sem,hD,hF,hJ,hP];repeat' (first | exact Ok.out | with_reducible refine aI ?_ ?_ | (simp;done))))
  refine Br (fun _=> ?_) ?_
  ·repeat' (first
 | simp only [go_sem,hD,hF,hJ,hP,fY,true_or,Nat.zero_le]
 | (with_reducible refine aJ hQ ?_;simp only [aw,ay,Option.some.injEq,exists_eq_left',go_sem,hD,hF,hJ,hP];repeat' (first | exact Ok.out | with_reducible refine aI ?_ ?_ | (simp;done))))
  ·repeat' (first
 | simp only [go_sem,hD,hF,hJ,hP,fY,true_or,Nat.zero_le]
 | (with_reducible refine aJ hQ ?_;simp only [aw,ay,Option.some.injEq,exists_eq_left',go_sem,hD,hF,hJ,hP];repeat' (first | exact Ok.out | with_reducible refine aI ?_ ?_ | (simp;done))))
 | cons x l=>
  have e:((x::l).map encStr).length*(16+1)≤bb:=by simp only [List.length_map,bb];omega
  have e2:=fun s=>xx (size:=1) (z:=1) (g:= .shared) (s:=s) e (by simp)
  simp only [List.map_cons,encStr]at e2
  repeat' (first
 | simp only [go_sem,hD,hF,hJ,hP,e2]
 | (with_reducible refine aJ hQ ?_;simp only [aw,ay,Option.some.injEq,exists_eq_left',go_sem,hD,hF,hJ,hP];repeat' (first | exact Ok.out | with_reducible refine aI ?_ ?_ | (simp;done))))
theorem Kz {l:List Pm} (hl:l.length<1073741824) (g:Tag) (s:St):aG Tryz.prog iL [.slice g 2 (l.map fu)] s (.slice .shared 2 (l.map fu)) s:=by
 refine dh.uk (.cons (Wk.shared _ _ _) .nil) (aG.pure ?_ (by simp [D.bG,D.ok,Tag.ok,LU]) (by simp [D.ok,Tag.ok,LU]) s)
 unfold S0
 refine aG.go pb rfl fun B Q hB hQ=> ?_
 have⟨hD,hF,hJ,hP⟩:=bP
 cases l with
 | nil=>
  repeat' (first
 | simp only [go_sem,hD,hF,hJ,hP]
 | (with_reducible refine aJ hQ ?_;simp only [aw,ay,Option.some.injEq,exists_eq_left',go_sem,hD,hF,hJ,hP];repeat' (first | exact Ok.out | with_reducible refine aI ?_ ?_ | (simp;done))))
  refine Br (fun _=> ?_) ?_
  ·repeat' (first
 | simp only [go_sem,hD,hF,hJ,hP,fY,true_or,Nat.zero_le]
 | (with_reducible refine aJ hQ ?_;simp only [aw,ay,Option.some.injEq,exists_eq_left',go_sem,hD,hF,hJ,hP];repeat' (first | exact Ok.out | with_reducible refine aI ?_ ?_ | (simp;done))))
  ·repeat' (first
 | simp only [go_sem,hD,hF,hJ,hP,fY,true_or,Nat.zero_le]
 | (with_reducible refine aJ hQ ?_;simp only [aw,ay,Option.some.injEq,exists_eq_left',go_sem,hD,hF,hJ,hP];repeat' (first | exact Ok.out | with_reducible refine aI ?_ ?_ | (simp;done))))
 | cons x l=>
  have e:((x::l).map fu).length*(24+1)≤bb:=by simp only [List.length_map,bb];omega
  have e2:=fun s=>xx (size:=2) (z:=2) (g:= .shared) (s:=s) e (by simp)
  simp only [List.map_cons,encStr]at e2
  repeat' (first
 | simp only [go_sem,hD,hF,hJ,hP,e2]
 | (with_reducible refine aJ hQ ?_;simp only [aw,ay,Option.some.injEq,exists_eq_left',go_sem,hD,hF,hJ,hP];repeat' (first | exact Ok.out | with_reducible refine aI ?_ ?_ | (simp;done))))
theorem Qe : ∀ n,n<1073741824→∀ x:Ex,x.size≤n→aG Tryz.prog jz [.agg (bj x)] S0 (.agg (bj x)) S0:=by
 intro n
 induction n with
 | zero=>rintro _ ⟨op,m,name,kids⟩ h;simp only [Ex.size]at h;omega
 | succ n ihn=>
 rintro hn ⟨op,m,name,kids⟩ hx
 have hk : ∀ y∈kids,∀ s,aG Tryz.prog jz [.agg (bj y)] s (.agg (bj y)) s:=fun y hy s=>
  (ihn (by omega) y (by simp only [Ex.size]at hx;have:=Ex.bA hy;omega)).pure (by simp [D.bG,D.ok,fZ]) (by simp [D.ok,fZ]) s
 have hlen:kids.length<1073741824:=by simp only [Ex.size]at hx;have:=Ex.cu kids;omega
 unfold S0
 refine aG.go Aa rfl fun B Q hB hQ=> ?_
 have⟨hD,hF,hJ,hP⟩:=bP
 repeat' (first
 | simp only [go_sem,hD,hF,hJ,hP]
 | (with_reducible refine aJ hQ ?_;simp only [aw,ay,Option.some.injEq,exists_eq_left',go_sem,hD,hF,hJ,hP];repeat' (first | exact Ok.out | with_reducible refine aI ?_ ?_ | (simp;done))))
 refine bk.x8 0 3 4 rfl rfl ?_
 simp only [go_sem,hD,hF,hJ,hP]
 refine dc 2 1 (bk.ind (ι:=List Ex×Nat×List Ex) (fun i=>kids.drop i.2.1=i.1∧i.2.1=i.2.2.length∧i.2.2++i.1=kids) (fun i=>i.1.length)
  (fun i=> [(1, .ptr 0 0),(2, .ptr 1 0),(9, .slice .shared 4 (kids.map bj)),(10, .int .i64 (kids.length:Int)),(11, .int .i64 (i.2.1:Int))])
  (fun i=>⟨[[.int .i64 op, .int .i64 m, .str name, .slice (.tok 0) 4 (i.2.2.map bj)],bj mP],[some i.2.1]⟩) ?_ (kids,0,[]) ⟨rfl,rfl,rfl⟩)
 rintro⟨rest,k,acc⟩ ⟨h1,h2,h3⟩ IH
 dsimp only at h1 h2 h3
 subst h2
 cases rest with
 | nil=>
  have hD:=drop_nil h1
  rw [List.append_nil]at h3
  subst h3
  repeat' (first
 | simp only [go_sem,hD,hF,hJ,hP]
 | (with_reducible refine aJ hQ ?_;simp only [aw,ay,Option.some.injEq,exists_eq_left',go_sem,hD,hF,hJ,hP];repeat' (first | exact Ok.out | with_reducible refine aI ?_ ?_ | (simp;done))))
 | cons y rest=>
  obtain⟨hF,g2,hD,g4⟩:=drop_cons h1
  have hJ:acc.length<4611686018427387904:=by omega
  have lB:(acc.length+1)*57≤bb:=by simp only [bb];omega
  have hy:=hk y (List.mem_of_getElem? hF)
  repeat' (first
 | simp only [go_sem,hD,hF,hJ,hP,lB]
 | (with_reducible refine CU (hy _) ?_)
 | (with_reducible refine aJ hQ ?_;simp only [aw,ay,Option.some.injEq,exists_eq_left',go_sem,hD,hF,hJ,hP];repeat' (first | exact Ok.out | with_reducible refine aI ?_ ?_ | (simp;done))))
  refine dc 2 1 (IH (rest,acc.length+1,acc++ [y]) ⟨g2,by simp,by simp only [List.append_assoc,List.cons_append,List.nil_append];exact h3⟩ (Nat.lt_succ_self _))
theorem HU {x:Ex} (h:x.size<1073741824) (s:St):aG Tryz.prog jz [.agg (bj x)] s (.agg (bj x)) s:=
 (Qe x.size h x (Nat.le_refl _)).pure (by simp [D.bG,D.ok,fZ]) (by simp [D.ok,fZ]) s
end Go.Abs

/-! Tree2 -/

namespace Go.Abs
set_option maxRecDepth 8000
open Go.Proofs
abbrev Mc (b:Bool) (N:Nat):Prop:=∀ l:List Sm,Sm.aN l<N→∀ n:Nat,n+Sm.aN l<1073741824→∀ s:St,
 aG Tryz.prog gU [.slice .shared 13 (l.map bd), .int .i64 (n:Int), .bool b] s (.tuple [.slice .shared 13 ((Sm.eC b n l).1.map bd), .int .i64 ((Sm.eC b n l).2:Int)]) s
theorem KA {N:Nat} (ih:Mc true N) (l:List Sm) (hl:Sm.aN l<N+1) (n:Nat) (hn:n+Sm.aN l<1073741824) :
 aG Tryz.prog gU [.slice .shared 13 (l.map bd), .int .i64 (n:Int), .bool true] S0 (.tuple [.slice .shared 13 ((Sm.eC true n l).1.map bd), .int .i64 ((Sm.eC true n l).2:Int)]) S0:=by
 unfold S0
 refine aG.go xg rfl fun B Q hB hQ=> ?_
 have⟨hD,hF,hJ,hP⟩:=bP
 repeat' (first
 | simp only [go_sem,hD,hF,hJ,hP]
 | (with_reducible refine aJ hQ ?_;simp only [aw,ay,Option.some.injEq,exists_eq_left',go_sem,hD,hF,hJ,hP];repeat' (first | exact Ok.out | with_reducible refine aI ?_ ?_ | (simp;done))))
 have hlen:l.length<1073741824:=by have:=Sm.cu l;omega
 refine bk.ng 8 13 rfl ?_
 simp only [go_sem,hD,hF,hJ,hP]
 refine dc 0 1 (bk.ind (ι:=List Sm×Nat×List Sm×Nat) (fun i=>l.drop i.2.1=i.1∧i.2.1=i.2.2.1.length∧Sm.eC true n l=(i.2.2.1++(Sm.eC true i.2.2.2 i.1).1,(Sm.eC true i.2.2.2 i.1).2)∧i.2.2.2+Sm.aN i.1≤n+Sm.aN l) (fun i=>i.1.length)
  (fun i=> [(1, .int .i64 (i.2.2.2:Int)),(2, .bool true),(8, .slice (.tok 0) 13 (i.2.2.1.map bd)),(14, .slice .shared 13 (l.map bd)),(15, .int .i64 (l.length:Int)),(16, .int .i64 (i.2.1:Int))])
  (fun i=>⟨[],[some i.2.1]⟩) ?_ (l,0,[],n) ⟨rfl,rfl,rfl,Nat.le_refl _⟩)
 rintro⟨rest,k,acc,m⟩ ⟨h1,h2,h3,h4⟩ IH
 dsimp only at h1 h2 h3 h4
 subst h2
 cases rest with
 | nil=>
  have hD:=drop_nil h1
  simp only [Sm.eC,List.append_nil]at h3
  rw [h3]at hQ
  repeat' (first
 | simp only [go_sem,hD,hF,hJ,hP]
 | (with_reducible refine aJ hQ ?_;simp only [aw,ay,Option.some.injEq,exists_eq_left',go_sem,hD,hF,hJ,hP];repeat' (first | exact Ok.out | with_reducible refine aI ?_ ?_ | (simp;done))))
 | cons y rest=>
  obtain⟨hF,g2,hD,g4⟩:=drop_cons h1
  simp only [Sm.aN]at h4 hl
  have hm:m<4611686018427387904:=by omega
  have hk:acc.length<4611686018427387904:=by omega
  have dI:y.size≤N:=by have:=Sm.bA (List.mem_of_getElem? hF);omega
  obtain⟨id,kind,labels,name,proc,x,has,args,a7,aU⟩:=y
  simp only [Sm.size]at dI h4
  have lB:(acc.length+1)*209≤bb:=by simp only [bb];omega
  have hx:=fun s=>HU (x:=x) (by omega) s
  simp only [fj]at hx
  have wX:=fun g s=>qV (l:=labels) (by omega) g s
  have C5:=Ar.cu args
  repeat' (first
 | simp only [go_sem,hD,hF,hJ,hP,aD hm]
 | (with_reducible refine CU (wX _ _) ?_)
 | (with_reducible refine CU (hx _) ?_)
 | (with_reducible refine aJ hQ ?_;simp only [aw,ay,Option.some.injEq,exists_eq_left',go_sem,hD,hF,hJ,hP];repeat' (first | exact Ok.out | with_reducible refine aI ?_ ?_ | (simp;done))))
  refine bk.x8 1 10 6 rfl rfl ?_
  simp only [go_sem,hD,hF,hJ,hP]
  refine dc 2 2 (bk.ind (ι:=List Ar×Nat×List Ar) (fun i=>args.drop i.2.1=i.1∧i.2.1=i.2.2.length∧i.2.2++i.1=args) (fun i=>i.1.length)
   (fun i=> [(1, .int .i64 ((m+1:Nat):Int)),(2, .bool true),(8, .slice (.tok 0) 13 (acc.map bd)),(10, .ptr 0 0),(11, .ptr 1 0),(14, .slice .shared 13 (l.map bd)),(15, .int .i64 (l.length:Int)),(16, .int .i64 (acc.length:Int)),
    (36, .slice .shared 6 (args.map df)),(37, .int .i64 (args.length:Int)),(38, .int .i64 (i.2.1:Int))])
   (fun i=>⟨[bd ⟨id,kind,labels,name,proc,x,has,args,a7,aU⟩,[.int .i64 ((m+1:Nat):Int), .int .i64 kind, .slice .shared 1 (labels.map encStr), .str name, .str proc, .int .i64 x.op, .int .i64 x.n, .str x.name, .slice .shared 4 (x.kids.map bj), .bool has, .slice (.tok 1) 6 (i.2.2.map df), .slice .shared 13 (a7.map bd), .slice .shared 13 (aU.map bd)]],[some acc.length,some i.2.1]⟩) ?_ (args,0,[]) ⟨rfl,rfl,rfl⟩)
  rintro⟨FB,ka,yy⟩ ⟨j1,j2,j3⟩ IHa
  dsimp only at j1 j2 j3
  subst j2
  cases FB with
  | nil=>
   have hD:=drop_nil j1
   rw [List.append_nil]at j3
   subst j3
   have b1:=Sm.pL true (m+1) a7
   have b2:=Sm.pL true (Sm.eC true (m+1) a7).2 aU
   have c1:=ih a7 (by omega) (m+1) (by omega)
   have c2:=ih aU (by omega) (Sm.eC true (m+1) a7).2 (by omega)
   repeat' (first
 | simp only [go_sem,hD,hF,hJ,hP,lB]
 | (with_reducible refine CU (c1 _) ?_)
 | (with_reducible refine CU (c2 _) ?_)
 | (with_reducible refine aJ hQ ?_;simp only [aw,ay,Option.some.injEq,exists_eq_left',go_sem,hD,hF,hJ,hP];repeat' (first | exact Ok.out | with_reducible refine aI ?_ ?_ | (simp;done))))
   refine da 0 1 ?_ ?_ (IH (rest,acc.length+1,acc++ [(Sm.num true m ⟨id,kind,labels,name,proc,x,has,yy,a7,aU⟩).1],(Sm.num true m ⟨id,kind,labels,name,proc,x,has,yy,a7,aU⟩).2) ⟨g2,by simp,by rw [h3];simp [Sm.eC],by simp only [Sm.num];omega⟩ (Nat.lt_succ_self _))
   ·(simp only [go_sem,hD,hF,hJ,hP,aD hk,Sm.num];try exact bo)
   ·(simp only [go_sem,hD,hF,hJ,hP,aD hk,Sm.num];try exact bo)
  | cons a FB=>
   obtain⟨hF,g2,hD,g4⟩:=drop_cons j1
   have ha:a.x.size<1073741824:=by have:=Ar.bA (List.mem_of_getElem? hF);omega
   have yP:yy.length<4611686018427387904:=by omega
   have Qf:(yy.length+1)*81≤bb:=by simp only [bb];omega
   have To:=fun s=>HU ha s
   simp only [fj]at To
   obtain⟨V8,Sq,ax⟩:=a
   repeat' (first
 | simp only [go_sem,hD,hF,hJ,hP,Qf]
 | (with_reducible refine CU (To _) ?_)
 | (with_reducible refine aJ hQ ?_;simp only [aw,ay,Option.some.injEq,exists_eq_left',go_sem,hD,hF,hJ,hP];repeat' (first | exact Ok.out | with_reducible refine aI ?_ ?_ | (simp;done))))
   refine da 2 2 ?_ ?_ (IHa (FB,yy.length+1,yy++ [⟨V8,Sq,ax⟩]) ⟨g2,by simp,by simp only [List.append_assoc,List.cons_append,List.nil_append];exact j3⟩ (Nat.lt_succ_self _))
   ·(simp only [go_sem,hD,hF,hJ,hP,aD yP];try exact bo)
   ·(simp only [go_sem,hD,hF,hJ,hP,aD yP];try exact bo)
theorem Nt : ∀ N,Mc true N:=by
 intro N
 induction N with
 | zero=>intro l hl;exact absurd hl (Nat.not_lt_zero _)
 | succ N ih=>
  intro l hl n hn s
  exact(KA ih l hl n hn).pure (by simp [D.bG,D.ok,Tag.ok,nh]) (by simp [D.bG,D.ok,Tag.ok,nh]) s
theorem Sr {l:List Sm} {n:Nat} (h:n+Sm.aN l<1073741824) (s:St) :
 aG Tryz.prog gU [.slice .shared 13 (l.map bd), .int .i64 (n:Int), .bool true] s (.tuple [.slice .shared 13 ((Sm.eC true n l).1.map bd), .int .i64 ((Sm.eC true n l).2:Int)]) s:=
 Nt _ l (Nat.lt_succ_self _) n h s
theorem KB {p:Pg} (hp:p.size<1073741824):aG Tryz.prog ml [.agg (bX p)] S0 (.agg (bX p.number)) S0:=by
 obtain⟨globals,procs⟩:=p
 simp only [Pg.size]at hp
 have hlen:procs.length<1073741824:=by have:=Pc.cu procs;omega
 have hcg:=fun g s=>qV (l:=globals) (by omega) g s
 unfold S0
 refine aG.go xf rfl fun B Q hB hQ=> ?_
 have⟨hD,hF,hJ,hP⟩:=bP
 repeat' (first
 | simp only [go_sem,hD,hF,hJ,hP]
 | (with_reducible refine CU (hcg _ _) ?_)
 | (with_reducible first | refine cR fun hc=> ?_ | refine cT fun hc=> ?_ | refine cU (fun hc=> ?_) fun hc=> ?_) <;> (try simp only [hc,bs, ↓reduceIte]at h) <;> try simp only [hc]
 | (with_reducible refine aJ hQ ?_;simp only [aw,ay,cm,cq,go_sem,hD,hF,hJ,hP];repeat' (first | exact Ok.out | with_reducible refine aI ?_ ?_ | (simp;done))))
 refine bk.x8 2 1 5 rfl rfl ?_
 simp only [go_sem,hD,hF,hJ,hP]
 refine dc 3 1 (bk.ind (ι:=List Pc×Nat×List Pc×Nat) (fun i=>procs.drop i.2.1=i.1∧i.2.1=i.2.2.1.length∧Pc.eC 0 procs=i.2.2.1++Pc.eC i.2.2.2 i.1∧i.2.2.2+Pc.aN i.1≤Pc.aN procs) (fun i=>i.1.length)
  (fun i=> [(2, .ptr 1 0),(3, .int .i64 (i.2.2.2:Int)),(4, .ptr 2 0),(13, .slice .shared 5 (procs.map bR)),(14, .int .i64 (procs.length:Int)),(15, .int .i64 (i.2.1:Int))])
  (fun i=>⟨[bX ⟨globals,procs⟩,bX LI,[.slice .shared 1 (globals.map encStr), .slice (.tok 0) 5 (i.2.2.1.map bR)]],[some i.2.1]⟩) ?_ (procs,0,[],0) ⟨rfl,rfl,rfl,by dsimp only;omega⟩)
 rintro⟨rest,k,acc,m⟩ ⟨h1,h2,h3,h4⟩ IH
 dsimp only at h1 h2 h3 h4
 subst h2
 cases rest with
 | nil=>
  have hD:=drop_nil h1
  simp only [Pc.eC,List.append_nil]at h3
  subst h3
  repeat' (first
 | simp only [go_sem,hD,hF,hJ,hP,Pg.number]
 | (with_reducible first | refine cR fun hc=> ?_ | refine cT fun hc=> ?_ | refine cU (fun hc=> ?_) fun hc=> ?_) <;> (try simp only [hc,bs, ↓reduceIte]at h) <;> try simp only [hc]
 | (with_reducible refine aJ hQ ?_;simp only [aw,ay,cm,cq,go_sem,hD,hF,hJ,hP,Pg.number];repeat' (first | exact Ok.out | with_reducible refine aI ?_ ?_ | (simp;done))))
 | cons y rest=>
  obtain⟨hF,g2,hD,g4⟩:=drop_cons h1
  simp only [Pc.aN]at h4
  have dI:=Pc.bA (List.mem_of_getElem? hF)
  obtain⟨name,params,vars,body,fin⟩:=y
  simp only [Pc.size]at dI h4
  have hk:acc.length<4611686018427387904:=by omega
  have lB:(acc.length+1)*113≤bb:=by simp only [bb];omega
  have c1:=fun g s=>Kz (l:=params) (by omega) g s
  have c2:=fun g s=>qV (l:=vars) (by omega) g s
  have c3:=fun g s=>qV (l:=fin) (by omega) g s
  have c4:=fun s=>Sr (l:=body) (n:=m) (by omega) s
  have b1:=Sm.pL true m body
  repeat' (first
 | simp only [go_sem,hD,hF,hJ,hP,lB]
 | (with_reducible refine CU (c1 _ _) ?_)
 | (with_reducible refine CU (c2 _ _) ?_)
 | (with_reducible refine CU (c3 _ _) ?_)
 | (with_reducible refine CU (c4 _) ?_)
 | (with_reducible refine aJ hQ ?_;simp only [aw,ay,cm,cq,go_sem,hD,hF,hJ,hP];repeat' (first | exact Ok.out | with_reducible refine aI ?_ ?_ | (simp;done))))
  refine da 3 1 ?_ ?_ (IH (rest,acc.length+1,acc++ [⟨name,params,vars,(Sm.eC true m body).1,fin⟩],(Sm.eC true m body).2) ⟨g2,by simp,by rw [h3];simp [Pc.eC],by dsimp only;omega⟩ (Nat.lt_succ_self _))
  ·(simp only [go_sem,hD,hF,hJ,hP,aD hk];try exact bo)
  ·(simp only [go_sem,hD,hF,hJ,hP,aD hk];try exact bo)
theorem KD {p q:Pg} (h:p.rW=some q) (s:St):aG Tryz.prog ml [.agg (bX p)] s (.agg (bX q)) s:=by
 unfold Pg.rW at h
 split at h
 ·cases h;exact(KB ‹_›).pure (by simp [D.bG,D.ok,kN]) (by simp [D.ok,kN]) s
 ·cases h
end Go.Abs

/-! Sc1 -/

namespace Go.Abs
set_option maxRecDepth 8000
open Go.Proofs
def V9 (x:aA):List aA→Bool
 | []=>false
 | s::l=>if x==s then true else V9 x l
def zp (pre:List aA):List aA→Bool
 | []=>false
 | s::l=>if dK pre s then true else zp (pre++ [s]) l
def e8 (l:List aA):Bool:=zp [] l
theorem HV {l:List aA} {k:Nat} {a:aA} (h:l[k]? = some a):l.take (k+1)=l.take k++ [a]:=by rw [List.take_add_one,h];rfl
theorem Qg {l:List aA} (hl:l.length<4611686018427387904) (x:aA) (g:Tag) (s:St):aG Tryz.prog qF [.slice g 1 (l.map encStr), .str x] s (.bool (dK l x)) s:=by
 refine aG.Hw (d':= .slice .shared 1 (l.map encStr)) ?_ (Wk.shared _ _ _)
 refine aG.pure ?_ (by simp [D.bG,D.ok,Tag.ok,dJ]) rfl s
 rw [← uH]
 generalize h:nE x l=p
 unfold S0
 refine aG.go CF rfl fun B Q hB hQ=> ?_
 have⟨hD,hF,hJ,hP⟩:=bP
 repeat' (first
 | simp only [go_sem,hD,hF,hJ,hP]
 | (with_reducible first | refine cR fun hc=> ?_ | refine cT fun hc=> ?_ | refine cU (fun hc=> ?_) fun hc=> ?_) <;> (try simp only [hc,bs, ↓reduceIte]at h) <;> try simp only [hc]
 | (with_reducible refine aJ hQ ?_;(try cases h);simp only [aw,ay,cm,cq,go_sem,hD,hF,hJ,hP];repeat' (first | exact Ok.out | with_reducible refine aI ?_ ?_ | (simp;done))))
 refine dc 0 0 (bk.ind (ι:=List aA×Nat) (fun i=>l.drop i.2=i.1∧nE x i.1=p) (fun i=>i.1.length)
  (fun i=> [(0, .slice .shared 1 (l.map encStr)),(1, .str x),(7, .int .i64 (l.length:Int)),(8, .int .i64 (i.2:Int))]) (fun i=>⟨[],[]⟩) ?_ (l,0) ⟨rfl,h⟩)
 rintro⟨rest,k⟩ ⟨h1,h⟩ IH
 dsimp only at h1 h
 cases rest with
 | nil=>
  have hD:=drop_nil h1
  simp only [nE]at h
  repeat' (first
 | simp only [go_sem,hD,hF,hJ,hP]
 | (with_reducible first | refine cR fun hc=> ?_ | refine cT fun hc=> ?_ | refine cU (fun hc=> ?_) fun hc=> ?_) <;> (try simp only [hc,bs, ↓reduceIte]at h) <;> try simp only [hc]
 | (with_reducible refine aJ hQ ?_;(try cases h);simp only [aw,ay,cm,cq,go_sem,hD,hF,hJ,hP];repeat' (first | exact Ok.out | with_reducible refine aI ?_ ?_ | (simp;done))))
 | cons a rest=>
  obtain⟨hF,g2,hD,g4⟩:=drop_cons h1
  have bq:k<4611686018427387904:=by omega
  simp only [nE]at h
  repeat' (first
 | simp only [go_sem,hD,hF,hJ,hP]
 | (with_reducible first | refine cR fun hc=> ?_ | refine cT fun hc=> ?_ | refine cU (fun hc=> ?_) fun hc=> ?_) <;> (try simp only [hc,bs, ↓reduceIte]at h) <;> try simp only [hc]
 | (with_reducible refine aJ hQ ?_;(try cases h);simp only [aw,ay,cm,cq,go_sem,hD,hF,hJ,hP];repeat' (first | exact Ok.out | with_reducible refine aI ?_ ?_ | (simp;done))))
  refine da 0 0 ?_ ?_ (IH (rest,k+1) ⟨g2,h⟩ (Nat.lt_succ_self _))
  ·(simp only [go_sem,hD,hF,hJ,hP,aD bq];try exact bo)
  ·(simp only [go_sem,hD,hF,hJ,hP,aD bq];try exact bo)
theorem wq {l:List aA} (hl:l.length<4611686018427387904) (g:Tag) (s:St):aG Tryz.prog kE [.slice g 1 (l.map encStr)] s (.bool (e8 l)) s:=by
 refine aG.Hw (d':= .slice .shared 1 (l.map encStr)) ?_ (Wk.shared _ _ _)
 refine aG.pure ?_ (by simp [D.bG,D.ok,Tag.ok,dJ]) rfl s
 generalize h:e8 l=p
 simp only [e8]at h
 unfold S0
 refine aG.go xd rfl fun B Q hB hQ=> ?_
 have⟨hD,hF,hJ,hP⟩:=bP
 repeat' (first
 | simp only [go_sem,hD,hF,hJ,hP]
 | (with_reducible first | refine cR fun hc=> ?_ | refine cT fun hc=> ?_ | refine cU (fun hc=> ?_) fun hc=> ?_) <;> (try simp only [hc,bs, ↓reduceIte]at h) <;> try simp only [hc]
 | (with_reducible refine aJ hQ ?_;(try cases h);simp only [aw,ay,cm,cq,go_sem,hD,hF,hJ,hP];repeat' (first | exact Ok.out | with_reducible refine aI ?_ ?_ | (simp;done))))
 refine dc 0 0 (bk.ind (ι:=List aA×Nat) (fun i=>l.drop i.2=i.1∧zp (l.take i.2) i.1=p) (fun i=>i.1.length)
  (fun i=> [(0, .slice .shared 1 (l.map encStr)),(5, .slice .shared 1 (l.map encStr)),(6, .int .i64 (l.length:Int)),(7, .int .i64 (i.2:Int))]) (fun i=>⟨[],[]⟩) ?_ (l,0) ⟨rfl,h⟩)
 rintro⟨rest,k⟩ ⟨h1,h⟩ IH
 dsimp only at h1 h
 cases rest with
 | nil=>
  have hD:=drop_nil h1
  simp only [zp]at h
  repeat' (first
 | simp only [go_sem,hD,hF,hJ,hP]
 | (with_reducible first | refine cR fun hc=> ?_ | refine cT fun hc=> ?_ | refine cU (fun hc=> ?_) fun hc=> ?_) <;> (try simp only [hc,bs, ↓reduceIte]at h) <;> try simp only [hc]
 | (with_reducible refine aJ hQ ?_;(try cases h);simp only [aw,ay,cm,cq,go_sem,hD,hF,hJ,hP];repeat' (first | exact Ok.out | with_reducible refine aI ?_ ?_ | (simp;done))))
 | cons a rest=>
  obtain⟨hF,g2,hD,g4⟩:=drop_cons h1
  have bq:k<4611686018427387904:=by omega
  simp only [zp]at h
  have hc:=ik (l:=l.take k) (by rw [List.length_take];omega) a
  have e1:List.drop 0 (List.take k (l.map encStr))=(l.take k).map encStr:=by simp [List.map_take]
  have c1:((0:Int)≤(k:Int))=True:=by simp
  have c2:((k:Int)≤(l.length:Int))=True:=by simp only [eq_iff_iff,iff_true];omega
  have e2:List.take k (l.map encStr)=(l.take k).map encStr:=by simp [List.map_take]
  repeat' (first
 | simp only [go_sem,hD,hF,hJ,hP,e1,e2,c1,c2,or_true,true_and,and_self,ite_self,Int.toNat_natCast,List.drop_zero]
 | (with_reducible refine CU (hc _ _) ?_)
 | (with_reducible first | refine cR fun hc=> ?_ | refine cT fun hc=> ?_ | refine cU (fun hc=> ?_) fun hc=> ?_) <;> (try simp only [hc,bs, ↓reduceIte]at h) <;> try simp only [hc]
 | (with_reducible refine aJ hQ ?_;(try cases h);simp only [aw,ay,cm,cq,go_sem,hD,hF,hJ,hP,e1,e2,c1,c2,or_true,true_and,and_self,ite_self,Int.toNat_natCast,List.drop_zero];repeat' (first | exact Ok.out | with_reducible refine aI ?_ ?_ | (simp;done))))
  refine da 0 0 ?_ ?_ (IH (rest,k+1) ⟨g2,by dsimp only;rw [HV (by assumption)];exact h⟩ (Nat.lt_succ_self _))
  ·(simp only [go_sem,hD,hF,hJ,hP,aD bq];try exact bo)
  ·(simp only [go_sem,hD,hF,hJ,hP,aD bq];try exact bo)
end Go.Abs

/-! Sc2 -/

namespace Go.Abs
set_option maxRecDepth 8000
open Go.Proofs
def xy (vars globals:List aA) (name:aA):List Pm→Int
 | []=>if dK vars name then 4 else if dK globals name then 1 else 0
 | a::l=>if a.name==name then(if a.ref then 3 else 2)else xy vars globals name l
def Pc.jP (p:Pg) (f:Pc) (name:aA):Int:=xy f.vars p.globals name f.params
theorem BU {p:Pg} {f:Pc} (hp:f.params.length<1000000000) (hv:f.vars.length<1000000000) (hg:p.globals.length<1000000000) (name:aA) (s:St):aG Tryz.prog p6 [.agg (bX p), .agg (bR f), .str name] s (.int .i64 (f.jP p name)) s:=by
 refine aG.pure ?_ (by simp [D.bG,D.ok,kN,sG]) rfl s
 have nT:=ik (l:=f.vars) (by omega) name
 have rU:=ik (l:=p.globals) (by omega) name
 generalize h:f.jP p name=q
 simp only [Pc.jP]at h
 unfold S0
 refine aG.go yf rfl fun B Q hB hQ=> ?_
 have⟨hD,hF,hJ,hP⟩:=bP
 repeat' (first
 | simp only [go_sem,hD,hF,hJ,hP]
 | (with_reducible refine aJ hQ ?_;simp only [aw,ay,Option.some.injEq,exists_eq_left',go_sem,hD,hF,hJ,hP];repeat' (first | exact Ok.out | with_reducible refine aI ?_ ?_ | (simp;done))))
 refine dc 2 0 (bk.ind (ι:=List Pm×Nat) (fun i=>f.params.drop i.2=i.1∧xy f.vars p.globals name i.1=q) (fun i=>i.1.length)
  (fun i=> [(2, .str name),(3, .ptr 0 0),(4, .ptr 1 0),(10, .slice .shared 2 (f.params.map fu)),(11, .int .i64 (f.params.length:Int)),(12, .int .i64 (i.2:Int))]) (fun i=>⟨[bX p,bR f],[]⟩) ?_ (f.params,0) ⟨rfl,h⟩)
 rintro⟨rest,k⟩ ⟨h1,h⟩ IH
 dsimp only at h1 h
 cases rest with
 | nil=>
  have hD:=drop_nil h1
  simp only [xy]at h
  rcases Bool.eq_false_or_eq_true (dK f.vars name)with b1 | b1
  ·simp only [b1,if_true]at h
   subst h
   repeat' (first
 | simp only [go_sem,hD,hF,hJ,hP,b1]
 | (with_reducible refine CU (nT _ _) ?_)
 | (with_reducible refine CU (rU _ _) ?_)
 | (with_reducible refine aJ hQ ?_;simp only [aw,ay,Option.some.injEq,exists_eq_left',go_sem,hD,hF,hJ,hP];repeat' (first | exact Ok.out | with_reducible refine aI ?_ ?_ | (simp;done))))
  ·simp only [b1,Bool.false_eq_true,if_false]at h
   rcases Bool.eq_false_or_eq_true (dK p.globals name)with b2 | b2
   ·simp only [b2,if_true]at h
    subst h
    repeat' (first
 | simp only [go_sem,hD,hF,hJ,hP,b1,b2]
 | (with_reducible refine CU (nT _ _) ?_)
 | (with_reducible refine CU (rU _ _) ?_)
 | (with_reducible refine aJ hQ ?_;simp only [aw,ay,Option.some.injEq,exists_eq_left',go_sem,hD,hF,hJ,hP];repeat' (first | exact Ok.out | with_reducible refine aI ?_ ?_ | (simp;done))))
   ·simp only [b2,Bool.false_eq_true,if_false]at h
    subst h
    repeat' (first
 | simp only [go_sem,hD,hF,hJ,hP,b1,b2]
 | (with_reducible refine CU (nT _ _) ?_)
 | (with_reducible refine CU (rU _ _) ?_)
 | (with_reducible refine aJ hQ ?_;simp only [aw,ay,Option.some.injEq,exists_eq_left',go_sem,hD,hF,hJ,hP];repeat' (first | exact Ok.out | with_reducible refine aI ?_ ?_ | (simp;done))))
 | cons a rest=>
  obtain⟨hF,g2,hD,g4⟩:=drop_cons h1
  have bq:k<4611686018427387904:=by omega
  simp only [xy]at h
  rcases Bool.eq_false_or_eq_true (a.name==name)with b1 | b1
  ·simp only [b1,if_true]at h
   rcases Bool.eq_false_or_eq_true a.ref with b2 | b2
   ·simp only [b2,if_true]at h
    subst h
    repeat' (first
 | simp only [go_sem,hD,hF,hJ,hP,b1,b2]
 | (with_reducible refine aJ hQ ?_;simp only [aw,ay,Option.some.injEq,exists_eq_left',go_sem,hD,hF,hJ,hP];repeat' (first | exact Ok.out | with_reducible refine aI ?_ ?_ | (simp;done))))
   ·simp only [b2,Bool.false_eq_true,if_false]at h
    subst h
    repeat' (first
 | simp only [go_sem,hD,hF,hJ,hP,b1,b2]
 | (with_reducible refine aJ hQ ?_;simp only [aw,ay,Option.some.injEq,exists_eq_left',go_sem,hD,hF,hJ,hP];repeat' (first | exact Ok.out | with_reducible refine aI ?_ ?_ | (simp;done))))
  ·simp only [b1,Bool.false_eq_true,if_false]at h
   repeat' (first
 | simp only [go_sem,hD,hF,hJ,hP,b1]
 | (with_reducible refine aJ hQ ?_;simp only [aw,ay,Option.some.injEq,exists_eq_left',go_sem,hD,hF,hJ,hP];repeat' (first | exact Ok.out | with_reducible refine aI ?_ ?_ | (simp;done))))
   refine da 2 0 ?_ ?_ (IH (rest,k+1) ⟨g2,h⟩ (Nat.lt_succ_self _))
   ·(simp only [go_sem,hD,hF,hJ,hP,aD bq];try exact bo)
   ·(simp only [go_sem,hD,hF,hJ,hP,aD bq];try exact bo)
def jn (name:aA):List Pc→Option Pc
 | []=>none
 | f::l=>if f.name==name then some f else jn name l
def Pg.find (p:Pg) (name:aA):Option Pc:=jn name p.procs
def Tp:Pc:=⟨[],[],[],[],[]⟩
theorem xA:bR Tp = [.str [], .slice .shared 2 [], .slice .shared 1 [], .slice .shared 13 [], .slice .shared 1 []]:=nd rfl
def kI (r:Option Pc):D:= .tuple [.agg (bR (r.getD Tp)), .bool r.isSome]
theorem Qh (r:Option Pc):D.ok 0 0 (kI r)=true:=by simp [kI,D.ok,D.bG,sG]
theorem HW (f:Pc):bR f = [.str f.name, .slice .shared 2 (f.params.map fu), .slice .shared 1 (f.vars.map encStr), .slice .shared 13 (f.body.map bd), .slice .shared 1 (f.fin.map encStr)]:=nd rfl
end Go.Abs

/-! Sc3 -/

namespace Go.Abs
set_option maxRecDepth 8000
open Go.Proofs
def Pc.xB (f:Pc):List aA:=f.params.map (·.name)
def Pc.own (f:Pc):List aA:=f.xB++f.vars
theorem Ss {f:Pc} (hp:f.params.length<1000000) (hv:f.vars.length<1000000) (s:St):aG Tryz.prog rn [.agg (bR f)] s (.slice .shared 1 (f.own.map encStr)) s:=by
 refine aG.pure ?_ (by simp [D.bG,D.ok,sG]) (by simp only [D.ok,Tag.ok,dJ];rfl) s
 generalize hR:f.own=R
 simp only [Pc.own]at hR
 unfold S0
 refine aG.go z6 rfl fun B Q hB hQ=> ?_
 have⟨hD,hF,hJ,hP⟩:=bP
 repeat' (first
 | simp only [go_sem,hD,hF,hJ,hP]
 | (with_reducible refine aJ hQ ?_;simp only [aw,ay,Option.some.injEq,exists_eq_left',go_sem,hD,hF,hJ,hP];repeat' (first | exact Ok.out | with_reducible refine aI ?_ ?_ | (simp;done))))
 refine bk.ng 3 1 rfl ?_
 simp only [go_sem,hD,hF,hJ,hP]
 refine dc 1 1 (bk.ind (ι:=List Pm×Nat×List aA×Nat) (fun i=>f.params.drop i.2.1=i.1∧i.2.2.1++i.1.map (·.name)=f.xB∧i.2.2.2=i.2.2.1.length) (fun i=>i.1.length)
  (fun i=> [(1, .ptr 0 0),(3, .slice (.tok 0) 1 (i.2.2.1.map encStr)),(7, .slice .shared 2 (f.params.map fu)),(8, .int .i64 (f.params.length:Int)),(9, .int .i64 (i.2.1:Int))]) (fun i=>⟨[bR f],[some i.2.2.2]⟩) ?_ (f.params,0,[],0) ⟨rfl,rfl,rfl⟩)
 rintro⟨rest,k,out,n⟩ ⟨h1,h2,h3⟩ IH
 dsimp only at h1 h2 h3
 subst h3
 have hlo:out.length+rest.length<1000000:=by
  have:=congrArg List.length h2
  simp only [List.length_append,List.length_map,Pc.xB]at this
  omega
 cases rest with
 | nil=>
  have hD:=drop_nil h1
  simp only [List.map_nil,List.append_nil]at h2
  subst hR
  rw [← h2]at hQ
  have cP:=dR (l:=out) (nx:=f.vars) rfl (by omega) (g:= .shared)
  repeat' (first
 | simp only [go_sem,hD,hF,hJ,hP,cP]
 | (with_reducible refine aJ hQ ?_;simp only [aw,ay,Option.some.injEq,exists_eq_left',go_sem,hD,hF,hJ,hP];repeat' (first | exact Ok.out | with_reducible refine aI ?_ ?_ | (simp;done))))
 | cons a rest=>
  obtain⟨hF,g2,hD,g4⟩:=drop_cons h1
  have bq:k<4611686018427387904:=by omega
  have hJ:(out.length+1)*17≤bb:=by unfold bb;omega
  repeat' (first
 | simp only [go_sem,hD,hF,hJ,hP]
 | (with_reducible refine aJ hQ ?_;simp only [aw,ay,Option.some.injEq,exists_eq_left',go_sem,hD,hF,hJ,hP];repeat' (first | exact Ok.out | with_reducible refine aI ?_ ?_ | (simp;done))))
  refine da 1 1 ?_ ?_ (IH (rest,k+1,out++ [a.name],out.length+1) ⟨g2,by rw [← h2];simp,by simp⟩ (Nat.lt_succ_self _))
  ·(simp only [go_sem,hD,hF,hJ,hP,aD bq,List.map_append,List.map_cons,List.map_nil,encStr];try exact bo)
  ·(simp only [go_sem,hD,hF,hJ,hP,aD bq,List.map_append,List.map_cons,List.map_nil,encStr];try exact bo)
def nH:aA:= [109,97,105,110]
def Sm.known (p:Pg) (f:Pc) (procs:List aA) (v:Sm):Bool:=
 !(v.said.any fun n=>f.jP p n==0) && (v.kind != 4 || (v.proc != nH && dK procs v.proc))
structure Pc.Small (p:Pg) (f:Pc):Prop where
 par:f.params.length<1000000
 vars:f.vars.length<1000000
 BM:p.globals.length<1000000
def vf (p:Pg) (f:Pc):List aA→Bool
 | []=>true
 | n::l=>if f.jP p n==0 then false else vf p f l
theorem zq (p:Pg) (f:Pc) : ∀ l,vf p f l = !(l.any fun n=>f.jP p n==0)
 | []=>rfl
 | n::l=>by
  simp only [vf,List.any_cons,zq p f l]
  cases (f.jP p n==0) <;> simp
theorem BV (v:Sm) (h:v.oQ):v.said.length<3000000:=by
 have : ∀ (l:List Ar) (out:List aA),(Ar.said out l).length≤out.length+2*Ar.aN l:=by
  intro l
  induction l with
  | nil=>intro out;simp [Ar.said]
  | cons a l ih=>
   intro out
   simp only [Ar.said,Ar.aN]
   refine Nat.le_trans (ih _) ?_
   have:=eU a.x
   have:1≤a.x.size:=by obtain⟨_,_,_,_⟩:=a.x;simp [Ex.size]
   simp only [List.length_append]
   split <;> simp <;> omega
 have h1:=this v.args (v.nF++v.x.names)
 have h2:=eU v.x
 have h3:=h.2.2
 have h4:v.nF.length≤1:=by unfold Sm.nF;split <;> simp
 simp only [List.length_append]at h1
 unfold Sm.said
 omega
theorem Nu {p:Pg} {f:Pc} {procs:List aA} {v:Sm} (hs:f.Small p) (zr:procs.length<1000000) (hv:v.oQ) (s:St):aG Tryz.prog mj [.agg (bX p), .agg (bR f), .slice .shared 1 (procs.map encStr), .agg (bd v)] s (.bool (v.known p f procs)) s:=by
 refine aG.pure ?_ (by simp [D.bG,D.ok,kN,sG,pX,Tag.ok,dJ]) rfl s
 have hn:=fun s=>uI hv s
 have hk:=fun n s=>BU (p:=p) (f:=f) (by have:=hs.par;omega) (by have:=hs.vars;omega) (by have:=hs.BM;omega) n s
 have Qi:=ik (l:=procs) (by omega) v.proc
 have hl:=BV v hv
 generalize h:v.known p f procs=q
 simp only [Sm.known, ← zq]at h
 unfold S0
 refine aG.go xe rfl fun B Q hB hQ=> ?_
 have⟨hD,hF,hJ,hP⟩:=bP
 repeat' (first
 | simp only [go_sem,hD,hF,hJ,hP]
 | (with_reducible refine CU (hn _) ?_)
 | (with_reducible refine aJ hQ ?_;simp only [aw,ay,Option.some.injEq,exists_eq_left',go_sem,hD,hF,hJ,hP];repeat' (first | exact Ok.out | with_reducible refine aI ?_ ?_ | (simp;done))))
 refine dc 3 0 (bk.ind (ι:=List aA×Nat) (fun i=>v.said.drop i.2=i.1∧(vf p f i.1 && (v.kind != 4 || (v.proc != nH && dK procs v.proc)))=q) (fun i=>i.1.length)
  (fun i=> [(2, .slice .shared 1 (procs.map encStr)),(4, .ptr 0 0),(5, .ptr 1 0),(7, .ptr 2 0),(12, .slice .shared 1 (v.said.map encStr)),(13, .int .i64 (v.said.length:Int)),(14, .int .i64 (i.2:Int))]) (fun i=>⟨[bX p,bR f,bd v],[]⟩) ?_ (v.said,0) ⟨rfl,h⟩)
 rintro⟨rest,k⟩ ⟨h1,h⟩ IH
 dsimp only at h1 h
 cases rest with
 | nil=>
  have hD:=drop_nil h1
  simp only [vf,Bool.true_and]at h
  rcases Bool.eq_false_or_eq_true (v.kind != 4)with b1 | b1
  ·simp only [b1,Bool.true_or]at h
   subst h
   repeat' (first
 | simp only [go_sem,hD,hF,hJ,hP,b1]
 | (with_reducible refine aJ hQ ?_;simp only [aw,ay,Option.some.injEq,exists_eq_left',go_sem,hD,hF,hJ,hP];repeat' (first | exact Ok.out | with_reducible refine aI ?_ ?_ | (simp;done))))
  ·simp only [b1,Bool.false_or]at h
   rcases Bool.eq_false_or_eq_true (v.proc != nH)with b2 | b2
   ·simp only [b2,Bool.true_and]at h
    unfold nH at b2
    have b3:(v.proc == [109,97,105,110]) = !(v.proc != [109,97,105,110]):=by simp only [bne,Bool.not_not]
    rw [b2]at b3
    simp only [Bool.not_true,Bool.not_false]at b3
    subst h
    repeat' (first
 | simp only [go_sem,hD,hF,hJ,hP,b1,b2,b3]
 | (with_reducible refine CU (Qi _ _) ?_)
 | (with_reducible refine aJ hQ ?_;simp only [aw,ay,Option.some.injEq,exists_eq_left',go_sem,hD,hF,hJ,hP];repeat' (first | exact Ok.out | with_reducible refine aI ?_ ?_ | (simp;done))))
   ·simp only [b2,Bool.false_and]at h
    unfold nH at b2
    have b3:(v.proc == [109,97,105,110]) = !(v.proc != [109,97,105,110]):=by simp only [bne,Bool.not_not]
    rw [b2]at b3
    simp only [Bool.not_true,Bool.not_false]at b3
    subst h
    repeat' (first
 | simp only [go_sem,hD,hF,hJ,hP,b1,b2,b3]
 | (with_reducible refine CU (Qi _ _) ?_)
 | (with_reducible refine aJ hQ ?_;simp only [aw,ay,Option.some.injEq,exists_eq_left',go_sem,hD,hF,hJ,hP];repeat' (first | exact Ok.out | with_reducible refine aI ?_ ?_ | (simp;done))))
 | cons a rest=>
  obtain⟨hF,g2,hD,g4⟩:=drop_cons h1
  have bq:k<4611686018427387904:=by omega
  simp only [vf]at h
  rcases Bool.eq_false_or_eq_true (f.jP p a==0)with b1 | b1
  ·simp only [b1,if_true,Bool.false_and]at h
   subst h
   repeat' (first
 | simp only [go_sem,hD,hF,hJ,hP,b1]
 | (with_reducible refine CU (hk _ _) ?_)
 | (with_reducible refine aJ hQ ?_;simp only [aw,ay,Option.some.injEq,exists_eq_left',go_sem,hD,hF,hJ,hP];repeat' (first | exact Ok.out | with_reducible refine aI ?_ ?_ | (simp;done))))
  ·simp only [b1,Bool.false_eq_true,if_false]at h
   repeat' (first
 | simp only [go_sem,hD,hF,hJ,hP,b1]
 | (with_reducible refine CU (hk _ _) ?_)
 | (with_reducible refine aJ hQ ?_;simp only [aw,ay,Option.some.injEq,exists_eq_left',go_sem,hD,hF,hJ,hP];repeat' (first | exact Ok.out | with_reducible refine aI ?_ ?_ | (simp;done))))
   refine da 3 0 ?_ ?_ (IH (rest,k+1) ⟨g2,h⟩ (Nat.lt_succ_self _))
   ·(simp only [go_sem,hD,hF,hJ,hP,aD bq];try exact bo)
   ·(simp only [go_sem,hD,hF,hJ,hP,aD bq];try exact bo)
end Go.Abs

/-! ScP -/

namespace Go.Abs
theorem Dh : ∀ (l pre:List aA),zp pre l=true↔(∃ x∈l,x∈pre)∨¬ l.Nodup
 | [],pre=>by simp [zp]
 | s::l,pre=>by
  simp only [zp]
  by_cases h:dK pre s=true
  ·simp only [h,if_true,true_iff]
   exact .inl ⟨s,List.mem_cons_self,(gd _ _).1 h⟩
  ·have h':s∉pre:=fun m=>h ((gd _ _).2 m)
   simp only [h,if_false,Bool.false_eq_true]
   rw [Dh l (pre++ [s])]
   simp only [List.mem_append,List.mem_singleton,List.mem_cons,List.nodup_cons,exists_eq_or_imp]
   constructor
   ·rintro(⟨x,m,h1 | h1⟩ | h1)
    ·exact .inl (.inr ⟨x,m,h1⟩)
    ·have h1:x=s:=by simpa using h1
     subst h1;exact .inr fun h=>h.1 m
    ·exact .inr fun h=>h1 h.2
   ·rintro((h1 | ⟨x,m,h1⟩) | h1)
    ·exact absurd h1 h'
    ·exact .inl ⟨x,m, .inl h1⟩
    ·by_cases m:s∈l
     ·exact .inl ⟨s,m, .inr (.inl rfl)⟩
     ·exact .inr fun h=>h1 ⟨m,h⟩
theorem zt (l:List aA):e8 l=true↔¬ l.Nodup:=by
 unfold e8;rw [Dh];simp
theorem HX (a b:List aA):e8 (a++b)=(e8 a || (e8 b || b.any (dK a))):=by
 have h:e8 (a++b)=true↔(e8 a || (e8 b || b.any (dK a)))=true:=by
  rw [zt,List.nodup_append]
  simp only [Bool.or_eq_true,zt,List.any_eq_true,gd]
  constructor
  ·intro h
   by_cases ha:a.Nodup
   ·by_cases hb:b.Nodup
    ·refine .inr (.inr (Classical.byContradiction fun hn=>h ⟨ha,hb,fun x hx y hy e=>hn ⟨y,hy,e ▸ hx⟩⟩))
    ·exact .inr (.inl hb)
   ·exact .inl ha
  ·rintro(h | h | ⟨x,h1,h2⟩) ⟨h3,h4,h5⟩
   ·exact h h3
   ·exact h h4
   ·exact h5 x h2 x h1 rfl
 cases h1:e8 (a++b) <;> cases h2:(e8 a || (e8 b || b.any (dK a))) <;> simp_all
theorem BW (name:aA) : ∀ (l:List Pc) (k:Nat),(jn name l=none∧kQ name (k:Int) (l.map (·.name)) = -1)∨∃ f j,jn name l=some f∧l[j]? = some f∧kQ name (k:Int) (l.map (·.name))=((k+j:Nat):Int)
 | [],k=> .inl ⟨rfl,rfl⟩
 | f::l,k=>by
  by_cases h:f.name=name
  ·subst h
   refine .inr ⟨f,0,by simp [jn],rfl,by simp [kQ]⟩
  ·have h1:(f.name==name)=false:=by simp [h]
   have h2:(name==f.name)=false:=by simp [Ne.symm h]
   simp only [jn,h1,Bool.false_eq_true,if_false,List.map_cons,kQ,h2]
   rcases BW name l (k+1)with ⟨g1,g2⟩ | ⟨g,j,g1,g2,g3⟩
   ·exact .inl ⟨g1,by rw [← g2];rfl⟩
   ·refine .inr ⟨g,j+1,g1,by simpa using g2, ?_⟩
    rw [show((k:Int)+1)=((k+1:Nat):Int)from rfl,g3]
    congr 1;omega
theorem iO {name:aA} {f:Pc} : ∀ {l:List Pc},jn name l=some f→f∈l∧f.name=name
 | g::l,h=>by
  simp only [jn]at h
  split at h
  ·rename_i e;cases h;exact⟨List.mem_cons_self,by simpa using e⟩
  ·have:=iO h;exact⟨List.mem_cons_of_mem _ this.1,this.2⟩
mutual
theorem HY (deep bJ:Int) (aU:Bool) (out:List It) : ∀ s:Sm,∃ e,fL deep bJ aU out s=out++e
 | ⟨id,kind,labels,name,proc,x,has,args,a7,e⟩=>by
  simp only [fL]
  split
  ·obtain⟨e1,h1⟩:=oS (deep+1) id false (out++ [⟨⟨id,kind,labels,name,proc,x,has,args,a7,e⟩,deep,bJ,aU⟩]) a7
   obtain⟨e2,h2⟩:=oS (deep+1) id true (cL (deep+1) id false (out++ [⟨⟨id,kind,labels,name,proc,x,has,args,a7,e⟩,deep,bJ,aU⟩]) a7) e
   rw [h2,h1]
   exact⟨_,by rw [List.append_assoc,List.append_assoc]⟩
  ·exact⟨_,rfl⟩
theorem oS (deep bJ:Int) (aU:Bool) (out:List It) : ∀ l:List Sm,∃ e,cL deep bJ aU out l=out++e
 | []=>⟨[],by simp [cL]⟩
 | s::l=>by
  simp only [cL]
  split
  ·obtain⟨e1,h1⟩:=HY deep bJ aU out s
   obtain⟨e2,h2⟩:=oS deep bJ aU (fL deep bJ aU out s) l
   rw [h2,h1]
   exact⟨_,by rw [List.append_assoc]⟩
  ·exact⟨[],by simp⟩
end
mutual
theorem HZ (deep bJ:Int) (aU:Bool) (out:List It) : ∀ s:Sm,(fL deep bJ aU out s).length≤200→(∀ i∈fL deep bJ aU out s,i.deep≤12)→(fL deep bJ aU out s).map It.s=out.map It.s++s.pre
 | ⟨id,kind,labels,name,proc,x,has,args,a7,e⟩,h1,h2=>by
  simp only [fL,Sm.pre]at h1 h2 ⊢
  by_cases hd:deep≤12
  ·simp only [hd,decide_true,if_true]at h1 h2 ⊢
   obtain⟨e2,g2⟩:=oS (deep+1) id true (cL (deep+1) id false (out++ [⟨⟨id,kind,labels,name,proc,x,has,args,a7,e⟩,deep,bJ,aU⟩]) a7) e
   have k1:(cL (deep+1) id false (out++ [⟨⟨id,kind,labels,name,proc,x,has,args,a7,e⟩,deep,bJ,aU⟩]) a7).length≤200:=by
    rw [g2,List.length_append]at h1;omega
   have k2 : ∀ i∈cL (deep+1) id false (out++ [⟨⟨id,kind,labels,name,proc,x,has,args,a7,e⟩,deep,bJ,aU⟩]) a7,i.deep≤12:=fun i m=>h2 i (by rw [g2];exact List.mem_append_left _ m)
   rw [qW (deep+1) id true _ e h1 h2,qW (deep+1) id false _ a7 k1 k2]
   simp
  ·simp only [hd,decide_false,Bool.false_eq_true,if_false]at h1 h2
   exact absurd (h2 _ (List.mem_append_right _ (List.mem_singleton.2 rfl))) (by simpa using hd)
theorem qW (deep bJ:Int) (aU:Bool) (out:List It) : ∀ l:List Sm,(cL deep bJ aU out l).length≤200→(∀ i∈cL deep bJ aU out l,i.deep≤12)→(cL deep bJ aU out l).map It.s=out.map It.s++Sm.dW l
 | [],h1,h2=>by simp [cL,Sm.dW]
 | s::l,h1,h2=>by
  simp only [cL,Sm.dW]at h1 h2 ⊢
  by_cases hc:(out.length:Int)≤200
  ·simp only [hc,decide_true,if_true]at h1 h2 ⊢
   obtain⟨e2,g2⟩:=oS deep bJ aU (fL deep bJ aU out s) l
   have k1:(fL deep bJ aU out s).length≤200:=by rw [g2,List.length_append]at h1;omega
   have k2 : ∀ i∈fL deep bJ aU out s,i.deep≤12:=fun i m=>h2 i (by rw [g2];exact List.mem_append_left _ m)
   rw [qW deep bJ aU _ l h1 h2,HZ deep bJ aU out s k1 k2]
   simp
  ·simp only [hc,decide_false,Bool.false_eq_true,if_false]at h1
   omega
end
theorem BX : ∀ (l:List Pc) (out:List It),(allM out l).length≤200→(∀ i∈allM out l,i.deep≤12)→(∀ f∈l,f.flat.map It.s=Sm.dW f.body)∧(allM out l).map It.s=out.map It.s++(l.map fun f=>Sm.dW f.body).flatten
 | [],out,h1,h2=>⟨fun f m=>(by cases m),by simp [allM]⟩
 | f::l,out,h1,h2=>by
  simp only [allM]at h1 h2 ⊢
  by_cases hc:(((out++f.flat).length:Nat):Int) > 200
  ·simp only [hc,decide_true,if_true]at h1;omega
  ·simp only [hc,decide_false,Bool.false_eq_true,if_false]at h1 h2 ⊢
   obtain⟨k1,k2⟩:=BX l (out++f.flat) h1 h2
   have Ky : ∀ (l:List Pc) (out:List It),∃ e,allM out l=out++e:=by
    intro l
    induction l with
    | nil=>intro out;exact⟨[],by simp [allM]⟩
    | cons g l ih=>
     intro out
     simp only [allM]
     split
     ·exact⟨_,rfl⟩
     ·obtain⟨e,h⟩:=ih (out++g.flat);exact⟨g.flat++e,by rw [h];simp⟩
   obtain⟨e,he⟩:=Ky l (out++f.flat)
   have k3:f.flat.map It.s=Sm.dW f.body:=by
    have:=qW 1 0 false [] f.body (by
     have:f.flat.length≤200:=by simp only [List.length_append]at hc;omega
     exact this) (fun i m=>h2 i (by rw [he];exact List.mem_append_left _ (List.mem_append_right _ m)))
    simpa [Pc.flat]using this
   refine⟨fun g m=> ?_, ?_⟩
   ·rcases List.mem_cons.1 m with rfl | m
    ·exact k3
    ·exact k1 g m
   ·rw [k2];simp [k3]
theorem uM : ∀ (l:List It) (n:Nat),It.er n l=true→(∀ i∈l,i.deep≤12)∧∀ (j:Nat) (i:It),l[j]? = some i→i.s.id=((n+j+1:Nat):Int)
 | [],n,h=>⟨fun i m=>(by cases m),fun j i h=>by simp at h⟩
 | a::l,n,h=>by
  simp only [It.er]at h
  split at h
  ·cases h
  ·rename_i c
   simp only [Bool.or_eq_true,not_or,bne_iff_ne,ne_eq,Decidable.not_not,decide_eq_true_eq,Int.not_lt,gt_iff_lt]at c
   obtain⟨k1,k2⟩:=uM l (n+1) h
   refine⟨fun i m=> ?_,fun j i hj=> ?_⟩
   ·rcases List.mem_cons.1 m with rfl | m
    ·exact c.1.2
    ·exact k1 i m
   ·cases j with
    | zero=>simp at hj;subst hj;rw [c.1.1]
    | succ j=>simp at hj;rw [k2 j i hj];congr 1;omega
theorem Di {p:Pg} (h:p.may=true):p.all.length≤200∧It.er 0 p.all=true:=by
 unfold Pg.may at h
 split at h
 ·cases h
 ·split at h
  ·cases h
  ·split at h
   ·cases h
   ·rename_i c
    exact⟨by simp only [decide_eq_true_eq,Int.not_lt,gt_iff_lt]at c;omega,h⟩
theorem BY {p:Pg} (h:p.may=true):(∀ f∈p.procs,f.flat.map It.s=Sm.dW f.body)∧p.all.map It.s=p.pre:=by
 obtain⟨h1,h2⟩:=Di h
 have:=BX p.procs [] h1 (uM _ 0 h2).1
 simpa [Pg.pre,Pg.all]using this
theorem Qj {p:Pg} (h:p.may=true) {i:Nat} {v:Sm} (hv:p.pre[i]? = some v):v.id=((i+1:Nat):Int):=by
 rw [← (BY h).2,List.getElem?_map,Option.map_eq_some_iff]at hv
 obtain⟨it,h1,rfl⟩:=hv
 have:=(uM _ 0 (Di h).2).2 i it h1
 rw [this];congr 1;omega
end Go.Abs

/-! Sc4 -/

namespace Go.Abs
set_option maxRecDepth 8000
open Go.Proofs
structure Pg.l9 (p:Pg):Prop where
 KE:p.Ax
 sz:p.size≤900000
mutual
theorem Qk : ∀ s:Sm,s.qQ→s.size<1000000→∀ v∈s.pre,v.oQ∧v.pe
 | ⟨id,kind,labels,name,proc,x,has,args,a7,aU⟩,h,hs,v,m=>by
  simp only [Sm.qQ]at h
  simp only [Sm.size]at hs
  simp only [Sm.pre,List.mem_cons,List.mem_append]at m
  rcases m with rfl | m | m
  ·exact⟨⟨h.1.xt,fun a ha=>(h.1.arg a ha).2.1,by dsimp only;omega⟩,h.1⟩
  ·exact vg a7 h.2.1 (by omega) v m
  ·exact vg aU h.2.2 (by omega) v m
theorem vg : ∀ l:List Sm,Sm.gR l→Sm.aN l<1000000→∀ v∈Sm.dW l,v.oQ∧v.pe
 | [],h,hs,v,m=>by simp [Sm.dW]at m
 | s::l,h,hs,v,m=>by
  simp only [Sm.gR]at h
  simp only [Sm.aN]at hs
  simp only [Sm.dW,List.mem_append]at m
  rcases m with m | m
  ·exact Qk s h.1 (by omega) v m
  ·exact vg l h.2 (by omega) v m
end
theorem Pg.l9.said {p:Pg} (h:p.l9) {f:Pc} (hf:f∈p.procs) : ∀ v∈Sm.dW f.body,v.oQ:=fun v m=>by
 have h1:=Pc.bA hf
 have h2:=h.sz
 simp only [Pg.size]at h2
 simp only [Pc.size]at h1
 exact(vg f.body (h.KE.body f hf) (by omega) v m).1
theorem Pg.l9.small {p:Pg} (h:p.l9) {f:Pc} (hf:f∈p.procs):f.Small p:=by
 have h1:=Pc.bA hf
 have h2:=h.sz
 simp only [Pg.size]at h2
 simp only [Pc.size]at h1
 exact⟨by omega,by omega,by omega⟩
theorem Pg.l9.procs {p:Pg} (h:p.l9):p.procs.length≤900000∧Pc.aN p.procs≤900000∧p.globals.length≤900000:=by
 have h2:=h.sz
 have h3:=Pc.cu p.procs
 simp only [Pg.size]at h2
 omega
def Pg.pn (p:Pg):List aA:=p.procs.map (·.name)
def uN (p:Pg) (f:Pc) (procs:List aA):List Sm→Option Sm
 | []=>none
 | v::l=>if v.known p f procs then uN p f procs l else some v
def qg (p:Pg) (procs:List aA):List Pc→Int×Int
 | []=>(0,0)
 | f::l=>if e8 (p.globals++f.own)then(5,0)else match uN p f procs (Sm.dW f.body)with | some v=>(5,v.id) | none=>qg p procs l
def Pg.sh (p:Pg):Bool:=match p.find nH with | none=>true | some m=>decide ((m.params.length:Int) > 0)
def Pg.scope (p:Pg):Int×Int:=
 if p.may then if e8 p.globals || (e8 p.pn || p.sh)then(5,0)else qg p p.pn p.procs else(1,0)
theorem KF (p:Pg) (hl:p.globals.length<1000000) (n:aA):aG Tryz.prog kY ([.str n]++ [.ptr 0 0]) ⟨[bX p],[]⟩ (.bool (dK p.globals n)) ⟨[bX p],[]⟩:=by
 show aG Tryz.prog kY [.str n, .ptr 0 0] _ _ _
 have CY:=ik (l:=p.globals) (by omega) n
 refine aG.go vo rfl fun B Q hB hQ=> ?_
 have⟨hD,hF,hJ,hP⟩:=bP
 repeat' (first
 | simp only [go_sem,hD,hF,hJ,hP]
 | (with_reducible refine CU (CY _ _) ?_)
 | (with_reducible refine aJ hQ ?_;simp only [aw,ay,Option.some.injEq,exists_eq_left',go_sem,hD,hF,hJ,hP];repeat' (first | exact Ok.out | with_reducible refine aI ?_ ?_ | (simp;done))))
theorem Sv (n m:Nat) (p:Pg):D.fD n m (iS p)=iS p:=fU n m _ (yo p)
attribute [go_sem] Sv
theorem Nv {p:Pg} {f:Pc} {procs:List aA} {v:Sm} (hs:f.Small p) (zr:procs.length<1000000) (hv:v.oQ) (g:Tag) (s:St):aG Tryz.prog mj [.agg (bX p), .agg (bR f), .slice g 1 (procs.map encStr), .agg (bd v)] s (.bool (v.known p f procs)) s:=
 dh.uk (.cons (Wk.refl _) (.cons (Wk.refl _) (.cons (Wk.shared g 1 _) (jR.refl _)))) (Nu hs zr hv s)
theorem B0 {p:Pg} (h:p.l9) (s:St):aG Tryz.prog mf [.agg (bX p)] s (.agg [.int .i64 p.scope.1, .int .i64 p.scope.2]) s:=by
 refine aG.pure ?_ (by simp [D.bG,D.ok,kN]) rfl s
 have hm:=fun s=>HH h.KE s
 simp only [yx]at hm
 obtain⟨rQ,qR,vG⟩:=h.procs
 have dg:=fun s=>As (p:=p) (by omega) s
 have lK:=fun s=>wq (l:=p.globals) (by omega) .shared s
 have hpn:p.pn.length=p.procs.length:=by simp [Pg.pn]
 have wT:=fun g s=>wq (l:=p.pn) (by omega) g s
 have hix:=fun g s=>(Dd (l:=p.pn) (by omega) nH s).Hw (Wk.shared g 1 (p.pn.map encStr))
 have wu:=fun g s=>(show aG Tryz.prog fV [.slice g 1 (p.pn.map encStr), .str [109,97,105,110]] s (.int .i64 (kQ nH 0 p.pn)) s from hix g s)
 generalize hR:p.scope=R
 simp only [Pg.scope]at hR
 unfold S0
 rcases Bool.eq_false_or_eq_true p.may with hb | hb
 case inr=>
  simp only [hb]at hm
  simp only [hb,Bool.false_eq_true,if_false]at hR
  subst hR
  refine aG.go qI rfl fun B Q hB hQ=> ?_
  have⟨hD,hF,hJ,hP⟩:=bP
  repeat' (first
 | simp only [go_sem,hD,hF,hJ,hP]
 | (with_reducible refine CU (hm _) ?_)
 | (with_reducible refine aJ hQ ?_;simp only [aw,ay,Option.some.injEq,exists_eq_left',go_sem,hD,hF,hJ,hP];repeat' (first | exact Ok.out | with_reducible refine aI ?_ ?_ | (simp;done))))
 simp only [hb]at hm
 simp only [hb,if_true]at hR
 refine aG.go qI rfl fun B Q hB hQ=> ?_
 have⟨hD,hF,hJ,hP⟩:=bP
 repeat' (first
 | simp only [go_sem,hD,hF,hJ,hP]
 | (with_reducible refine CU (hm _) ?_)
 | (with_reducible refine aJ hQ ?_;simp only [aw,ay,Option.some.injEq,exists_eq_left',go_sem,hD,hF,hJ,hP];repeat' (first | exact Ok.out | with_reducible refine aI ?_ ?_ | (simp;done))))
 refine bk.ng 3 1 rfl ?_
 simp only [go_sem,hD,hF,hJ,hP]
 refine dc 2 1 (bk.ind (ι:=List Pc×Nat×List aA×Nat) (fun i=>p.procs.drop i.2.1=i.1∧i.2.2.1++i.1.map (·.name)=p.pn∧i.2.2.2=i.2.2.1.length) (fun i=>i.1.length)
  (fun i=> [(1, .ptr 0 0),(2, .ptr 1 0),(3, .slice (.tok 0) 1 (i.2.2.1.map encStr)),(18, .slice .shared 5 (p.procs.map bR)),(19, .int .i64 (p.procs.length:Int)),(20, .int .i64 (i.2.1:Int))]) (fun i=>⟨[bX p,[.int .i64 0, .int .i64 0]],[some i.2.2.2]⟩) ?_ (p.procs,0,[],0) ⟨rfl,rfl,rfl⟩)
 rintro⟨rest,k,out,n⟩ ⟨h1,h2,h3⟩ IH
 dsimp only at h1 h2 h3
 subst h3
 have hlo:out.length+rest.length≤900000:=by
  have:=congrArg List.length h2
  simp only [List.length_append,List.length_map]at this
  omega
 cases rest with
 | cons a rest=>
  obtain⟨hF,g2,hD,g4⟩:=drop_cons h1
  have bq:k<4611686018427387904:=by omega
  have hJ:(out.length+1)*17≤bb:=by unfold bb;omega
  repeat' (first
 | simp only [go_sem,hD,hF,hJ,hP]
 | (with_reducible refine aJ hQ ?_;simp only [aw,ay,Option.some.injEq,exists_eq_left',go_sem,hD,hF,hJ,hP];repeat' (first | exact Ok.out | with_reducible refine aI ?_ ?_ | (simp;done))))
  refine da 2 1 ?_ ?_ (IH (rest,k+1,out++ [a.name],out.length+1) ⟨g2,by rw [← h2];simp,by simp⟩ (Nat.lt_succ_self _))
  ·(simp only [go_sem,hD,hF,hJ,hP,aD bq,List.map_append,List.map_cons,List.map_nil,encStr];try exact bo)
  ·(simp only [go_sem,hD,hF,hJ,hP,aD bq,List.map_append,List.map_cons,List.map_nil,encStr];try exact bo)
 | nil=>
  have hD:=drop_nil h1
  simp only [List.map_nil,List.append_nil]at h2
  subst h2
  rcases Bool.eq_false_or_eq_true (e8 p.globals)with b1 | b1
  ·simp only [b1,Bool.true_or,if_true]at hR
   subst hR
   repeat' (first
 | simp only [go_sem,hD,hF,hJ,hP,b1]
 | (with_reducible refine CU (wu _ _) ?_)
 | (with_reducible refine CU (lK _) ?_)
 | (with_reducible refine CU (wT _ _) ?_)
 | (with_reducible refine aJ hQ ?_;simp only [aw,ay,Option.some.injEq,exists_eq_left',go_sem,hD,hF,hJ,hP];repeat' (first | exact Ok.out | with_reducible refine aI ?_ ?_ | (simp;done))))
  rcases Bool.eq_false_or_eq_true (e8 p.pn)with b2 | b2
  ·simp only [b1,b2,Bool.true_or,Bool.or_true,if_true]at hR
   subst hR
   repeat' (first
 | simp only [go_sem,hD,hF,hJ,hP,b1,b2]
 | (with_reducible refine CU (wu _ _) ?_)
 | (with_reducible refine CU (lK _) ?_)
 | (with_reducible refine CU (wT _ _) ?_)
 | (with_reducible refine aJ hQ ?_;simp only [aw,ay,Option.some.injEq,exists_eq_left',go_sem,hD,hF,hJ,hP];repeat' (first | exact Ok.out | with_reducible refine aI ?_ ?_ | (simp;done))))
  rcases BW nH p.procs 0 with ⟨e1,e2⟩ | ⟨m,j,e1,e2,e3⟩
  ·have b3:p.sh=true:=by unfold Pg.sh Pg.find;rw [e1]
   have hi:kQ nH 0 p.pn = -1:=e2
   simp only [b1,b2,b3,Bool.or_true,if_true]at hR
   subst hR
   simp only [hi]at wu
   have d1:decide ((-1:Int)<0)=true:=by decide
   repeat' (first
 | simp only [go_sem,hD,hF,hJ,hP,b1,b2,d1]
 | (with_reducible refine CU (wu _ _) ?_)
 | (with_reducible refine CU (lK _) ?_)
 | (with_reducible refine CU (wT _ _) ?_)
 | (with_reducible refine aJ hQ ?_;simp only [aw,ay,Option.some.injEq,exists_eq_left',go_sem,hD,hF,hJ,hP];repeat' (first | exact Ok.out | with_reducible refine aI ?_ ?_ | (simp;done))))
  have hi:kQ nH 0 p.pn=((j:Nat):Int):=by rw [show p.pn=p.procs.map (·.name)from rfl];simpa using e3
  simp only [hi]at wu
  have d1:decide (((j:Nat):Int)<0)=false:=by simp
  have hj:j<p.procs.length:=(List.getElem?_eq_some_iff.1 e2).1
  have b3:p.sh=decide ((m.params.length:Int) > 0):=by unfold Pg.sh Pg.find;rw [e1]
  rw [b3]at hR
  rcases Bool.eq_false_or_eq_true (decide ((m.params.length:Int) > 0))with b4 | b4
  ·simp only [b1,b2,b4,Bool.or_true,if_true]at hR
   subst hR
   repeat' (first
 | simp only [go_sem,hD,hF,hJ,hP,b1,b2,d1,e2,b4]
 | (with_reducible refine CU (wu _ _) ?_)
 | (with_reducible refine CU (lK _) ?_)
 | (with_reducible refine CU (wT _ _) ?_)
 | (with_reducible refine aJ hQ ?_;simp only [aw,ay,Option.some.injEq,exists_eq_left',go_sem,hD,hF,hJ,hP];repeat' (first | exact Ok.out | with_reducible refine aI ?_ ?_ | (simp;done))))
  simp only [b1,b2,b4,Bool.or_false,Bool.false_eq_true,if_false]at hR
  repeat' (first
 | simp only [go_sem,hD,hF,hJ,hP,b1,b2,d1,e2,b4]
 | (with_reducible refine CU (wu _ _) ?_)
 | (with_reducible refine CU (lK _) ?_)
 | (with_reducible refine CU (wT _ _) ?_)
 | (with_reducible refine CU (dg _) ?_)
 | (with_reducible refine aJ hQ ?_;simp only [aw,ay,Option.some.injEq,exists_eq_left',go_sem,hD,hF,hJ,hP];repeat' (first | exact Ok.out | with_reducible refine aI ?_ ?_ | (simp;done))))
  refine dc 2 1 (bk.ind (ι:=List Pc×Nat) (fun i=>p.procs.drop i.2=i.1∧qg p p.pn i.1=R) (fun i=>i.1.length)
   (fun i=> [(1, .ptr 0 0),(2, .ptr 1 0),(3, .slice (.tok 0) 1 (p.pn.map encStr)),(7, .dd (iS p) 0),(57, .slice .shared 5 (p.procs.map bR)),(58, .int .i64 (p.procs.length:Int)),(59, .int .i64 (i.2:Int))]) (fun i=>⟨[bX p,[.int .i64 0, .int .i64 0]],[some p.pn.length]⟩) ?_ (p.procs,0) ⟨rfl,hR⟩)
  clear IH h1 hD hR
  rintro⟨rest,k⟩ ⟨h1,hR⟩ IH
  dsimp only at h1 hR
  cases rest with
  | nil=>
   have hD:=drop_nil h1
   simp only [qg]at hR
   subst hR
   repeat' (first
 | simp only [go_sem,hD,hF,hJ,hP]
 | (with_reducible refine aJ hQ ?_;simp only [aw,ay,Option.some.injEq,exists_eq_left',go_sem,hD,hF,hJ,hP];repeat' (first | exact Ok.out | with_reducible refine aI ?_ ?_ | (simp;done))))
  | cons f rest=>
   obtain⟨hF,g2,hD,g4⟩:=drop_cons h1
   have bq:k<4611686018427387904:=by omega
   have BN:=List.mem_of_getElem? hF
   have Dj:=h.small BN
   have H0:=fun s=>Ss (f:=f) Dj.par Dj.vars s
   have lY:f.own.length<4611686018427387904:=by have h1:=Dj.par;have h2:=Dj.vars;unfold Pc.own Pc.xB;simp;omega
   have Ql:=fun s=>wq (l:=f.own) lY .shared s
   have B1:=fun {s:St} {o:Nat} (ho:s.au[o]? = some (bX p))=>se (l:=f.own) lY (f:=kY) (row:=bX p) (b:=dK p.globals) (kN p) (by with_unfolding_all rfl) (fun x _=>KF p Dj.BM x) ho
   have KH:=fun {s:St} {o:Nat} (ho:s.au[o]? = some (bX p))=>(show aG Tryz.prog eo [.slice .shared 1 (f.own.map encStr), .fa 55 [.ptr o 0]] s (.bool (f.own.any (dK p.globals))) s from B1 ho)
   simp only [qg,HX,b1,Bool.false_or]at hR
   rcases Bool.eq_false_or_eq_true (e8 f.own)with c1 | c1
   ·simp only [c1,Bool.true_or,if_true]at hR
    subst hR
    repeat' (first
 | simp only [go_sem,hD,hF,hJ,hP,c1]
 | (with_reducible refine CU (H0 _) ?_)
 | (with_reducible refine CU (Ql _) ?_)
 | (with_reducible refine CU (KH (by with_unfolding_all rfl)) ?_)
 | (with_reducible refine aJ hQ ?_;simp only [aw,ay,Option.some.injEq,exists_eq_left',go_sem,hD,hF,hJ,hP];repeat' (first | exact Ok.out | with_reducible refine aI ?_ ?_ | (simp;done))))
   rcases Bool.eq_false_or_eq_true (f.own.any (dK p.globals))with c2 | c2
   ·simp only [c1,c2,Bool.false_or,if_true]at hR
    subst hR
    repeat' (first
 | simp only [go_sem,hD,hF,hJ,hP,c1,c2]
 | (with_reducible refine CU (H0 _) ?_)
 | (with_reducible refine CU (Ql _) ?_)
 | (with_reducible refine CU (KH (by with_unfolding_all rfl)) ?_)
 | (with_reducible refine aJ hQ ?_;simp only [aw,ay,Option.some.injEq,exists_eq_left',go_sem,hD,hF,hJ,hP];repeat' (first | exact Ok.out | with_reducible refine aI ?_ ?_ | (simp;done))))
   simp only [c1,c2,Bool.or_self,Bool.false_eq_true,if_false]at hR
   obtain⟨it,sg,H2⟩:=Ka hF (by omega)
   rw [← sg]at hR
   have Qm:it.length≤900000:=by
    have e:=congrArg List.length sg
    have e2:=(qO p).2 k f hF
    obtain⟨a,b,e',_,_,e3,e4⟩:=e2
    have e5:=qP p
    have e6:=congrArg List.length e3
    rw [e4]at e5
    simp only [List.length_map,List.length_append]at e e5 e6
    omega
   repeat' (first
 | simp only [go_sem,hD,hF,hJ,hP,c1,c2]
 | (with_reducible refine CU (H0 _) ?_)
 | (with_reducible refine CU (Ql _) ?_)
 | (with_reducible refine CU (KH (by with_unfolding_all rfl)) ?_)
 | (with_reducible refine CU (H2 _) ?_)
 | (with_reducible refine aJ hQ ?_;simp only [aw,ay,Option.some.injEq,exists_eq_left',go_sem,hD,hF,hJ,hP];repeat' (first | exact Ok.out | with_reducible refine aI ?_ ?_ | (simp;done))))
   obtain⟨q,hq⟩ : ∃ q,uN p f p.pn (it.map Im.s)=q:=⟨_,rfl⟩
   rw [hq]at hR
   refine dc 3 1 (bk.ind (ι:=List Im×Nat) (fun i=>it.drop i.2=i.1∧uN p f p.pn (i.1.map Im.s)=q) (fun i=>i.1.length)
    (fun i=> [(1, .ptr 0 0),(2, .ptr 1 0),(3, .slice (.tok 0) 1 (p.pn.map encStr)),(7, .dd (iS p) 0),(9, .ptr 2 0),(57, .slice .shared 5 (p.procs.map bR)),(58, .int .i64 (p.procs.length:Int)),(59, .int .i64 (k:Int)),(76, .slice .shared 17 (it.map eH)),(77, .int .i64 (it.length:Int)),(78, .int .i64 (i.2:Int))]) (fun i=>⟨[bX p,[.int .i64 0, .int .i64 0],bR f],[some p.pn.length]⟩) ?_ (it,0) ⟨rfl,hq⟩)
   rintro⟨FC,n⟩ ⟨j1,j2⟩ Md
   dsimp only at j1 j2
   have s8:=hD
   cases FC with
   | nil=>
    have Wa:=drop_nil j1
    simp only [List.map_nil,uN]at j2
    subst j2
    simp only at hR
    repeat' (first
 | simp only [go_sem,hD,hF,hJ,hP,Wa]
 | (with_reducible refine aJ hQ ?_;simp only [aw,ay,Option.some.injEq,exists_eq_left',go_sem,hD,hF,hJ,hP];repeat' (first | exact Ok.out | with_reducible refine aI ?_ ?_ | (simp;done))))
    refine da 2 1 ?_ ?_ (IH (rest,k+1) ⟨g2,hR⟩ (Nat.lt_succ_self _))
    ·(simp only [go_sem,hD,hF,hJ,hP,aD bq];try exact bo)
    ·(simp only [go_sem,hD,hF,hJ,hP,aD bq];try exact bo)
   | cons i FC=>
    obtain⟨oi,Dk,xC,Tq⟩:=drop_cons j1
    have si:n<4611686018427387904:=by omega
    have him:i.s∈Sm.dW f.body:=by rw [← sg];exact List.mem_map_of_mem (List.mem_of_getElem? oi)
    have Tr:=Nv (v:=i.s) Dj (procs:=p.pn) (by omega) (h.said BN _ him)
    simp only [List.map_cons,uN]at j2
    rcases Bool.eq_false_or_eq_true (i.s.known p f p.pn)with c3 | c3
    ·simp only [c3,if_true]at j2
     repeat' (first
 | simp only [go_sem,hD,hF,hJ,hP,xC,oi,c3]
 | (with_reducible refine CU (Tr _ _) ?_)
 | (with_reducible refine aJ hQ ?_;simp only [aw,ay,Option.some.injEq,exists_eq_left',go_sem,hD,hF,hJ,hP];repeat' (first | exact Ok.out | with_reducible refine aI ?_ ?_ | (simp;done))))
     refine da 3 1 ?_ ?_ (Md (FC,n+1) ⟨Dk,j2⟩ (Nat.lt_succ_self _))
     ·(simp only [go_sem,hD,hF,hJ,hP,aD si];try exact bo)
     ·(simp only [go_sem,hD,hF,hJ,hP,aD si];try exact bo)
    ·simp only [c3,Bool.false_eq_true,if_false]at j2
     subst j2
     simp only at hR
     subst hR
     repeat' (first
 | simp only [go_sem,hD,hF,hJ,hP,xC,oi,c3]
 | (with_reducible refine CU (Tr _ _) ?_)
 | (with_reducible refine aJ hQ ?_;simp only [aw,ay,Option.some.injEq,exists_eq_left',go_sem,hD,hF,hJ,hP];repeat' (first | exact Ok.out | with_reducible refine aI ?_ ?_ | (simp;done))))
end Go.Abs

/-! Rng -/

namespace Go.Abs
mutual
def Ex.nI:Ex→Prop
 | ⟨_,n,_,kids⟩=>n≤9223372036854775807∧Ex.rC kids
def Ex.rC:List Ex→Prop
 | []=>True
 | x::l=>x.nI∧Ex.rC l
end
end Go.Abs

/-! FineM -/

namespace Go.Abs
mutual
def Sm.nI:Sm→Prop
 | ⟨_,_,_,_,_,x,_,args,a7,aU⟩=>x.nI∧(∀ a∈args,a.x.nI)∧Sm.rC a7∧Sm.rC aU
def Sm.rC:List Sm→Prop
 | []=>True
 | s::l=>s.nI∧Sm.rC l
end
def Pg.nI (p:Pg):Prop:=∀ f∈p.procs,Sm.rC f.body
theorem zu {f:Pc} : ∀ {l:List Pc} {n:Nat},Pc.dF n l=true→f∈l→(isName f.name=true∧dr f.vars=true∧dr f.fin=true∧Pm.er f.params=true)∧∃ n,(Sm.eO 1 n f.body).1=true
 | g::l,n,h,m=>by
  simp only [Pc.dF]at h
  split at h
  ·cases h
  rename_i c1
  split at h
  ·cases h
  rename_i c2
  split at h
  ·cases h
  rename_i c3
  simp only [Bool.or_eq_true,Bool.not_eq_true',not_or,Bool.not_eq_false]at c1 c2 c3
  rcases List.mem_cons.1 m with rfl | m
  ·exact⟨⟨c1.1.1.2,c1.1.2,c1.2,c2⟩,n,c3⟩
  ·exact zu h m
mutual
theorem FD : ∀ (s:Sm) (nest:Int) (n:Nat),(Sm.lS nest n s).1=true→s.size<4611686018427387000→s.qQ
 | ⟨id,kind,labels,name,proc,x,has,args,a7,aU⟩,nest,n,hm,hs=>by
  obtain⟨_,_,h1,h2,h3,_⟩:=zo hm
  rw [wo]
  rw [(oR h2).2]at h2
  rw [(oR h3).2]at h3
  refine⟨BQ h1 hs,pI a7 _ _ h2 ?_,pI aU _ _ h3 ?_⟩ <;> simp only [Sm.size]at hs <;> omega
theorem pI : ∀ (l:List Sm) (nest:Int) (n:Nat),(Sm.dF nest n l).1=true→Sm.aN l<4611686018427387000→Sm.gR l
 | [],_,_,_,_=>by simp only [Sm.gR]
 | s::l,nest,n,hm,hs=>by
  simp only [Sm.dF]at hm
  simp only [Sm.aN]at hs
  split at hm
  ·cases hm
  rename_i hc
  simp only [Bool.not_eq_true',Bool.not_eq_false]at hc
  exact⟨FD s nest n hc (by omega),pI l nest _ hm (by omega)⟩
end
theorem H3 {p:Pg} (h:p.may=true) (hs:p.size<4611686018427387000):p.Ax:=by
 have hf:=Kp h hs
 rw [← yx]at h
 unfold Pg.yv at h
 split at h
 ·cases h
 refine⟨hf.sz,hf.BM,hf.mn,fun f m=> ?_⟩
 obtain⟨_,n,e⟩:=zu h m
 rw [(oR e).2]at e
 have:=Pc.bA m
 simp only [Pg.size]at hs
 exact pI f.body 1 n e (by unfold Pc.size at this;omega)
end Go.Abs

/-! Sc5 -/

namespace Go.Abs
set_option maxRecDepth 8000
open Go.Proofs
theorem KI (x:It):(fy x)[1]? = some (.int .i64 x.s.kind):=nd rfl
theorem KK (x:It):(fy x)[3]? = some (.str x.s.name):=nd rfl
theorem KM (x:It):(fy x)[4]? = some (.str x.s.proc):=nd rfl
theorem Nw (x:It):List.take 16 (fy x)=fy x:=nd rfl
attribute [go_sem] KI KK KM Nw
end Go.Abs

/-! Ar1 -/

namespace Go.Abs
set_option maxRecDepth 8000
open Go.Proofs
def Me:List Pm→List Ar→Bool
 | [],_=>true
 | _,[]=>true
 | a::l,b::m=>if a.ref==b.ref then Me l m else false
def Sw (l:List Pm) (m:List Ar):Bool:=if(l.length:Int)==(m.length:Int)then Me l m else false
def Sm.Sx (p:Pg) (v:Sm):Bool:=v.kind==4 && match p.find v.proc with | none=>false | some q=>Sw q.params v.args
end Go.Abs

/-! Ar2 -/

namespace Go.Abs
set_option maxRecDepth 8000
open Go.Proofs
def Ts (p:Pg):List Sm→Option Sm
 | []=>none
 | v::l=>if v.kind==4 && !(v.Sx p)then some v else Ts p l
def Qo (c:Int):Option Sm→Int×Int
 | some v=>(c,v.id)
 | none=>(0,0)
def Pg.arity (p:Pg):Int×Int:=if p.scope.1==0 then Qo 6 (Ts p p.pre)else(1,0)
end Go.Abs

/-! Ar3 -/

namespace Go.Abs
set_option maxRecDepth 8000
open Go.Proofs
theorem zv {p:Pg} (h:(p.scope.1==0)=true):p.may=true:=by
 unfold Pg.scope at h
 split at h
 ·assumption
 ·cases h
end Go.Abs

/-! Srt1 -/

namespace Go.Abs
set_option maxRecDepth 8000
open Go.Proofs
def j8 (out:List aA):List aA→aA→Bool→aA×Bool
 | [],c,a=>(c,a)
 | s::l,c,a=>if !(dK out s) && (!a || bytesLess s c)then j8 out l s true else j8 out l c a
def H4 (l out:List aA):List aA:=if(j8 out l [] false).2 then out++ [(j8 out l [] false).1]else out
def lG (l:List aA):Nat→List aA→List aA
 | 0,out=>out
 | n+1,out=>lG l n (H4 l out)
def gK (l:List aA):List aA:=lG l l.length []
end Go.Abs

/-! Shelf -/

namespace Go.Proofs
open Go.Shelf
def Tryz.CI:Go.Shelf.Ren:=⟨fun | 190=>48 | 125=>89 | 258=>88 | 128=>119 | 129=>120 | 302=>110 | 303=>111 | 304=>112 | 305=>113 | 306=>114 | 307=>115 | 308=>116 | 309=>117 | 310=>118 | 333=>136 | 329=>137 | 330=>138 | 334=>139 | 335=>140 | 336=>141 | 344=>146 | n=>n,fun | 31=>22 | 9=>9 | 3=>3 | 46=>111 | 0=>0 | 51=>131 | 53=>133 | 4=>4 | 183=>123 | 182=>122 | 131=>128 | 5=>5 | 218=>142 | 222=>146 | 228=>150 | 229=>151 | n=>n,fun | n=>n⟩
theorem Tryz.Dl:Go.Proofs.Lays.n190 Tryz.prog Tryz.CI:= {
 mixed:=by kernel_rfl
 f125:=Tryz.func89.trans (congrArg some (by kernel_rfl))
 f128:=Tryz.func119.trans (congrArg some (by kernel_rfl))
 f129:=Tryz.func120.trans (congrArg some (by kernel_rfl))
 f190:=Tryz.func48.trans (congrArg some (by kernel_rfl))
 f258:=Tryz.func88.trans (congrArg some (by kernel_rfl))
 f302:=Tryz.func110.trans (congrArg some (by kernel_rfl))
 f303:=Tryz.func111.trans (congrArg some (by kernel_rfl))
 f304:=Tryz.func112.trans (congrArg some (by kernel_rfl))
 f305:=Tryz.func113.trans (congrArg some (by kernel_rfl))
 f306:=Tryz.func114.trans (congrArg some (by kernel_rfl))
 f307:=Tryz.func115.trans (congrArg some (by kernel_rfl))
 f308:=Tryz.func116.trans (congrArg some (by kernel_rfl))
 f309:=Tryz.func117.trans (congrArg some (by kernel_rfl))
 f310:=Tryz.func118.trans (congrArg some (by kernel_rfl))
 f329:=Tryz.func137.trans (congrArg some (by kernel_rfl))
 f330:=Tryz.func138.trans (congrArg some (by kernel_rfl))
 f333:=Tryz.func136.trans (congrArg some (by kernel_rfl))
 f334:=Tryz.func139.trans (congrArg some (by kernel_rfl))
 f335:=Tryz.func140.trans (congrArg some (by kernel_rfl))
 f336:=Tryz.func141.trans (congrArg some (by kernel_rfl))
 f344:=Tryz.func146.trans (congrArg some (by kernel_rfl))
 t0:=Tryz.underlying0
 a0:=Tryz.isAgg0
 z0:=Tryz.sizeOf0
 v0:=Tryz.zeroValue0
 t3:=Tryz.underlying3
 a3:=Tryz.isAgg3
 z3:=Tryz.sizeOf3
 v3:=Tryz.zeroValue3
 t4:=Tryz.underlying4
 a4:=Tryz.isAgg4
 z4:=Tryz.sizeOf4
 v4:=Tryz.zeroValue4
 t5:=Tryz.underlying5
 a5:=Tryz.isAgg5
 z5:=Tryz.sizeOf5
 v5:=Tryz.zeroValue5
 t9:=Tryz.underlying9
 a9:=Tryz.isAgg9
 z9:=Tryz.sizeOf9
 v9:=Tryz.zeroValue9
 t31:=Tryz.underlying22
 a31:=Tryz.isAgg22
 z31:=Tryz.sizeOf22
 v31:=Tryz.zeroValue22
 t46:=Tryz.underlying111
 a46:=Tryz.isAgg111
 z46:=Tryz.sizeOf111
 v46:=Tryz.zeroValue111
 t51:=Tryz.underlying131
 a51:=Tryz.isAgg131
 z51:=Tryz.sizeOf131
 v51:=Tryz.zeroValue131
 t53:=Tryz.underlying133
 a53:=Tryz.isAgg133
 z53:=Tryz.sizeOf133
 v53:=Tryz.zeroValue133
 t131:=Tryz.underlying128
 a131:=Tryz.isAgg128
 z131:=Tryz.sizeOf128
 v131:=Tryz.zeroValue128
 t182:=Tryz.underlying122
 a182:=Tryz.isAgg122
 z182:=Tryz.sizeOf122
 v182:=Tryz.zeroValue122
 t183:=Tryz.underlying123
 a183:=Tryz.isAgg123
 z183:=Tryz.sizeOf123
 v183:=Tryz.zeroValue123
 t218:=Tryz.underlying142
 a218:=Tryz.isAgg142
 z218:=Tryz.sizeOf142
 v218:=Tryz.zeroValue142
 t222:=Tryz.underlying146
 a222:=Tryz.isAgg146
 z222:=Tryz.sizeOf146
 v222:=Tryz.zeroValue146
 t228:=Tryz.underlying150
 a228:=Tryz.isAgg150
 z228:=Tryz.sizeOf150
 v228:=Tryz.zeroValue150
 t229:=Tryz.underlying151
 a229:=Tryz.isAgg151
 z229:=Tryz.sizeOf151
 v229:=Tryz.zeroValue151}
open Go.Sort Go.RowKit in
theorem Tryz.slices_Sort_string (uO off cap:Nat) (ss:List (List UInt8)) (w:World) (hH:Holds encStr w uO off ss.toArray) (Wb:uO<w.heap.size) (dI:ss.length<4611686018427387904) :
 Calls Tryz.prog 48 #[.slice (some ⟨uO,off,none⟩) ss.length cap] w fun e w'=>
  e = .returned (.tuple #[])∧∃ n os,w'=grow (putRow encStr (Sort.ahead w n) uO off (ss.mergeSort fun x y=>decide (x≤y)).toArray) os:=Any.slices_Sort_string Tryz.Dl uO off cap ss w hH Wb dI
def Tryz.CJ:Go.Shelf.Ren:=⟨fun | 194=>49 | n=>n,fun | 31=>22 | 9=>9 | 3=>3 | 4=>4 | 0=>0 | n=>n,fun | n=>n⟩
theorem Tryz.Dm:Go.Proofs.Lays.n194 Tryz.prog Tryz.CJ:= {
 mixed:=by kernel_rfl
 f194:=Tryz.func49.trans (congrArg some (by kernel_rfl))
 t0:=Tryz.underlying0
 a0:=Tryz.isAgg0
 z0:=Tryz.sizeOf0
 v0:=Tryz.zeroValue0
 t3:=Tryz.underlying3
 a3:=Tryz.isAgg3
 z3:=Tryz.sizeOf3
 v3:=Tryz.zeroValue3
 t4:=Tryz.underlying4
 a4:=Tryz.isAgg4
 z4:=Tryz.sizeOf4
 v4:=Tryz.zeroValue4
 t9:=Tryz.underlying9
 a9:=Tryz.isAgg9
 z9:=Tryz.sizeOf9
 v9:=Tryz.zeroValue9
 t31:=Tryz.underlying22
 a31:=Tryz.isAgg22
 z31:=Tryz.sizeOf22
 v31:=Tryz.zeroValue22}
open Go.RowKit Go.Lib Go.Sort in
theorem Tryz.slices_Compact_string (uO off cap:Nat) (zs:List (List UInt8)) (w:World) (hH:Holds encStr w uO off zs.toArray) (dI:zs.length≤9223372036854775807) (oY:zs.length≤cap) :
 Calls Tryz.prog 49 #[.slice (some ⟨uO,off,none⟩) zs.length cap] w fun e w'=>e = .returned (.slice (some ⟨uO,off,none⟩) (Lib.compact zs).length cap)∧∃ q,w'=putRow encStr (Sort.ahead w q) uO off (Lib.compact zs++List.replicate (zs.length - (Lib.compact zs).length) []).toArray:=Any.slices_Compact_string Tryz.Dm uO off cap zs w hH dI oY
open Go.RowKit Go.Lib Go.Sort in
theorem Tryz.slices_Compact_string_empty (a:Option Addr) (cap:Nat) (w:World) :
 Calls Tryz.prog 49 #[.slice a 0 cap] w fun e w'=>e = .returned (.slice a 0 cap)∧w'=w:=Any.slices_Compact_string_empty Tryz.Dm a cap w
open Go.RowKit Go.Sort in
theorem Tryz.slices_Sort_string_none (p:Option Addr) (cap:Nat) (w:World) :
 Calls Tryz.prog 48 #[.slice p 0 cap] w fun e w'=>e = .returned (.tuple #[])∧w'=w:=Any.slices_Sort_string_none Tryz.Dl p cap w
end Go.Proofs
