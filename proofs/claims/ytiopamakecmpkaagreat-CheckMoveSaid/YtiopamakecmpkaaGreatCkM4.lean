/-
  What is proved here: part 4 of the road to the claim (Al1, Al2, Al3, Prs3, Prs4, Prs5, Prs6, Lex3, MirParse, Prs7, Room1, Al4, Full1, Fits1, Fits2, MirEq, RefEq, RefEq2, LawTo1, AlP, LawAl2, SwP, MirMapS, MapS, RightP, MayLaw, MirNum, MayLaw2, MayLaw3, SubP, Cp1, Cp2, SelA, WpA, Cp3, Nb1, Nb2, Nb3, Nb4, Jm1, Jm2, Jm3, Rj1, Rj2, Ck1, LsP, Tot, Tot2, Tot3, Parsed2, RefLex2, RefLex3, Ref4, Ref5, Ref6, Ref7, Ref8, Ref9, Ref10, Glue2, LawAll, Ck2, LawCk2).
  No conditions.
-/
import Derived.Test.YtiopamakecmpkaaGreatCkM3
import Derived.KernelRfl
import Derived.RowKit3
import Derived.Test.YtiopamakecmpkaaGreatRows
import Derived.WalkKit
import Derived.ProofKit
import Derived.OpenShut
import Derived.ShutString
import Derived.ChangeMaps5

set_option linter.unusedSimpArgs false
set_option linter.unusedVariables false

/-! Al1 -/

namespace Go.Abs
set_option maxRecDepth 8000
open Go.Proofs
def lk (nm:aC) (T:List aC) (seen:List aC):List Ar→Bool
 | []=>true
 | a::l=>if a.ref then(if er seen a.name || (a.name==nm || er T a.name)then false else lk nm T (seen++ [a.name]) l)else lk nm T seen l
def apM (T:List aC) (seen:List aC):List Ar→Bool
 | []=>true
 | a::l=>if a.ref then(if er seen a.name || er T a.name then false else apM T (seen++ [a.name]) l)else apM T seen l
def Sm.aoA (v:Sm):List aC:=if v.name != []then [v.name]else []
theorem Ur {v:Sm} (tv:v.args.length<1000000000) {T:List aC} (hT:T.length<4611686018427387904) (s:St) :
 aB Tryz.prog rF [.agg (aU v), .slice .shared 1 (T.map encStr)] s (.bool (lk v.name T [] v.args)) s:=by
 refine aB.pure ?_ (by simp [D.bp,D.ok,jZ,Tag.ok,eC]) rfl s
 generalize hR:lk v.name T [] v.args=R
 have WX:=fun x s=>qV hT x s
 unfold S0
 refine aB.go Cf rfl fun B Q hB hQ=> ?_
 have⟨hF,hP,hZ,gA⟩:=bH
 repeat' (first
 | simp only [go_sem,hF,hP,hZ,gA]
 | (with_reducible refine aG hQ ?_;simp only [ay,az,Option.some.injEq,exists_eq_left',go_sem,hF,hP,hZ,gA];repeat' (first | exact Ok.out | with_reducible refine aI ?_ ?_ | (simp;done))))
 refine bk.ov 5 1 rfl ?_
 simp only [go_sem,hF,hP,hZ,gA]
 refine cU 1 1 (bk.ind (ι:=List Ar×Nat×List aC×Nat) (fun i=>v.args.drop i.2.1=i.1∧lk v.name T i.2.2.1 i.1=R∧i.2.2.1.length≤i.2.1∧i.2.2.2=i.2.2.1.length) (fun i=>i.1.length)
  (fun i=> [(1, .slice .shared 1 (T.map encStr)),(2, .ptr 0 0),(5, .slice (.tok 0) 1 (i.2.2.1.map encStr)),(9, .slice .shared 6 (v.args.map ej)),(10, .int .i64 (v.args.length:Int)),(11, .int .i64 (i.2.1:Int))]) (fun i=>⟨[aU v],[some i.2.2.2]⟩) ?_ (v.args,0,[],0) ⟨rfl,hR,Nat.le_refl _,rfl⟩)
 clear hR
 rintro⟨rest,k,seen,n'⟩ ⟨h1,h2,h3,h4⟩ IH
 dsimp only at h1 h2 h3 h4
 subst h4
 cases rest with
 | nil=>
  have hF:=drop_nil h1
  simp only [lk]at h2
  subst h2
  repeat' (first
 | simp only [go_sem,hF,hP,hZ,gA]
 | (with_reducible refine aG hQ ?_;simp only [ay,az,Option.some.injEq,exists_eq_left',go_sem,hF,hP,hZ,gA];repeat' (first | exact Ok.out | with_reducible refine aI ?_ ?_ | (simp;done))))
 | cons a rest=>
  obtain⟨hP,g2,hF,g4⟩:=drop_cons h1
  have cv:k<4611686018427387904:=by omega
  have hZ:(seen.length+1)*17≤bm:=by unfold bm;omega
  have qx:=fun g s=>jb (l:=seen) (by omega) a.name g s
  simp only [lk]at h2
  rcases Bool.eq_false_or_eq_true a.ref with c1 | c1
  case inr=>
   simp only [c1,Bool.false_eq_true,if_false]at h2
   repeat' (first
 | simp only [go_sem,hF,hP,hZ,gA,c1,Bool.not_false]
 | (with_reducible refine aG hQ ?_;simp only [ay,az,Option.some.injEq,exists_eq_left',go_sem,hF,hP,hZ,gA];repeat' (first | exact Ok.out | with_reducible refine aI ?_ ?_ | (simp;done))))
   refine dZ 1 1 ?_ ?_ (IH (rest,k+1,seen,_) ⟨g2,h2,by dsimp only;omega,rfl⟩ (Nat.lt_succ_self _))
   ·(simp only [go_sem,hF,hP,hZ,gA,aM cv];try exact bO)
   ·(simp only [go_sem,hF,hP,hZ,gA,aM cv];try exact bO)
  simp only [c1,if_true]at h2
  rcases Bool.eq_false_or_eq_true (er seen a.name)with c2 | c2
  ·simp only [c2,Bool.true_or,if_true]at h2
   subst h2
   repeat' (first
 | simp only [go_sem,hF,hP,hZ,gA,c1,c2,Bool.not_true]
 | (with_reducible refine CU (qx _ _) ?_)
 | (with_reducible refine CU (WX _ _) ?_)
 | (with_reducible refine aG hQ ?_;simp only [ay,az,Option.some.injEq,exists_eq_left',go_sem,hF,hP,hZ,gA];repeat' (first | exact Ok.out | with_reducible refine aI ?_ ?_ | (simp;done))))
  rcases Bool.eq_false_or_eq_true (a.name==v.name)with c3 | c3
  ·simp only [c2,c3,Bool.false_or,Bool.true_or,if_true]at h2
   subst h2
   repeat' (first
 | simp only [go_sem,hF,hP,hZ,gA,c1,c2,c3,Bool.not_true]
 | (with_reducible refine CU (qx _ _) ?_)
 | (with_reducible refine CU (WX _ _) ?_)
 | (with_reducible refine aG hQ ?_;simp only [ay,az,Option.some.injEq,exists_eq_left',go_sem,hF,hP,hZ,gA];repeat' (first | exact Ok.out | with_reducible refine aI ?_ ?_ | (simp;done))))
  rcases Bool.eq_false_or_eq_true (er T a.name)with c4 | c4
  ·simp only [c2,c3,c4,Bool.false_or,if_true]at h2
   subst h2
   repeat' (first
 | simp only [go_sem,hF,hP,hZ,gA,c1,c2,c3,c4,Bool.not_true]
 | (with_reducible refine CU (qx _ _) ?_)
 | (with_reducible refine CU (WX _ _) ?_)
 | (with_reducible refine aG hQ ?_;simp only [ay,az,Option.some.injEq,exists_eq_left',go_sem,hF,hP,hZ,gA];repeat' (first | exact Ok.out | with_reducible refine aI ?_ ?_ | (simp;done))))
  ·simp only [c2,c3,c4,Bool.false_or,Bool.false_eq_true,if_false]at h2
   repeat' (first
 | simp only [go_sem,hF,hP,hZ,gA,c1,c2,c3,c4,Bool.not_true]
 | (with_reducible refine CU (qx _ _) ?_)
 | (with_reducible refine CU (WX _ _) ?_)
 | (with_reducible refine aG hQ ?_;simp only [ay,az,Option.some.injEq,exists_eq_left',go_sem,hF,hP,hZ,gA];repeat' (first | exact Ok.out | with_reducible refine aI ?_ ?_ | (simp;done))))
   refine dZ 1 1 ?_ ?_ (IH (rest,k+1,seen++ [a.name],seen.length+1) ⟨g2,h2,by simp;omega,by simp⟩ (Nat.lt_succ_self _))
   ·(simp only [go_sem,hF,hP,hZ,gA,aM cv,List.map_append,List.map_cons,List.map_nil,encStr];try exact bO)
   ·(simp only [go_sem,hF,hP,hZ,gA,aM cv,List.map_append,List.map_cons,List.map_nil,encStr];try exact bO)
def mL (p:Pg):List Pc→List D
 | []=> []
 | f::l=> .str f.name:: .slice .shared 1 ((p.kU f.name).map encStr)::mL p l
theorem Q1 (p:Pg) : ∀ l,D.bp 0 0 (mL p l)=true
 | []=>rfl
 | f::l=>by simp only [mL,D.bp,D.ok,Tag.ok,eC,Q1 p l];rfl
theorem Yt (n m:Nat) (p:Pg) (l:List Pc):D.gw n m (mL p l)=mL p l:=ib n m _ (Q1 p l)
attribute [go_sem] Yt
theorem Ja (p:Pg) : ∀ l m,mL p (l++m)=mL p l++mL p m
 | [],m=>rfl
 | f::l,m=>by simp only [List.cons_append,mL,Ja p l m]
theorem Jb {p:Pg} {nm:aC} {d:D} : ∀ {l:List Pc},nm∉l.map (·.name)→wb nm d (mL p l)=some (mL p l++ [.str nm,d])
 | [],_=>rfl
 | f::l,h=>by
  simp only [List.map_cons,List.mem_cons,not_or]at h
  have:(f.name==nm)=false:=by simpa using fun e=>h.1 e.symm
  simp only [mL,wb,this,Bool.false_eq_true,if_false,Jb h.2,List.cons_append]
theorem Jc {p:Pg} {nm:aC} {z:D} : ∀ {l:List Pc} {f:Pc},jc nm l=some f→xW nm z (mL p l)=some (.slice .shared 1 ((p.kU nm).map encStr))
 | g::l,f,h=>by
  simp only [jc]at h
  simp only [mL,xW]
  split at h
  ·rename_i e
   rw [if_pos e,eq_of_beq e]
  ·rename_i e
   rw [if_neg e]
   exact Jc h
theorem Yu (l:List aC) : ∀ (s:List aC),pD s l=false→∀ a x b,l=a++x::b→x∉s++a:=by
 induction l with
 | nil=>intro s _ a x b e;cases a <;> cases e
 | cons y l ih=>
  intro s h a x b e
  simp only [pD]at h
  split at h
  ·cases h
  ·rename_i hy
   cases a with
   | nil=>cases e;simpa [← fW]using hy
   | cons z a=>
    cases e
    have:=ih (s++ [y]) h a x b rfl
    simpa using this
end Go.Abs

/-! Al2 -/

namespace Go.Abs
set_option maxRecDepth 8000
open Go.Proofs
theorem Jd {p:Pg} (h:(p.arity.1==0)=true):(p.scope.1==0)=true∧∀ v∈p.pre,(v.kind==4)=true→v.l6 p=true:=by
 unfold Pg.arity at h
 split at h
 ·rename_i e
  refine⟨e,fun v hv hk=> ?_⟩
  have : ∀ l:List Sm,((pE 6 (DF p l)).1==0)=true→∀ v∈l,(v.kind==4)=true→v.l6 p=true:=by
   intro l
   induction l with
   | nil=>intro _ v m;cases m
   | cons a l ih=>
    intro h v m hk
    simp only [DF]at h
    split at h
    ·cases h
    ·rename_i c
     rcases List.mem_cons.1 m with rfl | m
     ·simpa [hk]using c
     ·exact ih h v m hk
  exact this _ h v hv hk
 ·cases h
theorem Q2 {p:Pg} {v:Sm} (h:v.l6 p=true) : ∃ f,p.find v.proc=some f:=by
 unfold Sm.l6 at h
 cases e:p.find v.proc with
 | some f=>exact⟨f,rfl⟩
 | none=>rw [e]at h;simp at h
def Sm.oY (p:Pg) (v:Sm):Bool:=lk v.name (p.kU v.proc) [] v.args
def DO (p:Pg):List Sm→Option Sm
 | []=>none
 | v::l=>if v.kind==4 && !(v.oY p)then some v else DO p l
def Pg.alias (p:Pg):Int×Int:=if p.arity.1==0 then pE 8 (DO p p.pre)else(1,0)
theorem Je {p:Pg} (h:p.ki) (nm:aC):(p.kU nm).length<4611686018427387904:=by
 unfold Pg.kU
 cases hs:p.rP nm with
 | none=>dsimp only;decide
 | some f=>
  obtain⟨kT,hf⟩:=AG hs
  have h1:=(I5 kT hf).len
  have h2:=h.procs
  have h3:=(yF h (jE (p.work nm)) []).2
  have h4:(jE (p.work nm)).length*1800000≤900000*1800000:=Nat.mul_le_mul_right _ (by omega)
  have h5:(jE (p.p9 nm)).length≤(p.p9 nm).length:=vS _ _ (tX (jO _).1) fun x m=>((jO _).2 x).1 m
  dsimp only
  unfold Pg.p9 at *
  simp only [List.length_nil]at h3
  omega
theorem N6 {v:Sm} (hv:v.pC):v.args.length<1000000000:=by have:=Ar.cP v.args;have:=hv.2.2;omega
theorem Q3 {p:Pg} (h:p.ki) (s:St):aB Tryz.prog sW [.agg (bC p)] s (.agg [.int .i64 p.alias.1, .int .i64 p.alias.2]) s:=by
 refine aB.pure ?_ (by simp [D.bp,D.ok,gl]) rfl s
 obtain⟨uq,tA,zi⟩:=h.procs
 have ti:=fun s=>IX h s
 have dF:=fun s=>Dy (p:=p) (by omega) s
 have hL:=(qi p).1
 have hll:=qj p
 generalize hR:p.alias=R
 simp only [Pg.alias]at hR
 unfold S0
 have b0:(p.arity.1 != 0) = !(p.arity.1==0):=rfl
 rcases Bool.eq_false_or_eq_true (p.arity.1==0)with b1 | b1
 case inr=>
  rw [b1]at b0
  simp only [b1,Bool.false_eq_true,if_false]at hR
  subst hR
  refine aB.go vF rfl fun B Q hB hQ=> ?_
  have⟨hF,hP,hZ,gA⟩:=bH
  repeat' (first
 | simp only [go_sem,hF,hP,hZ,gA,b0,Bool.not_false]
 | (with_reducible refine CU (ti _) ?_)
 | (with_reducible refine aG hQ ?_;simp only [ay,az,Option.some.injEq,exists_eq_left',go_sem,hF,hP,hZ,gA];repeat' (first | exact Ok.out | with_reducible refine aI ?_ ?_ | (simp;done))))
 rw [b1]at b0
 obtain⟨kT,jk⟩:=Jd b1
 have htw:=(Co kT).2.1
 simp only [b1,if_true, ← hL]at hR
 refine aB.go vF rfl fun B Q hB hQ=> ?_
 have⟨hF,hP,hZ,gA⟩:=bH
 repeat' (first
 | simp only [go_sem,hF,hP,hZ,gA,b0,Bool.not_true]
 | (with_reducible refine CU (ti _) ?_)
 | (with_reducible refine aG hQ ?_;simp only [ay,az,Option.some.injEq,exists_eq_left',go_sem,hF,hP,hZ,gA];repeat' (first | exact Ok.out | with_reducible refine aI ?_ ?_ | (simp;done))))
 refine dZ 3 0 ?_ ?_ (bk.ind (ι:=List Pc×Nat×List Pc) (fun i=>p.procs.drop i.2.1=i.1∧p.procs=i.2.2++i.1) (fun i=>i.1.length)
  (fun i=> [(1, .ptr 0 0),(2, .ptr 1 0),(3, .fQ 2),(15, .slice .shared 5 (p.procs.map bq)),(16, .int .i64 (p.procs.length:Int)),(17, .int .i64 (i.2.1:Int))]) (fun i=>⟨[bC p,[.int .i64 0, .int .i64 0],mL p i.2.2],[]⟩) ?_ (p.procs,0,[]) ⟨rfl,rfl⟩)
 ·(simp only [go_sem,hF,hP,hZ,gA,mL];try exact bO)
 ·(simp only [go_sem,hF,hP,hZ,gA,mL];try exact bO)
 rintro⟨rest,k,done⟩ ⟨h1,h2⟩ IH
 dsimp only at h1 h2
 cases rest with
 | cons a rest=>
  obtain⟨hP,g2,hF,g4⟩:=drop_cons h1
  have cv:k<4611686018427387904:=by omega
  have w8:=fun s=>QU h a.name s
  have hnm:a.name∉done.map (·.name):=by
   have:=Yu _ [] htw (done.map (·.name)) a.name (rest.map (·.name)) (by simp [Pg.pn,h2])
   simpa using this
  have hmp:wb a.name (.slice .shared 1 ((p.kU a.name).map encStr)) (mL p done)=some (mL p (done++ [a])):=by
   rw [Jb hnm,Ja];rfl
  repeat' (first
 | simp only [go_sem,hF,hP,hZ,gA,hmp]
 | (with_reducible refine CU (w8 _) ?_)
 | (with_reducible refine aG hQ ?_;simp only [ay,az,Option.some.injEq,exists_eq_left',go_sem,hF,hP,hZ,gA];repeat' (first | exact Ok.out | with_reducible refine aI ?_ ?_ | (simp;done))))
  refine dZ 3 0 ?_ ?_ (IH (rest,k+1,done++ [a]) ⟨g2,by rw [h2];simp⟩ (Nat.lt_succ_self _))
  ·(simp only [go_sem,hF,hP,hZ,gA,aM cv];try exact bO)
  ·(simp only [go_sem,hF,hP,hZ,gA,aM cv];try exact bO)
 | nil=>
  have hF:=drop_nil h1
  rw [List.append_nil]at h2
  subst h2
  repeat' (first
 | simp only [go_sem,hF,hP,hZ,gA,rM]
 | (with_reducible refine CU (dF _) ?_)
 | (with_reducible refine aG hQ ?_;simp only [ay,az,Option.some.injEq,exists_eq_left',go_sem,hF,hP,hZ,gA];repeat' (first | exact Ok.out | with_reducible refine aI ?_ ?_ | (simp;done))))
  refine cU 3 0 (bk.ind (ι:=List Im×Nat) (fun i=>p.fx.L.drop i.2=i.1∧pE 8 (DO p (i.1.map Im.s))=R) (fun i=>i.1.length)
   (fun i=> [(1, .ptr 0 0),(2, .ptr 1 0),(3, .fQ 2),(33, .slice .shared 17 (p.fx.L.map ff)),(34, .int .i64 (p.fx.L.length:Int)),(35, .int .i64 (i.2:Int))]) (fun i=>⟨[bC p,[.int .i64 0, .int .i64 0],mL p p.procs],[]⟩) ?_ (p.fx.L,0) ⟨rfl,hR⟩)
  clear hR
  rintro⟨rest,k⟩ ⟨h1,hR⟩ IH
  dsimp only at h1 hR
  cases rest with
  | nil=>
   have hF:=drop_nil h1
   simp only [List.map_nil,DO,pE]at hR
   subst hR
   repeat' (first
 | simp only [go_sem,hF,hP,hZ,gA]
 | (with_reducible refine aG hQ ?_;simp only [ay,az,Option.some.injEq,exists_eq_left',go_sem,hF,hP,hZ,gA];repeat' (first | exact Ok.out | with_reducible refine aI ?_ ?_ | (simp;done))))
  | cons a rest=>
   obtain⟨hP,g2,hF,g4⟩:=drop_cons h1
   have cv:k<4611686018427387904:=by omega
   have FT:a.s∈p.pre:=by rw [← hL];exact List.mem_map_of_mem (List.mem_of_getElem? hP)
   have Ky:=fun s=>Ur (N6 (h.pre _ FT)) (Je h a.s.proc) s
   simp only [List.map_cons,DO,Sm.oY]at hR
   rcases Bool.eq_false_or_eq_true (a.s.kind==4)with c1 | c1
   ·obtain⟨f,hf⟩:=Q2 (jk _ FT c1)
    have hmg:=fun z=>Jc (p:=p) (z:=z) hf
    rcases Bool.eq_false_or_eq_true (lk a.s.name (p.kU a.s.proc) [] a.s.args)with c2 | c2
    ·simp only [c1,c2,Bool.not_true,Bool.and_false,Bool.false_eq_true,if_false]at hR
     repeat' (first
 | simp only [go_sem,hF,hP,hZ,gA,c1,c2,hmg]
 | (with_reducible refine CU (Ky _) ?_)
 | (with_reducible refine aG hQ ?_;simp only [ay,az,Option.some.injEq,exists_eq_left',go_sem,hF,hP,hZ,gA];repeat' (first | exact Ok.out | with_reducible refine aI ?_ ?_ | (simp;done))))
     refine dZ 3 0 ?_ ?_ (IH (rest,k+1) ⟨g2,hR⟩ (Nat.lt_succ_self _))
     ·(simp only [go_sem,hF,hP,hZ,gA,aM cv];try exact bO)
     ·(simp only [go_sem,hF,hP,hZ,gA,aM cv];try exact bO)
    ·simp only [c1,c2,Bool.not_false,Bool.and_true,if_true,pE]at hR
     subst hR
     repeat' (first
 | simp only [go_sem,hF,hP,hZ,gA,c1,c2,hmg]
 | (with_reducible refine CU (Ky _) ?_)
 | (with_reducible refine aG hQ ?_;simp only [ay,az,Option.some.injEq,exists_eq_left',go_sem,hF,hP,hZ,gA];repeat' (first | exact Ok.out | with_reducible refine aI ?_ ?_ | (simp;done))))
   ·simp only [c1,Bool.false_and,Bool.false_eq_true,if_false]at hR
    repeat' (first
 | simp only [go_sem,hF,hP,hZ,gA,c1]
 | (with_reducible refine CU (Ky _) ?_)
 | (with_reducible refine aG hQ ?_;simp only [ay,az,Option.some.injEq,exists_eq_left',go_sem,hF,hP,hZ,gA];repeat' (first | exact Ok.out | with_reducible refine aI ?_ ?_ | (simp;done))))
    refine dZ 3 0 ?_ ?_ (IH (rest,k+1) ⟨g2,hR⟩ (Nat.lt_succ_self _))
    ·(simp only [go_sem,hF,hP,hZ,gA,aM cv];try exact bO)
    ·(simp only [go_sem,hF,hP,hZ,gA,aM cv];try exact bO)
end Go.Abs

/-! Al3 -/

namespace Go.Abs
set_option maxRecDepth 8000
open Go.Proofs
def Sm.aca (p:Pg) (v:Sm):Bool:=v.l6 p && apM (p.kU v.proc) v.aoA v.args
def apF (p:Pg):List Sm→Option Sm
 | []=>none
 | v::l=>if v.kind==4 && !(v.aca p)then some v else apF p l
end Go.Abs

/-! Prs3 -/

namespace Go.Abs
set_option maxRecDepth 8000
open Go.Proofs
theorem Yv {n:Nat} {l:List aC} {gm:Int} {r:Rd} {p:List aC×Rd} (h:Rd.names n l gm r=some p) :
 aB Tryz.prog iX [.ptr 0 0, .slice (.tok 0) 1 (l.map encStr), .int .i64 gm] ⟨[cm r],[some l.length]⟩ (.slice (.tok 0) 1 (p.1.map encStr)) ⟨[cm p.2],[some p.1.length]⟩:=by
 refine aB.go wJ rfl fun B Q hB hQ=> ?_
 have⟨hF,hP,hZ,gA⟩:=bH
 repeat' (first
 | simp only [go_sem,hF,hP,hZ,gA]
 | (with_reducible first | refine bw fun hc=> ?_ | refine bx fun hc=> ?_ | refine bA (fun hc=> ?_) fun hc=> ?_) <;> (try simp only [hc,bs, ↓reduceIte]at h) <;> try simp only [hc]
 | (with_reducible refine aG hQ ?_;simp only [ay,az,bF,bG,go_sem,hF,hP,hZ,gA];repeat' (first | exact Ok.out | with_reducible refine aI ?_ ?_ | (simp;done))))
 refine cU 1 1 (bk.ind (ι:=Nat×List aC×Rd×Nat) (fun i=>Rd.names i.1 i.2.1 gm i.2.2.1=some p∧i.2.2.2=i.2.1.length) (fun i=>i.1)
  (fun i=> [(0, .ptr 0 0),(1, .slice (.tok 0) 1 (i.2.1.map encStr)),(2, .int .i64 gm)]) (fun i=>⟨[cm i.2.2.1],[some i.2.2.2]⟩) ?_ (n,l,r,l.length) ⟨h,rfl⟩)
 rintro⟨n,l,r,k⟩ ⟨h,hk⟩ IH
 dsimp only at hk;subst hk
 cases n with
 | zero=>simp only [Rd.names]at h;cases h
 | succ n=>
  simp only [Rd.names]at h
  repeat' (first
 | simp only [go_sem,hF,hP,hZ,gA]
 | (rw [Option.bind_eq_some_iff]at h;obtain⟨_,h1,h⟩:=h;first | (with_reducible refine CU (xE h1 (by with_unfolding_all rfl)) ?_) | (obtain⟨hZ,oZ⟩:=ow h1;subst oZ;simp only [go_sem,hF,hP,hZ,gA]) | (with_reducible refine CU (sL h1 (by with_unfolding_all rfl)) ?_) | (with_reducible refine CU (pB h1 (by with_unfolding_all rfl)) ?_))
 | (with_reducible refine CU (kh (by with_unfolding_all rfl)) ?_)
 | (with_reducible first | refine bw fun hc=> ?_ | refine bx fun hc=> ?_ | refine bA (fun hc=> ?_) fun hc=> ?_) <;> (try simp only [hc,bs, ↓reduceIte]at h) <;> try simp only [hc]
 | (with_reducible refine aG hQ ?_;(try cases h);simp only [ay,az,bF,bG,go_sem,hF,hP,hZ,gA];repeat' (first | exact Ok.out | with_reducible refine aI ?_ ?_ | (simp;done))))
  refine cU 1 1 (IH (n,_,_,l.length+1) ⟨h,by simp⟩ (Nat.lt_succ_self _))
theorem K6 {n:Nat} {l:List aC} {gm:Int} {r:Rd} {p:List aC×Rd} (h:Rd.names n l gm r=some p) {s:St} {o t:Nat} (ho:s.aw[o]? = some (cm r)) (ht:s.aA[t]? = some (some l.length)) :
 aB Tryz.prog iX [.ptr o 0, .slice (.tok t) 1 (l.map encStr), .int .i64 gm] s (.slice (.tok t) 1 (p.1.map encStr)) ⟨s.aw.set o (cm p.2),s.aA.set t (some p.1.length)⟩:=
 (Yv h).aed rfl (fM r) (fM p.2) (eC l) (eC p.1) ho ht
theorem Jf {n:Nat} {r:Rd} {p:List aC×Rd} (h:Rd.labels n [] r=some p) {s:St} {o:Nat} (ho:s.aw[o]? = some (cm r)) :
 aB Tryz.prog mz [.ptr o 0] s (.slice .shared 1 (p.1.map encStr)) ⟨s.aw.set o (cm p.2),s.aA⟩:=by
 refine aB.jY ?_ rfl (fM r) (fM p.2) (by simp [D.ok,eC,Tag.ok]) ho
 refine aB.go vf rfl fun B Q hB hQ=> ?_
 have⟨hF,hP,hZ,gA⟩:=bH
 repeat' (first
 | simp only [go_sem,hF,hP,hZ,gA]
 | (with_reducible first | refine bw fun hc=> ?_ | refine bx fun hc=> ?_ | refine bA (fun hc=> ?_) fun hc=> ?_) <;> (try simp only [hc,bs, ↓reduceIte]at h) <;> try simp only [hc]
 | (with_reducible refine aG hQ ?_;simp only [ay,az,bF,bG,go_sem,hF,hP,hZ,gA];repeat' (first | exact Ok.out | with_reducible refine aI ?_ ?_ | (simp;done))))
 refine bk.ov 3 1 rfl ?_
 simp only [go_sem,hF,hP,hZ,gA]
 refine cU 1 1 (bk.ind (ι:=Nat×List aC×Rd×Nat) (fun i=>Rd.labels i.1 i.2.1 i.2.2.1=some p∧i.2.2.2=i.2.1.length) (fun i=>i.1)
  (fun i=> [(0, .ptr 0 0),(3, .slice (.tok 0) 1 (i.2.1.map encStr))]) (fun i=>⟨[cm i.2.2.1],[some i.2.2.2]⟩) ?_ (n,[],r,0) ⟨h,rfl⟩)
 rintro⟨n,l,r,k⟩ ⟨h,hk⟩ IH
 dsimp only at hk;subst hk
 cases n with
 | zero=>simp only [Rd.labels]at h;cases h
 | succ n=>
  simp only [Rd.labels,Rd.ahead]at h
  repeat' (first
 | simp only [go_sem,hF,hP,hZ,gA]
 | (rw [Option.bind_eq_some_iff]at h;obtain⟨_,h1,h⟩:=h;first | (with_reducible refine CU (oD h1 (by with_unfolding_all rfl)) ?_;have hF:=rK h1) | (obtain⟨hZ,oZ⟩:=ow h1;subst oZ;simp only [go_sem,hF,hP,hZ,gA]) | (obtain⟨N7,hP⟩:=Aa h1;simp only [go_sem,hP,hF,hP,hZ,gA]))
 | (with_reducible refine CU (kh (by with_unfolding_all rfl)) ?_)
 | (with_reducible first | refine bw fun hc=> ?_ | refine bx fun hc=> ?_ | refine bA (fun hc=> ?_) fun hc=> ?_) <;> (try simp only [hc,bs, ↓reduceIte]at h) <;> try simp only [hc]
 | (with_reducible refine aG hQ ?_;(try cases h);simp only [ay,az,bF,bG,go_sem,hF,hP,hZ,gA];repeat' (first | exact Ok.out | with_reducible refine aI ?_ ?_ | (simp;done))))
  refine cU 1 1 (IH (n,_,_,l.length+1) ⟨h,by simp⟩ (Nat.lt_succ_self _))
end Go.Abs

/-! Prs4 -/

namespace Go.Abs
set_option maxRecDepth 8000
open Go.Proofs
theorem Us {r:Rd} {b:Bool} (h:r.Is=some b) {s:St} {o:Nat} (ho:s.aw[o]? = some (cm r)) :
 aB Tryz.prog mA [.ptr o 0] s (.bool b) ⟨s.aw.set o (cm r),s.aA⟩:=by
 refine aB.jY ?_ rfl (fM r) (fM r) rfl ho
 unfold Rd.Is at h
 refine aB.go vg rfl fun B Q hB hQ=> ?_
 have⟨hF,hP,hZ,gA⟩:=bH
 repeat' (first
 | simp only [go_sem,hF,hP,hZ,gA]
 | (rw [Option.bind_eq_some_iff]at h;obtain⟨_,h1,h⟩:=h;first | (with_reducible refine CU (oD h1 (by with_unfolding_all rfl)) ?_))
 | (with_reducible first | refine bw fun hc=> ?_ | refine bx fun hc=> ?_ | refine bA (fun hc=> ?_) fun hc=> ?_) <;> (try simp only [hc,bs, ↓reduceIte]at h) <;> try simp only [hc]
 | (with_reducible refine aG hQ ?_;(try cases h);simp only [ay,az,bF,bG,go_sem,hF,hP,hZ,gA];repeat' (first | exact Ok.out | with_reducible refine aI ?_ ?_ | (simp;done))))
theorem acb {m:Nat} {name proc:aC} {r:Rd} {p:Sm×Rd} (h:Rd.call m name proc r=some p) {s:St} {o:Nat} (ho:s.aw[o]? = some (cm r)) :
 aB Tryz.prog kZ [.ptr o 0, .str name, .str proc] s (.agg (aU p.1)) ⟨s.aw.set o (cm p.2),s.aA⟩:=by
 refine aB.jY ?_ rfl (fM r) (fM p.2) (by simp [D.ok,jZ]) ho
 unfold Rd.call Rd.other at h
 refine aB.go xv rfl fun B Q hB hQ=> ?_
 have⟨hF,hP,hZ,gA⟩:=bH
 repeat' (first
 | simp only [go_sem,hF,hP,hZ,gA]
 | (rw [Option.bind_eq_some_iff]at h;obtain⟨_,h1,h⟩:=h;first | (with_reducible refine CU (pB h1 (by with_unfolding_all rfl)) ?_) | (with_reducible refine CU (Al h1 (by with_unfolding_all rfl)) ?_))
 | (with_reducible refine CU (kh (by with_unfolding_all rfl)) ?_)
 | (with_reducible first | refine bw fun hc=> ?_ | refine bx fun hc=> ?_ | refine bA (fun hc=> ?_) fun hc=> ?_) <;> (try simp only [hc,bs, ↓reduceIte]at h) <;> try simp only [hc]
 | (with_reducible refine aG hQ ?_;exact jS)
 | (cases h;replace h:=hr;clear hr;(try simp only [bs, ↓reduceIte]at h))
 | (cases h;done))
 rw [Option.bind_eq_some_iff]at h
 obtain⟨q,h,hr⟩:=h
 refine bk.qB 2 10 6 rfl rfl ?_
 simp only [go_sem,hF,hP,hZ,gA]
 refine cU 3 1 (bk.ind (ι:=Nat×List Ar×Rd×Nat) (fun i=>Rd.yd m i.1 i.2.1 i.2.2.1=some q∧i.2.2.2=i.2.1.length) (fun i=>i.1)
  (fun i=> [(0, .ptr 0 0),(6, .ptr 1 0),(7, .ptr 2 0)]) (fun i=>⟨[cm i.2.2.1,aU FA,[.int .i64 0, .int .i64 4, .slice .shared 1 [], .str name, .str proc, .int .i64 0, .int .i64 0, .str [], .slice .shared 4 [], .bool false, .slice (.tok 0) 6 (i.2.1.map ej), .slice .shared 13 [], .slice .shared 13 []]],[some i.2.2.2]⟩) ?_ (m,[],_,0) ⟨h,rfl⟩)
 rintro⟨n,l,r,k⟩ ⟨h,hk⟩ IH
 dsimp only at hk;subst hk
 cases n with
 | zero=>simp only [Rd.yd]at h;cases h
 | succ n=>
  simp only [Rd.yd]at h
  repeat' (first
 | simp only [go_sem,hF,hP,hZ,gA]
 | (rw [Option.bind_eq_some_iff]at h;obtain⟨_,h1,h⟩:=h;first | (with_reducible refine CU (sL h1 (by with_unfolding_all rfl)) ?_) | (obtain⟨hZ,oZ⟩:=ow h1;subst oZ;simp only [go_sem,hF,hP,hZ,gA]) | (with_reducible refine CU (xE h1 (by with_unfolding_all rfl)) ?_) | (with_reducible refine CU (Bb h1 (by with_unfolding_all rfl)) ?_) | (with_reducible refine CU (pB h1 (by with_unfolding_all rfl)) ?_))
 | (with_reducible refine CU (kh (by with_unfolding_all rfl)) ?_)
 | (with_reducible first | refine bw fun hc=> ?_ | refine bx fun hc=> ?_ | refine bA (fun hc=> ?_) fun hc=> ?_) <;> (try simp only [hc,bs, ↓reduceIte]at h) <;> try simp only [hc]
 | (with_reducible refine aG hQ ?_;exact jS)
 | (cases h;replace h:=hr;clear hr;(try simp only [bs, ↓reduceIte]at h))
 | (cases h;done))
  ·refine cU 3 1 (IH (n,_,_,l.length+1) ⟨h,by simp⟩ (Nat.lt_succ_self _))
  ·refine cU 3 1 (IH (n,_,_,l.length+1) ⟨h,by simp⟩ (Nat.lt_succ_self _))
theorem Ut {m:Nat} {r:Rd} {p:Sm×Rd} (h:Rd.named m r=some p) {s:St} {o:Nat} (ho:s.aw[o]? = some (cm r)) :
 aB Tryz.prog ni [.ptr o 0] s (.agg (aU p.1)) ⟨s.aw.set o (cm p.2),s.aA⟩:=by
 refine aB.jY ?_ rfl (fM r) (fM p.2) (by simp [D.ok,jZ]) ho
 unfold Rd.named Rd.ahead at h
 refine aB.go wF rfl fun B Q hB hQ=> ?_
 have⟨hF,hP,hZ,gA⟩:=bH
 repeat' (first
 | simp only [go_sem,hF,hP,hZ,gA]
 | (rw [Option.bind_eq_some_iff]at h;obtain⟨_,h1,h⟩:=h;first | (with_reducible refine CU (xE h1 (by with_unfolding_all rfl)) ?_) | (with_reducible refine CU (pB h1 (by with_unfolding_all rfl)) ?_) | (with_reducible refine CU (Al h1 (by with_unfolding_all rfl)) ?_) | (with_reducible refine CU (oD h1 (by with_unfolding_all rfl)) ?_;have hF:=rK h1) | (obtain⟨N7,hP⟩:=Aa h1;simp only [go_sem,hP,hF,hP,hZ,gA]) | (with_reducible refine CU (Bb h1 (by with_unfolding_all rfl)) ?_))
 | (with_reducible refine CU (kh (by with_unfolding_all rfl)) ?_)
 | (with_reducible refine CU (acb h (by with_unfolding_all rfl)) ?_)
 | (with_reducible first | refine bw fun hc=> ?_ | refine bx fun hc=> ?_ | refine bA (fun hc=> ?_) fun hc=> ?_) <;> (try simp only [hc,bs, ↓reduceIte]at h) <;> try simp only [hc]
 | (with_reducible refine aG hQ ?_;(try cases h);simp only [ay,az,bF,bG,go_sem,hF,hP,hZ,gA];repeat' (first | exact Ok.out | with_reducible refine aI ?_ ?_ | (simp;done))))
theorem Yw {m:Nat} {word:aC} {r:Rd} {p:Sm×Rd} (h:Rd.plain m word r=some p) {s:St} {o:Nat} (ho:s.aw[o]? = some (cm r)) :
 aB Tryz.prog nj [.ptr o 0, .str word] s (.agg (aU p.1)) ⟨s.aw.set o (cm p.2),s.aA⟩:=by
 refine aB.jY ?_ rfl (fM r) (fM p.2) (by simp [D.ok,jZ]) ho
 unfold Rd.plain at h
 refine aB.go wH rfl fun B Q hB hQ=> ?_
 have⟨hF,hP,hZ,gA⟩:=bH
 repeat' (first
 | simp only [go_sem,hF,hP,hZ,gA]
 | (rw [Option.bind_eq_some_iff]at h;obtain⟨_,h1,h⟩:=h;first | (with_reducible refine CU (xE h1 (by with_unfolding_all rfl)) ?_) | (with_reducible refine CU (Al h1 (by with_unfolding_all rfl)) ?_) | (with_reducible refine CU (Bb h1 (by with_unfolding_all rfl)) ?_))
 | (with_reducible first | refine bw fun hc=> ?_ | refine bx fun hc=> ?_ | refine bA (fun hc=> ?_) fun hc=> ?_) <;> (try simp only [hc,bs, ↓reduceIte]at h) <;> try simp only [hc]
 | (with_reducible refine aG hQ ?_;(try cases h);simp only [ay,az,bF,bG,go_sem,hF,hP,hZ,gA];repeat' (first | exact Ok.out | with_reducible refine aI ?_ ?_ | (simp;done))))
theorem Q4 {m:Nat} {r:Rd} {p:Ex×Rd} (h:Rd.head m r=some p) {s:St} {o:Nat} (ho:s.aw[o]? = some (cm r)) :
 aB Tryz.prog kY [.ptr o 0] s (.agg (bu p.1)) ⟨s.aw.set o (cm p.2),s.aA⟩:=by
 refine aB.jY ?_ rfl (fM r) (fM p.2) (by simp [D.ok,gE]) ho
 unfold Rd.head at h
 refine aB.go xu rfl fun B Q hB hQ=> ?_
 have⟨hF,hP,hZ,gA⟩:=bH
 repeat' (first
 | simp only [go_sem,hF,hP,hZ,gA]
 | (rw [Option.bind_eq_some_iff]at h;obtain⟨_,h1,h⟩:=h;first | (with_reducible refine CU (pB h1 (by with_unfolding_all rfl)) ?_) | (with_reducible refine CU (Bb h1 (by with_unfolding_all rfl)) ?_))
 | (with_reducible first | refine bw fun hc=> ?_ | refine bx fun hc=> ?_ | refine bA (fun hc=> ?_) fun hc=> ?_) <;> (try simp only [hc,bs, ↓reduceIte]at h) <;> try simp only [hc]
 | (with_reducible refine aG hQ ?_;(try cases h);simp only [ay,az,bF,bG,go_sem,hF,hP,hZ,gA];repeat' (first | exact Ok.out | with_reducible refine aI ?_ ?_ | (simp;done))))
end Go.Abs

/-! Prs5 -/

namespace Go.Abs
set_option maxRecDepth 8000
open Go.Proofs
abbrev Jg (m n:Nat):Prop:=∀ {nest:Int} {body:Bool} {r:Rd} {p:(List Sm×List aC)×Rd},Rd.rows m n nest body r=some p→∀ {s:St} {o:Nat},s.aw[o]? = some (cm r)→
 aB Tryz.prog gF [.ptr o 0, .int .i64 nest, .bool body] s (.tuple [.slice .shared 13 (p.1.1.map aU), .slice .shared 1 (p.1.2.map encStr)]) ⟨s.aw.set o (cm p.2),s.aA⟩
abbrev AL (m n:Nat):Prop:=∀ {nest:Int} {r:Rd} {p:Sm×Rd},Rd.stmt m n nest r=some p→∀ {s:St} {o:Nat},s.aw[o]? = some (cm r)→
 aB Tryz.prog nP [.ptr o 0, .int .i64 nest] s (.agg (aU p.1)) ⟨s.aw.set o (cm p.2),s.aA⟩
abbrev Bg (m n:Nat):Prop:=∀ {nest:Int} {r:Rd} {p:List Sm×Rd},Rd.block m n nest r=some p→∀ {s:St} {o:Nat},s.aw[o]? = some (cm r)→
 aB Tryz.prog iZ [.ptr o 0, .int .i64 nest] s (.slice .shared 13 (p.1.map aU)) ⟨s.aw.set o (cm p.2),s.aA⟩
abbrev Cq (m n:Nat):Prop:=∀ {nest:Int} {r:Rd} {p:Sm×Rd},Rd.choice m n nest r=some p→∀ {s:St} {o:Nat},s.aw[o]? = some (cm r)→
 aB Tryz.prog mB [.ptr o 0, .int .i64 nest] s (.agg (aU p.1)) ⟨s.aw.set o (cm p.2),s.aA⟩
theorem Kq {m n:Nat} (E6:Bg m n):Cq m (n+1):=by
 intro nest r p h s o ho
 refine aB.jY ?_ rfl (fM r) (fM p.2) (by simp [D.ok,jZ]) ho
 unfold Rd.choice at h
 refine aB.go vh rfl fun B Q hB hQ=> ?_
 have⟨hF,hP,hZ,gA⟩:=bH
 repeat' (first
 | simp only [go_sem,hF,hP,hZ,gA]
 | (rw [Option.bind_eq_some_iff]at h;obtain⟨_,h1,h⟩:=h;first | (with_reducible refine CU (Q4 h1 (by with_unfolding_all rfl)) ?_) | (with_reducible refine CU (E6 h1 (by with_unfolding_all rfl)) ?_) | (with_reducible refine CU (sL h1 (by with_unfolding_all rfl)) ?_))
 | (with_reducible first | refine bw fun hc=> ?_ | refine bx fun hc=> ?_ | refine bA (fun hc=> ?_) fun hc=> ?_) <;> (try simp only [hc,bs, ↓reduceIte]at h) <;> try simp only [hc]
 | (with_reducible refine aG hQ ?_;(try cases h);simp only [ay,az,bF,bG,go_sem,hF,hP,hZ,gA];repeat' (first | exact Ok.out | with_reducible refine aI ?_ ?_ | (simp;done))))
theorem N8 {m n:Nat} (Jh:Jg m n):Bg m (n+1):=by
 intro nest r p h s o ho
 refine aB.jY ?_ rfl (fM r) (fM p.2) (by simp [D.ok,jD,Tag.ok]) ho
 unfold Rd.block at h
 refine aB.go wG rfl fun B Q hB hQ=> ?_
 have⟨hF,hP,hZ,gA⟩:=bH
 repeat' (first
 | simp only [go_sem,hF,hP,hZ,gA]
 | (rw [Option.bind_eq_some_iff]at h;obtain⟨_,h1,h⟩:=h;first | (with_reducible refine CU (pB h1 (by with_unfolding_all rfl)) ?_) | (obtain⟨gA,hik⟩:=P7 h1;subst hik;simp only [go_sem,gA,hF,hP,hZ,gA]) | (with_reducible refine CU (Jh h1 (by with_unfolding_all rfl)) ?_))
 | (with_reducible first | refine bw fun hc=> ?_ | refine bx fun hc=> ?_ | refine bA (fun hc=> ?_) fun hc=> ?_) <;> (try simp only [hc,bs, ↓reduceIte]at h) <;> try simp only [hc]
 | (with_reducible refine aG hQ ?_;(try cases h);simp only [ay,az,bF,bG,go_sem,hF,hP,hZ,gA];repeat' (first | exact Ok.out | with_reducible refine aI ?_ ?_ | (simp;done))))
theorem Q5 {m n:Nat} (E6:Bg m n) (Uu:Cq m n):AL m (n+1):=by
 intro nest r p h s o ho
 refine aB.jY ?_ rfl (fM r) (fM p.2) (by simp [D.ok,jZ]) ho
 unfold Rd.stmt at h
 refine aB.go xr rfl fun B Q hB hQ=> ?_
 have⟨hF,hP,hZ,gA⟩:=bH
 repeat' (first
 | simp only [go_sem,hF,hP,hZ,gA]
 | (rw [Option.bind_eq_some_iff]at h;obtain⟨_,h1,h⟩:=h;first | (with_reducible refine CU (Us h1 (by with_unfolding_all rfl)) ?_) | (obtain⟨gA,hik⟩:=Tq h1;subst hik;simp only [go_sem,gA,hF,hP,hZ,gA]) | (with_reducible refine CU (oD h1 (by with_unfolding_all rfl)) ?_;have hF:=rK h1) | (with_reducible refine CU (Q4 h1 (by with_unfolding_all rfl)) ?_) | (with_reducible refine CU (E6 h1 (by with_unfolding_all rfl)) ?_) | (with_reducible refine CU (Yw h1 (by with_unfolding_all rfl)) ?_) | (with_reducible refine CU (pB h1 (by with_unfolding_all rfl)) ?_) | (with_reducible refine CU (Dh h1 (by with_unfolding_all rfl)) ?_))
 | (with_reducible refine CU (Uu h (by with_unfolding_all rfl)) ?_)
 | (with_reducible refine CU (Ut h (by with_unfolding_all rfl)) ?_)
 | (with_reducible first | refine bw fun hc=> ?_ | refine bx fun hc=> ?_ | refine bA (fun hc=> ?_) fun hc=> ?_) <;> (try simp only [hc,bs, ↓reduceIte]at h) <;> try simp only [hc]
 | (with_reducible refine aG hQ ?_;(try cases h);simp only [ay,az,bF,bG,go_sem,hF,hP,hZ,gA];repeat' (first | exact Ok.out | with_reducible refine aI ?_ ?_ | (simp;done))))
theorem Q6 {m n:Nat} (xQ : ∀ j<n,AL m j) {nest:Int} {r:Rd} {p:(List Sm×List aC)×Rd} (h:Rd.rows m (n+1) nest true r=some p) :
 aB Tryz.prog gF [.ptr 0 0, .int .i64 nest, .bool true] ⟨[cm r],[]⟩ (.tuple [.slice .shared 13 (p.1.1.map aU), .slice .shared 1 (p.1.2.map encStr)]) ⟨[cm p.2],[]⟩:=by
 unfold Rd.rows at h
 refine aB.go qg rfl fun B Q hB hQ=> ?_
 have⟨hF,hP,hZ,gA⟩:=bH
 repeat' (first
 | simp only [go_sem,hF,hP,hZ,gA]
 | (with_reducible first | refine bw fun hc=> ?_ | refine bx fun hc=> ?_ | refine bA (fun hc=> ?_) fun hc=> ?_) <;> (try simp only [hc,bs, ↓reduceIte]at h) <;> try simp only [hc]
 | (with_reducible refine aG hQ ?_;simp only [ay,az,bF,bG,go_sem,hF,hP,hZ,gA];repeat' (first | exact Ok.out | with_reducible refine aI ?_ ?_ | (simp;done))))
 refine bk.ov 8 13 rfl ?_
 simp only [go_sem,hF,hP,hZ,gA]
 refine cU 1 1 (bk.ind (ι:=Nat×List Sm×Rd×Nat) (fun i=>Rd.vA m i.1 nest true i.2.1 i.2.2.1=some p∧i.2.2.2=i.2.1.length∧i.1≤n) (fun i=>i.1)
  (fun i=> [(0, .ptr 0 0),(1, .int .i64 nest),(2, .bool true),(8, .slice (.tok 0) 13 (i.2.1.map aU))]) (fun i=>⟨[cm i.2.2.1],[some i.2.2.2]⟩) ?_ (n,[],r,0) ⟨h,rfl,Nat.le_refl _⟩)
 rintro⟨j,l,r,k⟩ ⟨h,hk,hj⟩ IH
 dsimp only at hk hj;subst hk
 cases j with
 | zero=>simp only [Rd.vA]at h;cases h
 | succ j=>
  have Ji:=@xQ j (by omega)
  simp only [Rd.vA]at h
  repeat' (first
 | simp only [go_sem,hF,hP,hZ,gA,cH]
 | (rw [Option.bind_eq_some_iff]at h;obtain⟨_,h1,h⟩:=h;first | (with_reducible refine CU (Jf h1 (by with_unfolding_all rfl)) ?_) | (with_reducible refine CU (Al h1 (by with_unfolding_all rfl)) ?_;have hF:=is_lt h1) | (obtain⟨hZ,oZ⟩:=ow h1;subst oZ;simp only [go_sem,hF,hP,hZ,gA]) | (with_reducible refine CU (Ji h1 (by with_unfolding_all rfl)) ?_))
 | (with_reducible refine CU (kh (by with_unfolding_all rfl)) ?_)
 | (with_reducible first | refine bw fun hc=> ?_ | refine bx fun hc=> ?_ | refine bA (fun hc=> ?_) fun hc=> ?_) <;> (try simp only [hc,bs, ↓reduceIte]at h) <;> try simp only [hc]
 | (with_reducible refine aG hQ ?_;(try cases h);simp only [ay,az,bF,bG,go_sem,hF,hP,hZ,gA,cH];repeat' (first | exact Ok.out | with_reducible refine aI ?_ ?_ | (simp;done))))
  ·refine dZ 1 1 ?_ ?_ (IH (j,_,_,l.length+1) ⟨h,by simp,by dsimp only;omega⟩ (Nat.lt_succ_self _))
   ·(simp only [go_sem,hF,hP,hZ,gA,cH];try exact bO)
   ·(simp only [go_sem,hF,hP,hZ,gA,cH];try exact bO)
theorem N9 {m n:Nat} (xQ : ∀ j<n,AL m j) {nest:Int} {r:Rd} {p:(List Sm×List aC)×Rd} (h:Rd.rows m (n+1) nest false r=some p) :
 aB Tryz.prog gF [.ptr 0 0, .int .i64 nest, .bool false] ⟨[cm r],[]⟩ (.tuple [.slice .shared 13 (p.1.1.map aU), .slice .shared 1 (p.1.2.map encStr)]) ⟨[cm p.2],[]⟩:=by
 unfold Rd.rows at h
 refine aB.go qg rfl fun B Q hB hQ=> ?_
 have⟨hF,hP,hZ,gA⟩:=bH
 repeat' (first
 | simp only [go_sem,hF,hP,hZ,gA]
 | (with_reducible first | refine bw fun hc=> ?_ | refine bx fun hc=> ?_ | refine bA (fun hc=> ?_) fun hc=> ?_) <;> (try simp only [hc,bs, ↓reduceIte]at h) <;> try simp only [hc]
 | (with_reducible refine aG hQ ?_;simp only [ay,az,bF,bG,go_sem,hF,hP,hZ,gA];repeat' (first | exact Ok.out | with_reducible refine aI ?_ ?_ | (simp;done))))
 refine bk.ov 8 13 rfl ?_
 simp only [go_sem,hF,hP,hZ,gA]
 refine cU 1 1 (bk.ind (ι:=Nat×List Sm×Rd×Nat) (fun i=>Rd.vA m i.1 nest false i.2.1 i.2.2.1=some p∧i.2.2.2=i.2.1.length∧i.1≤n) (fun i=>i.1)
  (fun i=> [(0, .ptr 0 0),(1, .int .i64 nest),(2, .bool false),(8, .slice (.tok 0) 13 (i.2.1.map aU))]) (fun i=>⟨[cm i.2.2.1],[some i.2.2.2]⟩) ?_ (n,[],r,0) ⟨h,rfl,Nat.le_refl _⟩)
 rintro⟨j,l,r,k⟩ ⟨h,hk,hj⟩ IH
 dsimp only at hk hj;subst hk
 cases j with
 | zero=>simp only [Rd.vA]at h;cases h
 | succ j=>
  have Ji:=@xQ j (by omega)
  simp only [Rd.vA]at h
  repeat' (first
 | simp only [go_sem,hF,hP,hZ,gA,cH]
 | (rw [Option.bind_eq_some_iff]at h;obtain⟨_,h1,h⟩:=h;first | (with_reducible refine CU (Jf h1 (by with_unfolding_all rfl)) ?_) | (with_reducible refine CU (Al h1 (by with_unfolding_all rfl)) ?_;have hF:=is_lt h1) | (obtain⟨hZ,oZ⟩:=ow h1;subst oZ;simp only [go_sem,hF,hP,hZ,gA]) | (with_reducible refine CU (Ji h1 (by with_unfolding_all rfl)) ?_))
 | (with_reducible refine CU (kh (by with_unfolding_all rfl)) ?_)
 | (with_reducible first | refine bw fun hc=> ?_ | refine bx fun hc=> ?_ | refine bA (fun hc=> ?_) fun hc=> ?_) <;> (try simp only [hc,bs, ↓reduceIte]at h) <;> try simp only [hc]
 | (with_reducible refine aG hQ ?_;(try cases h);simp only [ay,az,bF,bG,go_sem,hF,hP,hZ,gA,cH];repeat' (first | exact Ok.out | with_reducible refine aI ?_ ?_ | (simp;done))))
  ·refine dZ 1 1 ?_ ?_ (IH (j,_,_,l.length+1) ⟨h,by simp,by dsimp only;omega⟩ (Nat.lt_succ_self _))
   ·(simp only [go_sem,hF,hP,hZ,gA,cH];try exact bO)
   ·(simp only [go_sem,hF,hP,hZ,gA,cH];try exact bO)
  ·refine dZ 1 1 ?_ ?_ (IH (j,_,_,l.length+1) ⟨h,by simp,by dsimp only;omega⟩ (Nat.lt_succ_self _))
   ·(simp only [go_sem,hF,hP,hZ,gA,cH];try exact bO)
   ·(simp only [go_sem,hF,hP,hZ,gA,cH];try exact bO)
theorem Q7 {m n:Nat} (xQ : ∀ j<n,AL m j):Jg m (n+1):=by
 intro nest body r p h s o ho
 refine aB.jY ?_ rfl (fM r) (fM p.2) (by simp [D.ok,D.bp,jD,eC,Tag.ok]) ho
 cases body
 ·exact N9 xQ h
 ·exact Q6 xQ h
theorem ace (m:Nat) : ∀ n,∀ k<n,Jg m k∧AL m k∧Bg m k∧Cq m k:=by
 intro n
 induction n with
 | zero=>intro k h;exact absurd h (Nat.not_lt_zero _)
 | succ n ih=>
  intro k hk
  cases k with
  | zero=>
   refine⟨?_, ?_, ?_, ?_⟩
   ·intro nest body r p h;simp only [Rd.rows]at h;cases h
   ·intro nest r p h;simp only [Rd.stmt]at h;cases h
   ·intro nest r p h;simp only [Rd.block]at h;cases h
   ·intro nest r p h;simp only [Rd.choice]at h;cases h
  | succ k=>
   obtain⟨h1,h2,h3,h4⟩:=ih k (by omega)
   exact⟨Q7 fun j hj=>(ih j (by omega)).2.1,Q5 h3 h4,N8 h1,Kq h3⟩
theorem Jh {m n:Nat} {nest:Int} {body:Bool} {r:Rd} {p:(List Sm×List aC)×Rd} (h:Rd.rows m n nest body r=some p) {s:St} {o:Nat} (ho:s.aw[o]? = some (cm r)) :
 aB Tryz.prog gF [.ptr o 0, .int .i64 nest, .bool body] s (.tuple [.slice .shared 13 (p.1.1.map aU), .slice .shared 1 (p.1.2.map encStr)]) ⟨s.aw.set o (cm p.2),s.aA⟩:=
 (ace m (n+1) n (Nat.lt_succ_self _)).1 h ho
end Go.Abs

/-! Prs6 -/

namespace Go.Abs
set_option maxRecDepth 8000
open Go.Proofs
theorem vW {m:Nat} {B:fv} {Q:Exit→Tm→St→Prop} {row:List D} {name:aC} {p:Pc×Rd} (hB:B.s = ⟨[row],[]⟩) (hQ:iI 1 0 [(2,some (true,5))] (.agg (bq p.1)) ⟨[cm p.2],[]⟩=Q)
 (ps:List Pm) (r:Rd) (h:Rd.ye m name ps r=some p) :
 bk Tryz.prog B 56 abb (ie 2 (jQ (gC Tryz.prog B 56 abd Q) Q)) [(0, .ptr 0 0),(2, .ptr 1 0),(3, .ptr 2 0)]
  ⟨[cm r,[.str [], .slice .full 0 [], .slice .full 0 [], .slice .full 0 [], .slice .full 0 []],[.str name, .slice .shared 2 (ps.map fK), .slice .full 0 [], .slice .full 0 [], .slice .full 0 []]],[]⟩:=by
 have⟨hF,hP,hZ,gA⟩:=bH
 unfold Rd.ye at h
 rw [Option.bind_eq_some_iff]at h
 obtain⟨q,h,hr⟩:=h
 refine bk.qB 2 2 1 rfl rfl ?_
 simp only [go_sem,hF,hP,hZ,gA]
 refine cU 3 1 (bk.ind (ι:=Nat×List aC×Rd×Nat) (fun i=>Rd.vars m i.1 i.2.1 i.2.2.1=some q∧i.2.2.2=i.2.1.length) (fun i=>i.1)
  (fun i=> [(0, .ptr 0 0),(2, .ptr 1 0),(3, .ptr 2 0)]) (fun i=>⟨[cm i.2.2.1,[.str [], .slice .full 0 [], .slice .full 0 [], .slice .full 0 [], .slice .full 0 []],[.str name, .slice .shared 2 (ps.map fK), .slice (.tok 0) 1 (i.2.1.map encStr), .slice .full 0 [], .slice .full 0 []]],[some i.2.2.2]⟩) ?_ (m,[],r,0) ⟨h,rfl⟩)
 rintro⟨n,l,r,k⟩ ⟨h,hk⟩ IH
 dsimp only at hk;subst hk
 cases n with
 | zero=>simp only [Rd.vars]at h;cases h
 | succ n=>
  simp only [Rd.vars]at h
  repeat' (first
 | simp only [go_sem,hF,hP,hZ,gA]
 | (rw [Option.bind_eq_some_iff]at h;obtain⟨_,h1,h⟩:=h;first | (with_reducible refine CU (sL h1 (by with_unfolding_all rfl)) ?_) | (with_reducible refine CU (K6 h1 (by with_unfolding_all rfl) (by with_unfolding_all rfl)) ?_) | (with_reducible refine CU (Jh h1 (by with_unfolding_all rfl)) ?_))
 | (with_reducible first | refine bw fun hc=> ?_ | refine bx fun hc=> ?_ | refine bA (fun hc=> ?_) fun hc=> ?_) <;> (try simp only [hc,bs, ↓reduceIte]at h) <;> try simp only [hc]
 | (with_reducible refine aG hQ ?_;exact jS)
 | (cases h;replace h:=hr;clear hr;(try simp only [bs, ↓reduceIte]at h))
 | (cases h;done))
  refine cU 3 1 (IH (n,_,_,_) ⟨h,rfl⟩ (Nat.lt_succ_self _))
theorem acf {m:Nat} {r:Rd} {p:Pc×Rd} (h:Rd.proc m r=some p) {s:St} {o:Nat} (ho:s.aw[o]? = some (cm r)) :
 aB Tryz.prog nO [.ptr o 0] s (.agg (bq p.1)) ⟨s.aw.set o (cm p.2),s.aA⟩:=by
 refine aB.jY ?_ rfl (fM r) (fM p.2) (by simp [D.ok,wq]) ho
 unfold Rd.proc Rd.other at h
 refine aB.go xA rfl fun B Q hB hQ=> ?_
 have⟨hF,hP,hZ,gA⟩:=bH
 repeat' (first
 | simp only [go_sem,hF,hP,hZ,gA]
 | (rw [Option.bind_eq_some_iff]at h;obtain⟨_,h1,h⟩:=h;first | (with_reducible refine CU (pB h1 (by with_unfolding_all rfl)) ?_) | (with_reducible refine CU (Al h1 (by with_unfolding_all rfl)) ?_) | (with_reducible refine CU (xE h1 (by with_unfolding_all rfl)) ?_))
 | (with_reducible refine CU (kh (by with_unfolding_all rfl)) ?_)
 | (with_reducible first | refine bw fun hc=> ?_ | refine bx fun hc=> ?_ | refine bA (fun hc=> ?_) fun hc=> ?_) <;> (try simp only [hc,bs, ↓reduceIte]at h) <;> try simp only [hc]
 | (with_reducible refine aG hQ ?_;simp only [ay,az,bF,bG,go_sem,hF,hP,hZ,gA];repeat' (first | exact Ok.out | with_reducible refine aI ?_ ?_ | (simp;done))))
 ·refine cU 3 0 (vW hB hQ [] _ h)
 ·rename_i nm _ _ _ _ _
  rw [Option.bind_eq_some_iff]at h
  obtain⟨q,h,hr⟩:=h
  refine bk.qB 2 1 2 rfl rfl ?_
  simp only [go_sem,hF,hP,hZ,gA]
  refine cU 3 1 (bk.ind (ι:=Nat×List Pm×Rd×Nat) (fun i=>Rd.params i.1 i.2.1 i.2.2.1=some q∧i.2.2.2=i.2.1.length) (fun i=>i.1)
   (fun i=> [(0, .ptr 0 0),(2, .ptr 1 0),(3, .ptr 2 0)]) (fun i=>⟨[cm i.2.2.1,[.str [], .slice .full 0 [], .slice .full 0 [], .slice .full 0 [], .slice .full 0 []],[.str nm.1, .slice (.tok 0) 2 (i.2.1.map fK), .slice .full 0 [], .slice .full 0 [], .slice .full 0 []]],[some i.2.2.2]⟩) ?_ (m,[],_,0) ⟨h,rfl⟩)
  rintro⟨n,l,r,k⟩ ⟨h,hk⟩ IH
  dsimp only at hk;subst hk
  cases n with
  | zero=>simp only [Rd.params]at h;cases h
  | succ n=>
   simp only [Rd.params]at h
   repeat' (first
 | simp only [go_sem,hF,hP,hZ,gA]
 | (rw [Option.bind_eq_some_iff]at h;obtain⟨_,h1,h⟩:=h;first | (with_reducible refine CU (sL h1 (by with_unfolding_all rfl)) ?_) | (with_reducible refine CU (xE h1 (by with_unfolding_all rfl)) ?_) | (obtain⟨hZ,oZ⟩:=ow h1;subst oZ;simp only [go_sem,hF,hP,hZ,gA]) | (with_reducible refine CU (pB h1 (by with_unfolding_all rfl)) ?_))
 | (with_reducible refine CU (kh (by with_unfolding_all rfl)) ?_)
 | (with_reducible first | refine bw fun hc=> ?_ | refine bx fun hc=> ?_ | refine bA (fun hc=> ?_) fun hc=> ?_) <;> (try simp only [hc,bs, ↓reduceIte]at h) <;> try simp only [hc]
 | (with_reducible refine aG hQ ?_;exact jS)
 | (cases h;replace h:=hr;clear hr;(try simp only [bs, ↓reduceIte]at h))
 | (cases h;done))
   ·refine cU 3 1 (IH (n,_,_,l.length+1) ⟨h,by simp⟩ (Nat.lt_succ_self _))
   ·refine cU 3 0 (vW hB hQ _ _ h)
   ·refine cU 3 0 (vW hB hQ _ _ h)
 ·refine cU 3 0 (vW hB hQ [] _ h)
theorem Jj {m:Nat} {B:fv} {Q:Exit→Tm→St→Prop} {row:List D} {g:List aC} {p:Pg×Rd} (hB:B.s = ⟨[row],[]⟩) (hQ:iI 1 0 [(2,some (true,2))] (.agg (bC p.1)) ⟨[cm p.2],[]⟩=Q)
 (r:Rd) {k:Nat} (h:((Rd.procs m k [] r).bind fun q=>some (⟨g,q.1⟩,q.2))=some p) :
 bk Tryz.prog B 49 QTZ (ie 2 (jQ (gC Tryz.prog B 49 QU8 Q) Q)) [(0, .ptr 0 0),(2, .ptr 1 0),(3, .ptr 2 0)]
  ⟨[cm r,[.slice .full 0 [], .slice .full 0 []],[.slice .shared 1 (g.map encStr), .slice .full 0 []]],[]⟩:=by
 have⟨hF,hP,hZ,gA⟩:=bH
 rw [Option.bind_eq_some_iff]at h
 obtain⟨q,h,hr⟩:=h
 cases hr
 refine bk.qB 2 1 5 rfl rfl ?_
 simp only [go_sem,hF,hP,hZ,gA]
 refine cU 3 1 (bk.ind (ι:=Nat×List Pc×Rd×Nat) (fun i=>Rd.procs m i.1 i.2.1 i.2.2.1=some q∧i.2.2.2=i.2.1.length) (fun i=>i.1)
  (fun i=> [(0, .ptr 0 0),(2, .ptr 1 0),(3, .ptr 2 0)]) (fun i=>⟨[cm i.2.2.1,[.slice .full 0 [], .slice .full 0 []],[.slice .shared 1 (g.map encStr), .slice (.tok 0) 5 (i.2.1.map bq)]],[some i.2.2.2]⟩) ?_ (k,[],r,0) ⟨h,rfl⟩)
 rintro⟨n,l,r,k⟩ ⟨h,hk⟩ IH
 dsimp only at hk;subst hk
 cases n with
 | zero=>simp only [Rd.procs]at h;cases h
 | succ n=>
  simp only [Rd.procs,Rd.P9,Rd.Iu]at h
  repeat' (first
 | simp only [go_sem,hF,hP,hZ,gA]
 | (rw [Option.bind_eq_some_iff]at h;obtain⟨_,h1,h⟩:=h;first | (with_reducible refine CU (Al h1 (by with_unfolding_all rfl)) ?_;have hF:=is_lt h1) | (with_reducible refine CU (Dh h1 (by with_unfolding_all rfl)) ?_) | (with_reducible refine CU (acf h1 (by with_unfolding_all rfl)) ?_) | (obtain⟨hZ,oZ⟩:=ow h1;subst oZ;simp only [go_sem,hF,hP,hZ,gA]) | (with_reducible refine CU (oD h1 (by with_unfolding_all rfl)) ?_))
 | (with_reducible refine CU (kh (by with_unfolding_all rfl)) ?_)
 | (with_reducible first | refine bw fun hc=> ?_ | refine bx fun hc=> ?_ | refine bA (fun hc=> ?_) fun hc=> ?_) <;> (try simp only [hc,bs, ↓reduceIte]at h) <;> try simp only [hc]
 | (with_reducible refine aG hQ ?_;(try cases h);simp only [ay,az,bF,bG,go_sem,hF,hP,hZ,gA];repeat' (first | exact Ok.out | with_reducible refine aI ?_ ?_ | (simp;done))))
  ·refine cU 3 1 (IH (n,_,_,l.length+1) ⟨h,by simp⟩ (Nat.lt_succ_self _))
end Go.Abs

/-! Lex3 -/

namespace Go.Abs
set_option maxRecDepth 8000
open Go.Proofs
theorem Uv {c:UInt8} {r:aC} (h:o6 c=true):0<qE (c::r):=by simp [qE,h]
theorem Oa {text:aC} (hl:text.length≤100000) {B:fv} {Q:Exit→Tm→St→Prop} {p:List fB×Int×Int} (hB:B.s=S0)
 (hQ:iI 0 0 [(2,none),(3,some (true,2))] (.tuple [.slice .shared 4 (p.1.map ew), .agg (mE p.2)]) ⟨[],[]⟩=Q)
 {n pos:Nat} {out:List fB} (ho:out.length≤2000) (hp:pos≤text.length) (IH:sh text B Q p (n+1))
 {c:UInt8} {r:aC} (h1:text.drop pos=c::r) (hb:zb c=false) (hc:((c.toNat:Int)==35)=false) (hL:qD c=false) (hD:o6 c=true) (hn:(c::r).length<n+1) (h:nc (n+1) pos (c::r) out=p) :
 gC Tryz.prog B 152 Ag (jC Tryz.prog B 152 uN Q) (n4 text out pos) (oT out):=by
 have hZ:0<1:=Nat.zero_lt_one
 have gA:0<1:=Nat.zero_lt_one
 have hP:=(drop_cons h1).1
 have g4:=(drop_cons h1).2.2.2
 have hF:pos<4611686018427387904:=by omega
 have eK:decide ((pos:Int)≥(text.length:Int))=false:=by simp;omega
 have dH:(out.length+1)*41≤bm:=by simp only [bm];omega
 have cv:=II (c::r)
 have uj:=Uv (r:=r) hD
 have sM:(c::r).length=text.length - pos:=by rw [← h1,List.length_drop]
 have wo:=IJ (c::r)
 simp only [nc,hb,Bool.false_eq_true, ↓reduceIte,hc,Ny,hL,hD]at h
 simp only [zb,Bool.or_eq_false_iff]at hb
 generalize hK:qE (c::r)=k at h cv uj wo
 have hlen:((c::r).take k).length=k:=by rw [List.length_take];omega
 have nU:=fun s=>TB wo (by rw [hlen];omega) s
 simp only [hlen]at h
 have fX:((c::r).take k)[0]? = some c:=by rw [List.getElem?_take_of_lt uj];rfl
 have e2:(0:Int)≤(pos:Int)∧(pos:Int)≤((pos+k:Nat):Int)∧((pos+k:Nat):Int)≤(text.length:Int):=by omega
 have e3:(text.take (pos+k)).drop pos=(c::r).take k:=by rw [yp,h1]
 have fin:text.drop (pos+k)=(c::r).drop k:=by rw [← h1,List.drop_drop]
 have tT:((c::r).drop k).length<n:=by rw [List.length_drop];omega
 have WY:pos+k≤text.length:=by omega
 repeat' (first
 | simp only [go_sem,hF,hP,hZ,gA,eK,hb.1.1.1,hb.1.1.2,hb.1.2,hb.2,hc,hL,hD]
 | (with_reducible refine CU (ij _ _) ?_)
 | (with_reducible refine CU (jy _ _) ?_)
 | (with_reducible refine bZ (l:=3) (by with_unfolding_all rfl) ?_)
 | (with_reducible refine aG hQ ?_;simp only [ay,az,bF,bG,go_sem,hF,hP,hZ,gA];repeat' (first | exact Ok.out | with_reducible refine aI ?_ ?_ | (simp;done))))
 refine cU 2 1 (bk.ind (ι:=aC×Nat) (fun i=>text.drop i.2=i.1∧i.2+qE i.1=pos+k) (fun i=>i.1.length)
  (fun i=>n4 text out i.2) (fun i=>⟨[[.int .i64 0, .int .i64 0],[.int .i64 0, .str [], .int .i64 0, .int .i64 (pos:Int)]],[some out.length]⟩) ?_ (c::r,pos) ⟨h1,by dsimp only;omega⟩)
 rintro⟨rest,j⟩ ⟨j1,j2⟩ IHl
 dsimp only at j1 j2
 have step : ∀ d pH,rest=d::pH→o6 d=true→gC Tryz.prog B 152 QRO (jQ (bk Tryz.prog B 152 QRO
  (ie 3 (jQ (gC Tryz.prog B 152 QSH (jC Tryz.prog B 152 uN Q)) (jC Tryz.prog B 152 uN Q))))
  (ie 3 (jQ (gC Tryz.prog B 152 QSH (jC Tryz.prog B 152 uN Q)) (jC Tryz.prog B 152 uN Q))))
  (n4 text out j) ⟨[[.int .i64 0, .int .i64 0],[.int .i64 0, .str [], .int .i64 0, .int .i64 (pos:Int)]],[some out.length]⟩:=by
  rintro d pH rfl hd
  obtain⟨hP,g2,eK,g5⟩:=drop_cons j1
  have hF:j<4611686018427387904:=by omega
  simp only [qE,hd, ↓reduceIte]at j2
  repeat' (first
 | simp only [go_sem,hF,hP,hZ,gA,eK,hd]
 | (with_reducible refine CU (jy _ _) ?_)
 | (with_reducible first | refine bw fun hc=> ?_ | refine bx fun hc=> ?_ | refine bA (fun hc=> ?_) fun hc=> ?_) <;> (try simp only [hc,bs, ↓reduceIte]at h) <;> try simp only [hc]
 | (with_reducible refine aG hQ ?_;(try cases h);simp only [ay,az,bF,bG,go_sem,hF,hP,hZ,gA,eK,hd];repeat' (first | exact Ok.out | with_reducible refine aI ?_ ?_ | (simp;done))))
  refine cU 2 1 (IHl (pH,j+1) ⟨g2,by dsimp only;omega⟩ (Nat.lt_succ_self _))
 cases rest with
 | nil=>
  have eK:=drop_nil j1
  simp only [qE,Nat.add_zero]at j2
  subst j2
  by_cases hz:k > 1∧(c.toNat:Int)=48
  ·have z1:decide ((k:Int) > 1)=true:=by simp;omega
   have z2:((c.toNat:Int)==48)=true:=by simp [hz.2]
   rw [if_pos hz]at h
   dsimp only at h
   repeat' (first
 | simp only [go_sem,hF,hP,hZ,gA,eK,e2,e3,hlen,fX,z1,z2]
 | (with_reducible refine bZ (l:=4) (by with_unfolding_all rfl) ?_)
 | (with_reducible refine bZ (l:=5) (by with_unfolding_all rfl) ?_)
 | (with_reducible first | refine bw fun hc=> ?_ | refine bx fun hc=> ?_ | refine bA (fun hc=> ?_) fun hc=> ?_) <;> (try simp only [hc,bs, ↓reduceIte]at h) <;> try simp only [hc]
 | (with_reducible refine aG hQ ?_;(try cases h);simp only [ay,az,bF,bG,go_sem,hF,hP,hZ,gA,eK,e2,e3,hlen,fX,z1,z2];repeat' (first | exact Ok.out | with_reducible refine aI ?_ ?_ | (simp;done))))
  ·have Jk:decide ((k:Int) > 1)=false∨(decide ((k:Int) > 1)=true∧((c.toNat:Int)==48)=false):=by
    by_cases h1:k > 1
    ·right;exact⟨by simp;omega,by simp;intro h2;exact hz ⟨h1,h2⟩⟩
    ·left;simp;omega
   rw [if_neg hz]at h
   cases hw:vB 0 ((c::r).take k)with
   | none=>
    have Jl:oE ((c::r).take k)=(0,false):=by simp only [oE,hw]
    simp only [Jl]at nU
    simp only [hw]at h
    rcases Jk with z1 | ⟨z1,z2⟩
    ·repeat' (first
 | simp only [go_sem,hF,hP,hZ,gA,eK,e2,e3,hlen,fX,z1]
 | (with_reducible refine CU (nU _) ?_)
 | (with_reducible refine bZ (l:=4) (by with_unfolding_all rfl) ?_)
 | (with_reducible refine bZ (l:=5) (by with_unfolding_all rfl) ?_)
 | (with_reducible first | refine bw fun hc=> ?_ | refine bx fun hc=> ?_ | refine bA (fun hc=> ?_) fun hc=> ?_) <;> (try simp only [hc,bs, ↓reduceIte]at h) <;> try simp only [hc]
 | (with_reducible refine aG hQ ?_;(try cases h);simp only [ay,az,bF,bG,go_sem,hF,hP,hZ,gA,eK,e2,e3,hlen,fX,z1];repeat' (first | exact Ok.out | with_reducible refine aI ?_ ?_ | (simp;done))))
    ·repeat' (first
 | simp only [go_sem,hF,hP,hZ,gA,eK,e2,e3,hlen,fX,z1,z2]
 | (with_reducible refine CU (nU _) ?_)
 | (with_reducible refine bZ (l:=4) (by with_unfolding_all rfl) ?_)
 | (with_reducible refine bZ (l:=5) (by with_unfolding_all rfl) ?_)
 | (with_reducible first | refine bw fun hc=> ?_ | refine bx fun hc=> ?_ | refine bA (fun hc=> ?_) fun hc=> ?_) <;> (try simp only [hc,bs, ↓reduceIte]at h) <;> try simp only [hc]
 | (with_reducible refine aG hQ ?_;(try cases h);simp only [ay,az,bF,bG,go_sem,hF,hP,hZ,gA,eK,e2,e3,hlen,fX,z1,z2];repeat' (first | exact Ok.out | with_reducible refine aI ?_ ?_ | (simp;done))))
   | some v=>
    have Jl:oE ((c::r).take k)=(v,true):=by simp only [oE,hw]
    simp only [Jl]at nU
    simp only [hw,hlen]at h
    by_cases rj:out.length=2000
    ·have jP:((out.length:Int)==2000)=true:=by simp [rj]
     simp only [rj, ↓reduceIte]at h
     rcases Jk with z1 | ⟨z1,z2⟩
     ·repeat' (first
 | simp only [go_sem,hF,hP,hZ,gA,eK,e2,e3,hlen,fX,z1,jP]
 | (with_reducible refine CU (nU _) ?_)
 | (with_reducible refine bZ (l:=4) (by with_unfolding_all rfl) ?_)
 | (with_reducible refine bZ (l:=5) (by with_unfolding_all rfl) ?_)
 | (with_reducible first | refine bw fun hc=> ?_ | refine bx fun hc=> ?_ | refine bA (fun hc=> ?_) fun hc=> ?_) <;> (try simp only [hc,bs, ↓reduceIte]at h) <;> try simp only [hc]
 | (with_reducible refine aG hQ ?_;(try cases h);simp only [ay,az,bF,bG,go_sem,hF,hP,hZ,gA,eK,e2,e3,hlen,fX,z1,jP];repeat' (first | exact Ok.out | with_reducible refine aI ?_ ?_ | (simp;done))))
     ·repeat' (first
 | simp only [go_sem,hF,hP,hZ,gA,eK,e2,e3,hlen,fX,z1,z2,jP]
 | (with_reducible refine CU (nU _) ?_)
 | (with_reducible refine bZ (l:=4) (by with_unfolding_all rfl) ?_)
 | (with_reducible refine bZ (l:=5) (by with_unfolding_all rfl) ?_)
 | (with_reducible first | refine bw fun hc=> ?_ | refine bx fun hc=> ?_ | refine bA (fun hc=> ?_) fun hc=> ?_) <;> (try simp only [hc,bs, ↓reduceIte]at h) <;> try simp only [hc]
 | (with_reducible refine aG hQ ?_;(try cases h);simp only [ay,az,bF,bG,go_sem,hF,hP,hZ,gA,eK,e2,e3,hlen,fX,z1,z2,jP];repeat' (first | exact Ok.out | with_reducible refine aI ?_ ?_ | (simp;done))))
    ·have jP:((out.length:Int)==2000)=false:=by simp;omega
     have BM : ∀ t:fB,(out++ [t]).length≤2000:=by intro t;simp;omega
     simp only [rj, ↓reduceIte]at h
     rcases Jk with z1 | ⟨z1,z2⟩
     ·repeat' (first
 | simp only [go_sem,hF,hP,hZ,gA,eK,e2,e3,hlen,fX,z1,jP,dH]
 | (with_reducible refine CU (nU _) ?_)
 | (with_reducible refine bZ (l:=4) (by with_unfolding_all rfl) ?_)
 | (with_reducible refine bZ (l:=5) (by with_unfolding_all rfl) ?_)
 | (refine IH.to hB fin h tT (BM _) WY (Nat.lt_succ_self _) ?_ ?_ ?_ <;> ((try simp only [go_sem,hF,hP,hZ,gA]);repeat' (first | exact Ok.out | with_reducible refine aI ?_ ?_ | omega | (simp;done)));done)
 | (with_reducible first | refine bw fun hc=> ?_ | refine bx fun hc=> ?_ | refine bA (fun hc=> ?_) fun hc=> ?_) <;> (try simp only [hc,bs, ↓reduceIte]at h) <;> try simp only [hc]
 | (with_reducible refine aG hQ ?_;(try cases h);simp only [ay,az,bF,bG,go_sem,hF,hP,hZ,gA,eK,e2,e3,hlen,fX,z1,jP,dH];repeat' (first | exact Ok.out | with_reducible refine aI ?_ ?_ | (simp;done))))
     ·repeat' (first
 | simp only [go_sem,hF,hP,hZ,gA,eK,e2,e3,hlen,fX,z1,z2,jP,dH]
 | (with_reducible refine CU (nU _) ?_)
 | (with_reducible refine bZ (l:=4) (by with_unfolding_all rfl) ?_)
 | (with_reducible refine bZ (l:=5) (by with_unfolding_all rfl) ?_)
 | (refine IH.to hB fin h tT (BM _) WY (Nat.lt_succ_self _) ?_ ?_ ?_ <;> ((try simp only [go_sem,hF,hP,hZ,gA]);repeat' (first | exact Ok.out | with_reducible refine aI ?_ ?_ | omega | (simp;done)));done)
 | (with_reducible first | refine bw fun hc=> ?_ | refine bx fun hc=> ?_ | refine bA (fun hc=> ?_) fun hc=> ?_) <;> (try simp only [hc,bs, ↓reduceIte]at h) <;> try simp only [hc]
 | (with_reducible refine aG hQ ?_;(try cases h);simp only [ay,az,bF,bG,go_sem,hF,hP,hZ,gA,eK,e2,e3,hlen,fX,z1,z2,jP,dH];repeat' (first | exact Ok.out | with_reducible refine aI ?_ ?_ | (simp;done))))
 | cons d rest=>
  obtain⟨hP,g2,eK,g5⟩:=drop_cons j1
  have hF:j<4611686018427387904:=by omega
  cases hd:o6 d
  ·simp only [qE,hd,Bool.false_eq_true, ↓reduceIte,Nat.add_zero]at j2
   subst j2
   by_cases hz:k > 1∧(c.toNat:Int)=48
   ·have z1:decide ((k:Int) > 1)=true:=by simp;omega
    have z2:((c.toNat:Int)==48)=true:=by simp [hz.2]
    rw [if_pos hz]at h
    dsimp only at h
    repeat' (first
 | simp only [go_sem,hF,hP,hZ,gA,eK,hd,e2,e3,hlen,fX,z1,z2]
 | (with_reducible refine CU (jy _ _) ?_)
 | (with_reducible refine bZ (l:=4) (by with_unfolding_all rfl) ?_)
 | (with_reducible refine bZ (l:=5) (by with_unfolding_all rfl) ?_)
 | (with_reducible first | refine bw fun hc=> ?_ | refine bx fun hc=> ?_ | refine bA (fun hc=> ?_) fun hc=> ?_) <;> (try simp only [hc,bs, ↓reduceIte]at h) <;> try simp only [hc]
 | (with_reducible refine aG hQ ?_;(try cases h);simp only [ay,az,bF,bG,go_sem,hF,hP,hZ,gA,eK,hd,e2,e3,hlen,fX,z1,z2];repeat' (first | exact Ok.out | with_reducible refine aI ?_ ?_ | (simp;done))))
   ·have Jk:decide ((k:Int) > 1)=false∨(decide ((k:Int) > 1)=true∧((c.toNat:Int)==48)=false):=by
     by_cases h1:k > 1
     ·right;exact⟨by simp;omega,by simp;intro h2;exact hz ⟨h1,h2⟩⟩
     ·left;simp;omega
    rw [if_neg hz]at h
    cases hw:vB 0 ((c::r).take k)with
    | none=>
     have Jl:oE ((c::r).take k)=(0,false):=by simp only [oE,hw]
     simp only [Jl]at nU
     simp only [hw]at h
     rcases Jk with z1 | ⟨z1,z2⟩
     ·repeat' (first
 | simp only [go_sem,hF,hP,hZ,gA,eK,hd,e2,e3,hlen,fX,z1]
 | (with_reducible refine CU (jy _ _) ?_)
 | (with_reducible refine CU (nU _) ?_)
 | (with_reducible refine bZ (l:=4) (by with_unfolding_all rfl) ?_)
 | (with_reducible refine bZ (l:=5) (by with_unfolding_all rfl) ?_)
 | (with_reducible first | refine bw fun hc=> ?_ | refine bx fun hc=> ?_ | refine bA (fun hc=> ?_) fun hc=> ?_) <;> (try simp only [hc,bs, ↓reduceIte]at h) <;> try simp only [hc]
 | (with_reducible refine aG hQ ?_;(try cases h);simp only [ay,az,bF,bG,go_sem,hF,hP,hZ,gA,eK,hd,e2,e3,hlen,fX,z1];repeat' (first | exact Ok.out | with_reducible refine aI ?_ ?_ | (simp;done))))
     ·repeat' (first
 | simp only [go_sem,hF,hP,hZ,gA,eK,hd,e2,e3,hlen,fX,z1,z2]
 | (with_reducible refine CU (jy _ _) ?_)
 | (with_reducible refine CU (nU _) ?_)
 | (with_reducible refine bZ (l:=4) (by with_unfolding_all rfl) ?_)
 | (with_reducible refine bZ (l:=5) (by with_unfolding_all rfl) ?_)
 | (with_reducible first | refine bw fun hc=> ?_ | refine bx fun hc=> ?_ | refine bA (fun hc=> ?_) fun hc=> ?_) <;> (try simp only [hc,bs, ↓reduceIte]at h) <;> try simp only [hc]
 | (with_reducible refine aG hQ ?_;(try cases h);simp only [ay,az,bF,bG,go_sem,hF,hP,hZ,gA,eK,hd,e2,e3,hlen,fX,z1,z2];repeat' (first | exact Ok.out | with_reducible refine aI ?_ ?_ | (simp;done))))
    | some v=>
     have Jl:oE ((c::r).take k)=(v,true):=by simp only [oE,hw]
     simp only [Jl]at nU
     simp only [hw,hlen]at h
     by_cases rj:out.length=2000
     ·have jP:((out.length:Int)==2000)=true:=by simp [rj]
      simp only [rj, ↓reduceIte]at h
      rcases Jk with z1 | ⟨z1,z2⟩
      ·repeat' (first
 | simp only [go_sem,hF,hP,hZ,gA,eK,hd,e2,e3,hlen,fX,z1,jP]
 | (with_reducible refine CU (jy _ _) ?_)
 | (with_reducible refine CU (nU _) ?_)
 | (with_reducible refine bZ (l:=4) (by with_unfolding_all rfl) ?_)
 | (with_reducible refine bZ (l:=5) (by with_unfolding_all rfl) ?_)
 | (with_reducible first | refine bw fun hc=> ?_ | refine bx fun hc=> ?_ | refine bA (fun hc=> ?_) fun hc=> ?_) <;> (try simp only [hc,bs, ↓reduceIte]at h) <;> try simp only [hc]
 | (with_reducible refine aG hQ ?_;(try cases h);simp only [ay,az,bF,bG,go_sem,hF,hP,hZ,gA,eK,hd,e2,e3,hlen,fX,z1,jP];repeat' (first | exact Ok.out | with_reducible refine aI ?_ ?_ | (simp;done))))
      ·repeat' (first
 | simp only [go_sem,hF,hP,hZ,gA,eK,hd,e2,e3,hlen,fX,z1,z2,jP]
 | (with_reducible refine CU (jy _ _) ?_)
 | (with_reducible refine CU (nU _) ?_)
 | (with_reducible refine bZ (l:=4) (by with_unfolding_all rfl) ?_)
 | (with_reducible refine bZ (l:=5) (by with_unfolding_all rfl) ?_)
 | (with_reducible first | refine bw fun hc=> ?_ | refine bx fun hc=> ?_ | refine bA (fun hc=> ?_) fun hc=> ?_) <;> (try simp only [hc,bs, ↓reduceIte]at h) <;> try simp only [hc]
 | (with_reducible refine aG hQ ?_;(try cases h);simp only [ay,az,bF,bG,go_sem,hF,hP,hZ,gA,eK,hd,e2,e3,hlen,fX,z1,z2,jP];repeat' (first | exact Ok.out | with_reducible refine aI ?_ ?_ | (simp;done))))
     ·have jP:((out.length:Int)==2000)=false:=by simp;omega
      have BM : ∀ t:fB,(out++ [t]).length≤2000:=by intro t;simp;omega
      simp only [rj, ↓reduceIte]at h
      rcases Jk with z1 | ⟨z1,z2⟩
      ·repeat' (first
 | simp only [go_sem,hF,hP,hZ,gA,eK,hd,e2,e3,hlen,fX,z1,jP,dH]
 | (with_reducible refine CU (jy _ _) ?_)
 | (with_reducible refine CU (nU _) ?_)
 | (with_reducible refine bZ (l:=4) (by with_unfolding_all rfl) ?_)
 | (with_reducible refine bZ (l:=5) (by with_unfolding_all rfl) ?_)
 | (refine IH.to hB fin h tT (BM _) WY (Nat.lt_succ_self _) ?_ ?_ ?_ <;> ((try simp only [go_sem,hF,hP,hZ,gA]);repeat' (first | exact Ok.out | with_reducible refine aI ?_ ?_ | omega | (simp;done)));done)
 | (with_reducible first | refine bw fun hc=> ?_ | refine bx fun hc=> ?_ | refine bA (fun hc=> ?_) fun hc=> ?_) <;> (try simp only [hc,bs, ↓reduceIte]at h) <;> try simp only [hc]
 | (with_reducible refine aG hQ ?_;(try cases h);simp only [ay,az,bF,bG,go_sem,hF,hP,hZ,gA,eK,hd,e2,e3,hlen,fX,z1,jP,dH];repeat' (first | exact Ok.out | with_reducible refine aI ?_ ?_ | (simp;done))))
      ·repeat' (first
 | simp only [go_sem,hF,hP,hZ,gA,eK,hd,e2,e3,hlen,fX,z1,z2,jP,dH]
 | (with_reducible refine CU (jy _ _) ?_)
 | (with_reducible refine CU (nU _) ?_)
 | (with_reducible refine bZ (l:=4) (by with_unfolding_all rfl) ?_)
 | (with_reducible refine bZ (l:=5) (by with_unfolding_all rfl) ?_)
 | (refine IH.to hB fin h tT (BM _) WY (Nat.lt_succ_self _) ?_ ?_ ?_ <;> ((try simp only [go_sem,hF,hP,hZ,gA]);repeat' (first | exact Ok.out | with_reducible refine aI ?_ ?_ | omega | (simp;done)));done)
 | (with_reducible refine aG hQ ?_;simp only [ay,az,bF,bG,go_sem,hF,hP,hZ,gA];repeat' (first | exact Ok.out | with_reducible refine aI ?_ ?_ | (simp;done))))
  ·exact step d rest rfl hd
theorem K7 {text:aC} (hl:text.length≤100000) {B:fv} {Q:Exit→Tm→St→Prop} {p:List fB×Int×Int} (hB:B.s=S0)
 (hQ:iI 0 0 [(2,none),(3,some (true,2))] (.tuple [.slice .shared 4 (p.1.map ew), .agg (mE p.2)]) ⟨[],[]⟩=Q)
 {n pos:Nat} {out:List fB} (ho:out.length≤2000) (hp:pos≤text.length) (IH:sh text B Q p (n+1)) {rest:aC} (h1:text.drop pos=rest) (h:nc (n+1) pos rest out=p) (hn:rest.length<n+1) :
 gC Tryz.prog B 152 Ag (jC Tryz.prog B 152 uN Q) (n4 text out pos) (oT out):=by
 cases rest with
 | nil=>exact lex_nil hl hB hQ ho hp IH h1 h
 | cons c r=>
  cases hb:zb c
  ·cases hc:((c.toNat:Int)==35)
   ·cases hL:qD c
    ·cases hD:o6 c
     ·exact TD hl hB hQ ho hp IH h1 hb hc hL hD hn h
     ·exact Oa hl hB hQ ho hp IH h1 hb hc hL hD hn h
    ·exact TE hl hB hQ ho hp IH h1 hb hc hL hn h
   ·exact NS hl hB hQ ho hp IH h1 hb hc hn h
  ·exact Qg hl hB hQ ho hp IH h1 hb hn h
theorem acg {text:aC} (hl:text.length≤100000) {B:fv} {Q:Exit→Tm→St→Prop} {p:List fB×Int×Int} (hB:B.s=S0)
 (hQ:iI 0 0 [(2,none),(3,some (true,2))] (.tuple [.slice .shared 4 (p.1.map ew), .agg (mE p.2)]) ⟨[],[]⟩=Q) : ∀ N,sh text B Q p N:=by
 intro N
 induction N with
 | zero=>intro n pos rest out _ _ _ _ _ h;exact absurd h (Nat.not_lt_zero _)
 | succ N ih=>
  intro n pos rest out h1 h h2 h3 h4 h5
  cases n with
  | zero=>omega
  | succ n=>
   refine nM.qA ?_
   show gC Tryz.prog B 152 Ag (jC Tryz.prog B 152 uN Q) (n4 text out pos) (oT out)
   exact K7 hl hB hQ h3 h4 (fun n' pos' pH cu a b c d e f=>ih n' pos' pH cu a b c d e (by omega)) h1 h h2
theorem afG (text:aC) (hl:text.length<4611686018427387904) (s:St) :
 aB Tryz.prog Ab [.str text] s (.tuple [.slice .shared 4 ((ox text).1.map ew), .agg (mE (ox text).2)]) s:=by
 refine aB.pure ?_ rfl (by simp [D.ok,D.bp,Io,Tag.ok,mE]) s
 generalize h:ox text=p
 unfold ox at h
 unfold S0
 refine aB.go Kf rfl fun B Q hB hQ=> ?_
 have⟨hF,hP,hZ,gA⟩:=bH
 repeat' (first
 | simp only [go_sem,hF,hP,hZ,gA]
 | (with_reducible first | refine bw fun hc=> ?_ | refine bx fun hc=> ?_ | refine bA (fun hc=> ?_) fun hc=> ?_) <;> (try simp only [hc,bs, ↓reduceIte]at h) <;> try simp only [hc]
 | (with_reducible refine aG hQ ?_;(try cases h);simp only [ay,az,bF,bG,go_sem,hF,hP,hZ,gA];repeat' (first | exact Ok.out | with_reducible refine aI ?_ ?_ | (simp;done))))
 refine nM.once (Sem.km ?_)
 simp only [go_sem,hF,hP,hZ,gA]
 refine Sem.km ?_
 simp only [go_sem,hF,hP,hZ,gA]
 refine Sem.km ?_
 simp only [go_sem,hF,hP,hZ,gA]
 refine Sem.km ?_
 by_cases hz:text.length > 100000
 ·have nE:decide ((text.length:Int) > 100000)=true:=by simp;omega
  rw [if_pos hz]at h
  repeat' (first
 | simp only [go_sem,hF,hP,hZ,gA,nE]
 | (with_reducible first | refine bw fun hc=> ?_ | refine bx fun hc=> ?_ | refine bA (fun hc=> ?_) fun hc=> ?_) <;> (try simp only [hc,bs, ↓reduceIte]at h) <;> try simp only [hc]
 | (with_reducible refine aG hQ ?_;(try cases h);simp only [ay,az,bF,bG,go_sem,hF,hP,hZ,gA,nE];repeat' (first | exact Ok.out | with_reducible refine aI ?_ ?_ | (simp;done))))
 ·have nE:decide ((text.length:Int) > 100000)=false:=by simp;omega
  rw [if_neg hz]at h
  have me:text.length≤100000:=by omega
  have hQ':iI 0 0 [(2,none),(3,some (true,2))] (.tuple [.slice .shared 4 (p.1.map ew), .agg (mE p.2)]) ⟨[],[]⟩=Q:=hQ
  repeat' (first
 | simp only [go_sem,hF,hP,hZ,gA,nE]
 | (with_reducible refine aG hQ ?_;simp only [ay,az,bF,bG,go_sem,hF,hP,hZ,gA];repeat' (first | exact Ok.out | with_reducible refine aI ?_ ?_ | (simp;done))))
  refine Sem.km ?_
  simp only [go_sem,hF,hP,hZ,gA]
  refine Sem.ov 4 4 rfl ?_
  simp only [go_sem,hF,hP,hZ,gA]
  refine Sem.re _ _ 2 1 (by rw [hB];exact lY rfl) (by rw [hB];exact lY rfl) ?_ ?_ (im (K7 me hB hQ' (out:= []) (pos:=0) (by simp) (Nat.zero_le _) (acg me hB hQ' _) rfl h (by simp)))
  ·(simp only [go_sem,hF,hP,hZ,gA];repeat' (first | exact Ok.out | with_reducible refine aI ?_ ?_))
  ·(simp only [go_sem,hF,hP,hZ,gA];repeat' (first | exact Ok.out | with_reducible refine aI ?_ ?_))
end Go.Abs

/-! MirParse -/

namespace Go.Abs
def WZ (l:List fB):Rd:=⟨l,0,0,0,0⟩
def DP (m:Nat) (text:aC):Option (Pg×Int×Int):=
 if(ox text).2.1 != 0 then some (BK,(ox text).2)
 else(Rd.program m (WZ (ox text).1)).bind fun p=>if p.2.code != 0 then some (BK,p.2.code,p.2.vz)else(p.1.Ew).bind fun q=>some (q,0,0)
def awa (m:Nat) (text:aC):Option (Ex×Int×Int):=
 if(ox text).2.1 != 0 then some (mU,(ox text).2)
 else(Rd.whole m (WZ (ox text).1)).bind fun x=>x.2.Iu.bind fun b=>
  if b then(x.2.bad 3).bind fun r=>if !r.good then some (mU,r.code,r.vz)else some (x.1,0,0)
  else if !x.2.good then some (mU,x.2.code,x.2.vz)else some (x.1,0,0)
end Go.Abs

/-! Prs7 -/

namespace Go.Abs
set_option maxRecDepth 8000
open Go.Proofs
theorem Q8 {m:Nat} {r:Rd} {p:Pg×Rd} (h:Rd.program m r=some p) {s:St} {o:Nat} (ho:s.aw[o]? = some (cm r)) :
 aB Tryz.prog lO [.ptr o 0] s (.agg (bC p.1)) ⟨s.aw.set o (cm p.2),s.aA⟩:=by
 refine aB.jY ?_ rfl (fM r) (fM p.2) (by simp [D.ok,gl]) ho
 unfold Rd.program at h
 refine aB.go uO rfl fun B Q hB hQ=> ?_
 have⟨hF,hP,hZ,gA⟩:=bH
 repeat' (first
 | simp only [go_sem,hF,hP,hZ,gA]
 | (with_reducible refine aG hQ ?_;simp only [ay,az,bF,bG,go_sem,hF,hP,hZ,gA];repeat' (first | exact Ok.out | with_reducible refine aI ?_ ?_ | (simp;done))))
 rw [Option.bind_eq_some_iff]at h
 obtain⟨q,h,hr⟩:=h
 refine bk.qB 2 0 1 rfl rfl ?_
 simp only [go_sem,hF,hP,hZ,gA]
 refine cU 3 1 (bk.ind (ι:=Nat×List aC×Rd×Nat) (fun i=>Rd.globals m i.1 i.2.1 i.2.2.1=some q∧i.2.2.2=i.2.1.length) (fun i=>i.1)
  (fun i=> [(0, .ptr 0 0),(2, .ptr 1 0),(3, .ptr 2 0)]) (fun i=>⟨[cm i.2.2.1,[.slice .full 0 [], .slice .full 0 []],[.slice (.tok 0) 1 (i.2.1.map encStr), .slice .full 0 []]],[some i.2.2.2]⟩) ?_ (m,[],r,0) ⟨h,rfl⟩)
 rintro⟨n,l,r,k⟩ ⟨h,hk⟩ IH
 dsimp only at hk;subst hk
 cases n with
 | zero=>simp only [Rd.globals]at h;cases h
 | succ n=>
  simp only [Rd.globals]at h
  repeat' (first
 | simp only [go_sem,hF,hP,hZ,gA]
 | (rw [Option.bind_eq_some_iff]at h;obtain⟨_,h1,h⟩:=h;first | (with_reducible refine CU (sL h1 (by with_unfolding_all rfl)) ?_) | (with_reducible refine CU (K6 h1 (by with_unfolding_all rfl) (by with_unfolding_all rfl)) ?_))
 | (with_reducible first | refine bw fun hc=> ?_ | refine bx fun hc=> ?_ | refine bA (fun hc=> ?_) fun hc=> ?_) <;> (try simp only [hc,bs, ↓reduceIte]at h) <;> try simp only [hc]
 | (with_reducible refine aG hQ ?_;exact jS)
 | (cases h;replace h:=hr;clear hr;(try simp only [bs, ↓reduceIte]at h))
 | (cases h;done))
  ·refine cU 3 1 (IH (n,_,_,_) ⟨h,rfl⟩ (Nat.lt_succ_self _))
  ·refine cU 3 0 (Jj hB hQ _ h)
theorem Yx {m:Nat} {text:aC} {p:Pg×Int×Int} (h:DP m text=some p) (hl:text.length<4611686018427387904) (s:St) :
 aB Tryz.prog sX [.str text] s (.tuple [.agg (bC p.1), .agg (mE p.2)]) s:=by
 refine aB.pure ?_ rfl (by simp [D.ok,D.bp,gl,mE]) s
 unfold DP at h
 have ach:=afG text hl
 generalize ox text=t at h ach
 unfold S0
 refine aB.go C6 rfl fun B Q hB hQ=> ?_
 have⟨hF,hP,hZ,gA⟩:=bH
 repeat' (first
 | simp only [go_sem,hF,hP,hZ,gA,WZ]
 | (rw [Option.bind_eq_some_iff]at h;obtain⟨_,h1,h⟩:=h;first | (with_reducible refine CU (Q8 h1 (by with_unfolding_all rfl)) ?_) | (with_reducible refine CU (Uc h1 _) ?_))
 | (with_reducible refine CU (ach _) ?_)
 | (with_reducible first | refine bw fun hc=> ?_ | refine bx fun hc=> ?_ | refine bA (fun hc=> ?_) fun hc=> ?_) <;> (try simp only [hc,bs, ↓reduceIte]at h) <;> try simp only [hc]
 | (with_reducible refine aG hQ ?_;(try cases h);simp only [ay,az,bF,bG,go_sem,hF,hP,hZ,gA,WZ];repeat' (first | exact Ok.out | with_reducible refine aI ?_ ?_ | (simp;done))))
end Go.Abs

/-! Room1 -/

namespace Go.Abs
set_option maxRecDepth 8000
open Go.Proofs
def rQ (n k:Int):Int:=if Int.tmod n k<0 then Int.tmod n k+k else Int.tmod n k
theorem Yy (n:Int) {k:Int} (hk:1≤k):0≤rQ n k∧rQ n k<k:=by
 unfold rQ
 have h1:=Int.tmod_lt_of_pos n (by omega:0<k)
 have h2:=Int.lt_tmod_of_pos n (by omega:0<k)
 split <;> omega
theorem afH (n:Int) {k:Int} (hk:1≤k) (cv:k<1000000) (s:St):aB Tryz.prog yh [.int .i64 n, .int .i64 k] s (.int .i64 (rQ n k)) s:=by
 refine aB.pure ?_ rfl rfl s
 have h1:=Int.tmod_lt_of_pos n (by omega:0<k)
 have h2:=Int.lt_tmod_of_pos n (by omega:0<k)
 have c1:decide (k<1)=false:=by simp;omega
 have w1:IntKind.wrap .i64 (Int.tmod n k)=Int.tmod n k:=c6 (by omega) (by omega)
 have w2:IntKind.wrap .i64 (Int.tmod n k+k)=Int.tmod n k+k:=c6 (by omega) (by omega)
 have k0:(k=0)=False:=by simp;omega
 unfold S0
 by_cases hm:Int.tmod n k<0
 ·have c2:decide (Int.tmod n k<0)=true:=by simp;omega
  rw [show rQ n k=Int.tmod n k+k from if_pos hm]
  refine aB.go Af rfl fun B Q hB hQ=> ?_
  have⟨hF,hP,hZ,gA⟩:=bH
  repeat' (first
 | simp only [go_sem,hF,hP,hZ,gA,c1,c2,w1,w2,k0]
 | (with_reducible refine aG hQ ?_;simp only [ay,az,Option.some.injEq,exists_eq_left',go_sem,hF,hP,hZ,gA];repeat' (first | exact Ok.out | with_reducible refine aI ?_ ?_ | (simp;done))))
 ·have c2:decide (Int.tmod n k<0)=false:=by simp;omega
  rw [show rQ n k=Int.tmod n k from if_neg hm]
  refine aB.go Af rfl fun B Q hB hQ=> ?_
  have⟨hF,hP,hZ,gA⟩:=bH
  repeat' (first
 | simp only [go_sem,hF,hP,hZ,gA,c1,c2,w1,w2,k0]
 | (with_reducible refine aG hQ ?_;simp only [ay,az,Option.some.injEq,exists_eq_left',go_sem,hF,hP,hZ,gA];repeat' (first | exact Ok.out | with_reducible refine aI ?_ ?_ | (simp;done))))
def afI (t:aC):Nat→aC
 | 0=> []
 | n+1=>afI t n++t
def two (i:Nat):aC:= [UInt8.ofNat (48+i / 10),UInt8.ofNat (48+i % 10)]
def aci (ahead:aC):Nat→aC
 | 0=> []
 | n+1=>(if n=0 then aci ahead n else aci ahead n++ [44])++(ahead++ [97]++two n)
def acj:Nat→aC
 | 0=> []
 | n+1=>acj n++([112,114,111,99,32,112]++two n++ [40,41,123,125])
end Go.Abs

/-! Al4 -/

namespace Go.Abs
set_option maxRecDepth 8000
open Go.Proofs
def ack (k:Int):List It→List Int
 | []=> []
 | i::l=>if k==0 || i.s.kind==k then i.s.id::ack k l else ack k l
def awb (l:List Int) (n:Int):Int:=match l[(rQ n l.length).toNat]? with | some x=>x | none=>0
def W0 (id:Int):List It→Option It
 | []=>none
 | i::l=>if i.s.id==id then some i else W0 id l
def W1 (id:Int):List Pc→Option (It×aC)
 | []=>none
 | f::l=>match W0 id f.flat with | some i=>some (i,f.name) | none=>W1 id l
def it0:It:=⟨FA,0,0,false⟩
def aoB (r:Option (It×aC)):D:=match r with
 | some (i,nm)=> .tuple [.agg (jn i), .str nm, .bool true]
 | none=> .tuple [.agg (jn it0), .str [], .bool false]
def Pg.awc (p:Pg) (id:Int):Sm:=match W1 id p.procs with | some (i,_)=>i.s | none=>FA
end Go.Abs

/-! Full1 -/

namespace Go.Abs
set_option maxRecDepth 8000
open Go.Proofs
def cQ (t:aC) (n:Int):Int:=if n > 20000 then 20001 else if(t.length:Int)≥20000 - n then 20001 else n+1+t.length
mutual
def e9:Ex→Int→Int
 | ⟨_,_,name,kids⟩,n=>mM kids (cQ name n)
def mM:List Ex→Int→Int
 | [],n=>n
 | x::l,n=>if n≤20000 then mM l (e9 x n)else n
end
theorem lF {t:aC} {n:Int} (h0:0≤n):cQ t n≤20001∧(n≤20000→n+1≤cQ t n)∧0≤cQ t n∧(cQ t n≤20000→n+1+t.length=cQ t n):=by
 unfold cQ;split
 ·omega
 ·split <;> omega
theorem uY : ∀ (m:Nat) (x:Ex),x.size≤m→∀ n:Int,0≤n→e9 x n≤20001∧(n≤20000→n+1≤e9 x n)∧0≤e9 x n∧(e9 x n≤20000→(x.size:Int)+1≤2*(e9 x n - n)∧x.texts):=by
 intro m
 induction m with
 | zero=>rintro⟨op,v,name,kids⟩ h;simp only [Ex.size]at h;omega
 | succ m ih=>
  rintro⟨op,v,name,kids⟩ h n h0
  simp only [Ex.size]at h
  obtain⟨t1,t2,t3,t4⟩:=lF (t:=name) h0
  have go : ∀ (l:List Ex),Ex.aX l≤m→∀ c:Int,0≤c→c≤20001→mM l c≤20001∧c≤mM l c∧(mM l c≤20000→(Ex.aX l:Int)≤2*(mM l c - c)∧Ex.uB l):=by
   intro l
   induction l with
   | nil=>intro _ c h0 h1;simp only [mM,Ex.aX];exact⟨h1,Int.le_refl _,fun _=>⟨by omega,trivial⟩⟩
   | cons y l P8=>
    intro hs c h0 h1
    simp only [Ex.aX]at hs ⊢
    simp only [mM]
    split
    ·rename_i hc
     obtain⟨a1,a2,a3,a4⟩:=ih y (by omega) c h0
     obtain⟨b1,b2,b3⟩:=P8 (by omega) (e9 y c) a3 a1
     have:=a2 hc
     refine⟨b1,by omega,fun hw=> ?_⟩
     obtain⟨c1,c2⟩:=b3 hw
     obtain⟨d1,d2⟩:=a4 (by omega)
     exact⟨by omega,d2,c2⟩
    ·exact⟨h1,Int.le_refl _,fun hw=>by omega⟩
  obtain⟨g1,g2,g3⟩:=go kids (by omega) (cQ name n) t3 t1
  simp only [e9,Ex.size]
  refine⟨g1,fun hn=>by have:=t2 hn;omega,by omega,fun hw=> ?_⟩
  obtain⟨k1,k2⟩:=g3 hw
  have:=t4 (by omega)
  exact⟨by omega,by omega,k2⟩
theorem qa (t:aC) {n:Int} (h0:0≤n) (h1:n≤20001) (s:St):aB Tryz.prog gn [.str t, .int .i64 n] s (.int .i64 (cQ t n)) s:=by
 refine aB.pure ?_ rfl rfl s
 unfold S0
 have w1:IntKind.wrap .i64 (20000 - n)=20000 - n:=c6 (by omega) (by omega)
 have w2:IntKind.wrap .i64 (n+1)=n+1:=c6 (by omega) (by omega)
 by_cases c:n > 20000
 ·have c1:decide (n > 20000)=true:=by simp;omega
  have e:cQ t n=20001:=by simp [cQ,c]
  rw [e]
  refine aB.go oC rfl fun B Q hB hQ=> ?_
  have⟨hF,hP,hZ,gA⟩:=bH
  repeat' (first
 | simp only [go_sem,hF,hP,hZ,gA,c1,w1,w2]
 | (with_reducible refine aG hQ ?_;simp only [ay,az,Option.some.injEq,exists_eq_left',go_sem,hF,hP,hZ,gA];repeat' (first | exact Ok.out | with_reducible refine aI ?_ ?_ | (simp;done))))
 ·have c1:decide (n > 20000)=false:=by simp;omega
  by_cases d:(t.length:Int)≥20000 - n
  ·have d1:decide ((t.length:Int)≥20000 - n)=true:=by simp;omega
   have e:cQ t n=20001:=by unfold cQ;rw [if_neg c,if_pos d]
   rw [e]
   refine aB.go oC rfl fun B Q hB hQ=> ?_
   have⟨hF,hP,hZ,gA⟩:=bH
   repeat' (first
 | simp only [go_sem,hF,hP,hZ,gA,c1,d1,w1,w2]
 | (with_reducible refine aG hQ ?_;simp only [ay,az,Option.some.injEq,exists_eq_left',go_sem,hF,hP,hZ,gA];repeat' (first | exact Ok.out | with_reducible refine aI ?_ ?_ | (simp;done))))
  ·have d1:decide ((t.length:Int)≥20000 - n)=false:=by simp;omega
   have e:cQ t n=n+1+t.length:=by unfold cQ;rw [if_neg c,if_neg d]
   have w3:IntKind.wrap .i64 (n+1+t.length)=n+1+t.length:=c6 (by omega) (by omega)
   rw [e]
   refine aB.go oC rfl fun B Q hB hQ=> ?_
   have⟨hF,hP,hZ,gA⟩:=bH
   repeat' (first
 | simp only [go_sem,hF,hP,hZ,gA,c1,d1,w1,w2,w3]
 | (with_reducible refine aG hQ ?_;simp only [ay,az,Option.some.injEq,exists_eq_left',go_sem,hF,hP,hZ,gA];repeat' (first | exact Ok.out | with_reducible refine aI ?_ ?_ | (simp;done))))
theorem Jm : ∀ (m:Nat) (x:Ex),x.size≤m→∀ {n:Int},0≤n→n≤20000→∀ s:St,aB Tryz.prog jv [.agg (bu x), .int .i64 n] s (.int .i64 (e9 x n)) s:=by
 intro m
 induction m with
 | zero=>rintro⟨op,v,name,kids⟩ h;simp only [Ex.size]at h;omega
 | succ m ih=>
  rintro⟨op,v,name,kids⟩ dK n h0 h1 s
  refine aB.pure ?_ (by simp [D.bp,D.ok,gE]) rfl s
  simp only [Ex.size]at dK
  have hk : ∀ y∈kids,∀ {n:Int},0≤n→n≤20000→∀ s:St,aB Tryz.prog jv [.agg (bu y), .int .i64 n] s (.int .i64 (e9 y n)) s:=fun y hy=>ih y (by have:=Ex.bV hy;omega)
  have ht:=fun s=>qa name h0 (by omega) s
  obtain⟨t1,t2,t3,t4⟩:=lF (t:=name) h0
  unfold S0
  generalize h:e9 ⟨op,v,name,kids⟩ n=p
  simp only [e9]at h
  refine aB.go Ai rfl fun B Q hB hQ=> ?_
  have⟨hF,hP,hZ,gA⟩:=bH
  repeat' (first
 | simp only [go_sem,hF,hP,hZ,gA]
 | (with_reducible refine CU (ht _) ?_)
 | (with_reducible first | refine bw fun hc=> ?_ | refine bx fun hc=> ?_ | refine bA (fun hc=> ?_) fun hc=> ?_) <;> (try simp only [hc,bs, ↓reduceIte]at h) <;> try simp only [hc]
 | (with_reducible refine aG hQ ?_;(try cases h);simp only [ay,az,bF,bG,go_sem,hF,hP,hZ,gA];repeat' (first | exact Ok.out | with_reducible refine aI ?_ ?_ | (simp;done))))
  refine cU 1 0 (bk.ind (ι:=List Ex×Nat×Int) (fun i=>kids.drop i.2.1=i.1∧mM i.1 i.2.2=p∧(i.2.1:Int)≤i.2.2∧i.2.2≤20001) (fun i=>i.1.length)
   (fun i=> [(1, .int .i64 i.2.2),(2, .ptr 0 0),(5, .int .i64 (i.2.1:Int))]) (fun i=>⟨[bu ⟨op,v,name,kids⟩],[]⟩) ?_ (kids,0,cQ name n) ⟨rfl,h,t3,t1⟩)
  rintro⟨rest,k,c⟩ ⟨g1,h,g3,g4⟩ IH
  dsimp only at g1 h g3 g4
  cases rest with
  | nil=>
   have hF:=drop_nil g1
   simp only [mM]at h
   repeat' (first
 | simp only [go_sem,hF,hP,hZ,gA]
 | (with_reducible first | refine bw fun hc=> ?_ | refine bx fun hc=> ?_ | refine bA (fun hc=> ?_) fun hc=> ?_) <;> (try simp only [hc,bs, ↓reduceIte]at h) <;> try simp only [hc]
 | (with_reducible refine aG hQ ?_;(try cases h);simp only [ay,az,bF,bG,go_sem,hF,hP,hZ,gA];repeat' (first | exact Ok.out | with_reducible refine aI ?_ ?_ | (simp;done))))
  | cons y rest=>
   obtain⟨hP,g2,hF,g5⟩:=drop_cons g1
   simp only [mM]at h
   by_cases hc:c≤20000
   ·have c1:decide (c≤20000)=true:=by simp;omega
    have hy:=fun s=>hk y (List.mem_of_getElem? hP) (n:=c) (by omega) hc s
    obtain⟨a1,a2,a3,a4⟩:=uY _ y (Nat.le_refl _) c (by omega)
    have:=a2 hc
    have w3:IntKind.wrap .i64 ((k:Int)+1)=((k+1:Nat):Int):=by rw [c6] <;> omega
    rw [if_pos hc]at h
    repeat' (first
 | simp only [go_sem,hF,hP,hZ,gA,c1,w3]
 | (with_reducible refine CU (hy _) ?_)
 | (with_reducible first | refine bw fun hc=> ?_ | refine bx fun hc=> ?_ | refine bA (fun hc=> ?_) fun hc=> ?_) <;> (try simp only [hc,bs, ↓reduceIte]at h) <;> try simp only [hc]
 | (with_reducible refine aG hQ ?_;(try cases h);simp only [ay,az,bF,bG,go_sem,hF,hP,hZ,gA,c1,w3];repeat' (first | exact Ok.out | with_reducible refine aI ?_ ?_ | (simp;done))))
    refine cU 1 0 (IH (rest,k+1,e9 y c) ⟨g2,h,by dsimp only;omega,a1⟩ (Nat.lt_succ_self _))
   ·have c1:decide (c≤20000)=false:=by simp;omega
    rw [if_neg hc]at h
    repeat' (first
 | simp only [go_sem,hF,hP,hZ,gA,c1]
 | (with_reducible first | refine bw fun hc=> ?_ | refine bx fun hc=> ?_ | refine bA (fun hc=> ?_) fun hc=> ?_) <;> (try simp only [hc,bs, ↓reduceIte]at h) <;> try simp only [hc]
 | (with_reducible refine aG hQ ?_;(try cases h);simp only [ay,az,bF,bG,go_sem,hF,hP,hZ,gA,c1];repeat' (first | exact Ok.out | with_reducible refine aI ?_ ?_ | (simp;done))))
end Go.Abs

/-! Fits1 -/

namespace Go.Abs
set_option maxRecDepth 8000
open Go.Proofs
def dL:List aC→Int→Int
 | [],n=>n
 | t::l,n=>if n≤20000 then dL l (cQ t n)else n
def iy:List Ar→Int→Int
 | [],n=>n
 | a::l,n=>if n≤20000 then iy l (cQ a.name (e9 a.x n))else n
def jU:List Pm→Int→Int
 | [],n=>n
 | a::l,n=>if n≤20000 then jU l (cQ a.name n)else n
mutual
def qY:Sm→Int→Int
 | ⟨_,_,labels,name,proc,x,_,args,aY,aP⟩,n=>fC aP (fC aY (iy args (cQ proc (cQ name (dL labels (e9 x n))))))
def fC:List Sm→Int→Int
 | [],n=>n
 | s::l,n=>if n≤20000 then fC l (qY s n)else n
end
theorem Q9 (s:Sm) (n:Int):qY s n=fC s.aP (fC s.aY (iy s.args (cQ s.proc (cQ s.name (dL s.labels (e9 s.x n)))))):=by cases s;simp only [qY]
def sO (f:Pc) (n:Int):Int:=fC f.body (jU f.params (dL f.fin (dL f.vars (cQ f.name n))))
def mN:List Pc→Int→Int
 | [],n=>n
 | f::l,n=>if n≤20000 then mN l (sO f n)else n
def Pg.Bh (p:Pg):Int:=mN p.procs (dL p.globals 0)
theorem kx : ∀ (l:List aC) {n:Int},0≤n→n≤20001→dL l n≤20001∧n≤dL l n∧(dL l n≤20000→n+l.length≤dL l n∧∀ t∈l,t.length<4611686018427387904)
 | [],n,h0,h1=>by simp only [dL];exact⟨h1,Int.le_refl _,fun _=>⟨by simp,by simp⟩⟩
 | t::l,n,h0,h1=>by
  simp only [dL]
  split
  ·rename_i hc
   obtain⟨a1,a2,a3,a4⟩:=lF (t:=t) h0
   obtain⟨b1,b2,b3⟩:=kx l (n:=cQ t n) a3 a1
   have:=a2 hc
   refine⟨b1,by omega,fun hw=> ?_⟩
   obtain⟨c1,c2⟩:=b3 hw
   have:=a4 (by omega)
   refine⟨by simp only [List.length_cons];omega,fun s m=> ?_⟩
   rcases List.mem_cons.1 m with rfl | m
   ·omega
   ·exact c2 s m
  ·exact⟨h1,Int.le_refl _,fun hw=>by omega⟩
theorem yK : ∀ (l:List Pm) {n:Int},0≤n→n≤20001→jU l n≤20001∧n≤jU l n∧(jU l n≤20000→n+l.length≤jU l n∧∀ t∈l,t.name.length<4611686018427387904)
 | [],n,h0,h1=>by simp only [jU];exact⟨h1,Int.le_refl _,fun _=>⟨by simp,by simp⟩⟩
 | t::l,n,h0,h1=>by
  simp only [jU]
  split
  ·rename_i hc
   obtain⟨a1,a2,a3,a4⟩:=lF (t:=t.name) h0
   obtain⟨b1,b2,b3⟩:=yK l (n:=cQ t.name n) a3 a1
   have:=a2 hc
   refine⟨b1,by omega,fun hw=> ?_⟩
   obtain⟨c1,c2⟩:=b3 hw
   have:=a4 (by omega)
   refine⟨by simp only [List.length_cons];omega,fun s m=> ?_⟩
   rcases List.mem_cons.1 m with rfl | m
   ·omega
   ·exact c2 s m
  ·exact⟨h1,Int.le_refl _,fun hw=>by omega⟩
theorem yL : ∀ (l:List Ar) {n:Int},0≤n→n≤20001→iy l n≤20001∧n≤iy l n∧
 (iy l n≤20000→(Ar.aX l:Int)≤2*(iy l n - n)∧∀ a∈l,a.x.size<4611686018427387904∧a.x.texts∧a.name.length<4611686018427387904)
 | [],n,h0,h1=>by simp only [iy];exact⟨h1,Int.le_refl _,fun _=>⟨by simp [Ar.aX],by simp⟩⟩
 | a::l,n,h0,h1=>by
  simp only [iy]
  split
  ·rename_i hc
   obtain⟨a1,a2,a3,a4⟩:=uY _ a.x (Nat.le_refl _) n h0
   obtain⟨e1,e2,e3,e4⟩:=lF (t:=a.name) a3
   obtain⟨b1,b2,b3⟩:=yL l (n:=cQ a.name (e9 a.x n)) e3 e1
   have:=a2 hc
   have:e9 a.x n≤cQ a.name (e9 a.x n):=by
    by_cases h:e9 a.x n≤20000
    ·have:=e2 h;omega
    ·have:cQ a.name (e9 a.x n)=20001:=by unfold cQ;rw [if_pos (by omega)]
     omega
   refine⟨b1,by omega,fun hw=> ?_⟩
   obtain⟨c1,c2⟩:=b3 hw
   have:=e4 (by omega)
   obtain⟨d1,d2⟩:=a4 (by omega)
   refine⟨by simp only [Ar.aX];omega,fun s m=> ?_⟩
   rcases List.mem_cons.1 m with rfl | m
   ·exact⟨by omega,d2,by omega⟩
   ·exact c2 s m
  ·exact⟨h1,Int.le_refl _,fun hw=>by omega⟩
theorem kE {t:aC} {n:Int} (h0:0≤n) (h1:n≤20001):n≤cQ t n∧cQ t n≤20001∧(cQ t n≤20000→n+1≤cQ t n∧t.length<4611686018427387904):=by
 obtain⟨e1,e2,e3,e4⟩:=lF (t:=t) h0
 by_cases h:n≤20000
 ·have:=e2 h
  exact⟨by omega,e1,fun hw=>⟨by omega,by have:=e4 hw;omega⟩⟩
 ·have:cQ t n=20001:=by unfold cQ;rw [if_pos (by omega)]
  exact⟨by omega,e1,fun hw=>by omega⟩
mutual
theorem F9 : ∀ (s:Sm) {n:Int},0≤n→n≤20000→qY s n≤20001∧n+1≤qY s n∧(qY s n≤20000→(s.size:Int)+1≤2*(qY s n - n)∧s.vI)
 | ⟨id,kind,labels,name,proc,x,has,args,aY,aP⟩,n,h0,h1=>by
  obtain⟨a1,a2,a3,a4⟩:=uY _ x (Nat.le_refl _) n h0
  have a2:=a2 h1
  obtain⟨b1,b2,b3⟩:=kx labels a3 a1
  obtain⟨c1,c2,c3⟩:=kE (t:=name) (n:=dL labels (e9 x n)) (by omega) b1
  obtain⟨d1,d2,d3⟩:=kE (t:=proc) (n:=cQ name (dL labels (e9 x n))) (by omega) c2
  obtain⟨e1,e2,e3⟩:=yL args (n:=cQ proc (cQ name (dL labels (e9 x n)))) (by omega) d2
  obtain⟨f1,f2,f3⟩:=qZ aY (n:=iy args (cQ proc (cQ name (dL labels (e9 x n))))) (by omega) e1
  obtain⟨g1,g2,g3⟩:=qZ aP (n:=fC aY (iy args (cQ proc (cQ name (dL labels (e9 x n)))))) (by omega) f1
  simp only [qY,Sm.size]
  refine⟨g1,by omega,fun hw=> ?_⟩
  obtain⟨g4,g5⟩:=g3 hw
  obtain⟨f4,f5⟩:=f3 (by omega)
  obtain⟨e4,e5⟩:=e3 (by omega)
  obtain⟨d4,d5⟩:=d3 (by omega)
  obtain⟨c4,c5⟩:=c3 (by omega)
  obtain⟨b4,b5⟩:=b3 (by omega)
  obtain⟨a5,a6⟩:=a4 (by omega)
  have:=Ar.cP args
  refine⟨by omega, ?_⟩
  rw [Ck]
  exact⟨⟨b5,by dsimp only;omega,c5,d5,by dsimp only;omega,a6,by dsimp only;omega,e5⟩,f5,g5⟩
theorem qZ : ∀ (l:List Sm) {n:Int},0≤n→n≤20001→fC l n≤20001∧n≤fC l n∧(fC l n≤20000→(Sm.aX l:Int)≤2*(fC l n - n)∧Sm.jM l)
 | [],n,h0,h1=>by simp only [fC];exact⟨h1,Int.le_refl _,fun _=>⟨by simp [Sm.aX],by simp only [Sm.jM]⟩⟩
 | s::l,n,h0,h1=>by
  simp only [fC]
  split
  ·rename_i hc
   obtain⟨a1,a2,a3⟩:=F9 s h0 hc
   obtain⟨b1,b2,b3⟩:=qZ l (n:=qY s n) (by omega) a1
   refine⟨b1,by omega,fun hw=> ?_⟩
   obtain⟨c1,c2⟩:=b3 hw
   obtain⟨d1,d2⟩:=a3 (by omega)
   exact⟨by simp only [Sm.aX];omega,d2,c2⟩
  ·exact⟨h1,Int.le_refl _,fun hw=>by omega⟩
end
theorem Ga (f:Pc) {n:Int} (h0:0≤n) (h1:n≤20000):sO f n≤20001∧n+1≤sO f n∧(sO f n≤20000→(f.size:Int)+1≤2*(sO f n - n)∧
 (f.name.length<4611686018427387904∧(∀ t∈f.vars,t.length<4611686018427387904)∧(∀ t∈f.fin,t.length<4611686018427387904)∧∀ a∈f.params,a.name.length<4611686018427387904)∧Sm.jM f.body):=by
 obtain⟨c1,c2,c3⟩:=kE (t:=f.name) h0 (by omega:n≤20001)
 have c4:=(lF (t:=f.name) h0).2.1 h1
 obtain⟨d1,d2,d3⟩:=kx f.vars (n:=cQ f.name n) (by omega) c2
 obtain⟨e1,e2,e3⟩:=kx f.fin (n:=dL f.vars (cQ f.name n)) (by omega) d1
 obtain⟨g1,g2,g3⟩:=yK f.params (n:=dL f.fin (dL f.vars (cQ f.name n))) (by omega) e1
 obtain⟨k1,k2,k3⟩:=qZ f.body (n:=jU f.params (dL f.fin (dL f.vars (cQ f.name n)))) (by omega) g1
 unfold sO Pc.size
 refine⟨k1,by omega,fun hw=> ?_⟩
 obtain⟨k4,k5⟩:=k3 hw
 obtain⟨g4,g5⟩:=g3 (by omega)
 obtain⟨e4,e5⟩:=e3 (by omega)
 obtain⟨d4,d5⟩:=d3 (by omega)
 obtain⟨_,c5⟩:=c3 (by omega)
 exact⟨by omega,⟨c5,d5,e5,g5⟩,k5⟩
theorem DQ : ∀ (l:List Pc) {n:Int},0≤n→n≤20001→mN l n≤20001∧n≤mN l n∧(mN l n≤20000→(Pc.aX l:Int)≤2*(mN l n - n)∧∀ f∈l,
 (f.name.length<4611686018427387904∧(∀ t∈f.vars,t.length<4611686018427387904)∧(∀ t∈f.fin,t.length<4611686018427387904)∧∀ a∈f.params,a.name.length<4611686018427387904)∧Sm.jM f.body)
 | [],n,h0,h1=>by simp only [mN];exact⟨h1,Int.le_refl _,fun _=>⟨by simp [Pc.aX],by simp⟩⟩
 | f::l,n,h0,h1=>by
  simp only [mN]
  split
  ·rename_i hc
   obtain⟨a1,a2,a3⟩:=Ga f h0 hc
   obtain⟨b1,b2,b3⟩:=DQ l (n:=sO f n) (by omega) a1
   refine⟨b1,by omega,fun hw=> ?_⟩
   obtain⟨c1,c2⟩:=b3 hw
   obtain⟨d1,d2⟩:=a3 (by omega)
   refine⟨by simp only [Pc.aX];omega,fun s m=> ?_⟩
   rcases List.mem_cons.1 m with rfl | m
   ·exact d2
   ·exact c2 s m
  ·exact⟨h1,Int.le_refl _,fun hw=>by omega⟩
theorem Oc {p:Pg} (h:p.Bh≤20000):p.size≤40001∧p.Hg:=by
 unfold Pg.Bh at h
 obtain⟨a1,a2,a3⟩:=kx p.globals (n:=0) (by omega) (by omega)
 obtain⟨b1,b2,b3⟩:=DQ p.procs (n:=dL p.globals 0) (by omega) a1
 obtain⟨c1,c2⟩:=b3 h
 obtain⟨d1,d2⟩:=a3 (by omega)
 have:p.size≤40001:=by unfold Pg.size;omega
 exact⟨this,by omega,d2,fun f m=>(c2 f m).1,fun f m=>(c2 f m).2⟩
theorem vX {l:List aC} {n:Int} (h0:0≤n) (h1:n≤20001) (s:St):aB Tryz.prog jg [.slice .shared 1 (l.map encStr), .int .i64 n] s (.int .i64 (dL l n)) s:=by
 refine aB.pure ?_ (by simp [D.bp,D.ok,eC,Tag.ok]) rfl s
 unfold S0
 generalize h:dL l n=p
 refine aB.go zm rfl fun B Q hB hQ=> ?_
 have⟨hF,hP,hZ,gA⟩:=bH
 repeat' (first
 | simp only [go_sem,hF,hP,hZ,gA]
 | (with_reducible refine aG hQ ?_;simp only [ay,az,Option.some.injEq,exists_eq_left',go_sem,hF,hP,hZ,gA];repeat' (first | exact Ok.out | with_reducible refine aI ?_ ?_ | (simp;done))))
 refine cU 0 0 (bk.ind (ι:=List aC×Nat×Int) (fun i=>l.drop i.2.1=i.1∧dL i.1 i.2.2=p∧(i.2.1:Int)≤i.2.2∧i.2.2≤20001) (fun i=>i.1.length)
  (fun i=> [(0, .slice .shared 1 (l.map encStr)),(1, .int .i64 i.2.2),(5, .int .i64 (i.2.1:Int))]) (fun i=>⟨[],[]⟩) ?_ (l,0,n) ⟨rfl,h,h0,h1⟩)
 rintro⟨rest,k,c⟩ ⟨g1,h,g3,g4⟩ IH
 dsimp only at g1 h g3 g4
 cases rest with
 | nil=>
  have hF:=drop_nil g1
  simp only [dL]at h
  subst h
  repeat' (first
 | simp only [go_sem,hF,hP,hZ,gA]
 | (with_reducible refine aG hQ ?_;simp only [ay,az,Option.some.injEq,exists_eq_left',go_sem,hF,hP,hZ,gA];repeat' (first | exact Ok.out | with_reducible refine aI ?_ ?_ | (simp;done))))
 | cons y rest=>
  obtain⟨hP,g2,hF,g5⟩:=drop_cons g1
  simp only [dL]at h
  by_cases hc:c≤20000
  ·have c1:decide (c≤20000)=true:=by simp;omega
   have hy:=fun s=>qa y (n:=c) (by omega) g4 s
   obtain⟨a1,a2,a3,a4⟩:=lF (t:=y) (n:=c) (by omega)
   have:=a2 hc
   have w3:IntKind.wrap .i64 ((k:Int)+1)=((k+1:Nat):Int):=by rw [c6] <;> omega
   rw [if_pos hc]at h
   repeat' (first
 | simp only [go_sem,hF,hP,hZ,gA,c1,w3]
 | (with_reducible refine CU (hy _) ?_)
 | (with_reducible refine aG hQ ?_;simp only [ay,az,Option.some.injEq,exists_eq_left',go_sem,hF,hP,hZ,gA];repeat' (first | exact Ok.out | with_reducible refine aI ?_ ?_ | (simp;done))))
   refine cU 0 0 (IH (rest,k+1,cQ y c) ⟨g2,h,by dsimp only;omega,a1⟩ (Nat.lt_succ_self _))
  ·have c1:decide (c≤20000)=false:=by simp;omega
   rw [if_neg hc]at h
   subst h
   repeat' (first
 | simp only [go_sem,hF,hP,hZ,gA,c1]
 | (with_reducible refine aG hQ ?_;simp only [ay,az,Option.some.injEq,exists_eq_left',go_sem,hF,hP,hZ,gA];repeat' (first | exact Ok.out | with_reducible refine aI ?_ ?_ | (simp;done))))
theorem Ra : ∀ (m:Nat) (l:List Sm),Sm.aX l≤m→∀ {n:Int},0≤n→n≤20001→∀ s:St,aB Tryz.prog kg [.slice .shared 13 (l.map aU), .int .i64 n] s (.int .i64 (fC l n)) s:=by
 intro m
 induction m with
 | zero=>
  intro l h n h0 h1 s
  cases l with
  | nil=>
   have z:decide ((0:Int)<0)=false:=rfl
   refine aB.pure ?_ (by simp [D.bp,D.ok,D.hO,Tag.ok]) rfl s
   unfold S0
   simp only [fC]
   refine aB.go rl rfl fun B Q hB hQ=> ?_
   have⟨hF,hP,hZ,gA⟩:=bH
   repeat' (first
 | simp only [go_sem,hF,hP,hZ,gA,z]
 | (with_reducible refine bk.qA ?_)
 | (with_reducible refine aG hQ ?_;simp only [ay,az,Option.some.injEq,exists_eq_left',go_sem,hF,hP,hZ,gA];repeat' (first | exact Ok.out | with_reducible refine aI ?_ ?_ | (simp;done))))
  | cons s l=>simp only [Sm.aX]at h;omega
 | succ m ih=>
  intro l h n h0 h1 s
  refine aB.pure ?_ (by simp [D.bp,D.ok,jD,Tag.ok]) rfl s
  unfold S0
  generalize hp:fC l n=p
  refine aB.go rl rfl fun B Q hB hQ=> ?_
  have⟨hF,hP,hZ,gA⟩:=bH
  repeat' (first
 | simp only [go_sem,hF,hP,hZ,gA]
 | (with_reducible refine aG hQ ?_;simp only [ay,az,Option.some.injEq,exists_eq_left',go_sem,hF,hP,hZ,gA];repeat' (first | exact Ok.out | with_reducible refine aI ?_ ?_ | (simp;done))))
  refine cU 0 0 (bk.ind (ι:=List Sm×Nat×Int) (fun i=>l.drop i.2.1=i.1∧fC i.1 i.2.2=p∧(i.2.1:Int)≤i.2.2∧i.2.2≤20001) (fun i=>i.1.length)
   (fun i=> [(0, .slice .shared 13 (l.map aU)),(1, .int .i64 i.2.2),(5, .int .i64 (i.2.1:Int))]) (fun i=>⟨[],[]⟩) ?_ (l,0,n) ⟨rfl,hp,h0,h1⟩)
  rintro⟨rest,k,c⟩ ⟨g1,hp,g3,g4⟩ IH
  dsimp only at g1 hp g3 g4
  cases rest with
  | nil=>
   have hF:=drop_nil g1
   simp only [fC]at hp
   subst hp
   repeat' (first
 | simp only [go_sem,hF,hP,hZ,gA]
 | (with_reducible refine aG hQ ?_;simp only [ay,az,Option.some.injEq,exists_eq_left',go_sem,hF,hP,hZ,gA];repeat' (first | exact Ok.out | with_reducible refine aI ?_ ?_ | (simp;done))))
  | cons y rest=>
   obtain⟨hP,g2,hF,g5⟩:=drop_cons g1
   simp only [fC]at hp
   by_cases hc:c≤20000
   ·have c1:decide (c≤20000)=true:=by simp;omega
    have nN:=List.mem_of_getElem? hP
    have dK:=Sm.bV nN
    have R6:s.aw.length≤s.aw.length∧Sm.aX y.aY<y.size∧Sm.aX y.aP<y.size:=by cases y;simp only [Sm.size];omega
    have w3:IntKind.wrap .i64 ((k:Int)+1)=((k+1:Nat):Int):=by rw [c6] <;> omega
    rw [if_pos hc]at hp
    obtain⟨a1,a2,a3,a4⟩:=uY _ y.x (Nat.le_refl _) c (by omega)
    have a2:=a2 hc
    obtain⟨b1,b2,b3⟩:=kx y.labels a3 a1
    obtain⟨c1',c2,c3⟩:=kE (t:=y.name) (n:=dL y.labels (e9 y.x c)) (by omega) b1
    obtain⟨d1,d2,d3⟩:=kE (t:=y.proc) (n:=cQ y.name (dL y.labels (e9 y.x c))) (by omega) c2
    have eE:=fun s=>Jm _ y.x (Nat.le_refl _) (n:=c) (by omega) hc s
    have eL:=fun s=>vX (l:=y.labels) (n:=e9 y.x c) (by omega) a1 s
    have eN:=fun s=>qa y.name (n:=dL y.labels (e9 y.x c)) (by omega) b1 s
    have eP:=fun s=>qa y.proc (n:=cQ y.name (dL y.labels (e9 y.x c))) (by omega) c2 s
    obtain⟨r1,r2,r3⟩:=F9 y (n:=c) (by omega) hc
    rw [Q9]at hp r1 r2
    generalize hC:cQ y.proc (cQ y.name (dL y.labels (e9 y.x c)))=C at *
    obtain⟨s1,s2,s3⟩:=yL y.args (n:=C) (by omega) d2
    obtain⟨t1,t2,t3⟩:=qZ y.aY (n:=iy y.args C) (by omega) s1
    have eT:=fun s=>ih y.aY (by omega) (n:=iy y.args C) (by omega) s1 s
    have eS:=fun s=>ih y.aP (by omega) (n:=fC y.aY (iy y.args C)) (by omega) t1 s
    generalize hW:iy y.args C=W at *
    repeat' (first
 | simp only [go_sem,hF,hP,hZ,gA,c1,w3]
 | (with_reducible refine CU (eE _) ?_)
 | (with_reducible refine CU (eL _) ?_)
 | (with_reducible refine CU (eN _) ?_)
 | (with_reducible refine CU (eP _) ?_)
 | (with_reducible refine aG hQ ?_;simp only [ay,az,Option.some.injEq,exists_eq_left',go_sem,hF,hP,hZ,gA];repeat' (first | exact Ok.out | with_reducible refine aI ?_ ?_ | (simp;done))))
    refine cU 1 0 (bk.ind (ι:=List Ar×Nat×Int) (fun i=>y.args.drop i.2.1=i.1∧iy i.1 i.2.2=W∧(i.2.1:Int)≤i.2.2∧i.2.2≤20001) (fun i=>i.1.length)
     (fun i=> [(0, .slice .shared 13 (l.map aU)),(1, .int .i64 i.2.2),(5, .int .i64 (k:Int)),(6, .ptr 0 0),(7, .int .i64 (i.2.1:Int))]) (fun i=>⟨[aU y],[]⟩) ?_ (y.args,0,C) ⟨rfl,hW,by dsimp only;omega,d2⟩)
    rintro⟨ars,j,e⟩ ⟨k1,hw,k3,k4⟩ Dq
    dsimp only at k1 hw k3 k4
    cases ars with
    | nil=>
     have hF:=drop_nil k1
     simp only [iy]at hw
     subst hw
     repeat' (first
 | simp only [go_sem,hF,hP,hZ,gA,w3]
 | (with_reducible refine CU (eT _) ?_)
 | (with_reducible refine CU (eS _) ?_)
 | (with_reducible refine aG hQ ?_;simp only [ay,az,Option.some.injEq,exists_eq_left',go_sem,hF,hP,hZ,gA];repeat' (first | exact Ok.out | with_reducible refine aI ?_ ?_ | (simp;done))))
     refine cU 0 0 (IH (rest,k+1,fC y.aP (fC y.aY e)) ⟨g2,hp,by dsimp only;omega,r1⟩ (Nat.lt_succ_self _))
    | cons a ars=>
     obtain⟨hP,k2,hF,k5⟩:=drop_cons k1
     simp only [iy]at hw
     by_cases he:e≤20000
     ·have e1:decide (e≤20000)=true:=by simp;omega
      have w4:IntKind.wrap .i64 ((j:Int)+1)=((j+1:Nat):Int):=by rw [c6] <;> omega
      rw [if_pos he]at hw
      obtain⟨u1,u2,u3,u4⟩:=uY _ a.x (Nat.le_refl _) e (by omega)
      have u2:=u2 he
      obtain⟨v1,v2,v3⟩:=kE (t:=a.name) (n:=e9 a.x e) u3 u1
      have eX:=fun s=>Jm _ a.x (Nat.le_refl _) (n:=e) (by omega) he s
      have eM:=fun s=>qa a.name (n:=e9 a.x e) u3 u1 s
      repeat' (first
 | simp only [go_sem,hF,hP,hZ,gA,e1,w4]
 | (with_reducible refine CU (eX _) ?_)
 | (with_reducible refine CU (eM _) ?_)
 | (with_reducible refine aG hQ ?_;simp only [ay,az,Option.some.injEq,exists_eq_left',go_sem,hF,hP,hZ,gA];repeat' (first | exact Ok.out | with_reducible refine aI ?_ ?_ | (simp;done))))
      refine cU 1 0 (Dq (ars,j+1,cQ a.name (e9 a.x e)) ⟨k2,hw,by dsimp only;omega,v2⟩ (Nat.lt_succ_self _))
     ·have e1:decide (e≤20000)=false:=by simp;omega
      rw [if_neg he]at hw
      subst hw
      repeat' (first
 | simp only [go_sem,hF,hP,hZ,gA,e1,w3]
 | (with_reducible refine CU (eT _) ?_)
 | (with_reducible refine CU (eS _) ?_)
 | (with_reducible refine aG hQ ?_;simp only [ay,az,Option.some.injEq,exists_eq_left',go_sem,hF,hP,hZ,gA];repeat' (first | exact Ok.out | with_reducible refine aI ?_ ?_ | (simp;done))))
      refine cU 0 0 (IH (rest,k+1,fC y.aP (fC y.aY e)) ⟨g2,hp,by dsimp only;omega,r1⟩ (Nat.lt_succ_self _))
   ·have c1:decide (c≤20000)=false:=by simp;omega
    rw [if_neg hc]at hp
    subst hp
    repeat' (first
 | simp only [go_sem,hF,hP,hZ,gA,c1]
 | (with_reducible refine aG hQ ?_;simp only [ay,az,Option.some.injEq,exists_eq_left',go_sem,hF,hP,hZ,gA];repeat' (first | exact Ok.out | with_reducible refine aI ?_ ?_ | (simp;done))))
end Go.Abs

/-! Fits2 -/

namespace Go.Abs
set_option maxRecDepth 8000
open Go.Proofs
theorem aco (p:Pg) (s:St):aB Tryz.prog wu [.agg (bC p)] s (.bool (decide (p.Bh≤20000))) s:=by
 refine aB.pure ?_ (by simp only [D.bp,D.ok,gl];rfl) rfl s
 unfold S0
 generalize hp:p.Bh=W
 unfold Pg.Bh at hp
 obtain⟨a1,a2,a3⟩:=kx p.globals (n:=0) (by omega) (by omega)
 have eG:=fun s=>vX (l:=p.globals) (n:=0) (by omega) (by omega) s
 refine aB.go Gt rfl fun B Q hB hQ=> ?_
 have⟨hF,hP,hZ,gA⟩:=bH
 repeat' (first
 | simp only [go_sem,hF,hP,hZ,gA]
 | (with_reducible refine CU (eG _) ?_)
 | (with_reducible refine aG hQ ?_;simp only [ay,az,bF,bG,go_sem,hF,hP,hZ,gA];repeat' (first | exact Ok.out | with_reducible refine aI ?_ ?_ | (simp;done))))
 refine cU 1 0 (bk.ind (ι:=List Pc×Nat×Int) (fun i=>p.procs.drop i.2.1=i.1∧mN i.1 i.2.2=W∧(i.2.1:Int)≤i.2.2∧i.2.2≤20001) (fun i=>i.1.length)
  (fun i=> [(1, .ptr 0 0),(3, .int .i64 i.2.2),(4, .int .i64 (i.2.1:Int))]) (fun i=>⟨[bC p],[]⟩) ?_ (p.procs,0,dL p.globals 0) ⟨rfl,hp,a2,a1⟩)
 rintro⟨rest,k,c⟩ ⟨g1,hp,g3,g4⟩ IH
 dsimp only at g1 hp g3 g4
 cases rest with
 | nil=>
  have hF:=drop_nil g1
  simp only [mN]at hp
  subst hp
  repeat' (first
 | simp only [go_sem,hF,hP,hZ,gA]
 | (with_reducible refine aG hQ ?_;simp only [ay,az,bF,bG,go_sem,hF,hP,hZ,gA];repeat' (first | exact Ok.out | with_reducible refine aI ?_ ?_ | (simp;done))))
 | cons f rest=>
  obtain⟨hP,g2,hF,g5⟩:=drop_cons g1
  simp only [mN]at hp
  by_cases hc:c≤20000
  ·have c1:decide (c≤20000)=true:=by simp;omega
   have w3:IntKind.wrap .i64 ((k:Int)+1)=((k+1:Nat):Int):=by rw [c6] <;> omega
   rw [if_pos hc]at hp
   obtain⟨r1,r2,r3⟩:=Ga f (n:=c) (by omega) hc
   unfold sO at hp r1 r2
   obtain⟨c1',c2,c3⟩:=kE (t:=f.name) (n:=c) (by omega) g4
   obtain⟨d1,d2,d3⟩:=kx f.vars (n:=cQ f.name c) (by omega) c2
   obtain⟨e1,e2,e3⟩:=kx f.fin (n:=dL f.vars (cQ f.name c)) (by omega) d1
   have eN:=fun s=>qa f.name (n:=c) (by omega) g4 s
   have eV:=fun s=>vX (l:=f.vars) (n:=cQ f.name c) (by omega) c2 s
   have eF:=fun s=>vX (l:=f.fin) (n:=dL f.vars (cQ f.name c)) (by omega) d1 s
   generalize hC:dL f.fin (dL f.vars (cQ f.name c))=C at *
   obtain⟨s1,s2,s3⟩:=yK f.params (n:=C) (by omega) e1
   have eT:=fun s=>Ra _ f.body (Nat.le_refl _) (n:=jU f.params C) (by omega) s1 s
   generalize hM:jU f.params C=M at *
   repeat' (first
 | simp only [go_sem,hF,hP,hZ,gA,c1,w3]
 | (with_reducible refine CU (eN _) ?_)
 | (with_reducible refine CU (eV _) ?_)
 | (with_reducible refine CU (eF _) ?_)
 | (with_reducible refine aG hQ ?_;simp only [ay,az,bF,bG,go_sem,hF,hP,hZ,gA];repeat' (first | exact Ok.out | with_reducible refine aI ?_ ?_ | (simp;done))))
   refine cU 2 0 (bk.ind (ι:=List Pm×Nat×Int) (fun i=>f.params.drop i.2.1=i.1∧jU i.1 i.2.2=M∧(i.2.1:Int)≤i.2.2∧i.2.2≤20001) (fun i=>i.1.length)
    (fun i=> [(1, .ptr 0 0),(3, .int .i64 i.2.2),(4, .int .i64 (k:Int)),(5, .ptr 1 0),(6, .int .i64 (i.2.1:Int))]) (fun i=>⟨[bC p,bq f],[]⟩) ?_ (f.params,0,C) ⟨rfl,hM,by dsimp only;omega,e1⟩)
   rintro⟨ms,j,e⟩ ⟨k1,hw,k3,k4⟩ Dq
   dsimp only at k1 hw k3 k4
   cases ms with
   | nil=>
    have hF:=drop_nil k1
    simp only [jU]at hw
    subst hw
    repeat' (first
 | simp only [go_sem,hF,hP,hZ,gA,w3]
 | (with_reducible refine CU (eT _) ?_)
 | (with_reducible refine aG hQ ?_;simp only [ay,az,bF,bG,go_sem,hF,hP,hZ,gA];repeat' (first | exact Ok.out | with_reducible refine aI ?_ ?_ | (simp;done))))
    refine cU 1 0 (IH (rest,k+1,fC f.body e) ⟨g2,hp,by dsimp only;omega,r1⟩ (Nat.lt_succ_self _))
   | cons a ms=>
    obtain⟨hP,k2,hF,k5⟩:=drop_cons k1
    simp only [jU]at hw
    by_cases he:e≤20000
    ·have e1:decide (e≤20000)=true:=by simp;omega
     have w4:IntKind.wrap .i64 ((j:Int)+1)=((j+1:Nat):Int):=by rw [c6] <;> omega
     rw [if_pos he]at hw
     obtain⟨v1,v2,v3⟩:=kE (t:=a.name) (n:=e) (by omega) k4
     have v4:=(lF (t:=a.name) (n:=e) (by omega)).2.1 he
     have eM:=fun s=>qa a.name (n:=e) (by omega) k4 s
     repeat' (first
 | simp only [go_sem,hF,hP,hZ,gA,e1,w4]
 | (with_reducible refine CU (eM _) ?_)
 | (with_reducible refine aG hQ ?_;simp only [ay,az,bF,bG,go_sem,hF,hP,hZ,gA];repeat' (first | exact Ok.out | with_reducible refine aI ?_ ?_ | (simp;done))))
     refine cU 2 0 (Dq (ms,j+1,cQ a.name e) ⟨k2,hw,by dsimp only;omega,v2⟩ (Nat.lt_succ_self _))
    ·have e1:decide (e≤20000)=false:=by simp;omega
     rw [if_neg he]at hw
     subst hw
     repeat' (first
 | simp only [go_sem,hF,hP,hZ,gA,e1,w3]
 | (with_reducible refine CU (eT _) ?_)
 | (with_reducible first | refine bw fun hc=> ?_ | refine bx fun hc=> ?_ | refine bA (fun hc=> ?_) fun hc=> ?_) <;> (try simp only [hc,bs, ↓reduceIte]at h) <;> try simp only [hc]
 | (with_reducible refine aG hQ ?_;simp only [ay,az,bF,bG,go_sem,hF,hP,hZ,gA,e1,w3];repeat' (first | exact Ok.out | with_reducible refine aI ?_ ?_ | (simp;done))))
     refine cU 1 0 (IH (rest,k+1,fC f.body e) ⟨g2,hp,by dsimp only;omega,r1⟩ (Nat.lt_succ_self _))
  ·have c1:decide (c≤20000)=false:=by simp;omega
   rw [if_neg hc]at hp
   subst hp
   repeat' (first
 | simp only [go_sem,hF,hP,hZ,gA,c1]
 | (with_reducible first | refine bw fun hc=> ?_ | refine bx fun hc=> ?_ | refine bA (fun hc=> ?_) fun hc=> ?_) <;> (try simp only [hc,bs, ↓reduceIte]at h) <;> try simp only [hc]
 | (with_reducible refine aG hQ ?_;simp only [ay,az,bF,bG,go_sem,hF,hP,hZ,gA,c1];repeat' (first | exact Ok.out | with_reducible refine aI ?_ ?_ | (simp;done))))
end Go.Abs

/-! MirEq -/

namespace Go.Abs
def acp:List aC→List aC→Bool
 | [],_=>true
 | _::_,[]=>true
 | x::l,y::l'=>if !(x==y)then false else acp l l'
def W2 (l l':List aC):Bool:=if(l.length:Int) != (l'.length:Int)then false else acp l l'
def Ar.pe:List Ar→List Ar→Bool
 | [],_=>true
 | _::_,[]=>true
 | a::l,b::l'=>if !(a.ref==b.ref) || !(a.name==b.name) || !(Ex.beq a.x b.x)then false else Ar.pe l l'
mutual
def Sm.beq:Sm→Sm→Bool
 | ⟨id,kind,labels,name,proc,x,has,args,aY,aP⟩,⟨id',afJ,Yz,Nx,tZ,x',aoH,CX,acq,acr⟩=>
  if id != id' || kind != afJ || !(name==Nx) || !(proc==tZ) || !(has==aoH) || !(W2 labels Yz) || !(Ex.beq x x') || (args.length:Int) != (CX.length:Int)then false
  else if !(Ar.pe args CX)then false
  else if(if(aY.length:Int) != (acq.length:Int)then false else Sm.pe aY acq)then(if(aP.length:Int) != (acr.length:Int)then false else Sm.pe aP acr)else false
def Sm.pe:List Sm→List Sm→Bool
 | [],_=>true
 | _::_,[]=>true
 | s::l,t::l'=>if !(Sm.beq s t)then false else Sm.pe l l'
end
def Sm.acs (l l':List Sm):Bool:=if(l.length:Int) != (l'.length:Int)then false else Sm.pe l l'
def Pm.pe:List Pm→List Pm→Bool
 | [],_=>true
 | _::_,[]=>true
 | a::l,b::l'=>if !((a.name==b.name) && (a.ref==b.ref))then false else Pm.pe l l'
def Pc.pe:List Pc→List Pc→Bool
 | [],_=>true
 | _::_,[]=>true
 | f::l,g::l'=>
  if !(f.name==g.name) || (f.params.length:Int) != (g.params.length:Int) || !(W2 f.vars g.vars) || !(W2 f.fin g.fin) || !(Sm.acs f.body g.body)then false
  else if !(Pm.pe f.params g.params)then false else Pc.pe l l'
def Pg.beq (p q:Pg):Bool:=if !(W2 p.globals q.globals) || (p.procs.length:Int) != (q.procs.length:Int)then false else Pc.pe p.procs q.procs
end Go.Abs

/-! RefEq -/

namespace Go.Abs
set_option maxRecDepth 8000
open Go.Proofs
abbrev ao5 (N:Nat):Prop:=∀ s t:Sm,s.size<N→∀ st:St,aB Tryz.prog Iw [.agg (aU s), .agg (aU t)] st (.bool (Sm.beq s t)) st
abbrev awd (N:Nat):Prop:=∀ l l':List Sm,Sm.aX l<N→∀ st:St,aB Tryz.prog Ey [.slice .shared 13 (l.map aU), .slice .shared 13 (l'.map aU)] st (.bool (Sm.acs l l')) st
end Go.Abs

/-! RefEq2 -/

namespace Go.Abs
set_option maxRecDepth 8000
open Go.Proofs
def Bi (n:Int):Ex:=⟨1,n,[],[]⟩
def q5 (s:aC):Ex:=⟨2,0,s,[]⟩
def DR (op:Int) (a b:Ex):Ex:=⟨op,0,[],[a,b]⟩
theorem afK (n:Int) (s:St):aB Tryz.prog qK [.int .i64 n] s (.agg (bu (Bi n))) s:=by
 refine aB.pure ?_ rfl (by simp [D.ok,gE]) s
 unfold S0
 refine aB.go IA rfl fun B Q hB hQ=> ?_
 have⟨hF,hP,hZ,gA⟩:=bH
 repeat' (first
 | simp only [go_sem,hF,hP,hZ,gA,Bi]
 | (with_reducible first | refine bw fun hc=> ?_ | refine bx fun hc=> ?_ | refine bA (fun hc=> ?_) fun hc=> ?_) <;> (try simp only [hc,bs, ↓reduceIte]at h) <;> try simp only [hc]
 | (with_reducible refine aG hQ ?_;simp only [ay,az,bF,bG,go_sem,hF,hP,hZ,gA,Bi];repeat' (first | exact Ok.out | with_reducible refine aI ?_ ?_ | (simp;done))))
theorem Od (t:aC) (s:St):aB Tryz.prog kA [.str t] s (.agg (bu (q5 t))) s:=by
 refine aB.pure ?_ rfl (by simp [D.ok,gE]) s
 unfold S0
 refine aB.go Gy rfl fun B Q hB hQ=> ?_
 have⟨hF,hP,hZ,gA⟩:=bH
 repeat' (first
 | simp only [go_sem,hF,hP,hZ,gA,q5]
 | (with_reducible first | refine bw fun hc=> ?_ | refine bx fun hc=> ?_ | refine bA (fun hc=> ?_) fun hc=> ?_) <;> (try simp only [hc,bs, ↓reduceIte]at h) <;> try simp only [hc]
 | (with_reducible refine aG hQ ?_;simp only [ay,az,bF,bG,go_sem,hF,hP,hZ,gA,q5];repeat' (first | exact Ok.out | with_reducible refine aI ?_ ?_ | (simp;done))))
theorem Rb (op:Int) (a b:Ex) (s:St):aB Tryz.prog tQ [.int .i64 op, .agg (bu a), .agg (bu b)] s (.agg (bu (DR op a b))) s:=by
 refine aB.pure ?_ (by simp [D.bp,D.ok,gE]) (by simp [D.ok,gE]) s
 unfold S0
 refine aB.go IB rfl fun B Q hB hQ=> ?_
 have⟨hF,hP,hZ,gA⟩:=bH
 repeat' (first
 | simp only [go_sem,hF,hP,hZ,gA,DR]
 | (with_reducible first | refine bw fun hc=> ?_ | refine bx fun hc=> ?_ | refine bA (fun hc=> ?_) fun hc=> ?_) <;> (try simp only [hc,bs, ↓reduceIte]at h) <;> try simp only [hc]
 | (with_reducible refine aG hQ ?_;simp only [ay,az,bF,bG,go_sem,hF,hP,hZ,gA,DR];repeat' (first | exact Ok.out | with_reducible refine aI ?_ ?_ | (simp;done))))
def source:aC:= [103,108,111,98,97,108,32,103,59,10,112,114,111,99,32,109,97,105,110,40,41,32,123,10,32,118,97,114,32,118,59,10,32,118,32,61,32,50,59,10,32,103,32,61,32,112,40,51,44,32,114,101,102,32,118,41,59,10,32,112,114,105,110,116,32,118,59,10,32,112,114,105,110,116,32,103,59,10,125,10,112,114,111,99,32,112,40,120,44,32,114,101,102,32,121,41,32,123,10,32,121,32,61,32,121,32,43,32,120,59,10,32,105,102,32,40,121,32,62,32,57,41,32,123,10,32,32,103,111,116,111,32,101,59,10,32,125,10,32,114,101,116,117,114,110,32,121,59,10,101,58,32,125,10]
theorem Uw (s:St):aB Tryz.prog sY [] s (.str source) s:=by
 refine aB.pure ?_ rfl rfl s
 unfold S0
 refine aB.go C8 rfl fun B Q hB hQ=> ?_
 have⟨hF,hP,hZ,gA⟩:=bH
 repeat' (first
 | simp only [go_sem,hF,hP,hZ,gA,source]
 | (with_reducible first | refine bw fun hc=> ?_ | refine bx fun hc=> ?_ | refine bA (fun hc=> ?_) fun hc=> ?_) <;> (try simp only [hc,bs, ↓reduceIte]at h) <;> try simp only [hc]
 | (with_reducible refine aG hQ ?_;(try cases h);simp only [ay,az,bF,bG,go_sem,hF,hP,hZ,gA,source];try exact mj)
 | (cases h;done))
def o3:Pg:=⟨[[103]],[
 ⟨[109,97,105,110],[],[[118]],[
  ⟨1,1,[],[118],[],Bi 2,false,[],[],[]⟩,
  ⟨2,4,[],[103],[112],mU,false,[⟨false,[],Bi 3⟩,⟨true,[118],mU⟩],[],[]⟩,
  ⟨3,3,[],[],[],q5 [118],false,[],[],[]⟩,
  ⟨4,3,[],[],[],q5 [103],false,[],[],[]⟩],[]⟩,
 ⟨[112],[⟨[120],false⟩,⟨[121],true⟩],[],[
  ⟨5,1,[],[121],[],DR 8 (q5 [121]) (q5 [120]),false,[],[],[]⟩,
  ⟨6,5,[],[],[],DR 12 (q5 [121]) (Bi 9),false,[],[⟨7,10,[],[101],[],mU,false,[],[],[]⟩],[]⟩,
  ⟨8,9,[],[],[],q5 [121],true,[],[],[]⟩],[[101]]⟩]⟩
theorem acu (s:St):aB Tryz.prog wv [] s (.agg (bC o3)) s:=by
 refine aB.pure ?_ rfl (by simp [D.ok,gl]) s
 unfold S0
 refine aB.go Gv rfl fun B Q hB hQ=> ?_
 have⟨hF,hP,hZ,gA⟩:=bH
 repeat' (first
 | simp only [go_sem,hF,hP,hZ,gA,o3]
 | (with_reducible refine CU (afK _ _) ?_)
 | (with_reducible refine CU (Od _ _) ?_)
 | (with_reducible refine CU (Rb _ _ _ _) ?_)
 | (with_reducible refine aG hQ ?_;simp only [ay,az,Option.some.injEq,exists_eq_left',go_sem,hF,hP,hZ,gA];repeat' (first | exact Ok.out | with_reducible refine aI ?_ ?_ | (simp;done))))
 repeat' (first | exact Ok.out | with_reducible refine Wk.agg ?_ | with_reducible refine Wk.rows ?_ | with_reducible refine Wk.slice ?_ | with_reducible refine gU.cons ?_ ?_ | with_reducible refine jH.cons ?_ ?_)
end Go.Abs

/-! LawTo1 -/

namespace Go.Abs
open Go.Proofs
def Pg.avv (p:Pg) (n:Int):aC:=match p.procs[(rQ n p.procs.length).toNat]? with | some f=>f.name | none=> []
end Go.Abs

/-! AlP -/

namespace Go.Abs
open Go.Proofs
theorem acv:BK.ki:=⟨vM (by decide +kernel) (by decide +kernel),by decide +kernel⟩
end Go.Abs

/-! LawAl2 -/

namespace Go.Abs
open Go.Proofs
theorem Ux {p:Pg} (h:(p.arity.1==0)=true) (h2:(p.alias.1==0)=true) : ∀ v∈p.pre,(v.kind==4)=true→v.oY p=true:=by
 unfold Pg.alias at h2
 rw [if_pos h]at h2
 intro v hv hk
 have : ∀ l:List Sm,((pE 8 (DO p l)).1==0)=true→∀ v∈l,(v.kind==4)=true→v.oY p=true:=by
  intro l
  induction l with
  | nil=>intro _ v m;cases m
  | cons a l ih=>
   intro h v m hk
   simp only [DO]at h
   split at h
   ·cases h
   ·rename_i c
    rcases List.mem_cons.1 m with rfl | m
    ·simpa [hk]using c
    ·exact ih h v m hk
 exact this _ h2 v hv hk
theorem Jn {p:Pg} : ∀ {l:List Sm},(∀ v∈l,(v.kind==4)=true→v.oY p=true)→DO p l=none
 | [],_=>rfl
 | v::l,h=>by
  simp only [DO]
  rw [if_neg,Jn fun w m=>h w (List.mem_cons_of_mem _ m)]
  intro c
  simp only [Bool.and_eq_true,Bool.not_eq_true']at c
  rw [h v (List.mem_cons_self ..) c.1]at c
  exact absurd c.2 (by simp)
end Go.Abs

/-! SwP -/

namespace Go.Abs
section
variable {a b:aC}
end
section
variable {a b:aC} (ha:isName a=true) (hb:isName b=true)
include ha hb
end
def Pg.check (p:Pg):Int×Int:=if p.scope.1==0 then(if p.arity.1==0 then(if p.jump.1==0 then p.alias else p.jump)else p.arity)else p.scope
end Go.Abs

/-! MirMapS -/

namespace Go.Abs
mutual
def Sm.fl (g:Sm→Sm):Sm→Sm
 | ⟨id,kind,labels,name,proc,x,has,args,aY,aP⟩=> {g ⟨id,kind,labels,name,proc,x,has,args,aY,aP⟩with aY:=Sm.jd g aY,aP:=Sm.jd g aP}
def Sm.jd (g:Sm→Sm):List Sm→List Sm
 | []=> []
 | s::l=>s.fl g::Sm.jd g l
end
def It.fl (g:Sm→Sm) (i:It):It:= {i with s:=i.s.fl g}
def Pc.fl (g:Sm→Sm) (f:Pc):Pc:= {f with body:=Sm.jd g f.body}
def Pg.fl (g:Sm→Sm) (p:Pg):Pg:= {p with procs:=p.procs.map (Pc.fl g)}
theorem K8 (g:Sm→Sm) (s:Sm):s.fl g = {g s with aY:=Sm.jd g s.aY,aP:=Sm.jd g s.aP}:=by cases s;rfl
def eH (t:Sm) (v:Sm):Sm:=if v.id==t.id then t else v
end Go.Abs

/-! MapS -/

namespace Go.Abs
theorem Jo {p:Pg} {f:Pc} {procs:List aC} : ∀ {l:List Sm},(∀ v∈l,v.known p f procs=true)→wM p f procs l=none
 | [],_=>rfl
 | v::l,h=>by
  simp only [wM,h v (List.mem_cons_self ..),if_true]
  exact Jo fun w m=>h w (List.mem_cons_of_mem _ m)
theorem DS {p:Pg} {procs:List aC} : ∀ {l:List Pc},(∀ f∈l,ei (p.globals++f.own)=false∧∀ v∈Sm.cW f.body,v.known p f procs=true)→qW p procs l=(0,0)
 | [],_=>rfl
 | f::l,h=>by
  obtain⟨h1,h2⟩:=h f (List.mem_cons_self ..)
  simp only [qW,h1,Bool.false_eq_true,if_false,Jo h2]
  exact DS fun w m=>h w (List.mem_cons_of_mem _ m)
theorem Gb {p:Pg} (hm:p.may=true) (h1:ei p.globals=false) (h2:ei p.pn=false) (h3:p.oH=false) (h4 : ∀ f∈p.procs,ei (p.globals++f.own)=false∧∀ v∈Sm.cW f.body,v.known p f p.pn=true):p.scope=(0,0):=by
 unfold Pg.scope
 rw [if_pos hm,h1,h2,h3]
 exact DS h4
theorem K9 {p:Pg} : ∀ {l:List Sm},(∀ v∈l,(v.kind==4)=true→v.l6 p=true)→DF p l=none
 | [],_=>rfl
 | v::l,h=>by
  simp only [DF]
  rw [if_neg,K9 fun w m=>h w (List.mem_cons_of_mem _ m)]
  intro c
  simp only [Bool.and_eq_true,Bool.not_eq_true']at c
  rw [h v (List.mem_cons_self ..) c.1]at c
  exact absurd c.2 (by simp)
theorem Rc {p:Pg} (hs:(p.scope.1==0)=true) (h : ∀ v∈p.pre,(v.kind==4)=true→v.l6 p=true):p.arity=(0,0):=by
 unfold Pg.arity
 rw [if_pos hs,K9 h]
 rfl
end Go.Abs

/-! RightP -/

namespace Go.Abs
theorem DT {kv fin:List aC} : ∀ {l:List (Sm×Int)} {seen:List aC},sk kv fin seen l=none↔pD seen (fI (l.map Prod.fst)++fin)=false∧∀ q∈l,jT kv q.1 q.2=true
 | [],seen=>by
  simp only [sk,List.map_nil,fI,List.nil_append,List.not_mem_nil,false_imp_iff,implies_true,and_true]
  rw [AJ]
  cases pD seen fin <;> simp
 | (v,lp)::l,seen=>by
  simp only [sk,List.map_cons,fI,List.append_assoc]
  rw [AJ,K4 v.labels]
  cases h:pD seen v.labels
  ·simp only [Bool.false_eq_true,if_false,if_true,Bool.false_or]
   cases h2:jT kv v lp
   ·simp only [Bool.false_eq_true,if_false,reduceCtorEq,false_iff,not_and]
    intro _ h3
    have:=h3 (v,lp) (List.mem_cons_self ..)
    rw [h2]at this;cases this
   ·simp only [if_true,DT (l:=l),List.mem_cons]
    constructor
    ·rintro⟨h3,h4⟩
     refine⟨h3,fun q hq=> ?_⟩
     rcases hq with rfl | hq
     ·exact h2
     ·exact h4 q hq
    ·rintro⟨h3,h4⟩
     exact⟨h3,fun q hq=>h4 q (.inr hq)⟩
  ·simp
theorem yM : ∀ {l:List Pc},sm l=none↔∀ f∈l,ei f.labels=false∧∀ q∈f.qX,jT f.labels q.1 q.2=true
 | []=>by simp [sm]
 | f::l=>by
  have e:sk f.labels f.fin [] f.qX=none↔ei f.labels=false∧∀ q∈f.qX,jT f.labels q.1 q.2=true:=by
   rw [DT,Ys];rfl
  simp only [sm,List.mem_cons]
  split
  ·rename_i id h
   simp only [reduceCtorEq,false_iff]
   intro h3
   rw [e.2 (h3 f (.inl rfl))]at h
   cases h
  ·rename_i h
   rw [yM (l:=l)]
   constructor
   ·intro h3 g hg
    rcases hg with rfl | hg
    ·exact e.1 h
    ·exact h3 g hg
   ·exact fun h3 g hg=>h3 g (.inr hg)
structure Pg.Right (p:Pg):Prop where
 may:p.may=true
 tg:ei p.globals=false
 tp:ei p.pn=false
 main:p.oH=false
 own : ∀ f∈p.procs,ei (p.globals++f.own)=false
 known : ∀ f∈p.procs,∀ v∈Sm.cW f.body,v.known p f p.pn=true
 kv : ∀ f∈p.procs,ei f.labels=false
 leads : ∀ f∈p.procs,∀ q∈f.qX,jT f.labels q.1 q.2=true
 fits : ∀ v∈p.pre,(v.kind==4)=true→v.l6 p=true
 single : ∀ v∈p.pre,(v.kind==4)=true→v.oY p=true
theorem Pg.Right.scope {p:Pg} (h:p.Right):p.scope=(0,0):=Gb h.may h.tg h.tp h.main fun f hf=>⟨h.own f hf,h.known f hf⟩
theorem Pg.Right.arity {p:Pg} (h:p.Right):p.arity=(0,0):=Rc (by rw [h.scope];rfl) h.fits
theorem Pg.Right.jump {p:Pg} (h:p.Right):p.jump=(0,0):=by
 unfold Pg.jump
 rw [h.scope,yM.2 fun f hf=>⟨h.kv f hf,h.leads f hf⟩]
 rfl
theorem Pg.Right.alias {p:Pg} (h:p.Right):p.alias=(0,0):=by
 unfold Pg.alias
 rw [h.arity,Jn h.single]
 rfl
theorem Pg.Right.check {p:Pg} (h:p.Right):p.check=(0,0):=by
 unfold Pg.check
 rw [h.scope,h.arity,h.jump,h.alias]
 rfl
theorem Uy {p:Pg} (h:(p.check.1==0)=true):p.Right:=by
 unfold Pg.check at h
 by_cases h1:(p.scope.1==0)=true
 ·rw [if_pos h1]at h
  by_cases h2:(p.arity.1==0)=true
  ·rw [if_pos h2]at h
   by_cases h3:(p.jump.1==0)=true
   ·rw [if_pos h3]at h
    obtain⟨k1,k2,k3,k4⟩:=Co h1
    have hj:sm p.procs=none:=by
     unfold Pg.jump at h3
     rw [if_pos h1]at h3
     cases e:sm p.procs with
     | none=>rfl
     | some id=>rw [e]at h3;cases h3
    rw [yM]at hj
    exact⟨Aw h1,k1,k2,k3,fun f hf=>(k4 f hf).1,fun f hf=>(k4 f hf).2,fun f hf=>(hj f hf).1,fun f hf=>(hj f hf).2,(Jd h2).2,Ux h2 h⟩
   ·rw [if_neg h3]at h;exact absurd h h3
  ·rw [if_neg h2]at h;exact absurd h h2
 ·rw [if_neg h1]at h;exact absurd h h1
end Go.Abs

/-! MayLaw -/

namespace Go.Abs
def TKs (l:List fB):Prop:=∀ t∈l,(t.kind=1→isName t.text=true)∧(t.kind=2→0≤t.n)
def GK {α:Type} (r:Rd) (o:Option (α×Rd)) (Q:α→Prop):Prop:=∀ p,o=some p→p.2.l=r.l∧(p.2.good=true→r.good=true∧Q p.1)
def GKR (r:Rd) (o:Option Rd):Prop:=∀ p,o=some p→p.l=r.l∧(p.good=true→r.good=true)
end Go.Abs

/-! MirNum -/

namespace Go.Abs
def Pt {α:Type} (o:Option α) (Q:α→Prop):Prop:=∀ a,o=some a→Q a
structure aoI (a b:Rd):Prop where
 l:b.l=a.l
 n:b.n=a.n
 g:b.good=true→a.good=true
def SmK (r0:Rd) (p:Sm×Rd):Prop:=aoI r0 p.2∧p.1.aY = []∧p.1.aP = []
structure Num (r:Rd) (k:Nat) (r':Rd):Prop where
 l:r'.l=r.l
 g:r'.good=true→r.good=true
 n:r'.good=true→k=r'.n
 le:r'.good=true→r.n≤200→r'.n≤200
end Go.Abs

/-! MayLaw2 -/

namespace Go.Abs
def SmL (s:Sm):Prop:=∀ L,dd L=true→({s with labels:=L} : Sm).one=true
def awe (s:aC):Bool:=s == [98,114,101,97,107] || s == [99,111,110,116,105,110,117,101] || s == [114,101,116,117,114,110] || s == [103,111,116,111] || s == [114,101,97,100] || s == [112,114,105,110,116]
mutual
def Sm.AN (d:Int):Sm→Prop
 | ⟨id,kind,labels,name,proc,x,has,args,aY,aP⟩=>(⟨id,kind,labels,name,proc,x,has,args,aY,aP⟩:Sm).one=true∧d≤12∧Sm.AP (d+1) aY∧Sm.AP (d+1) aP
def Sm.AP (d:Int):List Sm→Prop
 | []=>True
 | s::l=>s.AN d∧Sm.AP d l
end
theorem Sm.acw (d:Int) (s:Sm):s.AN d↔s.one=true∧d≤12∧Sm.AP (d+1) s.aY∧Sm.AP (d+1) s.aP:=by cases s;simp only [Sm.AN]
def awM (d:Int) (s:Sm):Prop:=∀ L,dd L=true→({s with labels:=L} : Sm).AN d
structure Pc.AN (f:Pc):Prop where
 name:isName f.name=true
 params:Pm.ep f.params=true∧f.params.length≤8
 vars:dd f.vars=true∧(f.vars.length:Int)≤16
 fin:dd f.fin=true
 body:Sm.AP 1 f.body
end Go.Abs

/-! MayLaw3 -/

namespace Go.Abs
mutual
theorem Sm.La (b:Bool) (n:Nat) : ∀ s:Sm,(Sm.num b n s).2=n+s.fV
 | ⟨_,_,_,_,_,_,_,_,aY,aP⟩=>by
  simp only [Sm.num,Sm.fV]
  rw [Sm.rR b _ aP,Sm.rR b _ aY];omega
theorem Sm.rR (b:Bool) (n:Nat) : ∀ l:List Sm,(Sm.cz b n l).2=n+Sm.dC l
 | []=>rfl
 | s::l=>by
  simp only [Sm.cz,Sm.dC]
  rw [Sm.rR b _ l,Sm.La b _ s];omega
end
theorem Sm.one_num (b:Bool) (n:Nat) (s:Sm):((Sm.num b n s).1).one=s.one:=by
 obtain⟨id,kind,labels,name,proc,x,has,args,aY,aP⟩:=s
 simp only [Sm.num,Sm.one,Sm.yf,Sm.hasName,Sm.qF,Sm.Iv]
 rfl
def q6 (n:Nat) (mK:List It):Prop:=∀ (j:Nat) (it:It),mK[j]? = some it→it.s.id=((n+j+1:Nat):Int)∧it.deep≤12∧it.s.one=true
theorem q6.app {n k:Nat} {a b:List It} (ha:q6 n a) (hk:a.length=k) (hb:q6 (n+k) b):q6 n (a++b):=by
 intro j it h
 rcases Nat.lt_or_ge j a.length with hj | hj
 ·rw [List.getElem?_append_left hj]at h
  exact ha j it h
 ·rw [List.getElem?_append_right hj]at h
  obtain⟨h1,h2⟩:=hb _ it h
  refine⟨?_,h2⟩
  rw [h1];congr 1;omega
theorem q6.nil (n:Nat):q6 n []:=fun j it h=>by simp at h
mutual
theorem Re : ∀ (s:Sm) (n:Nat) (deep bY:Int) (aP:Bool) (out:List It),s.AN deep→out.length+s.fV≤200→∃ mK,gy deep bY aP out (Sm.num true n s).1=out++mK∧mK.length=s.fV∧q6 n mK
 | ⟨id,kind,labels,name,proc,x,has,args,aY,e⟩,n,deep,bY,aP,out,h,hc=>by
  have h0:=(Sm.acw _ _).1 h
  obtain⟨h1,h2,h3,h4⟩:=h0
  dsimp only at h3 h4
  have ga:=Sm.one_num true n ⟨id,kind,labels,name,proc,x,has,args,aY,e⟩
  simp only [Sm.num, ↓reduceIte,gy]at ga ⊢
  rw [h1]at ga
  simp only [Sm.fV]at hc
  have hd:decide (deep≤12)=true:=by simp;omega
  simp only [hd, ↓reduceIte]
  obtain⟨i1,e1,l1,p1⟩:=vY aY (n+1) (deep+1) ((n+1:Nat):Int) false (out++ [⟨⟨((n+1:Nat):Int),kind,labels,name,proc,x,has,args,(Sm.cz true (n+1) aY).1,(Sm.cz true (Sm.cz true (n+1) aY).2 e).1⟩,deep,bY,aP⟩]) h3 (by simp;omega)
  rw [e1,Sm.rR]
  obtain⟨i2,e2,l2,p2⟩:=vY e (n+1+Sm.dC aY) (deep+1) ((n+1:Nat):Int) true (out++ [⟨⟨((n+1:Nat):Int),kind,labels,name,proc,x,has,args,(Sm.cz true (n+1) aY).1,(Sm.cz true (n+1+Sm.dC aY) e).1⟩,deep,bY,aP⟩]++i1) h4 (by simp;omega)
  rw [e2]
  rw [Sm.rR]at ga
  refine⟨_,by rw [List.append_assoc,List.append_assoc], ?_, ?_⟩
  ·simp only [List.length_append,List.length_cons,List.length_nil,Sm.fV];omega
  ·refine q6.app (k:=1) ?_ rfl (q6.app p1 l1 p2)
   intro j it hj
   cases j with
   | zero=>simp at hj;subst hj;exact⟨rfl,h2,ga⟩
   | succ j=>simp at hj
theorem vY : ∀ (l:List Sm) (n:Nat) (deep bY:Int) (aP:Bool) (out:List It),Sm.AP deep l→out.length+Sm.dC l≤200→∃ mK,eA deep bY aP out (Sm.cz true n l).1=out++mK∧mK.length=Sm.dC l∧q6 n mK
 | [],n,deep,bY,aP,out,h,hc=>⟨[],by simp only [Sm.cz,eA,List.append_nil],rfl,q6.nil n⟩
 | s::l,n,deep,bY,aP,out,h,hc=>by
  simp only [Sm.dC]at hc
  have hle:decide ((out.length:Int)≤200)=true:=by simp only [decide_eq_true_eq];omega
  simp only [Sm.cz,eA,hle, ↓reduceIte]
  obtain⟨i1,e1,l1,p1⟩:=Re s n deep bY aP out h.1 (by omega)
  rw [e1,Sm.La]
  obtain⟨i2,e2,l2,p2⟩:=vY l (n+s.fV) deep bY aP (out++i1) h.2 (by simp;omega)
  rw [e2]
  exact⟨i1++i2,by rw [List.append_assoc],by simp only [List.length_append,Sm.dC];omega,q6.app p1 l1 p2⟩
end
def Pc.n6:List Pc→Nat
 | []=>0
 | f::l=>Sm.dC f.body+Pc.n6 l
theorem Jp : ∀ (l:List Pc) (n:Nat) (out:List It),(∀ f∈l,f.AN)→out.length+Pc.n6 l≤200→∃ mK,allM out (Pc.cz n l)=out++mK∧mK.length=Pc.n6 l∧q6 n mK
 | [],n,out,_,_=>⟨[],by simp only [Pc.cz,allM,List.append_nil],rfl,q6.nil n⟩
 | f::l,n,out,h,hc=>by
  simp only [Pc.n6]at hc
  obtain⟨i1,e1,l1,p1⟩:=vY f.body n 1 0 false [] (h f (List.mem_cons_self ..)).body (by simp;omega)
  have ef:Pc.flat {f with body:=(Sm.cz true n f.body).1} = i1:=by simp only [Pc.flat];rw [e1];rfl
  have hle:decide (((out++i1).length:Int) > 200)=false:=by simp only [List.length_append,decide_eq_false_iff_not];omega
  simp only [Pc.cz,allM,ef,hle,Bool.false_eq_true, ↓reduceIte]
  rw [Sm.rR]
  obtain⟨i2,e2,l2,p2⟩:=Jp l (n+Sm.dC f.body) (out++i1) (fun g hg=>h g (List.mem_cons_of_mem _ hg)) (by simp;omega)
  rw [e2]
  exact⟨i1++i2,by rw [List.append_assoc],by simp only [List.length_append,Pc.n6];omega,q6.app p1 l1 p2⟩
theorem q6.ep : ∀ (l:List It) (n:Nat),q6 n l→It.ep n l=true
 | [],_,_=>rfl
 | i::l,n,h=>by
  obtain⟨h1,h2,h3⟩:=h 0 i rfl
  have e1:(i.s.id != ((n+1:Nat):Int))=false:=by rw [h1];simp
  have e2:decide (i.deep > 12)=false:=by simp;omega
  simp only [It.ep,e1,e2,h3,Bool.not_true,Bool.or_self,Bool.false_eq_true, ↓reduceIte]
  refine q6.ep l (n+1) fun j it hj=> ?_
  have:=h (j+1) it (by simpa using hj)
  refine⟨?_,this.2⟩
  rw [this.1];congr 1;omega
theorem Gc : ∀ (l:List Pc) (n:Nat),(∀ f∈l,f.AN)→Pc.lA (Pc.cz n l)=true
 | [],_,_=>rfl
 | f::l,n,h=>by
  have k:=h f (List.mem_cons_self ..)
  have e1:decide ((f.params.length:Int) > 8)=false:=by have:=k.params.2;simp only [decide_eq_false_iff_not];omega
  have e2:decide ((f.vars.length:Int) > 16)=false:=by have:=k.vars.2;simp only [decide_eq_false_iff_not];omega
  simp only [Pc.cz,Pc.lA,k.name,e1,e2,k.vars.1,k.fin,k.params.1,Bool.not_true,Bool.or_self,Bool.false_eq_true, ↓reduceIte]
  exact Gc l _ fun g hg=>h g (List.mem_cons_of_mem _ hg)
theorem Pc.Lb : ∀ (l:List Pc) (n:Nat),(Pc.cz n l).length=l.length
 | [],_=>rfl
 | g::l,n=>by simp only [Pc.cz,List.length_cons,Pc.Lb l]
theorem Og {p:Pg} (h1:dd p.globals=true) (h2:(p.globals.length:Int)≤16) (h3 : ∀ f∈p.procs,f.AN) (h4:p.procs.length≤16) (h5:Pc.n6 p.procs≤200):p.number.may=true∧p.number.all.length=Pc.n6 p.procs:=by
 obtain⟨mK,e,hl,hi⟩:=Jp p.procs 0 [] h3 (by simpa using h5)
 have ea:p.number.all=mK:=by simp only [Pg.all,Pg.number];rw [e];rfl
 have e1:decide ((p.globals.length:Int) > 16)=false:=by simp only [decide_eq_false_iff_not];omega
 have e2:decide (((Pc.cz 0 p.procs).length:Int) > 16)=false:=by rw [Pc.Lb];simp only [decide_eq_false_iff_not];omega
 have e3:decide ((mK.length:Int) > 200)=false:=by simp only [decide_eq_false_iff_not];omega
 refine⟨?_,by rw [ea,hl]⟩
 have e0:p.number.may=(if decide ((p.globals.length:Int) > 16) || decide (((Pc.cz 0 p.procs).length:Int) > 16) || !(dd p.globals)then false
  else if !(Pc.lA (Pc.cz 0 p.procs))then false else if decide ((p.number.all.length:Int) > 200)then false else It.ep 0 p.number.all):=rfl
 rw [e0,ea]
 simp only [e1,e2,h1,Gc _ 0 h3,e3,Bool.not_true,Bool.or_self,Bool.false_eq_true, ↓reduceIte]
 exact q6.ep mK 0 hi
end Go.Abs

/-! SubP -/

namespace Go.Abs
def Sm.core (v:Sm):Sm:= {v with id:=0,aY:= [],aP:= []}
theorem AQ (v:Sm):v.core.said=v.said:=by cases v;rfl
theorem ql (v:Sm):v.core.kind=v.kind:=rfl
theorem DU (p:Pg) (f:Pc) (l:List aC) (v:Sm):v.core.known p f l=v.known p f l:=by unfold Sm.known;rw [AQ];rfl
theorem Gd (p:Pg) (v:Sm):v.core.l6 p=v.l6 p:=rfl
theorem BT (p:Pg) (v:Sm):v.core.oY p=v.oY p:=rfl
theorem Rf (kv:List aC) (v:Sm) (lp:Int):jT kv v.core lp=jT kv v lp:=rfl
theorem Rg (kv:List aC) (v:Sm) (lp lp':Int) (h:(lp != 0)=(lp' != 0)):jT kv v lp=jT kv v lp':=by unfold jT;rw [h]
mutual
def Sm.cp (b:Bool):Sm→List (Sm×Bool)
 | ⟨id,kind,labels,name,pc,x,has,args,aY,aP⟩=>((⟨id,kind,labels,name,pc,x,has,args,aY,aP⟩:Sm).core,b)::(Sm.mV (b || kind==6) aY++Sm.mV (b || kind==6) aP)
def Sm.mV (b:Bool):List Sm→List (Sm×Bool)
 | []=> []
 | s::l=>s.cp b++Sm.mV b l
end
mutual
theorem acx (proc up next loop:Int) : ∀ s:Sm,(∀ v∈s.pre,v.id≠0)→(s.uW proc up next loop).map (fun m=>(m.s.core,m.loop != 0))=s.cp (loop != 0)
 | ⟨id,kind,labels,name,pc,x,has,args,aY,aP⟩,h=>by
  have hid:id≠0:=h ⟨id,kind,labels,name,pc,x,has,args,aY,aP⟩ (by simp [Sm.pre])
  have h1 : ∀ v∈Sm.cW aY,v.id≠0:=fun v m=>h v (by simp [Sm.pre,m])
  have h2 : ∀ v∈Sm.cW aP,v.id≠0:=fun v m=>h v (by simp [Sm.pre,m])
  have e:((if kind==6 then id else loop) != 0)=((loop != 0) || kind==6):=by
   cases hk:(kind==6) <;> simp [hid]
  simp only [Sm.uW,Sm.cp,List.map_cons,List.map_append,Bj _ _ _ _ aY h1,Bj _ _ _ _ aP h2,e]
theorem Bj (proc up next loop:Int) : ∀ l:List Sm,(∀ v∈Sm.cW l,v.id≠0)→(Sm.kb proc up next loop l).map (fun m=>(m.s.core,m.loop != 0))=Sm.mV (loop != 0) l
 | [],_=>rfl
 | s::l,h=>by
  simp only [Sm.kb,Sm.mV,List.map_append]
  rw [acx _ _ _ _ s fun v m=>h v (by simp [Sm.cW,m]),Bj _ _ _ _ l fun v m=>h v (by simp [Sm.cW,m])]
end
def Pc.mV (f:Pc):List (Sm×Bool):=Sm.mV false f.body
theorem Rh {f:Pc} (h : ∀ v∈Sm.cW f.body,v.id≠0):f.qX.map (fun q=>(q.1.core,q.2 != 0))=f.mV:=by
 have:=Bj 0 0 (-1) 0 f.body h
 unfold Pc.qX Pc.mV
 rw [List.map_map]
 exact this
mutual
theorem acy (b:Bool) : ∀ s:Sm,(s.cp b).map Prod.fst=s.pre.map Sm.core
 | ⟨id,kind,labels,name,pc,x,has,args,aY,aP⟩=>by simp only [Sm.cp,Sm.pre,List.map_cons,List.map_append,uf _ aY,uf _ aP]
theorem uf (b:Bool) : ∀ l:List Sm,(Sm.mV b l).map Prod.fst=(Sm.cW l).map Sm.core
 | []=>rfl
 | s::l=>by simp only [Sm.mV,Sm.cW,List.map_append,acy _ s,uf _ l]
end
theorem BU : ∀ l:List Sm,fI (l.map Sm.core)=fI l
 | []=>rfl
 | v::l=>by simp only [List.map_cons,fI,BU l];rfl
theorem ub (f:Pc):f.labels=fI (f.mV.map Prod.fst)++f.fin:=by
 unfold Pc.labels Pc.mV
 rw [uf,BU]
theorem Oh {l m:List Sm} (h:List.Sublist l m):List.Sublist (fI l) (fI m):=by
 induction h with
 | slnil=>exact List.Sublist.refl _
 | cons a _ ih=>exact ih.trans (List.sublist_append_right _ _)
 | cons_cons a _ ih=>exact List.Sublist.append (List.Sublist.refl _) ih
theorem AR {x:aC} : ∀ {l:List Sm},x∈pQ l↔∃ v∈l,x∈v.said
 | []=>by simp [pQ]
 | v::l=>by simp [pQ,AR (l:=l)]
structure Pc.Part (g f:Pc):Prop where
 name:g.name=f.name
 params:g.params=f.params
 vars:g.vars=f.vars
 fin:g.fin=f.fin
 sub:List.Sublist g.mV f.mV
 aoK : ∀ c∈g.mV,c.1.kind=10→c.1.name∈f.labels→c.1.name∈g.labels
structure Pg.Part (q p:Pg):Prop where
 yu:q.globals=p.globals
 procs : ∃ l:List (Pc×Pc),q.procs=l.map Prod.fst∧(l.map Prod.snd).Perm p.procs∧∀ x∈l,Pc.Part x.1 x.2
theorem q7 {nm:aC} : ∀ {l:List Pc} {f:Pc},(l.map (·.name)).Nodup→(jc nm l=some f↔f∈l∧f.name=nm)
 | [],f,_=>by simp [jc]
 | a::l,f,h=>by
  simp only [List.map_cons,List.nodup_cons]at h
  simp only [jc]
  by_cases e:(a.name==nm)=true
  ·rw [if_pos e]
   have e':a.name=nm:=by simpa using e
   constructor
   ·intro h1;cases h1;exact⟨List.mem_cons_self ..,e'⟩
   ·rintro⟨h1,h2⟩
    rcases List.mem_cons.1 h1 with rfl | h1
    ·rfl
    ·exact absurd (List.mem_map_of_mem (f:=fun x:Pc=>x.name) h1) (by show f.name∉_;rw [h2, ← e'];exact h.1)
  ·rw [if_neg e,q7 h.2]
   constructor
   ·exact fun⟨h1,h2⟩=>⟨List.mem_cons_of_mem _ h1,h2⟩
   ·rintro⟨h1,h2⟩
    rcases List.mem_cons.1 h1 with rfl | h1
    ·exact absurd (by simpa using h2) e
    ·exact⟨h1,h2⟩
theorem wR {nm:aC} {T T':List aC} (hT : ∀ x,er T' x=true→er T x=true) : ∀ {l:List Ar} {seen:List aC},lk nm T seen l=true→lk nm T' seen l=true
 | [],_,_=>rfl
 | a::l,seen,h=>by
  simp only [lk]at h ⊢
  split
  ·rename_i hr
   rw [if_pos hr]at h
   split at h
   ·cases h
   ·rename_i hc
    simp only [Bool.or_eq_true,not_or,Bool.not_eq_true]at hc
    have hx:er T' a.name=false:=by
     cases e:er T' a.name with
     | false=>rfl
     | true=>rw [hT _ e]at hc;exact absurd hc.2.2 (by simp)
    rw [if_neg (by simp only [Bool.or_eq_true,not_or,Bool.not_eq_true];exact⟨hc.1,hc.2.1,hx⟩)]
    exact wR hT h
  ·rename_i hr
   rw [if_neg hr]at h
   exact wR hT h
theorem Lc {p:Pg} (h:p.may=true) {f:Pc} (hf:f∈p.procs) : ∀ v∈Sm.cW f.body,v.id≠0:=fun v m=>by
 have hm:v∈p.pre:=by simp only [Pg.pre,List.mem_flatten,List.mem_map];exact⟨_,⟨f,hf,rfl⟩,m⟩
 obtain⟨i,hi⟩:=List.getElem?_of_mem hm
 have:=IW h hi
 omega
theorem Ld {kv:List aC} {f:Pc} (h : ∀ v∈Sm.cW f.body,v.id≠0):(∀ q∈f.qX,jT kv q.1 q.2=true)↔∀ c∈f.mV,jT kv c.1 (if c.2 then 1 else 0)=true:=by
 rw [← Rh h]
 have key : ∀ q:Sm×Int,jT kv q.1.core (if(q.2 != 0)=true then 1 else 0)=jT kv q.1 q.2:=fun q=>by
  rw [Rf]
  exact Rg kv q.1 _ _ (by cases (q.2 != 0) <;> rfl)
 constructor
 ·intro h1 c hc
  obtain⟨q,hq,rfl⟩:=List.mem_map.1 hc
  rw [key];exact h1 q hq
 ·intro h1 q hq
  have:=h1 _ (List.mem_map_of_mem hq)
  rw [key]at this;exact this
theorem Oi {p q:Pg} (hp:p.Right) (hq:q.may=true) (h:q.Part p):q.Right:=by
 obtain⟨hg,l,Dk,qu,hl3⟩:=h
 have nd:(p.procs.map (·.name)).Nodup:=by
  have:=hp.tp
  unfold Pg.pn at this
  cases e:ei (p.procs.map (·.name))with
  | true=>rw [e]at this;cases this
  | false=>
   by_cases hn:(p.procs.map (·.name)).Nodup
   ·exact hn
   ·rw [(qk _).2 hn]at e;cases e
 have hpn:(q.pn).Perm p.pn:=by
  unfold Pg.pn
  have h1:q.procs.map (·.name)=(l.map Prod.snd).map (·.name):=by
   rw [Dk,List.map_map,List.map_map]
   exact List.map_congr_left fun x m=>(hl3 x m).name
  rw [h1]
  exact qu.map _
 have ndq:(q.procs.map (·.name)).Nodup:=hpn.nodup_iff.2 nd
 have tpq:ei q.pn=false:=by
  cases e:ei q.pn with
  | false=>rfl
  | true=>exact absurd ndq ((qk _).1 e)
 have Lf : ∀ g∈q.procs,∃ f∈p.procs,Pc.Part g f:=fun g m=>by
  rw [Dk]at m
  obtain⟨x,hx,rfl⟩:=List.mem_map.1 m
  exact⟨x.2,qu.mem_iff.1 (List.mem_map_of_mem hx),hl3 x hx⟩
 have ofp : ∀ f∈p.procs,∃ g∈q.procs,Pc.Part g f:=fun f m=>by
  obtain⟨x,hx,rfl⟩:=List.mem_map.1 (qu.mem_iff.2 m)
  exact⟨x.1,by rw [Dk];exact List.mem_map_of_mem hx,hl3 x hx⟩
 have fq : ∀ {nm:aC} {g:Pc},q.find nm=some g→∃ f,p.find nm=some f∧Pc.Part g f:=fun {nm g} e=>by
  obtain⟨h1,h2⟩:=(q7 ndq).1 e
  obtain⟨f,hf,iH⟩:=Lf g h1
  exact⟨f,(q7 nd).2 ⟨hf,by rw [← iH.name];exact h2⟩,iH⟩
 have fp : ∀ {nm:aC} {f:Pc},p.find nm=some f→∃ g,q.find nm=some g∧Pc.Part g f:=fun {nm f} e=>by
  obtain⟨h1,h2⟩:=(q7 nd).1 e
  obtain⟨g,pj,iH⟩:=ofp f h1
  exact⟨g,(q7 ndq).2 ⟨pj,by rw [iH.name];exact h2⟩,iH⟩
 -- a part's statements
 have st : ∀ {g f:Pc},Pc.Part g f→∀ v∈Sm.cW g.body,∃ u∈Sm.cW f.body,u.core=v.core:=fun {g f} iH v m=>by
  have h1:v.core∈g.mV.map Prod.fst:=by unfold Pc.mV;rw [uf];exact List.mem_map_of_mem m
  obtain⟨c,hc,e⟩:=List.mem_map.1 h1
  have h2:v.core∈f.mV.map Prod.fst:=by rw [← e];exact List.mem_map_of_mem (iH.sub.subset hc)
  unfold Pc.mV at h2
  rw [uf]at h2
  obtain⟨u,hu,e2⟩:=List.mem_map.1 h2
  exact⟨u,hu,e2⟩
 have has : ∀ x,er q.pn x=er p.pn x:=fun x=>by
  have h1:=fW q.pn x
  have h2:=fW p.pn x
  have h3:=hpn.mem_iff (a:=x)
  rw [Bool.eq_iff_iff,h1,h2,h3]
 have kind : ∀ {g f:Pc},Pc.Part g f→∀ n,g.kd q n=f.kd p n:=fun {g f} iH n=>by unfold Pc.kd;rw [iH.vars,iH.params,hg]
 have known : ∀ g∈q.procs,∀ v∈Sm.cW g.body,v.known q g q.pn=true:=fun g m v mv=>by
  obtain⟨f,hf,iH⟩:=Lf g m
  obtain⟨u,hu,e⟩:=st iH v mv
  have:=hp.known f hf u hu
  rw [← DU,e,DU]at this
  unfold Sm.known at this ⊢
  rw [has]
  simpa only [kind iH]using this
 have own : ∀ g∈q.procs,ei (q.globals++g.own)=false:=fun g m=>by
  obtain⟨f,hf,iH⟩:=Lf g m
  have:=hp.own f hf
  unfold Pc.own Pc.Av at this ⊢
  rw [hg,iH.params,iH.vars];exact this
 have main:q.oH=false:=by
  have h1:=hp.main
  unfold Pg.oH at h1 ⊢
  cases e:p.find pO with
  | none=>rw [e]at h1;cases h1
  | some f=>
   rw [e]at h1
   obtain⟨g,pj,iH⟩:=fp e
   rw [pj]
   simpa only [iH.params]using h1
 have tg:ei q.globals=false:=by rw [hg];exact hp.tg
 have kT:q.scope=(0,0):=Gb hq tg tpq main fun g m=>⟨own g m,known g m⟩
 have awN:(q.scope.1==0)=true:=by rw [kT];rfl
 have acB:(p.scope.1==0)=true:=by rw [hp.scope];rfl
 -- who is called, what is touched
 have calls : ∀ x y,y∈nF q x→y∈nF p x:=fun x y m=>by
  unfold nF at m ⊢
  cases e:q.find x with
  | none=>rw [e]at m;cases m
  | some g=>
   rw [e]at m
   obtain⟨f,hf,iH⟩:=fq e
   rw [hf]
   obtain⟨v,hv,h1,h2⟩:=AB.1 m
   obtain⟨u,hu,e2⟩:=st iH v hv
   refine AB.2 ⟨u,hu, ?_, ?_⟩
   ·rw [← ql,e2,ql];exact h1
   ·rw [show u.proc=u.core.proc from rfl,e2];exact h2
 have work : ∀ {nm:aC} {f:Pc},p.find nm=some f→∀ x∈q.work nm,x∈p.work nm:=fun {nm f} hf x m=>by
  unfold Pg.work at m
  refine DL (p:=q) (S:=fun x=>x∈p.work nm) (fun x hx y hy=> ?_) _ _ _ (fun x hx=> ?_) x m
  ·exact BS acB _ _ _ (yC hf) (by omega) (fun j x hj=>absurd hj (Nat.not_lt_zero _)) _ hx _ (calls x y hy)
  ·rw [List.mem_singleton]at hx
   subst hx
   exact I6 p _ _ _ (by simp)
 have body : ∀ n x,x∈pQ (mJ q n)→x∈pQ (mJ p n):=fun n x m=>by
  unfold mJ at m ⊢
  cases e:q.find n with
  | none=>rw [e]at m;cases m
  | some g=>
   rw [e]at m
   obtain⟨f,hf,iH⟩:=fq e
   rw [hf]
   obtain⟨v,hv,h1⟩:=AR.1 m
   obtain⟨u,hu,e2⟩:=st iH v hv
   exact AR.2 ⟨u,hu,by rw [← AQ,e2,AQ];exact h1⟩
 have Hi : ∀ nm x,er (q.kU nm) x=true→er (p.kU nm) x=true:=fun nm x m=>by
  rw [fW]at m ⊢
  cases e:q.rP nm with
  | none=>unfold Pg.kU at m;rw [e]at m;cases m
  | some g=>
   obtain⟨_,eg⟩:=AG e
   obtain⟨f,hf,iH⟩:=fq eg
   have ef:p.rP nm=some f:=by unfold Pg.rP;rw [if_pos acB];exact hf
   rw [F7 e]at m
   rw [F7 ef]
   obtain⟨⟨n,hn,hx⟩,DJ⟩:=m
   exact⟨⟨n,work hf n hn,body n x hx⟩,by rw [← hg];exact DJ⟩
 have pre : ∀ v∈q.pre,∃ u∈p.pre,u.core=v.core:=fun v m=>by
  simp only [Pg.pre,List.mem_flatten,List.mem_map]at m
  obtain⟨_,⟨g,pj,rfl⟩,mv⟩:=m
  obtain⟨f,hf,iH⟩:=Lf g pj
  obtain⟨u,hu,e⟩:=st iH v mv
  exact⟨u,by simp only [Pg.pre,List.mem_flatten,List.mem_map];exact⟨_,⟨f,hf,rfl⟩,hu⟩,e⟩
 refine⟨hq,tg,tpq,main,own,known,fun g m=> ?_,fun g m=> ?_,fun v m hk=> ?_,fun v m hk=> ?_⟩
 ·obtain⟨f,hf,iH⟩:=Lf g m
  have h1:=hp.kv f hf
  cases e:ei g.labels with
  | false=>rfl
  | true=>
   exfalso
   refine(qk _).1 e ?_
   have h2:f.labels.Nodup:=by
    by_cases hn:f.labels.Nodup
    ·exact hn
    ·rw [(qk _).2 hn]at h1;cases h1
   refine h2.sublist ?_
   rw [ub g,ub f,iH.fin]
   exact List.Sublist.append (Oh (iH.sub.map _)) (List.Sublist.refl _)
 ·obtain⟨f,hf,iH⟩:=Lf g m
  rw [Ld (Lc hq m)]
  have h1:=(Ld (kv:=f.labels) (Lc hp.may hf)).1 (hp.leads f hf)
  intro c hc
  have h2:=h1 c (iH.sub.subset hc)
  unfold jT at h2 ⊢
  split
  ·rename_i hk;rw [if_pos hk]at h2;exact h2
  ·rename_i hk
   rw [if_neg hk]at h2
   split
   ·rename_i cv
    rw [if_pos cv]at h2
    rw [fW]at h2 ⊢
    exact iH.aoK c hc (by simpa using cv) h2
   ·rfl
 ·obtain⟨u,hu,e⟩:=pre v m
  have td:(u.kind==4)=true:=by rw [← ql,e,ql];exact hk
  have:=hp.fits u hu td
  rw [← Gd,e,Gd]at this
  unfold Sm.l6 at this ⊢
  rw [hk]at this ⊢
  simp only [Bool.true_and]at this ⊢
  cases e2:p.find v.proc with
  | none=>rw [e2]at this;cases this
  | some f=>
   rw [e2]at this
   obtain⟨g,pj,iH⟩:=fp e2
   rw [pj]
   simpa only [iH.params]using this
 ·obtain⟨u,hu,e⟩:=pre v m
  have td:(u.kind==4)=true:=by rw [← ql,e,ql];exact hk
  have:=hp.single u hu td
  rw [← BT,e,BT]at this
  unfold Sm.oY at this ⊢
  exact wR (Hi v.proc) this
end Go.Abs

/-! Cp1 -/

namespace Go.Abs
set_option maxRecDepth 8000
open Go.Proofs
theorem uZ {size bytes:Nat} {rows:List (List D)} (h:rows≠ []) (hl:rows.length*(bytes+1)≤bm) {z:Nat} {g:Tag} (o:List (List D)) (T:List (Option Nat)) :
 jr size bytes (.slice .full z []) (.slice g size rows) ⟨o,T⟩=some (.slice (.tok T.length) size rows,⟨o,T++ [some rows.length]⟩):=by
 cases rows with
 | nil=>exact absurd rfl h
 | cons x r=>simp only [List.length_cons]at hl;simp [jr,hl]
theorem yN {size bytes z z':Nat} {g:Tag} (o:List (List D)) (T:List (Option Nat)) :
 jr size bytes (.slice .full z []) (.slice g z' []) ⟨o,T⟩=some (.slice .full z [],⟨o,T⟩):=by simp [jr,bm]
theorem o4 {l:List aC} (hl:l.length≤10000000) (s:St):aB Tryz.prog mw [.slice .shared 1 (l.map encStr)] s (.slice .shared 1 (l.map encStr)) s:=by
 refine aB.pure ?_ (by simp [D.bp,D.ok,eC,Tag.ok]) (by rw [D.ok,eC];rfl) s
 unfold S0
 cases l with
 | nil=>
  simp only [List.map_nil]
  have ha:=fun o T=>yN (size:=1) (bytes:=16) (z:=0) (z':=1) (g:= .shared) o T
  refine aB.go xC rfl fun B Q hB hQ=> ?_
  have⟨hF,hP,hZ,gA⟩:=bH
  repeat' (first
 | simp only [go_sem,hF,hP,hZ,gA,ha]
 | (with_reducible first | refine bw fun hc=> ?_ | refine bx fun hc=> ?_ | refine bA (fun hc=> ?_) fun hc=> ?_) <;> (try simp only [hc,bs, ↓reduceIte]at h) <;> try simp only [hc]
 | (with_reducible refine aG hQ ?_;(try cases h);simp only [ay,az,bF,bG,go_sem,hF,hP,hZ,gA,ha];try exact mj)
 | (cases h;done))
 | cons x l=>
  have ha:=fun o T=>uZ (size:=1) (bytes:=16) (rows:=(x::l).map encStr) (by simp) (by simp only [List.length_map];unfold bm;omega) (z:=0) (g:= .shared) o T
  have hf:=Ip 0 0 (x::l)
  generalize (x::l).map encStr=R at *
  refine aB.go xC rfl fun B Q hB hQ=> ?_
  have⟨hF,hP,hZ,gA⟩:=bH
  repeat' (first
 | simp only [go_sem,hF,hP,hZ,gA,ha,hf]
 | (with_reducible first | refine bw fun hc=> ?_ | refine bx fun hc=> ?_ | refine bA (fun hc=> ?_) fun hc=> ?_) <;> (try simp only [hc,bs, ↓reduceIte]at h) <;> try simp only [hc]
 | (with_reducible refine aG hQ ?_;(try cases h);simp only [ay,az,bF,bG,go_sem,hF,hP,hZ,gA,ha,hf];try exact mj)
 | (cases h;done))
theorem Oj : ∀ n,n<1073741824→∀ x:Ex,x.size≤n→aB Tryz.prog iY [.agg (bu x)] S0 (.agg (bu x)) S0:=by
 intro n
 induction n with
 | zero=>rintro _ ⟨op,m,name,kids⟩ h;simp only [Ex.size]at h;omega
 | succ n Qh=>
 rintro hn ⟨op,m,name,kids⟩ hx
 have hk : ∀ y∈kids,∀ s,aB Tryz.prog iY [.agg (bu y)] s (.agg (bu y)) s:=fun y hy s=>
  (Qh (by omega) y (by simp only [Ex.size]at hx;have:=Ex.bV hy;omega)).pure (by simp [D.bp,D.ok,gE]) (by simp [D.ok,gE]) s
 have hlen:kids.length<1073741824:=by simp only [Ex.size]at hx;have:=Ex.cP kids;omega
 unfold S0
 refine aB.go Bs rfl fun B Q hB hQ=> ?_
 have⟨hF,hP,hZ,gA⟩:=bH
 repeat' (first
 | simp only [go_sem,hF,hP,hZ,gA]
 | (with_reducible first | refine bw fun hc=> ?_ | refine bx fun hc=> ?_ | refine bA (fun hc=> ?_) fun hc=> ?_) <;> (try simp only [hc,bs, ↓reduceIte]at h) <;> try simp only [hc]
 | (with_reducible refine aG hQ ?_;exact jS)
 | (cases h;done))
 refine bk.qB 2 3 4 rfl rfl ?_
 simp only [go_sem,hF,hP,hZ,gA]
 refine cU 3 1 (bk.ind (ι:=List Ex×Nat×List Ex) (fun i=>kids.drop i.2.1=i.1∧i.2.1=i.2.2.length∧i.2.2++i.1=kids) (fun i=>i.1.length)
  (fun i=> [(1, .ptr 0 0),(2, .ptr 1 0),(3, .ptr 2 0),(14, .int .i64 (kids.length:Int)),(15, .int .i64 (i.2.1:Int))])
  (fun i=>⟨[bu ⟨op,m,name,kids⟩,bu mU,[.int .i64 op, .int .i64 m, .str name, .slice (.tok 0) 4 (i.2.2.map bu)]],[some i.2.1]⟩) ?_ (kids,0,[]) ⟨rfl,rfl,rfl⟩)
 rintro⟨rest,k,acc⟩ ⟨h1,h2,h3⟩ IH
 dsimp only at h1 h2 h3
 subst h2
 cases rest with
 | nil=>
  have hF:=drop_nil h1
  simp only [List.append_nil]at h3
  subst h3
  repeat' (first
 | simp only [go_sem,hF,hP,hZ,gA]
 | (with_reducible first | refine bw fun hc=> ?_ | refine bx fun hc=> ?_ | refine bA (fun hc=> ?_) fun hc=> ?_) <;> (try simp only [hc,bs, ↓reduceIte]at h) <;> try simp only [hc]
 | (with_reducible refine aG hQ ?_;exact jS)
 | (cases h;done))
 | cons y rest=>
  obtain⟨hP,g2,hF,g4⟩:=drop_cons h1
  have dH:(acc.length+1)*57≤bm:=by simp only [bm];omega
  have hy:=hk y (List.mem_of_getElem? hP)
  have w1:IntKind.wrap .i64 ((acc.length:Int)+1)=((acc.length+1:Nat):Int):=by rw [c6] <;> omega
  repeat' (first
 | simp only [go_sem,hF,hP,hZ,gA,dH,w1]
 | (with_reducible refine CU (hy _) ?_)
 | (with_reducible first | refine bw fun hc=> ?_ | refine bx fun hc=> ?_ | refine bA (fun hc=> ?_) fun hc=> ?_) <;> (try simp only [hc,bs, ↓reduceIte]at h) <;> try simp only [hc]
 | (with_reducible refine aG hQ ?_;(try cases h);simp only [ay,az,bF,bG,go_sem,hF,hP,hZ,gA,dH,w1];try exact mj)
 | (cases h;done))
  refine cU 3 1 (IH (rest,acc.length+1,acc++ [y]) ⟨g2,by simp,by rw [← h3];simp⟩ (Nat.lt_succ_self _))
theorem DV {x:Ex} (h:x.size<1073741824) (s:St):aB Tryz.prog iY [.agg (bu x)] s (.agg (bu x)) s:=
 (Oj x.size h x (Nat.le_refl _)).pure (by simp [D.bp,D.ok,gE]) (by simp [D.ok,gE]) s
def Sm.bare (v:Sm):Sm:= {v with aY:= [],aP:= []}
theorem AS {v:Sm} (hv:v.labels.length+v.x.size+Ar.aX v.args<10000000) (s:St):aB Tryz.prog my [.agg (aU v)] s (.agg (aU v.bare)) s:=by
 refine aB.pure ?_ (by simp [D.bp,D.ok,jZ]) (by simp [D.ok,jZ]) s
 obtain⟨id,kind,labels,name,proc,x,has,args,aY,aP⟩:=v
 dsimp only at hv
 have tv:=Ar.cP args
 have hx:=fun s=>DV (x:=x) (by omega) s
 simp only [gk]at hx
 have hL:=fun s=>o4 (l:=labels) (by omega) s
 unfold Sm.bare
 unfold S0
 refine aB.go Ci rfl fun B Q hB hQ=> ?_
 have⟨hF,hP,hZ,gA⟩:=bH
 repeat' (first
 | simp only [go_sem,hF,hP,hZ,gA]
 | (with_reducible refine CU (hL _) ?_)
 | (with_reducible refine CU (hx _) ?_)
 | (with_reducible first | refine bw fun hc=> ?_ | refine bx fun hc=> ?_ | refine bA (fun hc=> ?_) fun hc=> ?_) <;> (try simp only [hc,bs, ↓reduceIte]at h) <;> try simp only [hc]
 | (with_reducible refine aG hQ ?_;exact jS)
 | (cases h;done))
 refine bk.qB 2 10 6 rfl rfl ?_
 simp only [go_sem,hF,hP,hZ,gA]
 refine cU 3 1 (bk.ind (ι:=List Ar×Nat×List Ar) (fun i=>args.drop i.2.1=i.1∧i.2.1=i.2.2.length∧i.2.2++i.1=args) (fun i=>i.1.length)
  (fun i=> [(1, .ptr 0 0),(2, .ptr 1 0),(3, .ptr 2 0),(24, .slice .shared 6 (args.map ej)),(25, .int .i64 (args.length:Int)),(26, .int .i64 (i.2.1:Int))])
  (fun i=>⟨[aU ⟨id,kind,labels,name,proc,x,has,args,aY,aP⟩,aU FA,[.int .i64 id, .int .i64 kind, .slice .shared 1 (labels.map encStr), .str name, .str proc, .int .i64 x.op, .int .i64 x.n, .str x.name, .slice .shared 4 (x.kids.map bu), .bool has, .slice (.tok 0) 6 (i.2.2.map ej), .slice .full 0 [], .slice .full 0 []]],[some i.2.1]⟩) ?_ (args,0,[]) ⟨rfl,rfl,rfl⟩)
 rintro⟨yA,ka,uT⟩ ⟨j1,j2,j3⟩ IHa
 dsimp only at j1 j2 j3
 subst j2
 cases yA with
 | nil=>
  have hF:=drop_nil j1
  simp only [List.append_nil]at j3
  subst j3
  repeat' (first
 | simp only [go_sem,hF,hP,hZ,gA,cH,List.map_nil]
 | (with_reducible first | refine bw fun hc=> ?_ | refine bx fun hc=> ?_ | refine bA (fun hc=> ?_) fun hc=> ?_) <;> (try simp only [hc,bs, ↓reduceIte]at h) <;> try simp only [hc]
 | (with_reducible refine aG hQ ?_;(try cases h);simp only [ay,az,bF,bG,go_sem,hF,hP,hZ,gA,cH,List.map_nil];try exact mj)
 | (cases h;done))
 | cons c yA=>
  obtain⟨hP,g2,hF,g4⟩:=drop_cons j1
  have ha:c.x.size<1073741824:=by have:=Ar.bV (List.mem_of_getElem? hP);omega
  have zQ:uT.length<4611686018427387904:=by omega
  have DA:(uT.length+1)*81≤bm:=by simp only [bm];omega
  have QJ:=fun s=>DV ha s
  simp only [gk]at QJ
  obtain⟨Ua,N1,ax⟩:=c
  repeat' (first
 | simp only [go_sem,hF,hP,hZ,gA,DA]
 | (with_reducible refine CU (QJ _) ?_)
 | (with_reducible first | refine bw fun hc=> ?_ | refine bx fun hc=> ?_ | refine bA (fun hc=> ?_) fun hc=> ?_) <;> (try simp only [hc,bs, ↓reduceIte]at h) <;> try simp only [hc]
 | (with_reducible refine aG hQ ?_;(try cases h);simp only [ay,az,bF,bG,go_sem,hF,hP,hZ,gA,DA];try exact mj)
 | (cases h;done))
  refine dZ 3 1 ?_ ?_ (IHa (yA,uT.length+1,uT++ [⟨Ua,N1,ax⟩]) ⟨g2,by simp,by rw [← j3];simp⟩ (Nat.lt_succ_self _))
  ·(simp only [go_sem,hF,hP,hZ,gA,aM zQ];try exact bO)
  ·(simp only [go_sem,hF,hP,hZ,gA,aM zQ];try exact bO)
end Go.Abs

/-! Cp2 -/

namespace Go.Abs
set_option maxRecDepth 8000
open Go.Proofs
abbrev Sm.awP (t:Sm) (l:List Sm):List Sm:=Sm.jd (eH t) l
abbrev Pg.put (p:Pg) (t:Sm):Pg:=p.fl (eH t)
def Sm.yO (v:Sm):Nat:=v.labels.length+v.x.size+Ar.aX v.args
abbrev W3 (t:Sm) (N:Nat):Prop:=∀ l:List Sm,Sm.aX l<N→∀ s:St,aB Tryz.prog nh [.slice .shared 13 (l.map aU), .agg (aU t)] s (.slice .shared 13 ((Sm.jd (eH t) l).map aU)) s
theorem Uz (t:Sm) (ht:t.yO<10000000) {N:Nat} (hN:N<10000000) (ih:W3 t N) (l:List Sm) (hl:Sm.aX l<N+1) :
 aB Tryz.prog nh [.slice .shared 13 (l.map aU), .agg (aU t)] S0 (.slice .shared 13 ((Sm.jd (eH t) l).map aU)) S0:=by
 have hlen:l.length<10000001:=by have:=Sm.cP l;omega
 have hct:=fun s=>AS (v:=t) ht s
 have hbt:aU t.bare=_:=cH t.bare
 simp only [hbt,Sm.bare,List.map_nil]at hct
 generalize hR:Sm.jd (eH t) l=R
 unfold S0
 refine aB.go IE rfl fun B Q hB hQ=> ?_
 have⟨hF,hP,hZ,gA⟩:=bH
 repeat' (first
 | simp only [go_sem,hF,hP,hZ,gA]
 | (with_reducible first | refine bw fun hc=> ?_ | refine bx fun hc=> ?_ | refine bA (fun hc=> ?_) fun hc=> ?_) <;> (try simp only [hc,bs, ↓reduceIte]at h) <;> try simp only [hc]
 | (with_reducible refine aG hQ ?_;exact jS)
 | (cases h;done))
 refine bk.ov 5 13 rfl ?_
 simp only [go_sem,hF,hP,hZ,gA]
 refine cU 1 1 (bk.ind (ι:=List Sm×Nat×List Sm) (fun i=>l.drop i.2.1=i.1∧i.2.1=i.2.2.length∧i.2.2++Sm.jd (eH t) i.1=R) (fun i=>i.1.length)
  (fun i=> [(3, .ptr 0 0),(5, .slice (.tok 0) 13 (i.2.2.map aU)),(9, .slice .shared 13 (l.map aU)),(10, .int .i64 (l.length:Int)),(11, .int .i64 (i.2.1:Int))])
  (fun i=>⟨[aU t],[some i.2.1]⟩) ?_ (l,0,[]) ⟨rfl,rfl,hR⟩)
 rintro⟨rest,k,acc⟩ ⟨h1,h2,h3⟩ IH
 dsimp only at h1 h2 h3
 subst h2
 cases rest with
 | nil=>
  have hF:=drop_nil h1
  simp only [Sm.jd,List.append_nil]at h3
  subst h3
  repeat' (first
 | simp only [go_sem,hF,hP,hZ,gA]
 | (with_reducible first | refine bw fun hc=> ?_ | refine bx fun hc=> ?_ | refine bA (fun hc=> ?_) fun hc=> ?_) <;> (try simp only [hc,bs, ↓reduceIte]at h) <;> try simp only [hc]
 | (with_reducible refine aG hQ ?_;exact jS)
 | (cases h;done))
 | cons y rest=>
  obtain⟨hP,g2,hF,g4⟩:=drop_cons h1
  have hk:acc.length<4611686018427387904:=by omega
  have dK:y.size≤N:=by have:=Sm.bV (List.mem_of_getElem? hP);omega
  obtain⟨id,kind,labels,name,proc,x,has,args,aY,aP⟩:=y
  simp only [Sm.size]at dK
  have dH:(acc.length+1)*209≤bm:=by simp only [bm];omega
  have FO:=fun s=>AS (v:=⟨id,kind,labels,name,proc,x,has,args,aY,aP⟩) (by dsimp only;omega) s
  simp only [Sm.bare,cH,List.map_nil]at FO
  have c1:=ih aY (by omega)
  have c2:=ih aP (by omega)
  simp only [Sm.jd]at h3
  obtain⟨Y,hY⟩ : ∃ Y,Sm.fl (eH t) ⟨id,kind,labels,name,proc,x,has,args,aY,aP⟩=Y:=⟨_,rfl⟩
  rw [hY]at h3
  rw [K8]at hY
  unfold eH at hY
  obtain⟨T,hT⟩ : ∃ T,Sm.jd (eH t) aY=T:=⟨_,rfl⟩
  obtain⟨E,hE⟩ : ∃ E,Sm.jd (eH t) aP=E:=⟨_,rfl⟩
  unfold eH at hT hE
  simp only [hT,hE]at hY
  unfold eH at c1 c2
  rw [hT]at c1
  rw [hE]at c2
  rcases Bool.eq_false_or_eq_true (id==t.id)with b1 | b1
  ·rw [if_pos b1]at hY
   subst hY
   repeat' (first
 | simp only [go_sem,hF,hP,hZ,gA,dH,b1]
 | (with_reducible refine CU (FO _) ?_)
 | (with_reducible refine CU (hct _) ?_)
 | (with_reducible refine CU (c1 _) ?_)
 | (with_reducible refine CU (c2 _) ?_)
 | (with_reducible first | refine bw fun hc=> ?_ | refine bx fun hc=> ?_ | refine bA (fun hc=> ?_) fun hc=> ?_) <;> (try simp only [hc,bs, ↓reduceIte]at h) <;> try simp only [hc]
 | (with_reducible refine aG hQ ?_;(try cases h);simp only [ay,az,bF,bG,go_sem,hF,hP,hZ,gA,dH,b1];try exact mj)
 | (cases h;done))
   refine dZ 1 1 ?_ ?_ (IH (rest,acc.length+1,acc++ [{t with aY:=T,aP:=E}]) ⟨g2,by simp,by rw [← h3];simp⟩ (Nat.lt_succ_self _))
   ·(simp only [go_sem,hF,hP,hZ,gA,aM hk,cH];try exact bO)
   ·(simp only [go_sem,hF,hP,hZ,gA,aM hk,cH];try exact bO)
  ·rw [if_neg (by simp [b1])]at hY
   subst hY
   repeat' (first
 | simp only [go_sem,hF,hP,hZ,gA,dH,b1]
 | (with_reducible refine CU (FO _) ?_)
 | (with_reducible refine CU (hct _) ?_)
 | (with_reducible refine CU (c1 _) ?_)
 | (with_reducible refine CU (c2 _) ?_)
 | (with_reducible first | refine bw fun hc=> ?_ | refine bx fun hc=> ?_ | refine bA (fun hc=> ?_) fun hc=> ?_) <;> (try simp only [hc,bs, ↓reduceIte]at h) <;> try simp only [hc]
 | (with_reducible refine aG hQ ?_;(try cases h);simp only [ay,az,bF,bG,go_sem,hF,hP,hZ,gA,dH,b1];try exact mj)
 | (cases h;done))
   refine dZ 1 1 ?_ ?_ (IH (rest,acc.length+1,acc++ [⟨id,kind,labels,name,proc,x,has,args,T,E⟩]) ⟨g2,by simp,by rw [← h3];simp⟩ (Nat.lt_succ_self _))
   ·(simp only [go_sem,hF,hP,hZ,gA,aM hk];try exact bO)
   ·(simp only [go_sem,hF,hP,hZ,gA,aM hk];try exact bO)
theorem YA (t:Sm) (ht:t.yO<10000000) : ∀ N,N<10000000→W3 t N:=by
 intro N
 induction N with
 | zero=>intro _ l hl;exact absurd hl (Nat.not_lt_zero _)
 | succ N ih=>
  intro hN l hl s
  exact(Uz t ht (by omega) (ih (by omega)) l hl).pure (by simp [D.bp,D.ok,Tag.ok,jD,jZ]) (by simp [D.bp,D.ok,Tag.ok,jD]) s
theorem Jq {t:Sm} (ht:t.yO<10000000) {l:List Sm} (h:Sm.aX l<9000000) (s:St):aB Tryz.prog nh [.slice .shared 13 (l.map aU), .agg (aU t)] s (.slice .shared 13 ((Sm.jd (eH t) l).map aU)) s:=
 YA t ht 9999999 (by omega) l (by omega) s
theorem afL {p:Pg} (hp:p.size<1000000) {t:Sm} (ht:t.yO<10000000) (st:St):aB Tryz.prog ng [.agg (bC p), .agg (aU t)] st (.agg (bC (p.put t))) st:=by
 refine aB.pure ?_ (by simp [D.bp,D.ok,gl,jZ]) (by simp [D.ok,gl]) st
 obtain⟨globals,procs⟩:=p
 simp only [Pg.size]at hp
 have hlen:procs.length<1000000:=by have:=Pc.cP procs;omega
 have hG:=fun s=>o4 (l:=globals) (by omega) s
 have e:Pg.fl (eH t) ⟨globals,procs⟩ = ⟨globals,procs.map (Pc.fl (eH t))⟩:=rfl
 show aB _ _ _ _ (.agg (bC (Pg.fl (eH t) ⟨globals,procs⟩))) _
 rw [e]
 generalize hR:procs.map (Pc.fl (eH t))=R
 unfold S0
 refine aB.go Ah rfl fun B Q hB hQ=> ?_
 have⟨hF,hP,hZ,gA⟩:=bH
 repeat' (first
 | simp only [go_sem,hF,hP,hZ,gA]
 | (with_reducible refine CU (hG _) ?_)
 | (with_reducible first | refine bw fun hc=> ?_ | refine bx fun hc=> ?_ | refine bA (fun hc=> ?_) fun hc=> ?_) <;> (try simp only [hc,bs, ↓reduceIte]at h) <;> try simp only [hc]
 | (with_reducible refine aG hQ ?_;exact jS)
 | (cases h;done))
 refine bk.qB 3 1 5 rfl rfl ?_
 simp only [go_sem,hF,hP,hZ,gA]
 refine cU 4 1 (bk.ind (ι:=List Pc×Nat×List Pc) (fun i=>procs.drop i.2.1=i.1∧i.2.1=i.2.2.length∧i.2.2++i.1.map (Pc.fl (eH t))=R) (fun i=>i.1.length)
  (fun i=> [(3, .ptr 1 0),(4, .ptr 2 0),(5, .ptr 3 0),(14, .slice .shared 5 (procs.map bq)),(15, .int .i64 (procs.length:Int)),(16, .int .i64 (i.2.1:Int))])
  (fun i=>⟨[bC ⟨globals,procs⟩,aU t,bC BK,[.slice .shared 1 (globals.map encStr), .slice (.tok 0) 5 (i.2.2.map bq)]],[some i.2.1]⟩) ?_ (procs,0,[]) ⟨rfl,rfl,hR⟩)
 rintro⟨rest,k,acc⟩ ⟨h1,h2,h3⟩ IH
 dsimp only at h1 h2 h3
 subst h2
 cases rest with
 | nil=>
  have hF:=drop_nil h1
  simp only [List.map_nil,List.append_nil]at h3
  subst h3
  repeat' (first
 | simp only [go_sem,hF,hP,hZ,gA]
 | (with_reducible first | refine bw fun hc=> ?_ | refine bx fun hc=> ?_ | refine bA (fun hc=> ?_) fun hc=> ?_) <;> (try simp only [hc,bs, ↓reduceIte]at h) <;> try simp only [hc]
 | (with_reducible refine aG hQ ?_;exact jS)
 | (cases h;done))
 | cons y rest=>
  obtain⟨hP,g2,hF,g4⟩:=drop_cons h1
  have dK:=Pc.bV (List.mem_of_getElem? hP)
  obtain⟨name,params,vars,body,fin⟩:=y
  simp only [Pc.size]at dK
  have hk:acc.length<4611686018427387904:=by omega
  have dH:(acc.length+1)*113≤bm:=by simp only [bm];omega
  have c1:=fun s=>o4 (l:=vars) (by omega) s
  have c2:=fun s=>o4 (l:=fin) (by omega) s
  have c3:=fun s=>Jq ht (l:=body) (by omega) s
  have e2:Pc.fl (eH t) ⟨name,params,vars,body,fin⟩ = ⟨name,params,vars,Sm.jd (eH t) body,fin⟩:=rfl
  cases params with
  | nil=>
   have ha:=fun o T=>yN (size:=2) (bytes:=24) (z:=0) (z':=2) (g:= .shared) o T
   repeat' (first
 | simp only [go_sem,hF,hP,hZ,gA,dH,ha]
 | (with_reducible refine CU (c1 _) ?_)
 | (with_reducible refine CU (c2 _) ?_)
 | (with_reducible refine CU (c3 _) ?_)
 | (with_reducible first | refine bw fun hc=> ?_ | refine bx fun hc=> ?_ | refine bA (fun hc=> ?_) fun hc=> ?_) <;> (try simp only [hc,bs, ↓reduceIte]at h) <;> try simp only [hc]
 | (with_reducible refine aG hQ ?_;(try cases h);simp only [ay,az,bF,bG,go_sem,hF,hP,hZ,gA,dH,ha];try exact mj)
 | (cases h;done))
   refine dZ 4 1 ?_ ?_ (IH (rest,acc.length+1,acc++ [Pc.fl (eH t) ⟨name,[],vars,body,fin⟩]) ⟨g2,by simp,by rw [← h3];simp⟩ (Nat.lt_succ_self _))
   ·(simp only [go_sem,hF,hP,hZ,gA,aM hk,e2];try exact bO)
   ·(simp only [go_sem,hF,hP,hZ,gA,aM hk,e2];try exact bO)
  | cons q params=>
   have ha:=fun o T=>uZ (size:=2) (bytes:=24) (rows:=(q::params).map fK) (by simp) (by simp only [List.length_map];unfold bm;omega) (z:=0) (g:= .shared) o T
   generalize q::params=ps at *
   repeat' (first
 | simp only [go_sem,hF,hP,hZ,gA,dH,ha]
 | (with_reducible refine CU (c1 _) ?_)
 | (with_reducible refine CU (c2 _) ?_)
 | (with_reducible refine CU (c3 _) ?_)
 | (with_reducible first | refine bw fun hc=> ?_ | refine bx fun hc=> ?_ | refine bA (fun hc=> ?_) fun hc=> ?_) <;> (try simp only [hc,bs, ↓reduceIte]at h) <;> try simp only [hc]
 | (with_reducible refine aG hQ ?_;(try cases h);simp only [ay,az,bF,bG,go_sem,hF,hP,hZ,gA,dH,ha];try exact mj)
 | (cases h;done))
   refine dZ 4 1 ?_ ?_ (IH (rest,acc.length+1,acc++ [Pc.fl (eH t) ⟨name,ps,vars,body,fin⟩]) ⟨g2,by simp,by rw [← h3];simp⟩ (Nat.lt_succ_self _))
   ·(simp only [go_sem,hF,hP,hZ,gA,aM hk,e2];try exact bO)
   ·(simp only [go_sem,hF,hP,hZ,gA,aM hk,e2];try exact bO)
end Go.Abs

/-! SelA -/

namespace Go.Abs
def AT (os ts:List Nat) (tm:Tm):Tm→Prop
 | []=>True
 | (k,d)::r=>tm.get k=d.cb os ts∧d.ok os.length ts.length=true∧AT os ts tm r
theorem AT.get {os ts:List Nat} {tm:Tm} : ∀ {bt:Tm},AT os ts tm bt→∀ k,bt.get k = .junk∨(tm.get k=(bt.get k).cb os ts∧(bt.get k).ok os.length ts.length=true)
 | [],_,k=> .inl rfl
 | (q,d)::r,⟨h1,h2,h3⟩,k=>by
  simp only [Tm.get]
  split
  ·rename_i e;subst e;exact .inr ⟨h1,h2⟩
  ·exact h3.get k
section
variable {P:Program} {B:fv} {nt:Nat}
theorem Holds.AU {tm:Tm} {s:St} {act:Act} {w:World} (os:List Nat) (dR:List (List D)) (bt:Tm) (tr:os.Nodup) (kN : ∀ o∈os,o<s.aw.length) (hn:B.s.aw.length≤os.length)
 (hold : ∀ i,i<B.s.aw.length→os[i]? = some i) (dF : ∀ (i o:Nat),os[i]? = some o→B.s.aw.length≤i→B.s.aw.length≤o) (ho:dR.length=os.length)
 (oo : ∀ (i o:Nat) (ds:List D),os[i]? = some o→dR[i]? = some ds→s.aw[o]? = some (D.dW os (List.range s.aA.length) ds)∧D.bp os.length s.aA.length ds=true)
 (Rj:AT os (List.range s.aA.length) tm bt) (h:Holds B nt tm s act w):Holds B nt bt ⟨dR,s.aA⟩ act w:=by
 obtain⟨M,e,r,hr,h1,h2⟩:=h
 have wZ:(List.range s.aA.length).length=s.aA.length:=List.length_range
 have rg : ∀ (i t:Nat),(List.range s.aA.length)[i]? = some t→i=t:=fun i t h=>by
  rw [List.getElem?_eq_some_iff]at h
  obtain⟨h3,h4⟩:=h
  simpa using h4
 have r0:Rel (fE M os (List.range s.aA.length)) ⟨dR,s.aA⟩ w:=r.sub tr List.nodup_range kN ho (fun i o ds e1 e2=>by rw [wZ];exact oo i o ds e1 e2) wZ.symm (fun i t h=>by rw [rg i t h])
 have loc : ∀ (i:Nat) o,os[i]? = some o→(fE M os (List.range s.aA.length)).loc i=M.loc o:=fun i o h=>by simp only [fE,rC h]
 have be : ∀ t,t<s.aA.length→(fE M os (List.range s.aA.length)).be t=M.be t:=fun t h=>by
  have:(List.range s.aA.length)[t]? = some t:=List.getElem?_range h
  simp only [fE,rC this]
 refine⟨fE M os (List.range s.aA.length),⟨⟨e.le.G,by rw [ho];exact hn,fun o h=> ?_,e.le.t,fun t n' h e'=> ?_⟩,e.kept,fun o h3 h4=> ?_,fun t b c z hl hb=> ?_,e.pS,e.size,e.os,e.tape,e.output⟩,r0,fun k=> ?_,h1,h2⟩
 ·rw [loc o o (hold o h)];exact e.le.loc o h
 ·obtain⟨n,g1,g2,g3⟩:=e.le.tk t n' h e'
  exact⟨n,g1,g2,fun eq=>by rw [be t (Nat.lt_of_lt_of_le h e.le.t)];exact g3 eq⟩
 ·simp only at h4
  rw [ho]at h4
  obtain⟨q,hq⟩ : ∃ q,os[o]? = some q:=⟨_,List.getElem?_eq_getElem h4⟩
  have mb:(fE M os (List.range s.aA.length)).mu o=M.mu q:=congrArg Prod.fst (loc o q hq)
  rw [mb]at h3 ⊢
  refine e.pR q ?_ (kN q (List.mem_of_getElem? hq))
  by_cases h5:B.s.aw.length≤o
  ·exact .inl (dF o q hq h5)
  ·have:=hold o (by omega)
   rw [hq]at this
   cases this
   rcases h3 with h3 | h3
   ·exact(h5 h3).elim
   ·exact .inr h3
 ·obtain⟨n,nV⟩:=hl
  have hF:=(List.getElem?_eq_some_iff.1 nV).1
  rw [be t hF]at hb
  exact e.o7 t b c z ⟨n,nV⟩ hb
 ·rcases Rj.get k with h3 | ⟨h3,h4⟩
  ·rw [h3];exact .junk _
  ·exact RD.A5 (M:=M) (M0:=fE M os (List.range s.aA.length)) (s:=s) (s0:=⟨dR,s.aA⟩) rfl loc ho (fun i t h=>by
    have:=rg i t h;subst this;exact be i (by have:=(List.getElem?_eq_some_iff.1 h).1;rwa [wZ]at this)) (fun i t h=>by rw [rg i t h]) wZ.symm (h3 ▸ hr k) _ rfl h4
theorem bk.AU {a:AC} {Q:Exit→Tm→St→Prop} {tm:Tm} {s:St} (os:List Nat) (dR:List (List D)) (bt:Tm) (tr:os.Nodup) (kN : ∀ o∈os,o<s.aw.length) (hn:B.s.aw.length≤os.length)
 (hold : ∀ i,i<B.s.aw.length→os[i]? = some i) (dF : ∀ (i o:Nat),os[i]? = some o→B.s.aw.length≤i→B.s.aw.length≤o) (ho:dR.length=os.length)
 (oo : ∀ (i o:Nat) (ds:List D),os[i]? = some o→dR[i]? = some ds→s.aw[o]? = some (D.dW os (List.range s.aA.length) ds)∧D.bp os.length s.aA.length ds=true)
 (Rj:AT os (List.range s.aA.length) tm bt) (h:bk P B nt a Q bt ⟨dR,s.aA⟩):bk P B nt a Q tm s:=
 fun c hc act w hh=>h c hc act w (hh.AU os dR bt tr kN hn hold dF ho oo Rj)
mutual
def D.fG (o g:Nat) (rows:List (List D)):D→D
 | .eB z o' g' len=>if o'=o∧g'=g∧len=rows.length then .slice .shared z rows else .eB z o' g' len
 | .dE row off=> .dE (D.ky o g rows row) off
 | .slice t z rs=> .slice t z (D.q8 o g rows rs)
 | .agg cs=> .agg (D.ky o g rows cs)
 | .tuple ds=> .tuple (D.ky o g rows ds)
 | .gb f cs=> .gb f (D.ky o g rows cs)
 | .ptr o off=> .ptr o off
 | .junk=> .junk
 | .int k x=> .int k x
 | .bool b=> .bool b
 | .str l=> .str l
 | .eO=> .eO
 | .val v=> .val v
 | .fi T o=> .fi T o
 | .fQ o=> .fQ o
 | .fj o g off=> .fj o g off
 | .fu z=> .fu z
def D.ky (o g:Nat) (rows:List (List D)):List D→List D
 | []=> []
 | d::r=>D.fG o g rows d::D.ky o g rows r
def D.q8 (o g:Nat) (rows:List (List D)):List (List D)→List (List D)
 | []=> []
 | d::r=>D.ky o g rows d::D.q8 o g rows r
end
theorem nK (o g:Nat) (rows:List (List D)) : ∀ l,D.ky o g rows l=l.map (D.fG o g rows)
 | []=>by simp [D.ky]
 | d::r=>by simp [D.ky,nK o g rows r]
theorem Lg (o g:Nat) (rows:List (List D)) : ∀ l,D.q8 o g rows l=l.map (D.ky o g rows)
 | []=>by simp [D.q8]
 | d::r=>by simp [D.q8,Lg o g rows r]
theorem RD.fG {M:Map} {s:St} {o g:Nat} {rows:List (List D)} {b cap z:Nat} {A:Nat→Option (Nat×Nat)} (hm:M.ob o = .arr z A) (ha:A g=some (b,cap))
 (hs : ∀ row∈rows,row.length=z) (h1 : ∀ (i:Nat) (row:List D) (j:Nat) (d:D),rows[i]? = some row→row[j]? = some d→∃ u,M.G b (0+(i*z+j))=some u)
 (h2 : ∀ (i:Nat) (row:List D) (j:Nat) (d:D) (u:Value),rows[i]? = some row→row[j]? = some d→M.G b (0+(i*z+j))=some u→RD M s d u)
 {d:D} {v:Value} (h:RD M s d v):RD M s (d.fG o g rows) v:=by
 induction h with
 | eB z' o' g' len b' pW A' ho yU Rk hl=>
  simp only [D.fG]
  split
  ·rename_i hc
   obtain⟨rfl,rfl,rfl⟩:=hc
   rw [hm]at yU
   cases yU
   rw [ha]at Rk
   cases Rk
   exact .slice .shared z rows b 0 cap hl hs h1 h2 trivial
  ·exact .eB z' o' g' len b' pW A' ho yU Rk hl
 | fj z' o' g' off b' pW A' ho yU Rk=>simp only [D.fG];exact .fj z' o' g' off b' pW A' ho yU Rk
 | fu z a=>simp only [D.fG];exact .fu z a
 | junk v=>simp only [D.fG];exact .junk v
 | int k x=>simp only [D.fG];exact .int k x
 | bool b=>simp only [D.fG];exact .bool b
 | str l=>simp only [D.fG];exact .str l
 | eO=>simp only [D.fG];exact .eO
 | val v hv=>simp only [D.fG];exact .val v hv
 | fi T o v h ht hv=>simp only [D.fG];exact .fi T o v h ht hv
 | fQ o h hm=>simp only [D.fG];exact .fQ o h hm
 | ptr o off h hm=>simp only [D.fG];exact .ptr o off h hm
 | gb f ds vs hl _ ih=>
  simp only [D.fG,nK]
  refine .gb f _ vs (by simpa using hl) (fun i d v e1 e2=> ?_)
  simp only [List.getElem?_map,Option.map_eq_some_iff]at e1
  obtain⟨d',e1,rfl⟩:=e1
  exact ih i d' v e1 e2
 | dE row off b k h1 h2 ih=>
  simp only [D.fG,nK]
  refine .dE _ off b k (fun i d e=> ?_) (fun i d u e eu=> ?_)
  ·simp only [List.getElem?_map,Option.map_eq_some_iff]at e
   obtain⟨d',e,rfl⟩:=e
   exact h1 i d' e
  ·simp only [List.getElem?_map,Option.map_eq_some_iff]at e
   obtain⟨d',e,rfl⟩:=e
   exact ih i d' u e eu
 | iP t z cap hc ht=>simp only [D.fG,D.q8];exact .iP _ z cap hc ht
 | lG z a cap=>simp only [D.fG,D.q8];exact .lG z a cap
 | slice t z rs b k cap hl hs h1 h2 ht ih=>
  simp only [D.fG,Lg]
  have hlen:(rs.map (D.ky o g rows)).length=rs.length:=by simp
  have key:=RD.slice (M:=M) (s:=s) t z (rs.map (D.ky o g rows)) b k cap (by rw [hlen];exact hl) (fun row hr=>by
   obtain⟨iQ,h',rfl⟩:=List.mem_map.1 hr
   rw [nK,List.length_map];exact hs iQ h')
   (fun i row j d e1 e2=>by
    simp only [List.getElem?_map,Option.map_eq_some_iff]at e1
    obtain⟨iQ,e1,rfl⟩:=e1
    rw [nK]at e2
    simp only [List.getElem?_map,Option.map_eq_some_iff]at e2
    obtain⟨d',e2,rfl⟩:=e2
    exact h1 i iQ j d' e1 e2)
   (fun i row j d u e1 e2 eu=>by
    simp only [List.getElem?_map,Option.map_eq_some_iff]at e1
    obtain⟨iQ,e1,rfl⟩:=e1
    rw [nK]at e2
    simp only [List.getElem?_map,Option.map_eq_some_iff]at e2
    obtain⟨d',e2,rfl⟩:=e2
    exact ih i iQ j d' u e1 e2 eu)
   (by rw [hlen];exact ht)
  rw [hlen]at key
  exact key
 | agg cells vs hl h1 _ ih=>
  simp only [D.fG,nK]
  refine .agg _ vs (by simpa using hl) h1 (fun i d v e1 e2=> ?_)
  simp only [List.getElem?_map,Option.map_eq_some_iff]at e1
  obtain⟨d',e1,rfl⟩:=e1
  exact ih i d' v e1 e2
 | tuple ds vs hl _ ih=>
  simp only [D.fG,nK]
  refine .tuple _ vs (by simpa using hl) (fun i d v e1 e2=> ?_)
  simp only [List.getElem?_map,Option.map_eq_some_iff]at e1
  obtain⟨d',e1,rfl⟩:=e1
  exact ih i d' v e1 e2
def DW (o g:Nat) (rows:List (List D)) (n m:Nat) (ds:List D):List D:=D.gw n m (D.ky o g rows ds)
def DX (o g:Nat) (rows:List (List D)) (m:Nat) (tm:Tm):Tm→Prop
 | []=>True
 | (k,d)::r=>Wk (((tm.get k).fG o g rows).fg o m) d∧DX o g rows m tm r
theorem DX.get {o g m:Nat} {rows:List (List D)} {tm:Tm} : ∀ {bt:Tm},DX o g rows m tm bt→∀ t,Wk (((tm.get t).fG o g rows).fg o m) (bt.get t)
 | [],_,t=>Wk.junk _
 | (k,d)::r,h,t=>by
  simp only [Tm.get]
  split
  ·rename_i hk;subst hk;exact h.1
  ·exact DX.get h.2 t
theorem Holds.UB {tm:Tm} {s:St} {act:Act} {w:World} (o g z:Nat) (rows:List (List D)) (bt:Tm) (dR:List (List D)) (hn:B.s.aw.length≤o) (ek:s.aw[o]? = some (.int .i64 (g:Int)::rows.flatten)) (hz : ∃ k l,tm.get k = .eB z o g l∨∃ (q:Nat) (ds:List D),s.aw[q]? = some ds∧ds[k]? = some (.eB z o g l))
 (hs : ∀ row∈rows,row.length=z) (ht:DX o g rows s.aA.length tm bt) (oo:gU ((s.aw.take o).map (DW o g rows o s.aA.length)) dR)
 (h:Holds B nt tm s act w):Holds B nt bt ⟨dR,s.aA⟩ act w:=by
 obtain⟨M,e,r,hr,h1,h2⟩:=h
 have yw:o<s.aw.length:=(List.getElem?_eq_some_iff.1 ek).1
 obtain⟨A,hm⟩ : ∃ A,M.ob o = .arr z A:=by
  obtain⟨k,l,hz | ⟨q,ds,hq,hz⟩⟩:=hz
  ·have:=hr k
   rw [hz]at this
   obtain⟨_,_,A,_,_,hm,_⟩:=this.ud
   exact⟨A,hm⟩
  ·obtain⟨vs,T,_,dK,_,iU⟩:=r.obj q ds hq
   have hF:=(List.getElem?_eq_some_iff.1 hz).1
   obtain⟨_,_,A,_,_,hm,_⟩:=(iU k _ _ hz (Array.getElem?_eq_getElem (by omega))).ud
   exact⟨A,hm⟩
 have ha:mX s o g=some rows.flatten:=by unfold mX;rw [ek];simp
 obtain⟨us,T,cap,hh,w8,By,dK,hle,ga,iU⟩:=r.HC hm ha
 obtain⟨ly,_⟩:=uv hs
 have hGo : ∀ q,M.G (M.mu o) q=none:=r.ji o yw
 have si:B.w.heap.size≤M.mu o:=e.pR o (.inl hn) yw
 let M':Map:= {M with G:=fun b q=>if b=M.mu o then us[q]? else M.G b q}
 have mc : ∀ b,b≠M.mu o→∀ q,M'.G b q=M.G b q:=fun b hb q=>if_neg hb
 have le:Le M s M' s:=⟨fun b q v hq=>by
  by_cases hb:b=M.mu o
  ·subst hb;rw [hGo]at hq;cases hq
  ·rw [mc b hb];exact hq,Nat.le_refl _,fun _ _=> .refl _,Nat.le_refl _,fun t n' _ e=>⟨n',e,Nat.le_refl _,fun _=>rfl⟩⟩
 -- the rows are among the cells
 have qs : ∀ (i:Nat) (row:List D) (j:Nat) (d:D),rows[i]? = some row→row[j]? = some d→rows.flatten[i*z+j]? = some d:=by
  have gen : ∀ (rows:List (List D)),(∀ row∈rows,row.length=z)→∀ (i:Nat) (row:List D) (j:Nat) (d:D),rows[i]? = some row→row[j]? = some d→rows.flatten[i*z+j]? = some d:=by
   intro rows
   induction rows with
   | nil=>intro _ i row j d e1;simp at e1
   | cons a rows ih=>
    intro hs i row j d e1 e2
    have tv:=hs a (List.mem_cons_self ..)
    rw [List.flatten_cons]
    cases i with
    | zero=>
     simp at e1;subst e1
     rw [Nat.zero_mul,Nat.zero_add,List.getElem?_append_left (List.getElem?_eq_some_iff.1 e2).1];exact e2
    | succ i=>
     rw [List.getElem?_append_right (by rw [Nat.add_mul];omega),tv,show(i+1)*z+j - z=i*z+j by rw [Nat.add_mul];omega]
     exact ih (fun q hq=>hs q (List.mem_cons_of_mem _ hq)) i row j d (by simpa using e1) e2
  exact gen rows hs
 have g1 : ∀ (i:Nat) (row:List D) (j:Nat) (d:D),rows[i]? = some row→row[j]? = some d→∃ u,M'.G (M.mu o) (0+(i*z+j))=some u:=fun i row j d e1 e2=>by
  have hF:=(List.getElem?_eq_some_iff.1 (qs i row j d e1 e2)).1
  refine⟨us[i*z+j]'(by omega), ?_⟩
  show(if M.mu o=M.mu o then us[0+(i*z+j)]? else _)=_
  rw [if_pos rfl,Nat.zero_add]
  exact Array.getElem?_eq_getElem _
 have g2 : ∀ (i:Nat) (row:List D) (j:Nat) (d:D) (u:Value),rows[i]? = some row→row[j]? = some d→M'.G (M.mu o) (0+(i*z+j))=some u→RD M' s d u:=fun i row j d u e1 e2 eu=>by
  have Dx:(if M.mu o=M.mu o then us[0+(i*z+j)]? else M.G (M.mu o) (0+(i*z+j)))=some u:=eu
  rw [if_pos rfl,Nat.zero_add]at Dx
  exact(iU _ d u (qs i row j d e1 e2) Dx).mono le
 have conv : ∀ {d:D} {v:Value},RD M s d v→RD M' (s.cut o s.aA.length) ((d.fG o g rows).fg o s.aA.length) v:=fun hd=>((hd.mono le).fG (M:=M') hm w8 hs g1 g2).fg o s.aA.length
 have rc:=r.cut o s.aA.length
 have ec:=e.cut hn e.le.t
 have hF : ∀ q,q<(s.cut o s.aA.length).aw.length→q<s.aw.length∧q≠o:=fun q h=>by rw [jX]at h;omega
 have KX:(s.cut o s.aA.length).aA=s.aA:=by simp [St.cut]
 have hlen:dR.length=min o s.aw.length:=by rw [← oo.len];simp
 have Qt:Le M (s.cut o s.aA.length) M' (s.cut o s.aA.length):=⟨le.G,Nat.le_refl _,fun _ _=> .refl _,Nat.le_refl _,fun t n' _ e=>⟨n',e,Nat.le_refl _,fun _=>rfl⟩⟩
 have les:Le M' (s.cut o s.aA.length) M' ⟨dR,s.aA⟩:=⟨fun _ _ _ h=>h,by rw [jX];simp only;omega,fun _ _=> .refl _,by simp [St.cut],fun t n' _ e=>⟨n',by rw [KX];exact e,Nat.le_refl _,fun _=>rfl⟩⟩
 refine⟨M',⟨(ec.le.trans Qt).trans les,ec.kept,fun q h3 h4=> ?_,fun t b c z hl hb=> ?_,fun b q eJ=> ?_,ec.size,ec.os,ec.tape,ec.output⟩,⟨fun b q v hq=> ?_,fun q ds hq=> ?_,fun q hq pU=> ?_,fun q q' hq k7=> ?_,fun t n' Fv=> ?_,fun t b c z q hl hb hq=> ?_,fun t t' b c z c' z' hl me=> ?_⟩,fun k=> ?_,h1,h2⟩
 ·exact ec.pR q h3 (by rw [jX];simp only [hlen]at h4;exact h4)
 ·exact ec.o7 t b c z (by obtain⟨n,hn⟩:=hl;exact⟨n,by rw [KX];exact hn⟩) hb
 ·by_cases hb:b=M.mu o
  ·subst hb;exact .inl si
  ·rw [mc b hb]at eJ;exact ec.pS b q eJ
 ·have k7:(if b=M.mu o then us[q]? else M.G b q)=some v:=hq
  by_cases hb:b=M.mu o
  ·rw [if_pos hb]at k7
   rw [hb,iJ hh]
   exact⟨k7,ga v (Array.mem_of_getElem? k7)⟩
  ·rw [if_neg hb]at k7
   exact r.comm b q v k7
 ·have BA:=(List.getElem?_eq_some_iff.1 hq).1
  have sB:q<o:=by simp only [hlen]at BA;omega
  have hqs:q<s.aw.length:=by omega
  obtain⟨HU,acE⟩ : ∃ HU,s.aw[q]? = some HU:=⟨_,List.getElem?_eq_getElem hqs⟩
  obtain⟨vs,T',h3,h4,h5,h6⟩:=r.obj q HU acE
  obtain⟨r1,uR,hw⟩:=oo.get hq
  have aoM:r1=DW o g rows o s.aA.length HU:=by
   rw [List.getElem?_map,List.getElem?_take_of_lt sB,acE]at uR
   simpa using uR.symm
  subst aoM
  refine⟨vs,T',h3,by rw [← hw.len];simp [DW,kQ,nK,h4],h5,fun i d v e1 e2=> ?_⟩
  obtain⟨d1,IZ,hwd⟩:=hw.get e1
  simp only [DW,kQ,nK,List.getElem?_map,Option.map_eq_some_iff]at IZ
  obtain⟨d2,⟨d3,hd3,rfl⟩,rfl⟩:=IZ
  exact(hwd _ _ _ (conv (h6 i d3 v hd3 e2))).mono les
 ·have BA:q<o:=by simp only [hlen]at hq;omega
  show M'.G (M.mu q) pU=none
  rw [mc _ (fun e=>by have:=r.inj q o (by omega) yw e;omega)]
  exact r.ji q (by omega) pU
 ·simp only [hlen]at hq k7
  exact r.inj q q' (by omega) (by omega)
 ·rcases r.tok t n' Fv with h3 | ⟨b,cap,z,fy,T',h3,h4,h5,h6,h7⟩
  ·exact .inl h3
  ·refine .inr ⟨b,cap,z,fy,T',h3,h4,h5,h6,fun pU yc=> ?_,h7.2⟩
   rw [mc _ (fun e=>r.eW t b cap z o ⟨n',Fv⟩ h3 yw e.symm)]
   exact h7.1 pU yc
 ·simp only [hlen]at hq
  exact r.eW t b c z q hl hb (by omega)
 ·exact r.fR t t' b c z c' z' hl me
 ·exact(ht.get k _ _ _ (conv (hr k))).mono les
theorem bk.UB {a:AC} {Q:Exit→Tm→St→Prop} {tm:Tm} {s:St} (o g z:Nat) (rows:List (List D)) (bt:Tm) (dR:List (List D)) (hn:B.s.aw.length≤o) (ek:s.aw[o]? = some (.int .i64 (g:Int)::rows.flatten)) (hz : ∃ k l,tm.get k = .eB z o g l∨∃ (q:Nat) (ds:List D),s.aw[q]? = some ds∧ds[k]? = some (.eB z o g l))
 (hs : ∀ row∈rows,row.length=z) (ht:DX o g rows s.aA.length tm bt) (oo:gU ((s.aw.take o).map (DW o g rows o s.aA.length)) dR)
 (h:bk P B nt a Q bt ⟨dR,s.aA⟩):bk P B nt a Q tm s:=fun c hc act w hh=>h c hc act w (hh.UB o g z rows bt dR hn ek hz hs ht oo)
end
end Go.Abs

/-! WpA -/

namespace Go.Abs
section
variable (s:St) (o g off len k z size bytes:Nat) (kk:IntKind)
theorem afM:mX s o g=match s.aw[o]? with | some (.int .i64 n::cells)=>if n=(g:Int)then some cells else none | _=>none:=nd rfl
theorem acF (agg:Bool):xX (.fj o g off) agg size s=match mX s o g with | some cells=>(match part cells off agg size with | some d=>some (d,s) | none=>none) | none=>none:=nd rfl
theorem YB (r:List D):zD (.fj o g off) (some r) size s=match mX s o g with
 | some cells=>if r.length=size∧off+size≤cells.length then some (.tuple [],⟨s.aw.set o (.int .i64 g::fS cells off r),s.aA⟩)else none
 | none=>none:=nd rfl
theorem afN:Lo (.fj o g off)=some (.fj o g off):=nd rfl
theorem YC:Cz (.fj o g k) off=some (.fj o g (k+off)):=nd rfl
theorem YD:wW (.eB z o g len) (.int kk (k:Int)) size=if k<len then(if z=size then some (.fj o g (k*z))else none)else none:=by
 simp only [wW]
 by_cases h1:k<len <;> by_cases h2:z=size <;> simp [h1,h2]
theorem afO:Ef (.eB z o g len)=some (.int .i64 len):=nd rfl
theorem acG:Ef (.fu z)=some (.int .i64 0):=nd rfl
theorem YE {s:St} {o g len z bytes:Nat} {t:Tag} {cells r:List D} (hs:s.aw[o]? = some (.int .i64 (g:Int)::cells)) (hl:cells.length=len*z) (hm:(len+1)*(bytes+1)≤bm) :
 zE z bytes (.eB z o g len) (.slice t z [r]) s=some (.eB z o (g+1) (len+1),⟨s.aw.set o (.int .i64 ((g+1:Nat):Int)::(cells++r)),s.aA⟩):=by
 have ha:mX s o g=some cells:=by unfold mX;rw [hs];simp
 simp only [zE,ha,List.length_singleton,hm,hl,or_true,and_self,if_true,Nat.le_refl,List.flatten_cons,List.flatten_nil,List.append_nil]
 rw [List.take_of_length_le (by omega)]
theorem UC {z bytes:Nat} (t:Tag) (r:List D) (s:St) (hm:bytes+1≤bm):zE z bytes (.fu z) (.slice t z [r]) s=some (.eB z s.aw.length 0 1,⟨s.aw++ [.int .i64 ((0:Nat):Int)::r],s.aA⟩):=by
 simp [zE,hm]
theorem afP (n m:Nat):D.fg n m (.eB z o g len)=if o<n then .eB z o g len else .junk:=nd (by simp only [D.fg])
theorem afQ (n m:Nat):D.fg n m (.fj o g off)=if o<n then .fj o g off else .junk:=nd (by simp only [D.fg])
theorem afR (n m:Nat):D.fg n m (.fu z) = .fu z:=nd (by simp only [D.fg])
theorem acH:(D.eB z o g len).row=some [.eB z o g len]:=nd rfl
theorem acI:(D.fj o g off).row=some [.fj o g off]:=nd rfl
theorem acJ:(D.fu z).row=some [.fu z]:=nd rfl
end
attribute [go_sem] afM acF YB afN YC YD afO acG afP afQ afR acH acI acJ
theorem Wk.fu (z z':Nat):Wk (.slice .full z []) (.fu z'):=fun M s v h=>by
 cases h with
 | iP _ _ cap hc ht=>subst hc;exact .fu z' none
 | slice _ _ _ b k cap hl hs h1 h2 ht=>
  have:cap=0:=ht
  subst this
  exact .fu z' _
instance (z z':Nat):Ok (Wk (.slice .full z []) (.fu z')):=⟨Wk.fu z z'⟩
instance {a a' b b':List D} [Ok (jH a a')] [Ok (jH b b')] : Ok (jH (a++b) (a'++b')):=⟨jH.append Ok.out Ok.out⟩
theorem afS (n m:Nat) (a b:List D):D.gw n m (a++b)=D.gw n m a++D.gw n m b:=nd (by simp only [kQ,List.map_append])
attribute [go_sem] afS
theorem u5 {α:Type} (f:α→List D) (n:Nat) (h : ∀ a,(f a).length=n) : ∀ l:List α,((l.map f).flatten).length=l.length*n
 | []=>by simp
 | a::l=>by simp [h a,u5 f n h l,Nat.add_mul,Nat.add_comm]
theorem Ol {α:Type} (f:α→List D) (n:Nat) (h : ∀ a,(f a).length=n) (a b:List α) (x y:α) (k:Nat) (r:List D) (hy:f y=fS (f x) k r) (hk:k+r.length≤n) :
 fS (((a++x::b).map f).flatten) (a.length*n+k) r=((a++y::b).map f).flatten:=by
 have tv:=u5 f n h a
 have hx:=h x
 unfold fS
 simp only [List.map_append,List.map_cons,List.flatten_append,List.flatten_cons,hy]
 unfold fS
 have e1:((a.map f).flatten++(f x++(b.map f).flatten)).take (a.length*n+k)=(a.map f).flatten++(f x).take k:=by
  rw [List.take_append,tv,List.take_of_length_le (by omega),show a.length*n+k - a.length*n=k by omega,List.take_append_of_le_length (by omega)]
 have e2:((a.map f).flatten++(f x++(b.map f).flatten)).drop (a.length*n+k+r.length)=(f x).drop (k+r.length)++(b.map f).flatten:=by
  rw [List.drop_append,tv,List.drop_eq_nil_of_le (by omega),show a.length*n+k+r.length - a.length*n=k+r.length by omega,List.drop_append_of_le_length (by omega)]
  simp
 rw [e1,e2]
 simp only [List.append_assoc]
def yP (os:List Nat) (m:Nat) (aw:List (List D)):List Nat→List (List D)→Prop
 | [],[]=>True
 | o::l,ds::r=>aw[o]? = some (D.dW os (List.range m) ds)∧D.bp os.length m ds=true∧yP os m aw l r
 | _,_=>False
theorem yP.get {os:List Nat} {m:Nat} {aw:List (List D)} : ∀ {l:List Nat} {r:List (List D)},yP os m aw l r→r.length=l.length∧∀ (i o:Nat) (ds:List D),l[i]? = some o→r[i]? = some ds→aw[o]? = some (D.dW os (List.range m) ds)∧D.bp os.length m ds=true
 | [],[],_=>⟨rfl,fun i o ds h=>by simp at h⟩
 | o::l,ds::r,⟨h1,h2,h3⟩=>by
  obtain⟨g1,g2⟩:=h3.get
  refine⟨by simp [g1],fun i o' mS e1 e2=> ?_⟩
  cases i with
  | zero=>simp at e1 e2;subst e1 e2;exact⟨h1,h2⟩
  | succ i=>exact g2 i o' mS (by simpa using e1) (by simpa using e2)
 | [],_::_,h=>h.elim
 | _::_,[],h=>h.elim
section
variable {P:Program} {B:fv} {nt:Nat} {a:AC} {Q:Exit→Tm→St→Prop} {tm:Tm} {s:St}
theorem bk.acK (hB:B.s = ⟨[],[]⟩) (os:List Nat) (dR:List (List D)) (bt:Tm) (tr:os.Nodup) (kN : ∀ o∈os,o<s.aw.length) (oo:yP os s.aA.length s.aw os dR) (Rj:AT os (List.range s.aA.length) tm bt)
 (h:bk P B nt a Q bt ⟨dR,s.aA⟩):bk P B nt a Q tm s:=
 bk.AU os dR bt tr kN (by rw [hB];exact Nat.zero_le _) (fun i h=>by rw [hB]at h;exact absurd h (Nat.not_lt_zero _)) (fun i o _ _=>by rw [hB];exact Nat.zero_le _) oo.get.1 oo.get.2 Rj h
end
section
variable (os ts:List Nat) (n m:Nat)
theorem afT (o off:Nat):D.cb os ts (.ptr o off)=match os[o]? with | some o'=> .ptr o' off | none=> .junk:=nd (by simp only [D.cb];rfl)
theorem afU (z o g len:Nat):D.cb os ts (.eB z o g len)=match os[o]? with | some o'=> .eB z o' g len | none=> .junk:=nd (by simp only [D.cb];rfl)
theorem YF (g:Tag) (z:Nat) (rows:List (List D)):D.cb os ts (.slice g z rows) = .slice (g.cb ts) z (D.om os ts rows):=nd (by simp only [D.cb])
theorem afV (l:List D):D.cb os ts (.agg l) = .agg (D.dW os ts l):=nd (by simp only [D.cb])
theorem acL:D.cb os ts .junk = .junk:=nd (by simp only [D.cb])
theorem afW (k:IntKind) (x:Int):D.cb os ts (.int k x) = .int k x:=nd (by simp only [D.cb])
theorem acM (b:Bool):D.cb os ts (.bool b) = .bool b:=nd (by simp only [D.cb])
theorem afX (l:List UInt8):D.cb os ts (.str l) = .str l:=nd (by simp only [D.cb])
theorem acN:D.cb os ts .eO = .eO:=nd (by simp only [D.cb])
theorem acO (z:Nat):D.cb os ts (.fu z) = .fu z:=nd (by simp only [D.cb])
theorem YG:D.dW os ts [] = []:=nd (by simp only [D.dW])
theorem YH (d:D) (l:List D):D.dW os ts (d::l)=D.cb os ts d::D.dW os ts l:=nd (by simp only [D.dW])
theorem UD:Tag.cb ts .shared = .shared:=nd rfl
theorem acP:Tag.cb ts .full = .full:=nd rfl
theorem YI (o off:Nat):D.ok n m (.ptr o off)=decide (o<n):=nd (by simp only [D.ok])
theorem YJ (z o g len:Nat):D.ok n m (.eB z o g len)=decide (o<n):=nd (by simp only [D.ok])
theorem Rl (g:Tag) (z:Nat) (rows:List (List D)):D.ok n m (.slice g z rows)=(g.ok m && D.hO n m rows):=nd (by simp only [D.ok])
theorem YK (l:List D):D.ok n m (.agg l)=D.bp n m l:=nd (by simp only [D.ok])
theorem UE:D.ok n m .junk=true:=nd (by simp only [D.ok])
theorem YL (k:IntKind) (x:Int):D.ok n m (.int k x)=true:=nd (by simp only [D.ok])
theorem UF (b:Bool):D.ok n m (.bool b)=true:=nd (by simp only [D.ok])
theorem YM (l:List UInt8):D.ok n m (.str l)=true:=nd (by simp only [D.ok])
theorem UG:D.ok n m .eO=true:=nd (by simp only [D.ok])
theorem UH (z:Nat):D.ok n m (.fu z)=true:=nd (by simp only [D.ok])
theorem acQ:D.bp n m [] = true:=nd (by simp only [D.bp])
theorem acR (d:D) (l:List D):D.bp n m (d::l)=(D.ok n m d && D.bp n m l):=nd (by simp only [D.bp])
theorem Om:Tag.ok m .shared=true:=nd rfl
theorem UI:Tag.ok m .full=true:=nd rfl
theorem YN (os:List Nat) (m:Nat) (aw:List (List D)):yP os m aw [] [] = True:=nd rfl
theorem YO (os:List Nat) (m:Nat) (aw:List (List D)) (o:Nat) (l:List Nat) (ds:List D) (r:List (List D)):yP os m aw (o::l) (ds::r)=(aw[o]? = some (D.dW os (List.range m) ds)∧D.bp os.length m ds=true∧yP os m aw l r):=nd rfl
theorem acS (tm:Tm):AT os ts tm [] = True:=nd rfl
theorem acT (tm:Tm) (k:Nat) (d:D) (r:Tm):AT os ts tm ((k,d)::r)=(tm.get k=d.cb os ts∧d.ok os.length ts.length=true∧AT os ts tm r):=nd rfl
theorem Jr (rows:List (List D)) (h:D.hO 0 0 rows=true):D.om os ts rows=rows:=iL os ts rows h
theorem DY (row:List D) (h:D.bp 0 0 row=true):D.dW os ts row=row:=eY os ts row h
theorem On (rows:List (List D)) (h:D.hO 0 0 rows=true):D.hO n m rows=true:=lM (Nat.zero_le n) (Nat.zero_le m) rows h
theorem Hj (row:List D) (h:D.bp 0 0 row=true):D.bp n m row=true:=gS (Nat.zero_le n) (Nat.zero_le m) row h
theorem E7 (p:Pg):D.dW os ts (bC p)=bC p:=DY _ _ _ (gl p)
theorem Lh (p:Sm):D.dW os ts (aU p)=aU p:=DY _ _ _ (jZ p)
theorem Cr (l:List Pc):D.om os ts (l.map bq)=l.map bq:=Jr _ _ _ (vy l)
theorem UJ (l:List Sm):D.om os ts (l.map aU)=l.map aU:=Jr _ _ _ (jD l)
theorem oK (l:List aC):D.om os ts (l.map encStr)=l.map encStr:=Jr _ _ _ (eC l)
theorem E8 (p:Pc):D.dW os ts (bq p)=bq p:=DY _ _ _ (wq p)
theorem Js (p:Pc):D.bp n m (bq p)=true:=Hj _ _ _ (wq p)
theorem Jt (p:Pg):D.bp n m (bC p)=true:=Hj _ _ _ (gl p)
theorem Rm (p:Sm):D.bp n m (aU p)=true:=Hj _ _ _ (jZ p)
theorem E9 (l:List Pc):D.hO n m (l.map bq)=true:=On _ _ _ (vy l)
theorem YP (l:List Sm):D.hO n m (l.map aU)=true:=On _ _ _ (jD l)
theorem u6 (l:List aC):D.hO n m (l.map encStr)=true:=On _ _ _ (eC l)
theorem DZ : ∀ l:List Pc,D.bp 0 0 ((l.map bq).flatten)=true:=fun l=>by
 have h:=vy l
 rw [CW,List.all_eq_true]at h
 rw [xe,List.all_eq_true]
 intro d hd
 obtain⟨r,hr,hd⟩:=List.mem_flatten.1 hd
 have:=h r hr
 rw [xe,List.all_eq_true]at this
 exact this d hd
theorem u7 (l:List Pc):D.dW os ts ((l.map bq).flatten)=(l.map bq).flatten:=DY _ _ _ (DZ l)
theorem xR (l:List Pc):D.bp n m ((l.map bq).flatten)=true:=Hj _ _ _ (DZ l)
theorem YQ (l:List Pc):D.gw n m ((l.map bq).flatten)=(l.map bq).flatten:=ib _ _ _ (DZ l)
end
attribute [go_sem] E8 Js afT afU YF afV acL afW acM afX acN acO YG YH UD acP YI YJ Rl YK UE YL UF YM UG UH acQ acR Om UI YN YO acS acT E7 Lh Cr UJ oK Jt Rm E9 YP u6 u7 xR YQ
mutual
theorem acU (o g:Nat) (rows:List (List D)) : ∀ d,D.ok 0 0 d=true→D.fG o g rows d=d
 | .junk,_=>by simp [D.fG]
 | .int k n,_=>by simp [D.fG]
 | .bool b,_=>by simp [D.fG]
 | .str l,_=>by simp [D.fG]
 | .eO,_=>by simp [D.fG]
 | .val v,_=>by simp [D.fG]
 | .fu z,_=>by simp [D.fG]
 | .fi T o,h=>by simp [D.ok]at h
 | .fQ o,h=>by simp [D.ok]at h
 | .eB z o g len,h=>by simp [D.ok]at h
 | .fj o g off,h=>by simp [D.ok]at h
 | .ptr o f,h=>by simp [D.ok]at h
 | .gb f cs,h=>by
  simp only [D.ok]at h
  simp only [D.fG,rS o g rows cs h]
 | .dE r f,h=>by
  simp only [D.ok]at h
  simp only [D.fG,rS o g rows r h]
 | .slice t z rs,h=>by
  simp only [D.ok,Bool.and_eq_true]at h
  simp only [D.fG,xS o g rows rs h.2]
 | .agg cs,h=>by
  simp only [D.ok]at h
  simp only [D.fG,rS o g rows cs h]
 | .tuple cs,h=>by
  simp only [D.ok]at h
  simp only [D.fG,rS o g rows cs h]
theorem rS (o g:Nat) (rows:List (List D)) : ∀ l,D.bp 0 0 l=true→D.ky o g rows l=l
 | [],_=>by simp [D.ky]
 | d::r,h=>by
  simp only [D.bp,Bool.and_eq_true]at h
  simp only [D.ky,acU o g rows d h.1,rS o g rows r h.2]
theorem xS (o g:Nat) (rows:List (List D)) : ∀ l,D.hO 0 0 l=true→D.q8 o g rows l=l
 | [],_=>by simp [D.q8]
 | d::r,h=>by
  simp only [D.hO,Bool.and_eq_true]at h
  simp only [D.q8,rS o g rows d h.1,xS o g rows r h.2]
end
section
variable (o g:Nat) (rows:List (List D)) (n m:Nat)
theorem afY (q off:Nat):D.fG o g rows (.ptr q off) = .ptr q off:=nd (by simp only [D.fG])
theorem acV (q h off:Nat):D.fG o g rows (.fj q h off) = .fj q h off:=nd (by simp only [D.fG])
theorem afZ (z o' g' len:Nat):D.fG o g rows (.eB z o' g' len)=if o'=o∧g'=g∧len=rows.length then .slice .shared z rows else .eB z o' g' len:=nd (by simp only [D.fG])
theorem YR (t:Tag) (z:Nat) (rs:List (List D)):D.fG o g rows (.slice t z rs) = .slice t z (D.q8 o g rows rs):=nd (by simp only [D.fG])
theorem af0 (l:List D):D.fG o g rows (.agg l) = .agg (D.ky o g rows l):=nd (by simp only [D.fG])
theorem acW:D.fG o g rows .junk = .junk:=nd (by simp only [D.fG])
theorem af1 (k:IntKind) (x:Int):D.fG o g rows (.int k x) = .int k x:=nd (by simp only [D.fG])
theorem acX (b:Bool):D.fG o g rows (.bool b) = .bool b:=nd (by simp only [D.fG])
theorem af2 (l:List UInt8):D.fG o g rows (.str l) = .str l:=nd (by simp only [D.fG])
theorem YS:D.ky o g rows [] = []:=nd (by simp only [D.ky])
theorem YT (d:D) (l:List D):D.ky o g rows (d::l)=D.fG o g rows d::D.ky o g rows l:=nd (by simp only [D.ky])
theorem aoN (p:Pg):D.ky o g rows (bC p)=bC p:=rS _ _ _ _ (gl p)
theorem af3 (l:List Pc):D.q8 o g rows (l.map bq)=l.map bq:=xS _ _ _ _ (vy l)
theorem af4 (l:List Sm):D.q8 o g rows (l.map aU)=l.map aU:=xS _ _ _ _ (jD l)
theorem acY (l:List aC):D.q8 o g rows (l.map encStr)=l.map encStr:=xS _ _ _ _ (eC l)
theorem af5 (ds:List D):DW o g rows n m ds=D.gw n m (D.ky o g rows ds):=nd rfl
theorem acZ (tm:Tm):DX o g rows m tm [] = True:=nd rfl
theorem ac0 (tm:Tm) (k:Nat) (d:D) (r:Tm):DX o g rows m tm ((k,d)::r)=(Wk (((tm.get k).fG o g rows).fg o m) d∧DX o g rows m tm r):=nd rfl
end
attribute [go_sem] afY acV afZ YR af0 acW af1 acX af2 YS YT aoN af3 af4 acY af5 acZ ac0
theorem aB.AU {P:Program} {f:FuncId} {args:List D} {d d':D} {aw dR:List (List D)} (os:List Nat) (h:aB P f args S0 d ⟨aw,[]⟩) (tr:os.Nodup) (kN : ∀ o∈os,o<aw.length) (ho:dR.length=os.length)
 (oo : ∀ (i o:Nat) (ds:List D),os[i]? = some o→dR[i]? = some ds→aw[o]? = some (D.dW os [] ds)∧D.bp os.length 0 ds=true) (hd:d'.cb os [] = d) (BE:d'.ok os.length 0=true):aB P f args S0 d' ⟨dR,[]⟩:=by
 intro M0 w0 fY r0 jR TY ha
 refine(h M0 w0 fY r0 jR TY ha).mono ?_
 rintro en w ⟨M,d1,v,s',rfl,⟨rfl,rfl⟩,e,r,hv⟩
 have r1:Rel (fE M os []) ⟨dR,[]⟩ w:=r.sub tr List.nodup_nil kN ho oo rfl (fun i t h=>by simp at h)
 have loc : ∀ (i:Nat) o,os[i]? = some o→(fE M os []).loc i=M.loc o:=fun i o h=>by simp only [fE,rC h]
 refine⟨fE M os [],d',v,_,rfl,⟨rfl,rfl⟩,⟨⟨e.le.G,Nat.zero_le _,fun o h=>absurd h (Nat.not_lt_zero _),Nat.zero_le _,fun t n' h=>absurd h (Nat.not_lt_zero _)⟩,fun b hb _ _=>e.kept b hb (fun o h=>absurd h (Nat.not_lt_zero _)) (fun t c z ⟨n,hn⟩=>by simp [S0]at hn),fun o h3 h4=> ?_,
  fun t b c z ⟨n,hn⟩=>by simp at hn,e.pS,e.size,e.os,e.tape,e.output⟩,r1, ?_⟩
 ·simp only at h4
  rw [ho]at h4
  obtain⟨q,hq⟩ : ∃ q,os[o]? = some q:=⟨_,List.getElem?_eq_getElem h4⟩
  rw [show(fE M os []).mu o=M.mu q from congrArg Prod.fst (loc o q hq)]
  exact e.pR q (.inl (Nat.zero_le _)) (kN q (List.mem_of_getElem? hq))
 ·exact RD.A5 (M:=M) (M0:=fE M os []) (s:=⟨aw,[]⟩) (s0:=⟨dR,[]⟩) rfl loc ho (fun i t h=>by simp at h) (fun i t h=>by simp at h) rfl hv _ hd BE
theorem aB.W4 {P:Program} {f:FuncId} {args row:List D} {d:D} (h:aB P f args S0 d ⟨[row],[]⟩) (ha:D.bp 0 0 args=true) (hr:D.bp 0 0 row=true) (s:St):aB P f args s (d.cb [s.aw.length] []) ⟨s.aw++ [row],s.aA⟩:=by
 refine dV.frame [] [] h List.nodup_nil List.nodup_nil (by simp) (by simp) rfl (by simp) rfl (by simp) (by rw [eY _ _ _ ha]) ha ?_
 rintro _ _ ⟨rfl,rfl⟩
 refine⟨by simp [D.back,jf], ?_⟩
 simp [St.back,jG,jf,eY _ _ _ hr]
end Go.Abs

/-! Cp3 -/

namespace Go.Abs
set_option maxRecDepth 8000
open Go.Proofs
theorem Rn (l:List Pc):((l.map bq).flatten).length=l.length*5:=u5 bq 5 (fun f=>rfl) l
def Bk:List D:= [.junk, .junk, .junk, .junk, .junk]
abbrev Hk (procs:List Pc) (k:Int):Tm:= [(3, .ptr 1 0),(4, .ptr 2 0),(5, .ptr 3 0),(14, .slice .shared 5 (procs.map bq)),(15, .int .i64 (procs.length:Int)),(16, .int .i64 k)]
abbrev nk (l:List Pc):List D:= .int .i64 ((l.length - 1:Nat):Int)::(l.map bq).flatten
theorem af6 {globals:List aC} {procs:List Pc} (hp:(⟨globals,procs⟩:Pg).size<1000000) (h0:procs≠ []) {t:Sm} (ht:t.yO<10000000) {R:List Pc} (hR:procs.map (Pc.fl (eH t))=R) :
 aB Tryz.prog ng [.agg (bC ⟨globals,procs⟩), .agg (aU t)] S0 (.agg [.slice .shared 1 (globals.map encStr), .eB 5 4 (R.length - 1) R.length])
  ⟨[bC ⟨globals,procs⟩,aU t,[.junk, .junk],[.junk, .junk],nk R],[]⟩:=by
 simp only [Pg.size]at hp
 have hlen:procs.length<1000000:=by have:=Pc.cP procs;omega
 have hG:=fun s=>o4 (l:=globals) (by omega) s
 unfold S0
 refine aB.goK 5 0 (Nat.zero_le _) (Nat.zero_le _) Ah rfl fun B Q hB hQ=> ?_
 have⟨hF,hP,hZ,gA⟩:=bH
 obtain⟨y0,Oo,IY⟩ : ∃ y r,procs.drop 0=y::r:=by
  cases procs with
  | nil=>exact absurd rfl h0
  | cons y r=>exact⟨y,r,rfl⟩
 obtain⟨yq,g20,aoO,g40⟩:=drop_cons IY
 have Oq:decide ((0:Int)<(procs.length:Int))=true:=by simpa using aoO
 have hR0:Pc.fl (eH t) y0::Oo.map (Pc.fl (eH t))=R:=by
  have:procs=y0::Oo:=by simpa using IY
  rw [← hR,this];rfl
 have dH:(1:Nat)*113≤bm:=by simp only [bm];omega
 have fZ:=fun(tg:Tag) (r:List D) (s:St)=>UC (z:=5) (bytes:=112) tg r s (by simp only [bm];omega)
 -- the rounds behind the first one
 have loop:bk Tryz.prog B 47 QXE (ie 0 (jQ (gC Tryz.prog B 47 QXJ Q) Q)) (Hk procs ((1:Nat):Int)) ⟨[bC ⟨globals,procs⟩,aU t,[.junk, .junk],[.slice .shared 1 (globals.map encStr), .eB 5 4 0 1],nk [Pc.fl (eH t) y0]],[]⟩:=by
  refine bk.ind (ι:=List Pc×Nat×List Pc) (fun i=>procs.drop i.2.1=i.1∧i.2.1=i.2.2.length∧0<i.2.2.length∧i.2.2++i.1.map (Pc.fl (eH t))=R) (fun i=>i.1.length)
   (fun i=>Hk procs (i.2.1:Int)) (fun i=>⟨[bC ⟨globals,procs⟩,aU t,[.junk, .junk],[.slice .shared 1 (globals.map encStr), .eB 5 4 (i.2.2.length - 1) i.2.2.length],nk i.2.2],[]⟩) ?_ (Oo,1,[Pc.fl (eH t) y0]) ⟨g20,rfl,Nat.zero_lt_one,hR0⟩
  rintro⟨rest,k,acc⟩ ⟨h1,h2,h3,h4⟩ IH
  dsimp only at h1 h2 h3 h4
  subst h2
  have tv:acc.length≤procs.length:=by
   have:=congrArg List.length h4
   rw [← hR]at this
   simp at this;omega
  cases rest with
  | nil=>
   have hF:=drop_nil h1
   simp only [List.map_nil,List.append_nil]at h4
   subst h4
   repeat' (first
 | simp only [go_sem,hF,hP,hZ,gA]
 | (with_reducible first | refine bw fun hc=> ?_ | refine bx fun hc=> ?_ | refine bA (fun hc=> ?_) fun hc=> ?_) <;> (try simp only [hc,bs, ↓reduceIte]at h) <;> try simp only [hc]
 | (with_reducible refine aG hQ ?_;exact jS)
 | (cases h;done))
  | cons y rest=>
   obtain⟨hP,g2,hF,g4⟩:=drop_cons h1
   have dK:=Pc.bV (List.mem_of_getElem? hP)
   obtain⟨name,params,vars,body,fin⟩:=y
   simp only [Pc.size]at dK
   have hk:acc.length<4611686018427387904:=by omega
   have c1:=fun s=>o4 (l:=vars) (by omega) s
   have c2:=fun s=>o4 (l:=fin) (by omega) s
   have c3:=fun s=>Jq ht (l:=body) (by omega) s
   have e2:Pc.fl (eH t) ⟨name,params,vars,body,fin⟩ = ⟨name,params,vars,Sm.jd (eH t) body,fin⟩:=rfl
   have Li:=fun(tg:Tag) (r a b c d e f:List D) (T:List (Option Nat))=>YE (s:=⟨[a,b,c,d,nk acc,e,f],T⟩) (o:=4) (g:=acc.length - 1) (len:=acc.length) (z:=5) (bytes:=112) (t:=tg) (r:=r) rfl (Rn acc) (by unfold bm;omega)
   have e3:acc.length - 1+1=acc.length:=by omega
   have e6 : ∀ f:Pc,nk (acc++ [f]) = .int .i64 (acc.length:Int)::((acc.map bq).flatten++bq f):=fun f=>by simp
   have e7 : ∀ f:Pc,(acc++ [f]).length=acc.length+1:=fun f=>by simp
   cases params with
   | nil=>
    have ha:=fun o T=>yN (size:=2) (bytes:=24) (z:=0) (z':=2) (g:= .shared) o T
    repeat' (first
 | simp only [go_sem,hF,hP,hZ,gA,ha,Li,e3]
 | (with_reducible refine CU (c1 _) ?_)
 | (with_reducible refine CU (c2 _) ?_)
 | (with_reducible refine CU (c3 _) ?_)
 | (with_reducible first | refine bw fun hc=> ?_ | refine bx fun hc=> ?_ | refine bA (fun hc=> ?_) fun hc=> ?_) <;> (try simp only [hc,bs, ↓reduceIte]at h) <;> try simp only [hc]
 | (with_reducible refine aG hQ ?_;(try cases h);simp only [ay,az,bF,bG,go_sem,hF,hP,hZ,gA,ha,Li,e3];try exact mj)
 | (cases h;done))
    refine dZ 5 0 ?_ ?_ (IH (rest,acc.length+1,acc++ [Pc.fl (eH t) ⟨name,[],vars,body,fin⟩]) ⟨g2,by simp,by simp,by rw [← h4];simp⟩ (Nat.lt_succ_self _))
    ·(simp only [go_sem,hF,hP,hZ,gA,aM hk,e2,e3,e6,e7,Nat.add_sub_cancel];try exact bO)
    ·(simp only [go_sem,hF,hP,hZ,gA,aM hk,e2,e3,e6,e7,Nat.add_sub_cancel];try exact bO)
   | cons q params=>
    have ha:=fun o T=>uZ (size:=2) (bytes:=24) (rows:=(q::params).map fK) (by simp) (by simp only [List.length_map];unfold bm;omega) (z:=0) (g:= .shared) o T
    generalize q::params=ps at *
    repeat' (first
 | simp only [go_sem,hF,hP,hZ,gA,ha,Li,e3]
 | (with_reducible refine CU (c1 _) ?_)
 | (with_reducible refine CU (c2 _) ?_)
 | (with_reducible refine CU (c3 _) ?_)
 | (with_reducible first | refine bw fun hc=> ?_ | refine bx fun hc=> ?_ | refine bA (fun hc=> ?_) fun hc=> ?_) <;> (try simp only [hc,bs, ↓reduceIte]at h) <;> try simp only [hc]
 | (with_reducible refine aG hQ ?_;(try cases h);simp only [ay,az,bF,bG,go_sem,hF,hP,hZ,gA,ha,Li,e3];try exact mj)
 | (cases h;done))
    refine dZ 5 0 ?_ ?_ (IH (rest,acc.length+1,acc++ [Pc.fl (eH t) ⟨name,ps,vars,body,fin⟩]) ⟨g2,by simp,by simp,by rw [← h4];simp⟩ (Nat.lt_succ_self _))
    ·(simp only [go_sem,hF,hP,hZ,gA,aM hk,e2,e3,e6,e7,Nat.add_sub_cancel];try exact bO)
    ·(simp only [go_sem,hF,hP,hZ,gA,aM hk,e2,e3,e6,e7,Nat.add_sub_cancel];try exact bO)
 repeat' (first
 | simp only [go_sem,hF,hP,hZ,gA]
 | (with_reducible refine CU (hG _) ?_)
 | (with_reducible first | refine bw fun hc=> ?_ | refine bx fun hc=> ?_ | refine bA (fun hc=> ?_) fun hc=> ?_) <;> (try simp only [hc,bs, ↓reduceIte]at h) <;> try simp only [hc]
 | (with_reducible refine aG hQ ?_;exact jS)
 | (cases h;done))
 refine cU 4 0 (bk.qA (tm:=Hk procs 0) (s:=⟨[bC ⟨globals,procs⟩,aU t,[.junk, .junk],[.slice .shared 1 (globals.map encStr), .fu 5]],[]⟩) ?_)
 have dK:=Pc.bV (List.mem_of_getElem? yq)
 obtain⟨name,params,vars,body,fin⟩:=y0
 simp only [Pc.size]at dK
 have c1:=fun s=>o4 (l:=vars) (by omega) s
 have c2:=fun s=>o4 (l:=fin) (by omega) s
 have c3:=fun s=>Jq ht (l:=body) (by omega) s
 have e2:Pc.fl (eH t) ⟨name,params,vars,body,fin⟩ = ⟨name,params,vars,Sm.jd (eH t) body,fin⟩:=rfl
 have w1:IntKind.wrap .i64 ((0:Int)+1)=((1:Nat):Int):=rfl
 have AU:=bk.acK (P:=Tryz.prog) (a:=QXE) (Q:=ie 0 (jQ (gC Tryz.prog B 47 QXJ Q) Q)) (nt:=47) (tm:=Hk procs ((1:Nat):Int)) (s:=⟨[bC ⟨globals,procs⟩,aU t,[.junk, .junk],[.slice .shared 1 (globals.map encStr), .eB 5 6 0 1],Bk,Bk,nk [Pc.fl (eH t) ⟨name,params,vars,body,fin⟩]],[]⟩)
  hB [0,1,2,3,6] _ _ (by decide) (by simp) (by simp [yP,D.dW,D.cb,D.bp,D.ok,Tag.cb,Tag.ok,E7,Lh,E8,Js,oK,Jt,Rm,u6,u7,xR]) (by simp [AT,Tm.get,D.cb,D.ok,Tag.cb,Tag.ok,Cr,E9]) loop
 have e4:nk [⟨name,params,vars,Sm.jd (eH t) body,fin⟩] = [.int .i64 0, .str name, .slice .shared 2 (params.map fK), .slice .shared 1 (vars.map encStr), .slice .shared 13 ((Sm.jd (eH t) body).map aU), .slice .shared 1 (fin.map encStr)]:=rfl
 cases params with
 | nil=>
  have ha:=fun o T=>yN (size:=2) (bytes:=24) (z:=0) (z':=2) (g:= .shared) o T
  repeat' (first
 | simp only [go_sem,hF,hP,hZ,gA,yq,Oq,dH,ha,fZ]
 | (with_reducible refine CU (c1 _) ?_)
 | (with_reducible refine CU (c2 _) ?_)
 | (with_reducible refine CU (c3 _) ?_)
 | (with_reducible first | refine bw fun hc=> ?_ | refine bx fun hc=> ?_ | refine bA (fun hc=> ?_) fun hc=> ?_) <;> (try simp only [hc,bs, ↓reduceIte]at h) <;> try simp only [hc]
 | (with_reducible refine aG hQ ?_;(try cases h);simp only [ay,az,bF,bG,go_sem,hF,hP,hZ,gA,yq,Oq,dH,ha,fZ];try exact mj)
 | (cases h;done))
  refine dZ 7 0 ?_ ?_ (AU)
  ·(simp only [go_sem,hF,hP,hZ,gA,w1,e2,e4,Bk];try exact bO)
  ·(simp only [go_sem,hF,hP,hZ,gA,w1,e2,e4,Bk];try exact bO)
 | cons q params=>
  have ha:=fun o T=>uZ (size:=2) (bytes:=24) (rows:=(q::params).map fK) (by simp) (by simp only [List.length_map];unfold bm;omega) (z:=0) (g:= .shared) o T
  generalize q::params=ps at *
  repeat' (first
 | simp only [go_sem,hF,hP,hZ,gA,yq,Oq,dH,ha,fZ]
 | (with_reducible refine CU (c1 _) ?_)
 | (with_reducible refine CU (c2 _) ?_)
 | (with_reducible refine CU (c3 _) ?_)
 | (with_reducible first | refine bw fun hc=> ?_ | refine bx fun hc=> ?_ | refine bA (fun hc=> ?_) fun hc=> ?_) <;> (try simp only [hc,bs, ↓reduceIte]at h) <;> try simp only [hc]
 | (with_reducible refine aG hQ ?_;(try cases h);simp only [ay,az,bF,bG,go_sem,hF,hP,hZ,gA,yq,Oq,dH,ha,fZ];try exact mj)
 | (cases h;done))
  refine dZ 7 0 ?_ ?_ (AU)
  ·(simp only [go_sem,hF,hP,hZ,gA,w1,e2,e4,Bk];try exact bO)
  ·(simp only [go_sem,hF,hP,hZ,gA,w1,e2,e4,Bk];try exact bO)
end Go.Abs

/-! Nb1 -/

namespace Go.Abs
set_option maxRecDepth 8000
open Go.Proofs
theorem W5:(⟨-1,0,[],[],[],mU,false,[],[],[]⟩:Sm).yO<10000000:=by decide
def gB:Sm:=⟨-1,0,[],[],[],mU,false,[],[],[]⟩
theorem Ro:aU gB = [.int .i64 (-1), .int .i64 0, .slice .shared 1 [], .str [], .str [], .int .i64 0, .int .i64 0, .str [], .slice .shared 4 [], .bool false, .slice .shared 6 [], .slice .shared 13 [], .slice .shared 13 []]:=rfl
theorem ac1 {p:Pg} (hp:p.size<1000000) (st:St):aB Tryz.prog nJ [.agg (bC p)] st (.agg (bC (p.put gB))) st:=by
 refine aB.pure ?_ (by simp [D.bp,D.ok,gl]) (by simp [D.ok,gl]) st
 have h1:=fun s=>afL hp (t:=gB) W5 s
 have h2 : ∀ s,aB Tryz.prog ng [.agg (bC p), .agg [.int .i64 (-1), .int .i64 0, .slice .full 0 [], .str [], .str [], .int .i64 0, .int .i64 0, .str [], .slice .full 0 [], .bool false, .slice .full 0 [], .slice .full 0 [], .slice .full 0 []]] s (.agg (bC (p.put gB))) s:=
  fun s=>dV.wg (.cons (Wk.refl _) (.cons (by rw [Ro];exact Wk.agg (.cons (Wk.refl _) (.cons (Wk.refl _) (.cons (Wk.nil _ _ _) (.cons (Wk.refl _) (.cons (Wk.refl _) (.cons (Wk.refl _) (.cons (Wk.refl _) (.cons (Wk.refl _) (.cons (Wk.nil _ _ _) (.cons (Wk.refl _) (.cons (Wk.nil _ _ _) (.cons (Wk.nil _ _ _) (.cons (Wk.nil _ _ _) .nil)))))))))))))) .nil)) (h1 s)
 unfold S0
 refine aB.go zc rfl fun B Q hB hQ=> ?_
 have⟨hF,hP,hZ,gA⟩:=bH
 repeat' (first
 | simp only [go_sem,hF,hP,hZ,gA]
 | (with_reducible refine CU (h2 _) ?_)
 | (with_reducible first | refine bw fun hc=> ?_ | refine bx fun hc=> ?_ | refine bA (fun hc=> ?_) fun hc=> ?_) <;> (try simp only [hc,bs, ↓reduceIte]at h) <;> try simp only [hc]
 | (with_reducible refine aG hQ ?_;exact jS)
 | (cases h;done))
theorem af7 {p:Pg} (hp:p.size<1000000) (h0:p.procs≠ []) {t:Sm} (ht:t.yO<10000000) (st:St) :
 aB Tryz.prog ng [.agg (bC p), .agg (aU t)] st (.agg [.slice .shared 1 (p.globals.map encStr), .eB 5 st.aw.length (p.procs.length - 1) p.procs.length]) ⟨st.aw++ [nk (p.put t).procs],st.aA⟩:=by
 obtain⟨globals,procs⟩:=p
 show aB _ _ _ _ _ ⟨st.aw++ [nk (procs.map (Pc.fl (eH t)))],st.aA⟩
 have h1:=af6 hp h0 ht (R:=procs.map (Pc.fl (eH t))) rfl
 have hl:(procs.map (Pc.fl (eH t))).length=procs.length:=List.length_map ..
 generalize procs.map (Pc.fl (eH t))=R at *
 rw [hl]at h1
 have h2:=aB.AU (d':= .agg [.slice .shared 1 (globals.map encStr), .eB 5 0 (procs.length - 1) procs.length]) (dR:= [nk R]) [4] h1 (by decide) (by simp) rfl (fun i o ds e1 e2=>by
  cases i with
  | zero=>
   simp only [List.getElem?_cons_zero,Option.some.injEq]at e1 e2
   subst e1 e2
   exact⟨by simp [D.dW,D.cb,u7,hl],by simp [D.bp,D.ok,xR]⟩
  | succ i=>simp at e1) (by simp [D.cb,D.dW,Tag.cb,oK]) (by simp [D.ok,D.bp,Tag.ok,u6])
 have h3:=h2.W4 (by simp [D.bp,D.ok,gl,jZ]) (by simp [D.bp,D.ok,DZ]) st
 simpa [D.cb,D.dW,Tag.cb,oK]using h3
theorem ac2 {p:Pg} (hp:p.size<1000000) (h0:p.procs≠ []) (st:St) :
 aB Tryz.prog nJ [.agg (bC p)] st (.agg [.slice .shared 1 (p.globals.map encStr), .eB 5 st.aw.length (p.procs.length - 1) p.procs.length]) ⟨st.aw++ [nk (p.put gB).procs],st.aA⟩:=by
 have h1:=fun s=>af7 hp h0 (t:=gB) W5 s
 have h2 : ∀ s:St,aB Tryz.prog ng [.agg (bC p), .agg [.int .i64 (-1), .int .i64 0, .slice .full 0 [], .str [], .str [], .int .i64 0, .int .i64 0, .str [], .slice .full 0 [], .bool false, .slice .full 0 [], .slice .full 0 [], .slice .full 0 []]] s
  (.agg [.slice .shared 1 (p.globals.map encStr), .eB 5 s.aw.length (p.procs.length - 1) p.procs.length]) ⟨s.aw++ [nk (p.put gB).procs],s.aA⟩:=
  fun s=>dV.wg (.cons (Wk.refl _) (.cons (by rw [Ro];exact Wk.agg (.cons (Wk.refl _) (.cons (Wk.refl _) (.cons (Wk.nil _ _ _) (.cons (Wk.refl _) (.cons (Wk.refl _) (.cons (Wk.refl _) (.cons (Wk.refl _) (.cons (Wk.refl _) (.cons (Wk.nil _ _ _) (.cons (Wk.refl _) (.cons (Wk.nil _ _ _) (.cons (Wk.nil _ _ _) (.cons (Wk.nil _ _ _) .nil)))))))))))))) .nil)) (h1 s)
 have key:aB Tryz.prog nJ [.agg (bC p)] S0 (.agg [.slice .shared 1 (p.globals.map encStr), .eB 5 2 (p.procs.length - 1) p.procs.length]) ⟨[bC p,[.junk, .junk],nk (p.put gB).procs],[]⟩:=by
  unfold S0
  refine aB.goK 3 0 (Nat.zero_le _) (Nat.zero_le _) zc rfl fun B Q hB hQ=> ?_
  have⟨hF,hP,hZ,gA⟩:=bH
  generalize (p.put gB).procs=R at *
  repeat' (first
 | simp only [go_sem,hF,hP,hZ,gA]
 | (with_reducible refine CU (h2 _) ?_)
 | (with_reducible first | refine bw fun hc=> ?_ | refine bx fun hc=> ?_ | refine bA (fun hc=> ?_) fun hc=> ?_) <;> (try simp only [hc,bs, ↓reduceIte]at h) <;> try simp only [hc]
 | (with_reducible refine aG hQ ?_;exact jS)
 | (cases h;done))
 generalize (p.put gB).procs=R at *
 have h3:=aB.AU (d':= .agg [.slice .shared 1 (p.globals.map encStr), .eB 5 0 (p.procs.length - 1) p.procs.length]) (dR:= [nk R]) [2] key (by decide) (by simp) rfl (fun i o ds e1 e2=>by
  cases i with
  | zero=>
   simp only [List.getElem?_cons_zero,Option.some.injEq]at e1 e2
   subst e1 e2
   exact⟨by simp [D.dW,D.cb,u7],by simp [D.bp,D.ok,xR]⟩
  | succ i=>simp at e1) (by simp [D.cb,D.dW,Tag.cb,oK]) (by simp [D.ok,D.bp,Tag.ok,u6])
 have h4:=h3.W4 (by simp [D.bp,D.ok,gl]) (by simp [D.bp,D.ok,DZ]) st
 simpa [D.cb,D.dW,Tag.cb,oK]using h4
end Go.Abs

/-! Nb2 -/

namespace Go.Abs
set_option maxRecDepth 8000
open Go.Proofs
abbrev W6 (N:Nat):Prop:=∀ (l:List Sm) (n:Nat),Sm.aX l<N→n+Sm.aX l<1000000000→∀ s:St,aB Tryz.prog iV [.slice .shared 13 (l.map aU), .int .i64 (n:Int)] s
 (.tuple [.slice .shared 13 ((Sm.cz true n l).1.map aU), .int .i64 ((Sm.cz true n l).2:Int)]) s
theorem GY {N:Nat} (hN:N<10000000) (ih:W6 N) (l:List Sm) (n:Nat) (hl:Sm.aX l<N+1) (hn:n+Sm.aX l<1000000000) :
 aB Tryz.prog iV [.slice .shared 13 (l.map aU), .int .i64 (n:Int)] S0 (.tuple [.slice .shared 13 ((Sm.cz true n l).1.map aU), .int .i64 ((Sm.cz true n l).2:Int)]) S0:=by
 have hlen:l.length<10000001:=by have:=Sm.cP l;omega
 have hle:=Sm.nI true n l
 generalize hR:Sm.cz true n l=R at *
 unfold S0
 refine aB.go Br rfl fun B Q hB hQ=> ?_
 have⟨hF,hP,hZ,gA⟩:=bH
 repeat' (first
 | simp only [go_sem,hF,hP,hZ,gA]
 | (with_reducible first | refine bw fun hc=> ?_ | refine bx fun hc=> ?_ | refine bA (fun hc=> ?_) fun hc=> ?_) <;> (try simp only [hc,bs, ↓reduceIte]at h) <;> try simp only [hc]
 | (with_reducible refine aG hQ ?_;exact jS)
 | (cases h;done))
 refine bk.ov 6 13 rfl ?_
 simp only [go_sem,hF,hP,hZ,gA]
 refine cU 0 1 (bk.ind (ι:=List Sm×Nat×List Sm×Nat) (fun i=>l.drop i.2.1=i.1∧i.2.1=i.2.2.1.length∧(i.2.2.1++(Sm.cz true i.2.2.2 i.1).1,(Sm.cz true i.2.2.2 i.1).2)=R∧i.2.2.2+Sm.aX i.1≤n+Sm.aX l) (fun i=>i.1.length)
  (fun i=> [(1, .int .i64 (i.2.2.2:Int)),(6, .slice (.tok 0) 13 (i.2.2.1.map aU)),(10, .slice .shared 13 (l.map aU)),(11, .int .i64 (l.length:Int)),(12, .int .i64 (i.2.1:Int))])
  (fun i=>⟨[],[some i.2.1]⟩) ?_ (l,0,[],n) ⟨rfl,rfl,by simpa using hR,Nat.le_refl _⟩)
 rintro⟨rest,k,acc,m⟩ ⟨h1,h2,h3,h4⟩ IH
 dsimp only at h1 h2 h3 h4
 subst h2
 cases rest with
 | nil=>
  have hF:=drop_nil h1
  simp only [Sm.cz,List.append_nil]at h3
  subst h3
  repeat' (first
 | simp only [go_sem,hF,hP,hZ,gA]
 | (with_reducible first | refine bw fun hc=> ?_ | refine bx fun hc=> ?_ | refine bA (fun hc=> ?_) fun hc=> ?_) <;> (try simp only [hc,bs, ↓reduceIte]at h) <;> try simp only [hc]
 | (with_reducible refine aG hQ ?_;exact jS)
 | (cases h;done))
 | cons y rest=>
  obtain⟨hP,g2,hF,g4⟩:=drop_cons h1
  have hk:acc.length<4611686018427387904:=by omega
  have dK:y.size≤N:=by have:=Sm.bV (List.mem_of_getElem? hP);omega
  obtain⟨id,kind,labels,name,proc,x,has,args,aY,aP⟩:=y
  simp only [Sm.size]at dK
  simp only [Sm.aX,Sm.size]at h4
  have dH:(acc.length+1)*209≤bm:=by simp only [bm];omega
  have FO:=fun s=>AS (v:=⟨id,kind,labels,name,proc,x,has,args,aY,aP⟩) (by dsimp only;omega) s
  simp only [Sm.bare,cH,List.map_nil]at FO
  simp only [Sm.cz,Sm.num,if_true]at h3
  have c1:=ih aY (m+1) (by omega) (by omega)
  have l1:=Sm.nI true (m+1) aY
  obtain⟨T,hT⟩ : ∃ T,Sm.cz true (m+1) aY=T:=⟨_,rfl⟩
  rw [hT]at h3 c1 l1
  have c2:=ih aP T.2 (by omega) (by omega)
  have l2:=Sm.nI true T.2 aP
  obtain⟨E,hE⟩ : ∃ E,Sm.cz true T.2 aP=E:=⟨_,rfl⟩
  rw [hE]at h3 c2 l2
  have wm:IntKind.wrap .i64 ((m:Int)+1)=((m+1:Nat):Int):=by rw [c6] <;> omega
  repeat' (first
 | simp only [go_sem,hF,hP,hZ,gA,dH,wm]
 | (with_reducible refine CU (FO _) ?_)
 | (with_reducible refine CU (c1 _) ?_)
 | (with_reducible refine CU (c2 _) ?_)
 | (with_reducible first | refine bw fun hc=> ?_ | refine bx fun hc=> ?_ | refine bA (fun hc=> ?_) fun hc=> ?_) <;> (try simp only [hc,bs, ↓reduceIte]at h) <;> try simp only [hc]
 | (with_reducible refine aG hQ ?_;(try cases h);simp only [ay,az,bF,bG,go_sem,hF,hP,hZ,gA,dH,wm];try exact mj)
 | (cases h;done))
  refine dZ 0 1 ?_ ?_ (IH (rest,acc.length+1,acc++ [⟨((m+1:Nat):Int),kind,labels,name,proc,x,has,args,T.1,E.1⟩],E.2) ⟨g2,by simp,by rw [← h3];simp,by dsimp only;omega⟩ (Nat.lt_succ_self _))
  ·(simp only [go_sem,hF,hP,hZ,gA,aM hk,cH];try exact bO)
  ·(simp only [go_sem,hF,hP,hZ,gA,aM hk,cH];try exact bO)
theorem Jv : ∀ N,N<10000000→W6 N:=by
 intro N
 induction N with
 | zero=>intro _ l n hl;exact absurd hl (Nat.not_lt_zero _)
 | succ N ih=>
  intro hN l n hl hn s
  exact(GY (by omega) (ih (by omega)) l n hl hn).pure (by simp [D.bp,D.ok,Tag.ok,jD]) (by simp [D.bp,D.ok,Tag.ok,jD]) s
theorem Ot {l:List Sm} {n:Nat} (h:Sm.aX l<9000000) (hn:n+Sm.aX l<1000000000) (s:St):aB Tryz.prog iV [.slice .shared 13 (l.map aU), .int .i64 (n:Int)] s
 (.tuple [.slice .shared 13 ((Sm.cz true n l).1.map aU), .int .i64 ((Sm.cz true n l).2:Int)]) s:=
 Jv 9999999 (by omega) l n (by omega) hn s
mutual
def Sm.W7 (id:Int):Sm→Sm
 | ⟨i,kind,labels,name,proc,x,has,args,aY,aP⟩=>⟨i,kind,labels,name,proc,x,has,args,Sm.AV id aY,Sm.AV id aP⟩
def Sm.AV (id:Int):List Sm→List Sm
 | []=> []
 | s::l=>if s.id==id then Sm.AV id l else s.W7 id::Sm.AV id l
end
abbrev awf (id:Int) (N:Nat):Prop:=∀ l:List Sm,Sm.aX l<N→∀ s:St,aB Tryz.prog Ez [.slice .shared 13 (l.map aU), .int .i64 id] s (.slice .shared 13 ((Sm.AV id l).map aU)) s
end Go.Abs

/-! Nb3 -/

namespace Go.Abs
set_option maxRecDepth 8000
open Go.Proofs
abbrev UK (g:Nat) (l:List Pc):List D:= .int .i64 (g:Int)::(l.map bq).flatten
abbrev af8 (len k n:Nat) (g:Nat):Tm:= [(1, .ptr 0 0),(2, .ptr 1 0),(3, .ptr 2 0),(4, .int .i64 (n:Int)),(9, .eB 5 3 g len),(10, .int .i64 (len:Int)),(11, .int .i64 (k:Int))]
theorem Rp {p:Pg} (hp:p.size<1000000) (h0:p.procs≠ []) (st:St):aB Tryz.prog pL [.agg (bC p)] st (.agg (bC p.number)) st:=by
 refine aB.pure ?_ (by simp [D.bp,D.ok,gl]) (by simp [D.ok,gl]) st
 have D0:=fun s=>ac2 hp h0 s
 obtain⟨globals,procs⟩:=p
 simp only [Pg.size]at hp
 have hlen:procs.length<1000000:=by have:=Pc.cP procs;omega
 have tn:((⟨globals,procs⟩:Pg).put gB).procs.length=procs.length:=List.length_map ..
 have WO:((⟨globals,procs⟩:Pg).put gB).procs=procs.map (Pc.fl (eH gB)):=rfl
 have eJ:0<procs.length:=List.length_pos_iff.2 h0
 dsimp only at D0
 obtain⟨C,hC⟩ : ∃ C,((⟨globals,procs⟩:Pg).put gB).procs=C:=⟨_,rfl⟩
 rw [hC]at D0 tn WO
 obtain⟨g,hg⟩ : ∃ g,procs.length - 1=g:=⟨_,rfl⟩
 have Li:nk C=UK g C:=by rw [← hg, ← tn]
 have Rq:bC (⟨globals,procs⟩:Pg) = [.slice .shared 1 (globals.map encStr), .slice .shared 5 (procs.map bq)]:=rfl
 simp only [Li,hg,Rq]at D0
 generalize hR:Pc.cz 0 procs=R
 have Ou:bC (⟨globals,procs⟩:Pg).number = [.slice .shared 1 (globals.map encStr), .slice .shared 5 (R.map bq)]:=by
  unfold Pg.number;rw [hR];rfl
 rw [Ou]
 unfold S0
 refine aB.go C7 rfl fun B Q hB hQ=> ?_
 have⟨hF,hP,hZ,gA⟩:=bH
 have loop : ∀ (rest D1 done:List Pc) (n:Nat),procs.drop done.length=rest→D1=rest.map (Pc.fl (eH gB))→done++Pc.cz n rest=R→n+Pc.aX rest≤Pc.aX procs→
  bk Tryz.prog B 32 QCY (ie 0 (jQ (gC Tryz.prog B 32 QD3 Q) Q)) (af8 procs.length done.length n g) ⟨[bC ⟨globals,procs⟩,[.junk, .junk],[.slice .shared 1 (globals.map encStr), .eB 5 3 g procs.length],UK g (done++D1)],[]⟩:=by
  intro rest
  induction rest with
  | nil=>
   intro D1 done n h1 h2 h3 h4
   have hF:=drop_nil h1
   have:D1 = []:=by simpa using h2
   subst this
   simp only [Pc.cz,List.append_nil]at h3
   subst h3
   rw [List.append_nil]
   have hdl:procs.length=(done.map bq).length:=by
    rw [List.length_map]
    have h5:=List.drop_eq_nil_iff.1 h1
    have h6:=congrArg List.length hR
    have : ∀ (l:List Pc) (n:Nat),(Pc.cz n l).length=l.length:=by
     intro l
     induction l with
     | nil=>intro n;rfl
     | cons a l ih=>intro n;simp [Pc.cz,ih]
    rw [this]at h6
    exact h6
   refine bk.UB 3 g 5 (done.map bq) [(2, .ptr 1 0),(3, .ptr 2 0),(10, .int .i64 (procs.length:Int)),(11, .int .i64 (done.length:Int))] [bC ⟨globals,procs⟩,[.junk, .junk],[.slice .shared 1 (globals.map encStr), .slice .shared 5 (done.map bq)]]
    (by rw [hB];exact Nat.zero_le _) rfl ⟨9,_, .inl rfl⟩ (fun row hr=>by obtain⟨a,_,rfl⟩:=List.mem_map.1 hr;rfl) ?_ ?_ (bk.qA ?_)
   ·simp only [go_sem]
    repeat' (first | exact Ok.out | with_reducible refine aI ?_ ?_)
   ·show gU [DW _ _ _ _ _ (bC _),DW _ _ _ _ _ [.junk, .junk],DW _ _ _ _ _ [.slice .shared 1 _, .eB _ _ _ _]] _
    simp only [go_sem,hdl,and_self,if_true]
    exact Ok.out
   ·repeat' (first
 | simp only [go_sem,hF,hP,hZ,gA]
 | (with_reducible first | refine bw fun hc=> ?_ | refine bx fun hc=> ?_ | refine bA (fun hc=> ?_) fun hc=> ?_) <;> (try simp only [hc,bs, ↓reduceIte]at h) <;> try simp only [hc]
 | (with_reducible refine aG hQ ?_;exact jS)
 | (cases h;replace h:=hr;clear hr;(try simp only [bs, ↓reduceIte]at h))
 | (cases h;done))
  | cons y rest ih=>
   intro D1 done n h1 h2 h3 h4
   obtain⟨hP,g2,hF,g4⟩:=drop_cons h1
   subst h2
   have hk:done.length<4611686018427387904:=by omega
   simp only [Pc.aX,Pc.size]at h4
   simp only [Pc.cz]at h3
   have ZF:=fun s=>Ot (l:=y.body) (n:=n) (by omega) (by omega) s
   have hle:=Sm.nI true n y.body
   obtain⟨b,hb⟩ : ∃ b,Sm.cz true n y.body=b:=⟨_,rfl⟩
   rw [hb]at h3 ZF hle
   have xj:fS (((done++Pc.fl (eH gB) y::rest.map (Pc.fl (eH gB))).map bq).flatten) (done.length*5+3) [.slice .shared 13 (b.1.map aU)] =
    ((done++ {y with body:=b.1}::rest.map (Pc.fl (eH gB))).map bq).flatten:=Ol bq 5 (fun f=>rfl) done _ (Pc.fl (eH gB) y) {y with body:=b.1} 3 _ rfl (by simp)
   have ly:done.length*5+3+1≤(((done++Pc.fl (eH gB) y::rest.map (Pc.fl (eH gB))).map bq).flatten).length:=by rw [Rn];simp;omega
   have IH:=ih (rest.map (Pc.fl (eH gB))) (done++ [{y with body:=b.1}]) b.2 (by rw [List.length_append];exact g2) rfl (by rw [← h3];simp) (by omega)
   have e7:(done++ [{y with body:=b.1}]).length=done.length+1:=by simp
   have e8:done++ [{y with body:=b.1}]++rest.map (Pc.fl (eH gB))=done++ {y with body:=b.1}::rest.map (Pc.fl (eH gB)):=by simp
   rw [e7,e8]at IH
   generalize done++ {y with body:=b.1}::rest.map (Pc.fl (eH gB))=L2 at *
   rw [List.map_cons]
   generalize done++Pc.fl (eH gB) y::rest.map (Pc.fl (eH gB))=L1 at *
   clear ih
   refine bk.qA ?_
   repeat' (first
 | simp only [go_sem,hF,hP,hZ,gA,g4,xj,ly]
 | (with_reducible refine CU (ZF _) ?_)
 | (with_reducible first | refine bw fun hc=> ?_ | refine bx fun hc=> ?_ | refine bA (fun hc=> ?_) fun hc=> ?_) <;> (try simp only [hc,bs, ↓reduceIte]at h) <;> try simp only [hc]
 | (with_reducible refine aG hQ ?_;(try cases h);simp only [ay,az,bF,bG,go_sem,hF,hP,hZ,gA,g4,xj,ly];try exact mj)
 | (cases h;replace h:=hr;clear hr;(try simp only [bs, ↓reduceIte]at h))
 | (cases h;done))
   refine dZ 4 0 ?_ ?_ (IH)
   ·(simp only [go_sem,hF,hP,hZ,gA,aM hk];try exact bO)
   ·(simp only [go_sem,hF,hP,hZ,gA,aM hk];try exact bO)
 repeat' (first
 | simp only [go_sem,hF,hP,hZ,gA]
 | (with_reducible refine CU (D0 _) ?_)
 | (with_reducible first | refine bw fun hc=> ?_ | refine bx fun hc=> ?_ | refine bA (fun hc=> ?_) fun hc=> ?_) <;> (try simp only [hc,bs, ↓reduceIte]at h) <;> try simp only [hc]
 | (with_reducible refine aG hQ ?_;exact jS)
 | (cases h;replace h:=hr;clear hr;(try simp only [bs, ↓reduceIte]at h))
 | (cases h;done))
 have AU:=bk.acK (P:=Tryz.prog) (a:=QCY) (Q:=ie 0 (jQ (gC Tryz.prog B 32 QD3 Q) Q)) (nt:=32) (tm:= [(1, .ptr 0 0),(2, .ptr 1 0),(3, .ptr 3 0),(4, .int .i64 ((0:Nat):Int)),(9, .eB 5 2 g procs.length),(10, .int .i64 (procs.length:Int)),(11, .int .i64 ((0:Nat):Int))])
  (s:=⟨[bC ⟨globals,procs⟩,[.junk, .junk],UK g C,[.slice .shared 1 (globals.map encStr), .eB 5 2 g procs.length]],[]⟩)
  hB [0,1,3,2] _ _ (by decide) (by simp) (by simp [yP,D.dW,D.cb,D.bp,D.ok,Tag.cb,Tag.ok,E7,E8,Js,oK,Jt,u6,u7,xR]) (by simp [AT,Tm.get,D.cb,D.ok,Tag.cb,Tag.ok,Cr,E9])
  (loop procs C [] 0 rfl WO (by simpa using hR) (by simp))
 refine cU 4 0 (AU)
end Go.Abs

/-! Nb4 -/

namespace Go.Abs
set_option maxRecDepth 8000
open Go.Proofs
def Pc.W7 (id:Int) (f:Pc):Pc:= {f with body:=Sm.AV id f.body}
def Pg.W7 (p:Pg) (id:Int):Pg:= {p with procs:=p.procs.map (Pc.W7 id)}
abbrev awg (id:Int) (len k:Nat) (g:Nat):Tm:= [(1, .int .i64 id),(2, .ptr 0 0),(4, .ptr 1 0),(5, .ptr 2 0),(10, .eB 5 3 g len),(11, .int .i64 (len:Int)),(12, .int .i64 (k:Int))]
def Pg.u9 (p:Pg) (n:Nat):Pg:= {p with procs:=p.procs.drop n++p.procs.take n}
theorem Pc.yQ : ∀ a b:List Pc,Pc.aX (a++b)=Pc.aX a+Pc.aX b
 | [],b=>by simp [Pc.aX]
 | f::a,b=>by simp only [List.cons_append,Pc.aX,Pc.yQ a b];omega
theorem Pg.Jw (p:Pg) (n:Nat):(p.u9 n).size=p.size:=by
 have h:=Pc.yQ (p.procs.take n) (p.procs.drop n)
 rw [List.take_append_drop]at h
 simp only [Pg.size,Pg.u9,Pc.yQ];omega
theorem Wk.af9 (g:Tag) (globals:List aC) (R:List Pc):Wk (.agg [.slice .shared 1 (globals.map encStr), .slice g 5 (R.map bq)]) (.agg (bC ⟨globals,R⟩)):=
 Wk.agg (.cons (Wk.refl _) (.cons (Wk.shared g 5 _) .nil))
theorem UL {p:Pg} (hp:p.size<1000000) (h0:p.procs≠ []) (UM:p.put gB=p) (n:Int) (st:St) :
 aB Tryz.prog qH [.agg (bC p), .int .i64 n] st (.agg (bC (p.u9 (rQ n p.procs.length).toNat).number)) st:=by
 refine aB.pure ?_ (by simp [D.bp,D.ok,gl]) (by simp [D.ok,gl]) st
 have D0:=fun s=>ac1 hp s
 rw [UM]at D0
 obtain⟨globals,procs⟩:=p
 dsimp only at h0
 have Rq:bC (⟨globals,procs⟩:Pg) = [.slice .shared 1 (globals.map encStr), .slice .shared 5 (procs.map bq)]:=rfl
 simp only [Rq]at D0
 have eJ:0<procs.length:=List.length_pos_iff.2 h0
 have hlen:procs.length<1000000:=by simp only [Pg.size]at hp;have:=Pc.cP procs;omega
 have HA:=fun s=>afH n (k:=(procs.length:Int)) (by omega) (by omega) s
 obtain⟨m1,m2⟩:=Yy n (k:=(procs.length:Int)) (by omega)
 dsimp only
 generalize rQ n (procs.length:Int)=m at *
 obtain⟨q,rfl⟩ : ∃ q:Nat,m=(q:Int):=⟨m.toNat,by omega⟩
 rw [Int.toNat_natCast]
 have hq:q<procs.length:=by omega
 have hrs:=(⟨globals,procs⟩:Pg).Jw q
 have hrp:((⟨globals,procs⟩:Pg).u9 q) = ⟨globals,procs.drop q++procs.take q⟩:=rfl
 have nU : ∀ (g:Tag) (s:St),aB Tryz.prog pL [.agg [.slice .shared 1 (globals.map encStr), .slice g 5 ((procs.drop q).map bq++(procs.take q).map bq)]] s (.agg (bC ((⟨globals,procs⟩:Pg).u9 q).number)) s:=fun g s=>by
  rw [← List.map_append]
  exact dV.wg (.cons (Wk.af9 g globals (procs.drop q++procs.take q)) .nil) (Rp (p:=(⟨globals,procs⟩:Pg).u9 q) (by omega) (by
   intro e
   have:=congrArg List.length e
   simp [Pg.u9]at this;omega) s)
 have qu:(procs.drop q++procs.take q).length=procs.length:=by simp;omega
 have hz:decide ((procs.length:Int)=0)=false:=by simp;omega
 have hz2:((procs.length:Int)==0)=false:=by simp;omega
 have hd:(procs.map bq).drop q=(procs.drop q).map bq:=List.map_drop.symm
 have ht:(procs.map bq).take q=(procs.take q).map bq:=List.map_take.symm
 have aoP:(procs.drop q).map bq≠ []:=by
  intro e
  have:=congrArg List.length e
  simp at this;omega
 have ha1:=fun(o:List (List D)) (T:List (Option Nat)) (g:Tag)=>uZ (size:=5) (bytes:=112) (rows:=(procs.drop q).map bq) aoP (by simp only [List.length_map,List.length_drop];unfold bm;omega) (z:=5) (g:=g) o T
 have Pn:=fun(o:List (List D)) (g:Tag)=>Ig (size:=5) (bytes:=112) (t:=0) (rows:=(procs.drop q).map bq) (new:=(procs.take q).map bq) (g:=g) (s:=⟨o,[some ((procs.drop q).map bq).length]⟩) (by simp only [List.length_map,List.length_drop,List.length_take];unfold bm;omega) rfl
 simp only [List.length_map]at Pn
 generalize ((⟨globals,procs⟩:Pg).u9 q).number=Z at *
 unfold S0
 refine aB.go EI rfl fun B Q hB hQ=> ?_
 have⟨hF,hP,hZ,gA⟩:=bH
 have q1:(q:Int)≤(procs.length:Int):=by omega
 have q2:(procs.length:Int)≤(procs.length:Int):=Int.le_refl _
 have q3:(procs.map bq).take procs.length=procs.map bq:=List.take_of_length_le (by simp)
 repeat' (first
 | simp only [go_sem,hF,hP,hZ,gA,hz2,ha1,Pn,hd,ht,q1,q2,q3,or_true,and_self,ite_self]
 | (with_reducible refine CU (D0 _) ?_)
 | (with_reducible refine CU (HA _) ?_)
 | (with_reducible refine CU (nU _ _) ?_)
 | (with_reducible first | refine bw fun hc=> ?_ | refine bx fun hc=> ?_ | refine bA (fun hc=> ?_) fun hc=> ?_) <;> (try simp only [hc,bs, ↓reduceIte]at h) <;> try simp only [hc]
 | (with_reducible refine aG hQ ?_;(try cases h);simp only [ay,az,bF,bG,go_sem,hF,hP,hZ,gA,hz2,ha1,Pn,hd,ht,q1,q2,q3,or_true,and_self,ite_self];try exact mj)
 | (cases h;done))
end Go.Abs

/-! Jm1 -/

namespace Go.Abs
set_option maxRecDepth 8000
open Go.Proofs
theorem Lj : ∀ (l:List Pc) (n:Nat) (h:Sh),h.lo.length=n→h.hi.length=n→pg h.L.length ((l.map fun f=>Sm.cW f.body).flatten)→
 ∃ lo hi,Sh.go n h l = ⟨h.L++E5 n l,h.lo++lo,h.hi++hi⟩∧lo.length=l.length∧hi.length=l.length∧
  ∀ (i:Nat) (f:Pc),l[i]? = some f→∃ a e:List Im,lo[i]? = some (((h.L++a).length:Int)+1)∧hi[i]? = some (((h.L++a++Sm.kb ((n+i:Nat):Int) 0 (-1) 0 f.body).length:Int)+1)∧E5 n l=a++Sm.kb ((n+i:Nat):Int) 0 (-1) 0 f.body++e
 | [],n,h,hl,hh,_=>⟨[],[],by simp [Sh.go,E5],rfl,rfl,fun i f h=>by simp at h⟩
 | f::l,n,h,hl,hh,hi=>by
  simp only [List.map_cons,List.flatten_cons]at hi
  simp only [Sh.go,E5]
  have e1:=yJ (n:Int) 0 (-1) 0 h.L f.body hi.left
  obtain⟨lo,gZ,h2,h3,h4,h5⟩:=Lj l (n+1) ⟨Im.rows (n:Int) 0 (-1) 0 h.L f.body,h.lo++ [(h.L.length:Int)+1],h.hi++ [((Im.rows (n:Int) 0 (-1) 0 h.L f.body).length:Int)+1]⟩ (by simp [hl]) (by simp [hh]) (by
   show pg (Im.rows (n:Int) 0 (-1) 0 h.L f.body).length _
   rw [e1,List.length_append,I9];exact hi.right)
  refine⟨((h.L.length:Int)+1)::lo,(((Im.rows (n:Int) 0 (-1) 0 h.L f.body).length:Int)+1)::gZ, ?_,by simp [h3],by simp [h4],fun i g gZ=> ?_⟩
  ·rw [h2,e1];simp
  ·cases i with
   | zero=>
    simp only [List.getElem?_cons_zero,Option.some.injEq]at gZ
    subst gZ
    exact⟨[],E5 (n+1) l,by simp,by rw [e1];simp,by simp⟩
   | succ i=>
    simp only [List.getElem?_cons_succ]at gZ
    obtain⟨a,e,g1,g2,g3⟩:=h5 i g gZ
    have en:n+1+i=n+(i+1):=by omega
    rw [en]at g2 g3
    refine⟨Sm.kb n 0 (-1) 0 f.body++a,e, ?_, ?_,by rw [g3];simp⟩
    ·rw [List.getElem?_cons_succ,g1,e1];simp
    ·rw [List.getElem?_cons_succ,g2,e1];simp
theorem ac3 {p:Pg} (hb:p.may=true) {i:Nat} {f:Pc} (hf:p.procs[i]? = some f) (hs:Pc.aX p.procs<1000000000) (s:St) :
 aB Tryz.prog gN [.dE (iu p) 0, .int .i64 (i:Int)] s (.slice .shared 17 ((Sm.kb (i:Int) 0 (-1) 0 f.body).map ff)) s:=by
 obtain⟨lo,hi,h1,h2,h3,h4⟩:=Lj p.procs 0 ⟨[],[],[]⟩ rfl rfl (Yr hb)
 obtain⟨a,e,g1,g2,g3⟩:=h4 i f hf
 simp only [Nat.zero_add,List.nil_append]at g1 g2 g3 h1
 refine abN hs (a:=a) (e:=e) ?_ ?_ ?_ s
 ·show(Sh.go 0 ⟨[],[],[]⟩ p.procs).lo[i]? = _
  rw [h1];exact g1
 ·show(Sh.go 0 ⟨[],[],[]⟩ p.procs).hi[i]? = _
  rw [h1];exact g2
 ·show(Sh.go 0 ⟨[],[],[]⟩ p.procs).L=_
  rw [h1];exact g3
theorem aB.aoQ {P:Program} {f:FuncId} {pre post:List D} {rows kV:List (List D)} {z z' k k':Nat} {b:Bool} (h:aB P f (pre++ .slice (.tok 0) z rows::post) ⟨[],[some k]⟩ (.tuple [.slice (.tok 0) z' kV, .bool b]) ⟨[],[some k']⟩)
 (hp:D.bp 0 0 pre=true) (ha:D.bp 0 0 post=true) (hw:D.hO 0 0 rows=true) (Pw:D.hO 0 0 kV=true)
 {s:St} {t:Nat} (ht:s.aA[t]? = some (some k)):aB P f (pre++ .slice (.tok t) z rows::post) s (.tuple [.slice (.tok t) z' kV, .bool b]) ⟨s.aw,s.aA.set t (some k')⟩:=by
 refine dV.frame [] [t] h (by simp) (by simp) (by simp) (by simpa using (List.getElem?_eq_some_iff.1 ht).1) rfl (fun i o' ds e1 e2=>by simp at e1) rfl (fun i t' e1=> ?_)
  ?_ ?_ ?_
 ·cases i with
  | zero=>simp at e1;subst e1;simp [ht]
  | succ i=>simp at e1
 ·have h1:=eY [] [t] _ hp
  have h2:=eY [] [t] _ ha
  rw [fO]at h1 h2
  simp [fO,D.cb,Tag.cb,h1,h2,iL _ _ _ hw]
 ·have h1:=gS (n':=0) (m':=1) (Nat.le_refl 0) (Nat.zero_le 1) _ hp
  have h2:=gS (n':=0) (m':=1) (Nat.le_refl 0) (Nat.zero_le 1) _ ha
  rw [xe]at h1 h2 ⊢
  simp only [List.length_nil,List.length_cons,List.all_append,h1,Bool.true_and,List.all_cons,h2,Bool.and_true,D.ok,Tag.ok,lM (Nat.zero_le 0) (Nat.zero_le 1) _ hw]
  rfl
 ·rintro _ _ ⟨rfl,rfl⟩
  refine⟨by simp [D.back,D.cb,D.dW,Tag.cb,jf,iL _ _ _ Pw], ?_⟩
  simp [St.back,jG]
theorem ac4 {seen l:List aC} (hl:seen.length+l.length<1000000000):aB Tryz.prog pw [.slice (.tok 0) 1 (seen.map encStr), .slice .shared 1 (l.map encStr)] ⟨[],[some seen.length]⟩
 (.tuple [.slice (.tok 0) 1 ((iE seen l).1.map encStr), .bool (iE seen l).2]) ⟨[],[some (iE seen l).1.length]⟩:=by
 generalize hR:iE seen l=R
 refine aB.go Gx rfl fun B Q hB hQ=> ?_
 have⟨hF,hP,hZ,gA⟩:=bH
 repeat' (first
 | simp only [go_sem,hF,hP,hZ,gA]
 | (with_reducible refine aG hQ ?_;simp only [ay,az,Option.some.injEq,exists_eq_left',go_sem,hF,hP,hZ,gA];repeat' (first | exact Ok.out | with_reducible refine aI ?_ ?_ | (simp;done))))
 refine cU 0 1 (bk.ind (ι:=List aC×Nat×List aC×Nat) (fun i=>l.drop i.2.1=i.1∧iE i.2.2.1 i.1=R∧i.2.2.2=i.2.2.1.length∧i.2.2.1.length+i.1.length<1000000000) (fun i=>i.1.length)
  (fun i=> [(0, .slice (.tok 0) 1 (i.2.2.1.map encStr)),(8, .slice .shared 1 (l.map encStr)),(9, .int .i64 (l.length:Int)),(10, .int .i64 (i.2.1:Int))]) (fun i=>⟨[],[some i.2.2.2]⟩) ?_ (l,0,seen,seen.length) ⟨rfl,hR,rfl,hl⟩)
 clear hR
 rintro⟨rest,k,out,n⟩ ⟨h1,h2,h3,h4⟩ IH
 dsimp only at h1 h2 h3 h4
 subst h3
 cases rest with
 | nil=>
  have hF:=drop_nil h1
  simp only [iE]at h2
  subst h2
  repeat' (first
 | simp only [go_sem,hF,hP,hZ,gA]
 | (with_reducible refine aG hQ ?_;simp only [ay,az,Option.some.injEq,exists_eq_left',go_sem,hF,hP,hZ,gA];repeat' (first | exact Ok.out | with_reducible refine aI ?_ ?_ | (simp;done))))
 | cons x rest=>
  obtain⟨hP,g2,hF,g4⟩:=drop_cons h1
  have cv:k<4611686018427387904:=by omega
  simp only [List.length_cons]at h4
  have hZ:(out.length+1)*17≤bm:=by unfold bm;omega
  have F2:=fun g s=>jb (l:=out) (by omega) x g s
  simp only [iE]at h2
  rcases Bool.eq_false_or_eq_true (er out x)with c1 | c1
  ·simp only [c1,if_true]at h2
   subst h2
   repeat' (first
 | simp only [go_sem,hF,hP,hZ,gA,c1]
 | (with_reducible refine CU (F2 _ _) ?_)
 | (with_reducible refine aG hQ ?_;simp only [ay,az,Option.some.injEq,exists_eq_left',go_sem,hF,hP,hZ,gA];repeat' (first | exact Ok.out | with_reducible refine aI ?_ ?_ | (simp;done))))
  ·simp only [c1,Bool.false_eq_true,if_false]at h2
   repeat' (first
 | simp only [go_sem,hF,hP,hZ,gA,c1]
 | (with_reducible refine CU (F2 _ _) ?_)
 | (with_reducible refine aG hQ ?_;simp only [ay,az,Option.some.injEq,exists_eq_left',go_sem,hF,hP,hZ,gA];repeat' (first | exact Ok.out | with_reducible refine aI ?_ ?_ | (simp;done))))
   refine dZ 0 1 ?_ ?_ (IH (rest,k+1,out++ [x],out.length+1) ⟨g2,h2,by simp,by simp;omega⟩ (Nat.lt_succ_self _))
   ·(simp only [go_sem,hF,hP,hZ,gA,aM cv,List.map_append,List.map_cons,List.map_nil,encStr];try exact bO)
   ·(simp only [go_sem,hF,hP,hZ,gA,aM cv,List.map_append,List.map_cons,List.map_nil,encStr];try exact bO)
theorem Rr {seen l:List aC} (hl:seen.length+l.length<1000000000) {s:St} {t:Nat} (ht:s.aA[t]? = some (some seen.length)):aB Tryz.prog pw [.slice (.tok t) 1 (seen.map encStr), .slice .shared 1 (l.map encStr)] s
 (.tuple [.slice (.tok t) 1 ((iE seen l).1.map encStr), .bool (iE seen l).2]) ⟨s.aw,s.aA.set t (some (iE seen l).1.length)⟩:=
 (ac4 hl).aoQ (pre:= []) (post:= [_]) rfl (by simp [D.bp,D.ok,Tag.ok,eC]) (eC _) (eC _) ht
end Go.Abs

/-! Jm2 -/

namespace Go.Abs
set_option maxRecDepth 8000
open Go.Proofs
theorem UN (x:Im):(ff x)[2]? = some (.slice .shared 1 (x.s.labels.map encStr)):=nd rfl
theorem Rs (x:Im):(ff x)[3]? = some (.str x.s.name):=nd rfl
attribute [go_sem] UN Rs
def q9 (fin:List aC) (label:aC):List Sm→Int×Bool
 | []=>if er fin label then(-1,true)else(0,false)
 | v::l=>if er v.labels label then(v.id,true)else q9 fin label l
theorem Ge (fin:List aC) (label:aC) : ∀ l:List Sm,(q9 fin label l).2=er (fI l++fin) label
 | []=>by simp only [q9,fI,List.nil_append];split <;> simp_all
 | v::l=>by
  simp only [q9,fI,List.append_assoc]
  have h:=Ge fin label l
  rw [Bool.eq_iff_iff,fW]at h
  split
  ·rename_i c
   exact((fW _ _).2 (List.mem_append.2 (.inl ((fW _ _).1 c)))).symm
  ·rename_i c
   have:label∉v.labels:=fun m=>c ((fW _ _).2 m)
   rw [Bool.eq_iff_iff,h,fW]
   exact⟨fun m=>List.mem_append.2 (.inr m),fun m=>(List.mem_append.1 m).resolve_left this⟩
theorem Jx {p:Pg} {v:Sm} (ho:p.ki) {f:Pc} (hf:f∈p.procs) (hv:v∈Sm.cW f.body):v.labels.length≤900000:=by
 have key : ∀ n:Nat,(∀ s:Sm,s.pre.length≤n→∀ v∈s.pre,v.labels.length≤s.size)∧(∀ l:List Sm,(Sm.cW l).length≤n→∀ v∈Sm.cW l,v.labels.length≤Sm.aX l):=by
  intro n
  induction n with
  | zero=>
   refine⟨fun s h=>by rw [Sm.xK]at h;simp at h,fun l h v m=> ?_⟩
   have:=List.eq_nil_of_length_eq_zero (Nat.le_zero.1 h)
   rw [this]at m;cases m
  | succ n ih=>
   have h1 : ∀ s:Sm,s.pre.length≤n+1→∀ v∈s.pre,v.labels.length≤s.size:=by
    intro s h v m
    rw [Sm.xK]at h m
    simp only [List.length_cons,List.length_append]at h
    obtain⟨id,kind,labels,name,proc,x,has,args,aY,aP⟩:=s
    simp only [Sm.size]
    rcases List.mem_cons.1 m with rfl | m
    ·dsimp only;omega
    ·rcases List.mem_append.1 m with m | m
     ·have:=ih.2 aY (by dsimp only at h;omega) v m;omega
     ·have:=ih.2 aP (by dsimp only at h;omega) v m;omega
   refine⟨h1,fun l=> ?_⟩
   induction l with
   | nil=>intro _ v m;cases m
   | cons s l P8=>
    intro h v m
    simp only [Sm.cW,List.length_append]at h
    simp only [Sm.cW]at m
    simp only [Sm.aX]
    rcases List.mem_append.1 m with m | m
    ·have:=h1 s (by omega) v m;omega
    ·have:=P8 (by omega) v m;omega
 have h1:=(key (Sm.cW f.body).length).2 f.body (Nat.le_refl _) v hv
 have h2:=Pc.bV hf
 have h3:=ho.procs.2.1
 simp only [Pc.size]at h2
 omega
theorem Gf {p:Pg} (ho:p.ki) {f:Pc} (hf:f∈p.procs):f.fin.length≤900000:=by
 have h2:=Pc.bV hf
 have h3:=ho.procs.2.1
 simp only [Pc.size]at h2
 omega
theorem D2 {p:Pg} (ho:p.ki) {f:Pc} (hf:f∈p.procs):(Sm.cW f.body).length≤900000:=by
 rw [← yI]
 have:=kC f.body
 have h2:=Pc.bV hf
 have h3:=ho.procs.2.1
 simp only [Pc.size]at h2
 omega
theorem aoR {p:Pg} (ho:p.ki) (hb:p.may=true) {i:Nat} {f:Pc} (hf:p.procs[i]? = some f) (label:aC) (s:St) :
 aB Tryz.prog qM [.dE (iu p) 0, .int .i64 (i:Int), .str label] s (.tuple [.int .i64 (q9 f.fin label (Sm.cW f.body)).1, .bool (q9 f.fin label (Sm.cW f.body)).2]) s:=by
 refine aB.pure ?_ (by simp [D.bp,D.ok,yy]) rfl s
 obtain⟨uq,tA,zi⟩:=ho.procs
 have zj:=List.mem_of_getElem? hf
 have DC:=fun s=>ac3 hb hf (by omega) s
 have wK:=uX (i:Int) 0 (-1) 0 f.body
 have Jy:=D2 ho zj
 have aoS:=Gf ho zj
 have BQ:=fun s=>qV (l:=f.fin) (by omega) label s
 have qe:i<p.procs.length:=(List.getElem?_eq_some_iff.1 hf).1
 generalize hI:Sm.kb (i:Int) 0 (-1) 0 f.body=I at *
 have hIl:I.length≤900000:=by rw [← wK,List.length_map]at Jy;exact Jy
 obtain⟨R,hR⟩ : ∃ R,q9 f.fin label (Sm.cW f.body)=R:=⟨_,rfl⟩
 rw [hR]
 rw [← wK]at hR
 unfold S0
 refine aB.go Bt rfl fun B Q hB hQ=> ?_
 have⟨hF,hP,hZ,gA⟩:=bH
 repeat' (first
 | simp only [go_sem,hF,hP,hZ,gA]
 | (with_reducible refine CU (DC _) ?_)
 | (with_reducible refine aG hQ ?_;simp only [ay,az,Option.some.injEq,exists_eq_left',go_sem,hF,hP,hZ,gA];repeat' (first | exact Ok.out | with_reducible refine aI ?_ ?_ | (simp;done))))
 refine cU 0 0 (bk.ind (ι:=List Im×Nat) (fun j=>I.drop j.2=j.1∧q9 f.fin label (j.1.map Im.s)=R) (fun j=>j.1.length)
  (fun j=> [(0, .dE (iu p) 0),(1, .int .i64 (i:Int)),(2, .str label),(12, .slice .shared 17 (I.map ff)),(13, .int .i64 (I.length:Int)),(14, .int .i64 (j.2:Int))]) (fun j=>⟨[],[]⟩) ?_ (I,0) ⟨rfl,hR⟩)
 clear hR
 rintro⟨rest,k⟩ ⟨h1,h2⟩ IH
 dsimp only at h1 h2
 cases rest with
 | nil=>
  have hF:=drop_nil h1
  simp only [List.map_nil,q9]at h2
  rcases Bool.eq_false_or_eq_true (er f.fin label)with c1 | c1
  ·simp only [c1,if_true]at h2
   subst h2
   repeat' (first
 | simp only [go_sem,hF,hP,hZ,gA,rM,hf,c1]
 | (with_reducible refine CU (BQ _) ?_)
 | (with_reducible refine aG hQ ?_;simp only [ay,az,Option.some.injEq,exists_eq_left',go_sem,hF,hP,hZ,gA];repeat' (first | exact Ok.out | with_reducible refine aI ?_ ?_ | (simp;done))))
  ·simp only [c1,Bool.false_eq_true,if_false]at h2
   subst h2
   repeat' (first
 | simp only [go_sem,hF,hP,hZ,gA,rM,hf,c1]
 | (with_reducible refine CU (BQ _) ?_)
 | (with_reducible refine aG hQ ?_;simp only [ay,az,Option.some.injEq,exists_eq_left',go_sem,hF,hP,hZ,gA];repeat' (first | exact Ok.out | with_reducible refine aI ?_ ?_ | (simp;done))))
 | cons a rest=>
  obtain⟨hP,g2,hF,g4⟩:=drop_cons h1
  have cv:k<4611686018427387904:=by omega
  have FT:a.s∈Sm.cW f.body:=by rw [← wK];exact List.mem_map_of_mem (List.mem_of_getElem? hP)
  have tn:=fun s=>qV (l:=a.s.labels) (by have:=Jx ho zj FT;omega) label s
  simp only [List.map_cons,q9]at h2
  rcases Bool.eq_false_or_eq_true (er a.s.labels label)with c1 | c1
  ·simp only [c1,if_true]at h2
   subst h2
   repeat' (first
 | simp only [go_sem,hF,hP,hZ,gA,c1]
 | (with_reducible refine CU (tn _) ?_)
 | (with_reducible refine aG hQ ?_;simp only [ay,az,Option.some.injEq,exists_eq_left',go_sem,hF,hP,hZ,gA];repeat' (first | exact Ok.out | with_reducible refine aI ?_ ?_ | (simp;done))))
  ·simp only [c1,Bool.false_eq_true,if_false]at h2
   repeat' (first
 | simp only [go_sem,hF,hP,hZ,gA,c1]
 | (with_reducible refine CU (tn _) ?_)
 | (with_reducible refine aG hQ ?_;simp only [ay,az,Option.some.injEq,exists_eq_left',go_sem,hF,hP,hZ,gA];repeat' (first | exact Ok.out | with_reducible refine aI ?_ ?_ | (simp;done))))
   refine dZ 0 0 ?_ ?_ (IH (rest,k+1) ⟨g2,h2⟩ (Nat.lt_succ_self _))
   ·(simp only [go_sem,hF,hP,hZ,gA,aM cv];try exact bO)
   ·(simp only [go_sem,hF,hP,hZ,gA,aM cv];try exact bO)
theorem YV {p:Pg} (ho:p.ki) (hb:p.may=true) {i:Nat} {f:Pc} (hf:p.procs[i]? = some f) (m:Im) (hm:m.proc=(i:Int)) (s:St) :
 aB Tryz.prog uF [.dE (iu p) 0, .agg (ff m)] s (.bool (jT f.labels m.s m.loop)) s:=by
 refine aB.pure ?_ (by simp [D.bp,D.ok,yy,NZ]) rfl s
 have tq:=fun s=>aoR ho hb hf m.s.name s
 have ac5:=Ge f.fin m.s.name (Sm.cW f.body)
 rw [← hm]at tq
 obtain⟨A,hA⟩ : ∃ A,q9 f.fin m.s.name (Sm.cW f.body)=A:=⟨_,rfl⟩
 rw [hA]at tq ac5
 obtain⟨R,hR⟩ : ∃ R,jT f.labels m.s m.loop=R:=⟨_,rfl⟩
 rw [hR]
 unfold jT Pc.labels at hR
 unfold S0
 rcases Bool.eq_false_or_eq_true (m.s.kind==7)with c1 | c1
 ·simp only [c1,Bool.true_or,if_true]at hR
  subst hR
  refine aB.go oS rfl fun B Q hB hQ=> ?_
  have⟨hF,hP,hZ,gA⟩:=bH
  repeat' (first
 | simp only [go_sem,hF,hP,hZ,gA,c1]
 | (with_reducible refine aG hQ ?_;simp only [ay,az,Option.some.injEq,exists_eq_left',go_sem,hF,hP,hZ,gA];repeat' (first | exact Ok.out | with_reducible refine aI ?_ ?_ | (simp;done))))
 rcases Bool.eq_false_or_eq_true (m.s.kind==8)with c2 | c2
 ·simp only [c1,c2,Bool.or_true,if_true]at hR
  subst hR
  refine aB.go oS rfl fun B Q hB hQ=> ?_
  have⟨hF,hP,hZ,gA⟩:=bH
  repeat' (first
 | simp only [go_sem,hF,hP,hZ,gA,c1,c2]
 | (with_reducible refine aG hQ ?_;simp only [ay,az,Option.some.injEq,exists_eq_left',go_sem,hF,hP,hZ,gA];repeat' (first | exact Ok.out | with_reducible refine aI ?_ ?_ | (simp;done))))
 rcases Bool.eq_false_or_eq_true (m.s.kind==10)with c3 | c3
 ·simp only [c1,c2,c3,Bool.or_self,Bool.false_eq_true,if_false,if_true, ← ac5]at hR
  subst hR
  refine aB.go oS rfl fun B Q hB hQ=> ?_
  have⟨hF,hP,hZ,gA⟩:=bH
  repeat' (first
 | simp only [go_sem,hF,hP,hZ,gA,c1,c2,c3]
 | (with_reducible refine CU (tq _) ?_)
 | (with_reducible refine aG hQ ?_;simp only [ay,az,Option.some.injEq,exists_eq_left',go_sem,hF,hP,hZ,gA];repeat' (first | exact Ok.out | with_reducible refine aI ?_ ?_ | (simp;done))))
 ·simp only [c1,c2,c3,Bool.or_self,Bool.false_eq_true,if_false]at hR
  subst hR
  refine aB.go oS rfl fun B Q hB hQ=> ?_
  have⟨hF,hP,hZ,gA⟩:=bH
  repeat' (first
 | simp only [go_sem,hF,hP,hZ,gA,c1,c2,c3]
 | (with_reducible refine aG hQ ?_;simp only [ay,az,Option.some.injEq,exists_eq_left',go_sem,hF,hP,hZ,gA];repeat' (first | exact Ok.out | with_reducible refine aI ?_ ?_ | (simp;done))))
end Go.Abs

/-! Jm3 -/

namespace Go.Abs
set_option maxRecDepth 8000
open Go.Proofs
theorem YW {p:Pg} (h:p.ki) (kT:(p.scope.1==0)=true) (s:St):aB Tryz.prog qI [.agg (bC p)] s (.dE (iu p) 0) s:=by
 refine aB.pure ?_ (by simp [D.bp,D.ok,gl]) (by simp [D.ok,yy]) s
 obtain⟨uq,tA,zi⟩:=h.procs
 have ti:=fun s=>uU h s
 have dF:=fun s=>Dy (p:=p) (by omega) s
 have b0:(p.scope.1 != 0) = !(p.scope.1==0):=rfl
 rw [kT]at b0
 unfold S0
 refine aB.go xn rfl fun B Q hB hQ=> ?_
 have⟨hF,hP,hZ,gA⟩:=bH
 repeat' (first
 | simp only [go_sem,hF,hP,hZ,gA,b0,Bool.not_true]
 | (with_reducible refine CU (ti _) ?_)
 | (with_reducible refine CU (dF _) ?_)
 | (with_reducible refine aG hQ ?_;simp only [ay,az,Option.some.injEq,exists_eq_left',go_sem,hF,hP,hZ,gA];repeat' (first | exact Ok.out | with_reducible refine aI ?_ ?_ | (simp;done))))
theorem YX {p:Pg} (h:p.ki) (kT:(p.scope.1==0)=false) (s:St):aB Tryz.prog qI [.agg (bC p)] s .eO s:=by
 refine aB.pure ?_ (by simp [D.bp,D.ok,gl]) rfl s
 have ti:=fun s=>uU h s
 have b0:(p.scope.1 != 0) = !(p.scope.1==0):=rfl
 rw [kT]at b0
 unfold S0
 refine aB.go xn rfl fun B Q hB hQ=> ?_
 have⟨hF,hP,hZ,gA⟩:=bH
 repeat' (first
 | simp only [go_sem,hF,hP,hZ,gA,b0,Bool.not_false]
 | (with_reducible refine CU (ti _) ?_)
 | (with_reducible refine aG hQ ?_;simp only [ay,az,Option.some.injEq,exists_eq_left',go_sem,hF,hP,hZ,gA];repeat' (first | exact Ok.out | with_reducible refine aI ?_ ?_ | (simp;done))))
mutual
theorem UO {pr up next loop:Int} : ∀ (s:Sm) (m:Im),m∈s.uW pr up next loop→m.proc=pr
 | ⟨id,kind,labels,name,pc,x,has,args,aY,aP⟩,m,h=>by
  simp only [Sm.uW]at h
  rcases List.mem_cons.1 h with rfl | h
  ·rfl
  ·rcases List.mem_append.1 h with h | h
   ·exact vZ aY m h
   ·exact vZ aP m h
theorem vZ {pr up next loop:Int} : ∀ (l:List Sm) (m:Im),m∈Sm.kb pr up next loop l→m.proc=pr
 | s::l,m,h=>by
  simp only [Sm.kb]at h
  rcases List.mem_append.1 h with h | h
  ·exact UO s m h
  ·exact vZ l m h
end
theorem wS : ∀ a b:List Sm,fI (a++b)=fI a++fI b
 | [],b=>rfl
 | v::a,b=>by simp only [List.cons_append,fI,wS a b,List.append_assoc]
mutual
theorem Kr : ∀ s:Sm,(fI s.pre).length≤s.size
 | ⟨id,kind,labels,name,pc,x,has,args,aY,aP⟩=>by
  have:=ra aY;have:=ra aP
  simp only [Sm.pre,fI,wS,List.length_append,Sm.size];omega
theorem ra : ∀ l:List Sm,(fI (Sm.cW l)).length≤Sm.aX l
 | []=>Nat.le_refl _
 | s::l=>by
  have:=Kr s;have:=ra l
  simp only [Sm.cW,wS,List.length_append,Sm.aX];omega
end
theorem Rt (seen l:List aC):(iE seen l).1.length≤seen.length+l.length:=(F8 l seen).2
theorem UP {p:Pg} (h:p.ki) (s:St):aB Tryz.prog uD [.agg (bC p)] s (.agg [.int .i64 p.jump.1, .int .i64 p.jump.2]) s:=by
 refine aB.pure ?_ (by simp [D.bp,D.ok,gl]) rfl s
 obtain⟨uq,tA,zi⟩:=h.procs
 obtain⟨R,hR⟩ : ∃ R,p.jump=R:=⟨_,rfl⟩
 rw [hR]
 unfold Pg.jump at hR
 unfold S0
 rcases Bool.eq_false_or_eq_true (p.scope.1==0)with kT | kT
 case inr=>
  have hs:=fun s=>YX h kT s
  simp only [kT,Bool.false_eq_true,if_false]at hR
  subst hR
  refine aB.go xl rfl fun B Q hB hQ=> ?_
  have⟨hF,hP,hZ,gA⟩:=bH
  repeat' (first
 | simp only [go_sem,hF,hP,hZ,gA]
 | (with_reducible refine CU (hs _) ?_)
 | (with_reducible refine aG hQ ?_;simp only [ay,az,Option.some.injEq,exists_eq_left',go_sem,hF,hP,hZ,gA];repeat' (first | exact Ok.out | with_reducible refine aI ?_ ?_ | (simp;done))))
 have hs:=fun s=>YW h kT s
 have hb:=Aw kT
 simp only [kT,if_true]at hR
 refine aB.go xl rfl fun B Q hB hQ=> ?_
 have⟨hF,hP,hZ,gA⟩:=bH
 repeat' (first
 | simp only [go_sem,hF,hP,hZ,gA]
 | (with_reducible refine CU (hs _) ?_)
 | (with_reducible refine aG hQ ?_;simp only [ay,az,Option.some.injEq,exists_eq_left',go_sem,hF,hP,hZ,gA];repeat' (first | exact Ok.out | with_reducible refine aI ?_ ?_ | (simp;done))))
 refine cU 2 0 (bk.ind (ι:=List Pc×Nat) (fun i=>p.procs.drop i.2=i.1∧xP 7 (sm i.1)=R) (fun i=>i.1.length)
  (fun i=> [(1, .ptr 0 0),(2, .ptr 1 0),(3, .dE (iu p) 0),(16, .slice .shared 5 (p.procs.map bq)),(17, .int .i64 (p.procs.length:Int)),(18, .int .i64 (i.2:Int))]) (fun i=>⟨[bC p,[.int .i64 0, .int .i64 0]],[]⟩) ?_ (p.procs,0) ⟨rfl,hR⟩)
 clear hR
 rintro⟨rest,k⟩ ⟨h1,hR⟩ IH
 dsimp only at h1 hR
 cases rest with
 | nil=>
  have hF:=drop_nil h1
  simp only [sm,xP]at hR
  subst hR
  repeat' (first
 | simp only [go_sem,hF,hP,hZ,gA]
 | (with_reducible refine aG hQ ?_;simp only [ay,az,Option.some.injEq,exists_eq_left',go_sem,hF,hP,hZ,gA];repeat' (first | exact Ok.out | with_reducible refine aI ?_ ?_ | (simp;done))))
 | cons f rest=>
  obtain⟨hP,g2,hF,g4⟩:=drop_cons h1
  have cv:k<4611686018427387904:=by omega
  have zj:=List.mem_of_getElem? hP
  have DC:=fun s=>ac3 hb hP (by omega) s
  have wK:=uX (k:Int) 0 (-1) 0 f.body
  have BP:=Uq (k:Int) f
  have NU:=fun m=>vZ (pr:=(k:Int)) (up:=0) (next:= -1) (loop:=0) f.body m
  have Jy:=D2 h zj
  have aoS:=Gf h zj
  have ac6:(fI (Sm.cW f.body)).length≤900000:=by
   have h1:=ra f.body
   have h2:=Pc.bV zj
   simp only [Pc.size]at h2
   omega
  rw [← wK]at ac6
  generalize hI:Sm.kb (k:Int) 0 (-1) 0 f.body=I at *
  have hIl:I.length≤900000:=by rw [← wK,List.length_map]at Jy;exact Jy
  simp only [sm, ← BP]at hR
  obtain⟨J,hJ⟩ : ∃ J,sk f.labels f.fin [] (I.map Im.pair)=J:=⟨_,rfl⟩
  rw [hJ]at hR
  have hld:=fun(m:Im) (hm:m∈I) s=>YV h hb hP m (NU m hm) s
  repeat' (first
 | simp only [go_sem,hF,hP,hZ,gA]
 | (with_reducible refine CU (DC _) ?_)
 | (with_reducible refine aG hQ ?_;simp only [ay,az,Option.some.injEq,exists_eq_left',go_sem,hF,hP,hZ,gA];repeat' (first | exact Ok.out | with_reducible refine aI ?_ ?_ | (simp;done))))
  refine bk.ov 6 1 rfl ?_
  simp only [go_sem,hF,hP,hZ,gA]
  refine cU 3 1 (bk.ind (ι:=List Im×Nat×List aC×Nat) (fun i=>I.drop i.2.1=i.1∧sk f.labels f.fin i.2.2.1 (i.1.map Im.pair)=J∧i.2.2.2=i.2.2.1.length∧i.2.2.1.length+(fI (i.1.map Im.s)).length≤900000) (fun i=>i.1.length)
   (fun i=> [(1, .ptr 0 0),(2, .ptr 1 0),(3, .dE (iu p) 0),(5, .ptr 2 0),(6, .slice (.tok 0) 1 (i.2.2.1.map encStr)),(16, .slice .shared 5 (p.procs.map bq)),(17, .int .i64 (p.procs.length:Int)),(18, .int .i64 (k:Int)),
    (25, .slice .shared 17 (I.map ff)),(26, .int .i64 (I.length:Int)),(27, .int .i64 (i.2.1:Int))]) (fun i=>⟨[bC p,[.int .i64 0, .int .i64 0],bq f],[some i.2.2.2]⟩) ?_ (I,0,[],0) ⟨rfl,hJ,rfl,by simpa using ac6⟩)
  clear hJ
  rintro⟨vT,k2,seen,n2⟩ ⟨j1,j2,j3,j4⟩ Dq
  dsimp only at j1 j2 j3 j4
  subst j3
  cases vT with
  | nil=>
   have N7:=drop_nil j1
   simp only [List.map_nil,sk]at j2
   simp only [List.map_nil,fI,List.length_nil,Nat.add_zero]at j4
   have Gg:=fun {s:St} {t:Nat} (ht:s.aA[t]? = some (some seen.length))=>Rr (seen:=seen) (l:=f.fin) (by omega) ht
   obtain⟨P1,hP1⟩ : ∃ P1,iE seen f.fin=P1:=⟨_,rfl⟩
   rw [hP1]at j2 Gg
   rcases Bool.eq_false_or_eq_true P1.2 with c1 | c1
   ·simp only [c1,if_true]at j2
    subst j2
    simp only at hR
    repeat' (first
 | simp only [go_sem,hF,hP,hZ,gA,N7,c1,Bool.not_true]
 | (with_reducible refine CU (Gg (by with_unfolding_all rfl)) ?_)
 | (with_reducible refine aG hQ ?_;simp only [ay,az,Option.some.injEq,exists_eq_left',go_sem,hF,hP,hZ,gA];repeat' (first | exact Ok.out | with_reducible refine aI ?_ ?_ | (simp;done))))
    refine dZ 2 0 ?_ ?_ (IH (rest,k+1) ⟨g2,hR⟩ (Nat.lt_succ_self _))
    ·(simp only [go_sem,hF,hP,hZ,gA,aM cv];try exact bO)
    ·(simp only [go_sem,hF,hP,hZ,gA,aM cv];try exact bO)
   ·simp only [c1,Bool.false_eq_true,if_false]at j2
    subst j2
    simp only [xP]at hR
    subst hR
    repeat' (first
 | simp only [go_sem,hF,hP,hZ,gA,N7,c1,Bool.not_false]
 | (with_reducible refine CU (Gg (by with_unfolding_all rfl)) ?_)
 | (with_reducible refine aG hQ ?_;simp only [ay,az,Option.some.injEq,exists_eq_left',go_sem,hF,hP,hZ,gA];repeat' (first | exact Ok.out | with_reducible refine aI ?_ ?_ | (simp;done))))
  | cons m vT=>
   obtain⟨oI,j5,xL,j6⟩:=drop_cons j1
   have sM:k2<4611686018427387904:=by omega
   have hmm:=List.mem_of_getElem? oI
   have WR:=fun s=>hld m hmm s
   simp only [List.map_cons,Im.pair,sk]at j2
   simp only [List.map_cons,fI,List.length_append]at j4
   have Gg:=fun {s:St} {t:Nat} (ht:s.aA[t]? = some (some seen.length))=>Rr (seen:=seen) (l:=m.s.labels) (by omega) ht
   have Vv:=Rt seen m.s.labels
   obtain⟨P1,hP1⟩ : ∃ P1,iE seen m.s.labels=P1:=⟨_,rfl⟩
   rw [hP1]at j2 Gg Vv
   rcases Bool.eq_false_or_eq_true P1.2 with c1 | c1
   ·rcases Bool.eq_false_or_eq_true (jT f.labels m.s m.loop)with c2 | c2
    ·simp only [c1,c2,if_true]at j2
     repeat' (first
 | simp only [go_sem,hF,hP,hZ,gA,oI,xL,c1,c2,Bool.not_true]
 | (with_reducible refine CU (Gg (by with_unfolding_all rfl)) ?_)
 | (with_reducible refine CU (WR _) ?_)
 | (with_reducible refine aG hQ ?_;simp only [ay,az,Option.some.injEq,exists_eq_left',go_sem,hF,hP,hZ,gA];repeat' (first | exact Ok.out | with_reducible refine aI ?_ ?_ | (simp;done))))
     refine dZ 3 1 ?_ ?_ (Dq (vT,k2+1,P1.1,P1.1.length) ⟨j5,j2,rfl,by dsimp only;omega⟩ (Nat.lt_succ_self _))
     ·(simp only [go_sem,hF,hP,hZ,gA,aM sM];try exact bO)
     ·(simp only [go_sem,hF,hP,hZ,gA,aM sM];try exact bO)
    ·simp only [c1,c2,if_true,Bool.false_eq_true,if_false]at j2
     subst j2
     simp only [xP]at hR
     subst hR
     repeat' (first
 | simp only [go_sem,hF,hP,hZ,gA,oI,xL,c1,c2,Bool.not_true,Bool.not_false]
 | (with_reducible refine CU (Gg (by with_unfolding_all rfl)) ?_)
 | (with_reducible refine CU (WR _) ?_)
 | (with_reducible refine aG hQ ?_;simp only [ay,az,Option.some.injEq,exists_eq_left',go_sem,hF,hP,hZ,gA];repeat' (first | exact Ok.out | with_reducible refine aI ?_ ?_ | (simp;done))))
   ·simp only [c1,Bool.false_eq_true,if_false]at j2
    subst j2
    simp only [xP]at hR
    subst hR
    repeat' (first
 | simp only [go_sem,hF,hP,hZ,gA,oI,xL,c1,Bool.not_false]
 | (with_reducible refine CU (Gg (by with_unfolding_all rfl)) ?_)
 | (with_reducible refine CU (WR _) ?_)
 | (with_reducible refine aG hQ ?_;simp only [ay,az,Option.some.injEq,exists_eq_left',go_sem,hF,hP,hZ,gA];repeat' (first | exact Ok.out | with_reducible refine aI ?_ ?_ | (simp;done))))
end Go.Abs

/-! Rj1 -/

namespace Go.Abs
set_option maxRecDepth 8000
open Go.Proofs
theorem UQ (x:It):(jn x)[2]? = some (.slice .shared 1 (x.s.labels.map encStr)):=nd rfl
theorem Ru (x:It):(jn x)[14]? = some (.int .i64 x.bY):=nd rfl
attribute [go_sem] UQ Ru
end Go.Abs

/-! Rj2 -/

namespace Go.Abs
set_option maxRecDepth 8000
open Go.Proofs
end Go.Abs

/-! Ck1 -/

namespace Go.Abs
set_option maxRecDepth 8000
open Go.Proofs
theorem YY : ∀ n,n<1000000000→∀ l:List Sm,Sm.aX l<n→aB Tryz.prog jK [.slice .shared 13 (l.map aU)] S0 (.int .i64 (Sm.dC l:Int)) S0:=by
 intro n
 induction n with
 | zero=>intro _ l h;omega
 | succ n ih=>
 intro hn l hv
 have hl:=Sm.cP l
 have hk : ∀ y∈l,(∀ s,aB Tryz.prog jK [.slice .shared 13 (y.aY.map aU)] s (.int .i64 (Sm.dC y.aY:Int)) s)∧(∀ s,aB Tryz.prog jK [.slice .shared 13 (y.aP.map aU)] s (.int .i64 (Sm.dC y.aP:Int)) s)∧
  y.fV=1+Sm.dC y.aY+Sm.dC y.aP:=fun y hy=>by
  have h1:=Sm.bV hy
  have dK:Sm.aX y.aY<y.size∧Sm.aX y.aP<y.size∧y.fV=1+Sm.dC y.aY+Sm.dC y.aP:=by
   obtain⟨_,_,_,_,_,_,_,_,_,_⟩:=y
   simp only [Sm.size];exact⟨by omega,by omega,rfl⟩
  exact⟨fun s=>(ih (by omega) y.aY (by omega)).pure (by simp only [D.bp,D.ok,Tag.ok,jD];rfl) rfl s,fun s=>(ih (by omega) y.aP (by omega)).pure (by simp only [D.bp,D.ok,Tag.ok,jD];rfl) rfl s,dK.2.2⟩
 have qx:=kC l
 unfold S0
 refine aB.go EL rfl fun B Q hB hQ=> ?_
 have⟨hF,hP,hZ,gA⟩:=bH
 repeat' (first
 | simp only [go_sem,hF,hP,hZ,gA]
 | (with_reducible refine aG hQ ?_;simp only [ay,az,Option.some.injEq,exists_eq_left',go_sem,hF,hP,hZ,gA];repeat' (first | exact Ok.out | with_reducible refine aI ?_ ?_ | (simp;done))))
 refine cU 0 0 (bk.ind (ι:=List Sm×Nat×Nat) (fun i=>l.drop i.2.1=i.1∧i.2.2+Sm.dC i.1=Sm.dC l+i.1.length) (fun i=>i.1.length)
  (fun i=> [(0, .slice .shared 13 (l.map aU)),(3, .int .i64 (i.2.2:Int)),(7, .slice .shared 13 (l.map aU)),(8, .int .i64 (l.length:Int)),(9, .int .i64 (i.2.1:Int))]) (fun i=>⟨[],[]⟩) ?_ (l,0,l.length) ⟨rfl,Nat.add_comm _ _⟩)
 rintro⟨rest,k,c⟩ ⟨g1,g2⟩ IH
 dsimp only at g1 g2
 cases rest with
 | nil=>
  have hF:=drop_nil g1
  simp only [Sm.dC,Nat.add_zero,List.length_nil]at g2
  subst g2
  repeat' (first
 | simp only [go_sem,hF,hP,hZ,gA]
 | (with_reducible refine aG hQ ?_;simp only [ay,az,Option.some.injEq,exists_eq_left',go_sem,hF,hP,hZ,gA];repeat' (first | exact Ok.out | with_reducible refine aI ?_ ?_ | (simp;done))))
 | cons y rest=>
  obtain⟨hP,g3,hF,g4⟩:=drop_cons g1
  obtain⟨hy1,hy2,hy3⟩:=hk y (List.mem_of_getElem? hP)
  simp only [Sm.dC,List.length_cons]at g2
  have CJ:=Sm.bV (List.mem_of_getElem? hP)
  have Kx:rest.length≤l.length:=by have:=congrArg List.length g1;simp only [List.length_drop,List.length_cons]at this;omega
  have w1:IntKind.wrap .i64 ((k:Int)+1)=((k+1:Nat):Int):=by rw [c6] <;> omega
  have w2:IntKind.wrap .i64 ((Sm.dC y.aY:Int)+(Sm.dC y.aP:Int))=((Sm.dC y.aY+Sm.dC y.aP:Nat):Int):=by rw [c6] <;> omega
  have w3:IntKind.wrap .i64 ((c:Int)+((Sm.dC y.aY+Sm.dC y.aP:Nat):Int))=((c+(Sm.dC y.aY+Sm.dC y.aP):Nat):Int):=by rw [c6] <;> omega
  repeat' (first
 | simp only [go_sem,hF,hP,hZ,gA,w1,w2,w3]
 | (with_reducible refine CU (hy1 _) ?_)
 | (with_reducible refine CU (hy2 _) ?_)
 | (with_reducible refine aG hQ ?_;simp only [ay,az,Option.some.injEq,exists_eq_left',go_sem,hF,hP,hZ,gA];repeat' (first | exact Ok.out | with_reducible refine aI ?_ ?_ | (simp;done))))
  refine cU 0 0 (IH (rest,k+1,c+(Sm.dC y.aY+Sm.dC y.aP)) ⟨g3,by dsimp only;omega⟩ (Nat.lt_succ_self _))
theorem YZ {l:List Sm} (h:Sm.aX l+1<1000000000) (s:St):aB Tryz.prog jK [.slice .shared 13 (l.map aU)] s (.int .i64 (Sm.dC l:Int)) s:=
 (YY _ h l (Nat.lt_succ_self _)).pure (by simp only [D.bp,D.ok,Tag.ok,jD];rfl) rfl s
def Pc.rb:List Pc→Nat
 | []=>0
 | f::l=>Sm.dC f.body+Pc.rb l
theorem Lk : ∀ l:List Pc,Pc.rb l≤Pc.aX l
 | []=>Nat.le_refl _
 | f::l=>by
  have:=Lk l;have:=kC f.body
  simp only [Pc.rb,Pc.aX,Pc.size];omega
theorem Fa {p:Pg} (h:p.size+1<1000000000) (s:St):aB Tryz.prog oy [.agg (bC p)] s (.int .i64 (Pc.rb p.procs:Int)) s:=by
 refine aB.pure ?_ (by simp [D.bp,D.ok,gl]) rfl s
 have hs:Pc.aX p.procs+1<1000000000:=by simp only [Pg.size]at h;omega
 have hl:=Pc.cP p.procs
 have D0:=Lk p.procs
 unfold S0
 refine aB.go EH rfl fun B Q hB hQ=> ?_
 have⟨hF,hP,hZ,gA⟩:=bH
 repeat' (first
 | simp only [go_sem,hF,hP,hZ,gA]
 | (with_reducible refine aG hQ ?_;simp only [ay,az,Option.some.injEq,exists_eq_left',go_sem,hF,hP,hZ,gA];repeat' (first | exact Ok.out | with_reducible refine aI ?_ ?_ | (simp;done))))
 refine cU 1 0 (bk.ind (ι:=List Pc×Nat×Nat) (fun i=>p.procs.drop i.2.1=i.1∧i.2.2+Pc.rb i.1=Pc.rb p.procs) (fun i=>i.1.length)
  (fun i=> [(1, .ptr 0 0),(3, .int .i64 (i.2.2:Int)),(7, .slice .shared 5 (p.procs.map bq)),(8, .int .i64 (p.procs.length:Int)),(9, .int .i64 (i.2.1:Int))]) (fun i=>⟨[bC p],[]⟩) ?_ (p.procs,0,0) ⟨rfl,Nat.zero_add _⟩)
 rintro⟨rest,k,c⟩ ⟨g1,g2⟩ IH
 dsimp only at g1 g2
 cases rest with
 | nil=>
  have hF:=drop_nil g1
  simp only [Pc.rb,Nat.add_zero]at g2
  subst g2
  repeat' (first
 | simp only [go_sem,hF,hP,hZ,gA]
 | (with_reducible refine aG hQ ?_;simp only [ay,az,Option.some.injEq,exists_eq_left',go_sem,hF,hP,hZ,gA];repeat' (first | exact Ok.out | with_reducible refine aI ?_ ?_ | (simp;done))))
 | cons f rest=>
  obtain⟨hP,g3,hF,g4⟩:=drop_cons g1
  have hsf:=Pc.bV (List.mem_of_getElem? hP)
  simp only [Pc.size]at hsf
  have hc:=fun s=>YZ (l:=f.body) (by omega) s
  simp only [Pc.rb]at g2
  have w1:IntKind.wrap .i64 ((k:Int)+1)=((k+1:Nat):Int):=by rw [c6] <;> omega
  have w2:IntKind.wrap .i64 ((c:Int)+(Sm.dC f.body:Int))=((c+Sm.dC f.body:Nat):Int):=by rw [c6] <;> omega
  repeat' (first
 | simp only [go_sem,hF,hP,hZ,gA,w1,w2]
 | (with_reducible refine CU (hc _) ?_)
 | (with_reducible refine aG hQ ?_;simp only [ay,az,Option.some.injEq,exists_eq_left',go_sem,hF,hP,hZ,gA];repeat' (first | exact Ok.out | with_reducible refine aI ?_ ?_ | (simp;done))))
  refine cU 1 0 (IH (rest,k+1,c+Sm.dC f.body) ⟨g3,by dsimp only;omega⟩ (Nat.lt_succ_self _))
theorem UR {p:Pg} (h:p.may=false):p.scope=(1,0):=by unfold Pg.scope;rw [h];rfl
theorem Jz {p:Pg} (h:p.ki) (s:St):aB Tryz.prog pk [.agg (bC p)] s (.agg [.int .i64 p.check.1, .int .i64 p.check.2]) s:=by
 refine aB.pure ?_ (by simp [D.bp,D.ok,gl]) rfl s
 have h1:=fun s=>Ql h.Ue s
 rw [E3]at h1
 have h2:=fun s=>uU h s
 have h3:=fun s=>IX h s
 have h4:=fun s=>UP h s
 have h5:=fun s=>Q3 h s
 obtain⟨R,hR⟩ : ∃ R,p.check=R:=⟨_,rfl⟩
 rw [hR]
 unfold Pg.check at hR
 unfold S0
 rcases Bool.eq_false_or_eq_true p.may with b0 | b0
 case inr=>
  have e:((1:Int)==0)=false:=rfl
  rw [UR b0]at hR
  simp only [e,Bool.false_eq_true,if_false]at hR
  subst hR
  refine aB.go nD rfl fun B Q hB hQ=> ?_
  have⟨hF,hP,hZ,gA⟩:=bH
  repeat' (first
 | simp only [go_sem,hF,hP,hZ,gA,b0,Bool.not_false]
 | (with_reducible refine CU (h1 _) ?_)
 | (with_reducible refine aG hQ ?_;simp only [ay,az,Option.some.injEq,exists_eq_left',go_sem,hF,hP,hZ,gA];repeat' (first | exact Ok.out | with_reducible refine aI ?_ ?_ | (simp;done))))
 rcases Bool.eq_false_or_eq_true (p.scope.1==0)with b1 | b1
 case inr=>
  simp only [b1,Bool.false_eq_true,if_false]at hR
  subst hR
  refine aB.go nD rfl fun B Q hB hQ=> ?_
  have⟨hF,hP,hZ,gA⟩:=bH
  repeat' (first
 | simp only [go_sem,hF,hP,hZ,gA,b0,b1,Bool.not_true]
 | (with_reducible refine CU (h1 _) ?_)
 | (with_reducible refine CU (h2 _) ?_)
 | (with_reducible refine aG hQ ?_;simp only [ay,az,Option.some.injEq,exists_eq_left',go_sem,hF,hP,hZ,gA];repeat' (first | exact Ok.out | with_reducible refine aI ?_ ?_ | (simp;done))))
 simp only [b1,if_true]at hR
 rcases Bool.eq_false_or_eq_true (p.arity.1==0)with b2 | b2
 case inr=>
  simp only [b2,Bool.false_eq_true,if_false]at hR
  subst hR
  refine aB.go nD rfl fun B Q hB hQ=> ?_
  have⟨hF,hP,hZ,gA⟩:=bH
  repeat' (first
 | simp only [go_sem,hF,hP,hZ,gA,b0,b1,b2,Bool.not_true]
 | (with_reducible refine CU (h1 _) ?_)
 | (with_reducible refine CU (h2 _) ?_)
 | (with_reducible refine CU (h3 _) ?_)
 | (with_reducible refine aG hQ ?_;simp only [ay,az,Option.some.injEq,exists_eq_left',go_sem,hF,hP,hZ,gA];repeat' (first | exact Ok.out | with_reducible refine aI ?_ ?_ | (simp;done))))
 simp only [b2,if_true]at hR
 rcases Bool.eq_false_or_eq_true (p.jump.1==0)with b3 | b3
 case inr=>
  simp only [b3,Bool.false_eq_true,if_false]at hR
  subst hR
  refine aB.go nD rfl fun B Q hB hQ=> ?_
  have⟨hF,hP,hZ,gA⟩:=bH
  repeat' (first
 | simp only [go_sem,hF,hP,hZ,gA,b0,b1,b2,b3,Bool.not_true]
 | (with_reducible refine CU (h1 _) ?_)
 | (with_reducible refine CU (h2 _) ?_)
 | (with_reducible refine CU (h3 _) ?_)
 | (with_reducible refine CU (h4 _) ?_)
 | (with_reducible refine aG hQ ?_;simp only [ay,az,Option.some.injEq,exists_eq_left',go_sem,hF,hP,hZ,gA];repeat' (first | exact Ok.out | with_reducible refine aI ?_ ?_ | (simp;done))))
 simp only [b3,if_true]at hR
 subst hR
 refine aB.go nD rfl fun B Q hB hQ=> ?_
 have⟨hF,hP,hZ,gA⟩:=bH
 repeat' (first
 | simp only [go_sem,hF,hP,hZ,gA,b0,b1,b2,b3,Bool.not_true]
 | (with_reducible refine CU (h1 _) ?_)
 | (with_reducible refine CU (h2 _) ?_)
 | (with_reducible refine CU (h3 _) ?_)
 | (with_reducible refine CU (h4 _) ?_)
 | (with_reducible refine CU (h5 _) ?_)
 | (with_reducible refine aG hQ ?_;simp only [ay,az,Option.some.injEq,exists_eq_left',go_sem,hF,hP,hZ,gA];repeat' (first | exact Ok.out | with_reducible refine aI ?_ ?_ | (simp;done))))
theorem JA {p:Pg} (h:p.ki) (s:St):aB Tryz.prog po [.agg (bC p)] s (.bool (p.check.1==0)) s:=by
 refine aB.pure ?_ (by simp [D.bp,D.ok,gl]) rfl s
 have h1:=fun s=>Jz h s
 unfold S0
 refine aB.go Gu rfl fun B Q hB hQ=> ?_
 have⟨hF,hP,hZ,gA⟩:=bH
 repeat' (first
 | simp only [go_sem,hF,hP,hZ,gA]
 | (with_reducible refine CU (h1 _) ?_)
 | (with_reducible refine aG hQ ?_;simp only [ay,az,Option.some.injEq,exists_eq_left',go_sem,hF,hP,hZ,gA];repeat' (first | exact Ok.out | with_reducible refine aI ?_ ?_ | (simp;done))))
end Go.Abs

/-! LsP -/

namespace Go.Abs
mutual
theorem aga (deep bY:Int) (aP:Bool) : ∀ s:Sm,(∀ i∈s.mK deep bY aP,i.deep≤12∧i.s.one=true)→s.AN deep
 | ⟨id,kind,labels,name,proc,x,has,args,aY,e⟩,h=>by
  simp only [Sm.mK]at h
  obtain⟨h1,h2⟩:=h _ (List.mem_cons_self ..)
  exact⟨h2,h1,D3 _ _ _ aY fun i m=>h i (List.mem_cons_of_mem _ (List.mem_append_left _ m)),D3 _ _ _ e fun i m=>h i (List.mem_cons_of_mem _ (List.mem_append_right _ m))⟩
theorem D3 (deep bY:Int) (aP:Bool) : ∀ l:List Sm,(∀ i∈Sm.oJ deep bY aP l,i.deep≤12∧i.s.one=true)→Sm.AP deep l
 | [],_=>trivial
 | s::l,h=>by
  simp only [Sm.oJ]at h
  exact⟨aga _ _ _ s fun i m=>h i (List.mem_append_left _ m),D3 _ _ _ l fun i m=>h i (List.mem_append_right _ m)⟩
end
mutual
theorem Y0 : ∀ s:Sm,s.pre.length=s.fV
 | ⟨id,kind,labels,name,proc,x,has,args,aY,e⟩=>by simp only [Sm.pre,Sm.fV,List.length_cons,List.length_append,yR aY,yR e];omega
theorem yR : ∀ l:List Sm,(Sm.cW l).length=Sm.dC l
 | []=>rfl
 | s::l=>by simp only [Sm.cW,Sm.dC,List.length_append,Y0 s,yR l]
end
theorem Gh : ∀ {l:List Pc},Pc.lA l=true→∀ f∈l,isName f.name=true∧f.params.length≤8∧f.vars.length≤16∧dd f.vars=true∧dd f.fin=true∧Pm.ep f.params=true
 | a::l,h,f,m=>by
  simp only [Pc.lA]at h
  split at h
  ·cases h
  split at h
  ·cases h
  rename_i h1 h2
  simp only [Bool.or_eq_true,Bool.not_eq_true',not_or,Bool.not_eq_false,decide_eq_true_eq]at h1 h2
  rcases List.mem_cons.1 m with rfl | m
  ·exact⟨h1.1.1.1.1,by omega,by omega,h1.1.2,h1.2,h2⟩
  ·exact Gh h f m
structure Pg.W8 (p:Pg):Prop where
 yu:dd p.globals=true
 Hi:(p.globals.length:Int)≤16
 procs : ∀ f∈p.procs,f.AN
 W9:p.procs.length≤16
 n6:Pc.n6 p.procs≤200
theorem Ll : ∀ l:List Pc,(l.map fun f=>Sm.oJ 1 0 false f.body).flatten.length=Pc.n6 l
 | []=>rfl
 | f::l=>by
  have h:(Sm.oJ 1 0 false f.body).length=Sm.dC f.body:=by rw [← yR, ← DM 1 0 false f.body,List.length_map]
  simp only [List.map_cons,List.flatten_cons,List.length_append,Ll l,Pc.n6,h]
theorem Gi : ∀ (l:List It) (n:Nat),It.ep n l=true→∀ i∈l,i.deep≤12∧i.s.one=true
 | a::l,n,h,i,m=>by
  simp only [It.ep]at h
  split at h
  ·cases h
  rename_i h1
  simp only [Bool.or_eq_true,Bool.not_eq_true',not_or,Bool.not_eq_false,decide_eq_true_eq]at h1
  rcases List.mem_cons.1 m with rfl | m
  ·exact⟨by omega,h1.2⟩
  ·exact Gi l _ h i m
theorem Y1 {p:Pg} (h:p.may=true):p.W8:=by
 obtain⟨e1,e2⟩:=Yo h
 obtain⟨a1,a2⟩:=Be h
 have a3:=Gi _ _ a2
 have ht:Pc.n6 p.procs=p.all.length:=by rw [e2,Ll]
 unfold Pg.may at h
 split at h
 ·cases h
 split at h
 ·cases h
 rename_i c1 c2
 simp only [Bool.or_eq_true,Bool.not_eq_true',not_or,Bool.not_eq_false,decide_eq_true_eq]at c1 c2
 refine⟨c1.2,by omega,fun f hf=> ?_,by omega,by omega⟩
 obtain⟨g1,g2,g3,g4,g5,g6⟩:=Gh c2 f hf
 refine⟨g1,⟨g6,g2⟩,⟨g4,by omega⟩,g5,D3 1 0 false f.body fun i m=>a3 i ?_⟩
 rw [e2]
 exact List.mem_flatten.2 ⟨_,List.mem_map_of_mem hf,m⟩
theorem Pg.W8.may {p:Pg} (h:p.W8):p.number.may=true:=(Og h.yu h.Hi h.procs h.W9 h.n6).1
theorem Cs : ∀ l:List Pc,Pc.n6 l=Pc.rb l
 | []=>rfl
 | f::l=>by simp only [Pc.n6,Pc.rb,Cs l]
mutual
theorem US (b:Bool) (n:Nat) : ∀ s:Sm,((Sm.num b n s).1).fV=s.fV
 | ⟨id,kind,labels,name,proc,x,has,args,aY,e⟩=>by simp only [Sm.num,Sm.fV,v7 b _ aY,v7 b _ e]
theorem v7 (b:Bool) (n:Nat) : ∀ l:List Sm,Sm.dC (Sm.cz b n l).1=Sm.dC l
 | []=>rfl
 | s::l=>by simp only [Sm.cz,Sm.dC,US b n s,v7 b _ l]
end
theorem JB : ∀ (l:List Pc) (n:Nat),Pc.n6 (Pc.cz n l)=Pc.n6 l
 | [],_=>rfl
 | f::l,n=>by simp only [Pc.cz,Pc.n6,v7,JB l]
mutual
theorem UT (b:Bool) (n:Nat) : ∀ s:Sm,((Sm.num b n s).1).size=s.size
 | ⟨id,kind,labels,name,proc,x,has,args,aY,e⟩=>by simp only [Sm.num,Sm.size,v8 b _ aY,v8 b _ e]
theorem v8 (b:Bool) (n:Nat) : ∀ l:List Sm,Sm.aX (Sm.cz b n l).1=Sm.aX l
 | []=>rfl
 | s::l=>by simp only [Sm.cz,Sm.aX,UT b n s,v8 b _ l]
end
theorem D4 : ∀ (l:List Pc) (n:Nat),Pc.aX (Pc.cz n l)=Pc.aX l
 | [],_=>rfl
 | f::l,n=>by simp only [Pc.cz,Pc.aX,Pc.size,v8,D4 l]
theorem Pg.JC (p:Pg):p.number.size=p.size:=by simp only [Pg.number,Pg.size,D4]
mutual
theorem ac8 (b c:Bool) (n:Nat) : ∀ s:Sm,((Sm.num b n s).1).cp c=s.cp c
 | ⟨id,kind,labels,name,proc,x,has,args,aY,e⟩=>by simp only [Sm.num,Sm.cp,Bl b _ _ aY,Bl b _ _ e];rfl
theorem Bl (b c:Bool) (n:Nat) : ∀ l:List Sm,Sm.mV c (Sm.cz b n l).1=Sm.mV c l
 | []=>rfl
 | s::l=>by simp only [Sm.cz,Sm.mV,ac8 b c n s,Bl b c _ l]
end
theorem Rv {g f:Pc} (h1:g.name=f.name) (h2:g.params=f.params) (h3:g.vars=f.vars) (h4:g.fin=f.fin) (h:g.mV=f.mV):Pc.Part g f:=
 ⟨h1,h2,h3,h4,by rw [h];exact List.Sublist.refl _,fun c _ _ m=>by rw [ub,h,h4, ← ub];exact m⟩
def AW (n:Nat):List Pc→List (Pc×Pc)
 | []=> []
 | f::l=>({f with body:=(Sm.cz true n f.body).1},f)::AW (Sm.cz true n f.body).2 l
theorem Rw : ∀ (l:List Pc) (n:Nat),(AW n l).map Prod.fst=Pc.cz n l
 | [],_=>rfl
 | f::l,n=>by simp only [AW,List.map_cons,Pc.cz,Rw l]
theorem Rx : ∀ (l:List Pc) (n:Nat),(AW n l).map Prod.snd=l
 | [],_=>rfl
 | f::l,n=>by simp only [AW,List.map_cons,Rx l]
theorem Gj : ∀ (l:List Pc) (n:Nat),∀ x∈AW n l,Pc.Part x.1 x.2
 | f::l,n,x,m=>by
  simp only [AW]at m
  rcases List.mem_cons.1 m with rfl | m
  ·exact Rv rfl rfl rfl rfl (Bl true false n f.body)
  ·exact Gj l _ x m
theorem Ks {p:Pg} (h:p.Right) (n:Nat):(p.u9 n).number.Right∧Pc.rb (p.u9 n).number.procs=Pc.rb p.procs:=by
 have ho:=Y1 h.may
 have D5:(p.procs.drop n++p.procs.take n).Perm p.procs:=by
  have:=List.perm_append_comm (l₁:=p.procs.drop n) (l₂:=p.procs.take n)
  rwa [List.take_append_drop]at this
 have ac9 : ∀ {l m:List Pc},l.Perm m→Pc.n6 l=Pc.n6 m:=by
  intro l m hp
  induction hp with
  | nil=>rfl
  | cons x _ ih=>simp only [Pc.n6,ih]
  | swap x y l=>simp only [Pc.n6];omega
  | trans _ _ Zy YtiopamakecmpkaaGreat=>exact Zy.trans YtiopamakecmpkaaGreat
 have aoV:(p.u9 n).W8:=⟨ho.yu,ho.Hi,fun f m=>ho.procs f (D5.mem_iff.1 m),by have:=D5.length_eq;have:=ho.W9;simp only [Pg.u9];omega,by
  show Pc.n6 (p.procs.drop n++p.procs.take n)≤200
  rw [ac9 D5];exact ho.n6⟩
 refine⟨Oi h aoV.may ⟨rfl,AW 0 (p.u9 n).procs,(Rw _ _).symm, ?_,Gj _ _⟩, ?_⟩
 ·rw [Rx];exact D5
 ·show Pc.rb (Pc.cz 0 (p.procs.drop n++p.procs.take n))=_
  rw [← Cs, ← Cs,JB,ac9 D5]
def aoW (id:Int) (n:Nat):List Pc→List (Pc×Pc)
 | []=> []
 | f::l=>({f with body:=(Sm.cz true n (Sm.AV id f.body)).1},f)::aoW id (Sm.cz true n (Sm.AV id f.body)).2 l
end Go.Abs

/-! Tot -/

namespace Go.Abs
def Tt {α:Type} (o:Option α) (Q:α→Prop):Prop:=∃ a,o=some a∧Q a
structure Rd.Ok (r:Rd):Prop where
 k : ∀ t∈r.l,0≤t.kind∧t.kind≤4
 lt:r.i<r.l.length
 len:r.l.length≤2001
 last : ∀ t,r.l[r.l.length - 1]? = some t→t.kind=0
 n1:r.n≤201
structure Rd.To (r r':Rd):Prop where
 ok:r'.Ok
 l:r'.l=r.l
 i:r.i≤r'.i
 g:r'.good=true→r.good=true
 s:r.good=false→r'=r
structure Rd.ToE (r r':Rd):Prop where
 to:r.To r'
 n:r'.n=r.n
def ExT (r:Rd) (p:Ex×Rd):Prop:=r.ToE p.2∧(p.2.good=true→p.1.size+3+4*r.i≤4*p.2.i)
end Go.Abs

/-! Tot2 -/

namespace Go.Abs
def StT (r:Rd) (p:Sm×Rd):Prop:=r.ToE p.2∧(p.2.good=true→p.1.size+1+8*r.i≤8*p.2.i)
end Go.Abs

/-! Tot3 -/

namespace Go.Abs
structure StQ (r r':Rd):Prop where
 to:r.To r'
 n:r'.good=true→r'.n≤200
def awh (r:Rd) (p:(List Sm×List aC)×Rd):Prop:=StQ r p.2∧(p.2.good=true→Sm.aX p.1.1+p.1.2.length+8*r.i≤8*p.2.i)
def awi (t:fB):Prop:=1≤t.kind∧t.kind≤4
def Xa:Nat:=20000
end Go.Abs

/-! Parsed2 -/

namespace Go.Abs
open Go.Proofs
theorem JD:DP Xa source=some (o3,0,0):=by kernel_rfl
theorem Ow:source.length<4611686018427387904:=by simp [source]
theorem Gk:Nat.ble (o3.size+1) 1000=true:=by kernel_rfl
theorem Ox:o3.size<1073741824:=Nat.lt_of_lt_of_le (Nat.le_of_ble_eq_true Gk) (Nat.le_of_ble_eq_true rfl)
end Go.Abs

/-! RefLex2 -/

namespace Go.Abs
set_option maxRecDepth 8000
open Go.Proofs
def aoX:Int→aC→Int
 | n,[]=>n
 | n,c::r=>aoX (n*10+((c.toNat:Int) - 48)) r
def aoY:fB:=⟨0,[],0,0⟩
def awS (x:fB ⊕ Int):fB×Int:=
 match x with
 | .inl t=>(t,0)
 | .inr e=>(aoY,e)
end Go.Abs

/-! RefLex3 -/

namespace Go.Abs
set_option maxRecDepth 8000
open Go.Proofs
end Go.Abs

/-! Ref4 -/

namespace Go.Abs
set_option maxRecDepth 8000
open Go.Proofs
def awT (s:aC):aC:=s.take (min s.length 100100)
end Go.Abs

/-! Ref5 -/

namespace Go.Abs
set_option maxRecDepth 8000
open Go.Proofs
def Rd.avN (n:Nat) (l:List aC) (gm:Int) (r:Rd):Option (List aC×Rd):=
 (r.take [44]).bind fun q=>if !q.1 then(q.2.want [59]).bind fun r=>some (l,r)else Rd.names n l gm q.2
def ada (s:aC):Bool:=s == [105,102] || s == [119,104,105,108,101] || s == [98,114,101,97,107] || s == [99,111,110,116,105,110,117,101] || s == [114,101,116,117,114,110] || s == [103,111,116,111] || s == [114,101,97,100] || s == [112,114,105,110,116]
def Rd.Xb (m:Nat) (r:Rd):Option (List Ar×Rd):=
 (r.want [40]).bind fun r=>(r.take [41]).bind fun q=>
  if q.1 then some ([],q.2)
  else if q.2.good then(Rd.yd m m [] q.2).bind fun x=>(x.2.want [41]).bind fun r=>some (x.1,r)
  else some ([],q.2)
end Go.Abs

/-! Ref6 -/

namespace Go.Abs
set_option maxRecDepth 8000
open Go.Proofs
def Rd.qT (m:Nat) (name:aC) (r:Rd):Option (Sm×Rd):=
 (r.isO [40]).bind fun b=>
  if b then(Rd.Xb m r).bind fun q=>some (⟨0,4,[],[],name,mU,false,q.1,[],[]⟩,q.2)
  else(r.want [61]).bind fun r=>(r.ahead [40]).bind fun b=>
   if b then(r.name true).bind fun y=>(Rd.Xb m y.2).bind fun q=>some (⟨0,4,[],name,y.1,mU,false,q.1,[],[]⟩,q.2)
   else(Rd.whole m r).bind fun y=>some (⟨0,1,[],name,[],y.1,false,[],[],[]⟩,y.2)
def awU (p:Sm×Rd):Option (Sm×Rd):=(p.2.want [59]).bind fun r=>some (p.1,r)
end Go.Abs

/-! Ref7 -/

namespace Go.Abs
set_option maxRecDepth 8000
open Go.Proofs
def cN (r:Rd):D:=match r.good with | true=> .int .i64 r.n | false=> .junk
instance (r:Rd):Cell (cN r):=by
 unfold cN
 cases r.good
 ·exact inferInstanceAs (Cell .junk)
 ·exact inferInstanceAs (Cell (.int .i64 _))
def stD (g:Bool) (v:Sm):List D:=match g with | true=>aU v | false=> [.junk, .junk, .junk, .junk, .junk, .junk, .junk, .junk, .junk, .junk, .junk, .junk, .junk]
def TW (l:List fB):Prop:=∀ t∈l,t.kind=4→ada t.text=false
abbrev avQ (m n:Nat):Prop:=∀ {k:Int} {z:D} [Cell z] {r r1:Rd} {p:(List Sm×List aC)×Rd},r.want [123] = some r1→Rd.rows m n k false r1=some p→TW r.l→(r1.good=true→z = .int .i64 r1.n)→(r1.good=true→r1.n≤200)→
 ∀ {s:St} {o:Nat},s.aw[o]? = some (vH z r)→
 aB Tryz.prog EA [.ptr o 0, .int .i64 k, .bool false] s (.tuple [.slice .shared 13 ((Sm.cz true r1.n p.1.1).1.map aU), .slice .shared 1 (p.1.2.map encStr)]) ⟨s.aw.set o (vH (cN p.2) p.2),s.aA⟩
abbrev ao6 (m n:Nat):Prop:=∀ {nest:Int} {labels:List aC} {r:Rd} {p:Sm×Rd},Rd.stmt m n nest r=some p→r.good=true→TW r.l→r.n≤200→
 ∀ {s:St} {o:Nat},s.aw[o]? = some (vH (.int .i64 r.n) r)→
 aB Tryz.prog Gr [.ptr o 0, .slice .shared 1 (labels.map encStr), .int .i64 nest] s (.agg (stD p.2.good (Sm.num true r.n {p.1 with labels:=labels}).1)) ⟨s.aw.set o (vH (cN p.2) p.2),s.aA⟩
end Go.Abs

/-! Ref8 -/

namespace Go.Abs
set_option maxRecDepth 8000
open Go.Proofs
end Go.Abs

/-! Ref9 -/

namespace Go.Abs
set_option maxRecDepth 8000
open Go.Proofs
def Rd.awj (m:Nat) (r:Rd):Option (Pc×Rd):=
 (r.name true).bind fun x=>(x.2.want [40]).bind fun r=>(r.take [41]).bind fun q=>
  if q.1 then(q.2.want [123]).bind fun r=>Rd.ye m x.1 [] r
  else if q.2.good then(Rd.params m [] q.2).bind fun y=>(y.2.want [41]).bind fun r=>(r.want [123]).bind fun r=>Rd.ye m x.1 y.1 r
  else Rd.ye m x.1 [] q.2
end Go.Abs

/-! Ref10 -/

namespace Go.Abs
set_option maxRecDepth 8000
open Go.Proofs
def Pc.fV (n:Nat):List Pc→Nat
 | []=>n
 | f::l=>Pc.fV (Sm.cz true n f.body).2 l
end Go.Abs

/-! Glue2 -/

namespace Go.Abs
def M0:Map:=⟨fun _ _=>none,fun _=>(0, .any),fun _=>none⟩
def Kept (w w':World):Prop:=w.keptBut w' (fun _=>False)∧∀ a:Addr,a.block<w.heap.size→w'.frozen? a=w.frozen? a
theorem Kept.frame {w w':World} (h:Kept w w') (may:MemPlace→Prop):w.keptBut w' may:=World.keptBut_mono (fun _ f=>f.elim) h.1
theorem Ext.adb {M M':Map} {s':St} {w w':World} (e:Ext M S0 w M' s' w'):Kept w w':=by
 have hh : ∀ b,b<w.heap.size→w'.heap[b]? = w.heap[b]? :=fun b hb=>
  e.kept b hb (fun o ho=>by simp [S0]at ho) (fun t c z hl=>by obtain⟨n,hn⟩:=hl;simp [S0]at hn)
 refine⟨⟨e.os,e.output,fun i hi=> ?_⟩,fun a ha=> ?_⟩
 ·rw [hh i hi]
  exact(World.keptBut_refl w (fun _=>False)).2.2 i hi
 ·simp only [World.frozen?,hh _ ha]
theorem aoZ (G:Nat→Nat→Option Value) (w:World) (h : ∀ b o v,G b o=some v→w.cell? ⟨b,o,none⟩=some v∧v.oneCell'=true):Rel ⟨G,fun _=>(0, .any),fun _=>none⟩ S0 w:=
 ⟨h,fun o ds e=>by simp [S0]at e,fun o ho=>by simp [S0]at ho,fun o o' ho=>by simp [S0]at ho,fun t n e=>by simp [S0]at e,
  fun t b c z o hl=>by obtain⟨n,hn⟩:=hl;simp [S0]at hn,fun t t' b c z c' z' hl=>by obtain⟨n,hn⟩:=hl;simp [S0]at hn⟩
def Oy (w:World):Prop:=∀ g cs,Zp g=some cs→∃ T fr,w.heap[g]? = some (.cells cs T fr)
theorem agb (G:Nat→Nat→Option Value) {w:World} (h:Oy w):Laid ⟨G,fun _=>(0, .any),fun _=>none⟩ S0 w:=
 fun g cs hg=>⟨h g cs hg,fun o ho=>by simp [S0]at ho,fun t c z hl=>by obtain⟨n,hn⟩:=hl;simp [S0]at hn⟩
theorem Ry {P:Program} {f:FuncId} {args:List D} {fY:Array Value} {w:World} {G:Nat→Nat→Option Value} (h:dV P f args S0 fun d _=>d = .bool true)
 (hG : ∀ b o v,G b o=some v→w.cell? ⟨b,o,none⟩=some v∧v.oneCell'=true) (hl:fY.size=args.length)
 (ha : ∀ (i:Nat) (d:D) (v:Value),args[i]? = some d→fY[i]? = some v→RD ⟨G,fun _=>(0, .any),fun _=>none⟩ S0 d v) (jR:Oy w) :
 Calls P f fY w fun e w'=>e = .returned (.bool true)∧Kept w w':=by
 refine(h _ w fY (aoZ G w hG) (agb G jR) hl ha).mono fun e w' hw=> ?_
 obtain⟨M',d,v,s',rfl,rfl,he,_,hv⟩:=hw
 rw [hv.mZ]
 exact⟨rfl,he.adb⟩
section
variable {P:Program} {H:Type} {enc:TypeId×Value→H}
theorem JE {f:Func} {s:ChangeSpec} {apart fresh handsOn again:Bool} {W W':World} {args:Array Value} {v:Value} {ds gs:List (DataW H)} {before pa pv:List MemPlace}
 (hW:DataW.Whole enc P f.params.toList s.vars apart W args.toList ds gs before)
 (Ou : ∀ (b:Nat) (sp:Nat→Bool) (hd:Bool),DataW.TrodAll enc P W' b sp hd f.resultTypes.toList (v.resultList f.resultTypes.size) (s.fn H (ds++gs)).results [])
 (G3 : ∀ sp:Nat→Bool,(∀ p∈before,sp p.block=true)→DataW.TrodAll enc P W' 0 sp true f.params.toList args.toList (s.fn H (ds++gs)).args pa)
 (D6 : ∀ sp:Nat→Bool,(∀ p∈before,sp p.block=true)→DataW.TrodVars enc P W' sp s.vars (s.fn H (ds++gs)).vars pv)
 (tA:before=pa++pv) (hk:Kept W W')
 (BE : ∀ (j:Nat) (t:TypeId) (r:Value),f.resultTypes[j]? = some t→(v.resultList f.resultTypes.size)[j]? = some r→Value.okWide P W' .any 0 t r) :
 s.post enc P f apart fresh handsOn again W args v W':=by
 have hF : ∀ p∈before,p.block<W.heap.size:=fun p hp=>hW.lt p hp
 have hold : ∀ p∈before,(fun b=>decide (b<W.heap.size)) p.block=true:=fun p hp=>by simpa using hF p hp
 refine⟨ds,gs,before,[],pa,pv,hW,Ou _ _ _,G3 _ hold,D6 _ hold,World.keptBut_mono (fun p hp=>⟨hp, ?_⟩) (hk.frame (· ∈before)),fun _=> ?_⟩
 ·rw [tA,List.mem_append]at hp
  exact Or.inr hp
 ·obtain⟨_,_,_,_,_,hz,hn⟩:=hW
  refine⟨BE,_,_,([]++pa)++pv,⟨[]++pa,pv,ChangeShapes.trodAll_append (G3 _ (fun _ _=>rfl)) (Ou _ _ _),D6 _ (fun _ _=>rfl),rfl, ?_, ?_⟩, ?_⟩
  ·intro b off hp
   have l8:MemPlace.cell b off∈before:=by rw [tA];simpa using hp
   rw [hk.2 _ (hF _ l8)]
   exact hz b off l8
  ·intro ha
   have:=hn ha
   rw [tA]at this
   simpa using this
  ·intro p hp _
   rw [tA]
   simpa using hp
end
end Go.Abs

/-! LawAll -/

namespace Go.Abs
open Go.Proofs
def NW (t:fB):Prop:=t.kind=4→ada t.text=false
end Go.Abs

/-! Ck2 -/

namespace Go.Abs
set_option maxRecDepth 8000
open Go.Proofs
def D7 (p:Pg) (c vz:Int):Pg×Int×Int:=if c==0 then(if p.check.1==0 then(p,0,0)else(BK,p.check))else(BK,c,vz)
theorem Y4 {T:aC} {p:Pg} {c vz:Int} (h:DP Xa T=some (p,c,vz)) (hm:c=0→p.may=true∧vz=0) (hp:p.size<100000) (hl:T.length<4611686018427387904) (s:St) :
 aB Tryz.prog uC [.str T] s (.tuple [.agg (bC (D7 p c vz).1), .agg (mE (D7 p c vz).2)]) s:=by
 refine aB.pure ?_ rfl (by simp [D.bp,D.ok,gl,mE]) s
 have h1:=fun s=>Yx h hl s
 have e0:bC BK = [.slice .shared 1 [], .slice .shared 5 []]:=rfl
 unfold S0
 unfold D7
 have b0:(c != 0) = !(c==0):=rfl
 rcases Bool.eq_false_or_eq_true (c==0)with b1 | b1
 case inr=>
  simp only [b1,Bool.false_eq_true,if_false]
  rw [b1]at b0
  refine aB.go rJ rfl fun B Q hB hQ=> ?_
  have⟨hF,hP,hZ,gA⟩:=bH
  repeat' (first
 | simp only [go_sem,hF,hP,hZ,gA,b1,b0,Bool.not_false,mE,e0]
 | (with_reducible refine CU (h1 _) ?_)
 | (with_reducible refine aG hQ ?_;simp only [ay,az,Option.some.injEq,exists_eq_left',go_sem,hF,hP,hZ,gA];repeat' (first | exact Ok.out | with_reducible refine aI ?_ ?_ | (simp;done))))
 have hc:c=0:=by simpa using b1
 subst hc
 obtain⟨Oz,hf⟩:=hm rfl
 subst hf
 have ho:p.ki:=⟨vM Oz (by omega),by omega⟩
 have h2:=fun s=>Jz ho s
 have b3:(p.check.1 != 0) = !(p.check.1==0):=rfl
 simp only [b1,if_true]
 rcases Bool.eq_false_or_eq_true (p.check.1==0)with b2 | b2
 case inr=>
  simp only [b2,Bool.false_eq_true,if_false]
  rw [b2]at b3
  refine aB.go rJ rfl fun B Q hB hQ=> ?_
  have⟨hF,hP,hZ,gA⟩:=bH
  repeat' (first
 | simp only [go_sem,hF,hP,hZ,gA,b1,b3,Bool.not_false,mE,e0]
 | (with_reducible refine CU (h1 _) ?_)
 | (with_reducible refine CU (h2 _) ?_)
 | (with_reducible refine aG hQ ?_;simp only [ay,az,Option.some.injEq,exists_eq_left',go_sem,hF,hP,hZ,gA];repeat' (first | exact Ok.out | with_reducible refine aI ?_ ?_ | (simp;done))))
 simp only [b2,if_true]
 rw [b2]at b3
 refine aB.go rJ rfl fun B Q hB hQ=> ?_
 have⟨hF,hP,hZ,gA⟩:=bH
 repeat' (first
 | simp only [go_sem,hF,hP,hZ,gA,b1,b3,Bool.not_true,mE]
 | (with_reducible refine CU (h1 _) ?_)
 | (with_reducible refine CU (h2 _) ?_)
 | (with_reducible refine aG hQ ?_;simp only [ay,az,Option.some.injEq,exists_eq_left',go_sem,hF,hP,hZ,gA];repeat' (first | exact Ok.out | with_reducible refine aI ?_ ?_ | (simp;done))))
theorem BV:o3.check=(0,0):=by decide +kernel
theorem Rz:Pc.rb o3.procs=8:=by decide +kernel
theorem RA:BK.check=(5,0):=by decide +kernel
theorem RB (s:St):aB Tryz.prog qG [] s (.bool true) s:=by
 refine aB.pure ?_ rfl rfl s
 have dK:=Ox
 have OQ:o3.size<100000:=by have:=Nat.le_of_ble_eq_true Gk;omega
 have Oz:o3.may=true:=by decide +kernel
 have ho:o3.ki:=⟨vM Oz (by omega),by omega⟩
 have h1:=fun s=>Y4 JD (fun _=>⟨Oz,rfl⟩) OQ Ow s
 have e:D7 o3 0 0=(o3,0,0):=by unfold D7;rw [BV];rfl
 rw [e]at h1
 have h2:=fun s=>JA ho s
 rw [BV]at h2
 have h3:=fun s=>Fa (p:=o3) (by omega) s
 rw [Rz]at h3
 have z0:((0:Int)==0)=true:=rfl
 have z8:(((8:Nat):Int)==8)=true:=rfl
 have z5:((5:Int)==5)=true:=rfl
 have h4':=fun s=>(Jz acv s).QB (d:= .agg [.slice .full 0 [], .slice .full 0 []]) (Wk.agg (.cons (Wk.nil _ _ _) (.cons (Wk.nil _ _ _) .nil)))
 simp only [RA]at h4'
 unfold S0
 refine aB.go Bo rfl fun B Q hB hQ=> ?_
 have⟨hF,hP,hZ,gA⟩:=bH
 repeat' (first
 | simp only [go_sem,hF,hP,hZ,gA,z0,z8,z5,mE]
 | (with_reducible refine CU (Uw _) ?_)
 | (with_reducible refine CU (acu _) ?_)
 | (with_reducible refine CU (h1 _) ?_)
 | (with_reducible refine CU (h2 _) ?_)
 | (with_reducible refine CU (h3 _) ?_)
 | (with_reducible refine CU (h4' _) ?_)
 | (with_reducible refine aG hQ ?_;simp only [ay,az,Option.some.injEq,exists_eq_left',go_sem,hF,hP,hZ,gA];repeat' (first | exact Ok.out | with_reducible refine aI ?_ ?_ | (simp;done))))
end Go.Abs

/-! LawCk2 -/

namespace Go.Abs
set_option maxRecDepth 8000
open Go.Proofs
mutual
theorem RC {g:Sm→Sm} : ∀ s:Sm,(∀ v∈s.pre,g v=v)→s.fl g=s
 | ⟨id,kind,labels,name,proc,x,has,args,aY,aP⟩,h=>by
  rw [K8,h _ (by rw [Sm.xK];exact List.mem_cons_self ..)]
  dsimp only
  rw [uc aY fun v m=>h v (by rw [Sm.xK];exact List.mem_cons_of_mem _ (List.mem_append_left _ m)),uc aP fun v m=>h v (by rw [Sm.xK];exact List.mem_cons_of_mem _ (List.mem_append_right _ m))]
theorem uc {g:Sm→Sm} : ∀ l:List Sm,(∀ v∈Sm.cW l,g v=v)→Sm.jd g l=l
 | [],_=>rfl
 | s::l,h=>by
  simp only [Sm.cW,List.mem_append]at h
  simp only [Sm.jd]
  rw [RC s fun v m=>h v (.inl m),uc l fun v m=>h v (.inr m)]
end
theorem UU {p:Pg} {t:Sm} (h : ∀ v∈p.pre,v.id≠t.id):p.put t=p:=by
 obtain⟨globals,procs⟩:=p
 simp only [Pg.put,Pg.fl]
 congr 1
 conv=>rhs;rw [← List.map_id procs]
 refine List.map_congr_left fun f hf=> ?_
 simp only [Pc.fl,id_eq]
 rw [uc f.body fun v m=> ?_]
 have:v.id≠t.id:=h v (by simp only [Pg.pre,List.mem_flatten,List.mem_map];exact⟨_,⟨f,hf,rfl⟩,m⟩)
 unfold eH
 rw [if_neg (by simpa using this)]
theorem UW {p:Pg} (h:p.Right):p.procs≠ []:=fun e=>by
 have:=h.main
 simp [Pg.oH,Pg.find,e,jc]at this
theorem GZ (p:Pg) (n:Int) (s:St):aB Tryz.prog tx [.agg (bC p), .int .i64 n] s (.bool true) s:=by
 refine aB.pure ?_ (by simp [D.bp,D.ok,gl]) rfl s
 have h1:=fun s=>RB s
 have h2:=fun s=>aco p s
 unfold S0
 rcases Bool.eq_false_or_eq_true (decide (p.Bh≤20000))with hw | hw
 case inr=>
  simp only [hw]at h2
  refine aB.go nS rfl fun B Q hB hQ=> ?_
  have⟨hF,hP,hZ,gA⟩:=bH
  repeat' (first
 | simp only [go_sem,hF,hP,hZ,gA]
 | (with_reducible refine CU (h1 _) ?_)
 | (with_reducible refine CU (h2 _) ?_)
 | (with_reducible first | refine bw fun hc=> ?_ | refine bx fun hc=> ?_ | refine bA (fun hc=> ?_) fun hc=> ?_) <;> (try simp only [hc,bs, ↓reduceIte]at h) <;> try simp only [hc]
 | (with_reducible refine aG hQ ?_;exact jS)
 | (cases h;replace h:=hr;clear hr;(try simp only [bs, ↓reduceIte]at h))
 | (cases h;done))
 simp only [hw]at h2
 obtain⟨dK,agc⟩:=Oc (of_decide_eq_true hw)
 have ho:p.ki:=⟨agc,by omega⟩
 have h3:=fun s=>JA ho s
 rcases Bool.eq_false_or_eq_true (p.check.1==0)with b1 | b1
 case inr=>
  refine aB.go nS rfl fun B Q hB hQ=> ?_
  have⟨hF,hP,hZ,gA⟩:=bH
  repeat' (first
 | simp only [go_sem,hF,hP,hZ,gA,b1,Bool.not_false]
 | (with_reducible refine CU (h1 _) ?_)
 | (with_reducible refine CU (h2 _) ?_)
 | (with_reducible refine CU (h3 _) ?_)
 | (with_reducible first | refine bw fun hc=> ?_ | refine bx fun hc=> ?_ | refine bA (fun hc=> ?_) fun hc=> ?_) <;> (try simp only [hc,bs, ↓reduceIte]at h) <;> try simp only [hc]
 | (with_reducible refine aG hQ ?_;(try cases h);simp only [ay,az,bF,bG,go_sem,hF,hP,hZ,gA,b1,Bool.not_false];try exact mj)
 | (cases h;replace h:=hr;clear hr;(try simp only [bs, ↓reduceIte]at h))
 | (cases h;done))
 have hr:=Uy b1
 have UM:p.put gB=p:=UU fun v m e=>by
  obtain⟨i,hi⟩:=List.getElem?_of_mem m
  have h1:=IW hr.may hi
  have h2:gB.id = -1:=rfl
  omega
 have h4:=fun s=>UL (p:=p) (by omega) (UW hr) UM n s
 obtain⟨hq,hc⟩:=Ks hr (rQ n p.procs.length).toNat
 have hqs:(p.u9 (rQ n p.procs.length).toNat).number.size=p.size:=by rw [Pg.JC,Pg.Jw]
 generalize (p.u9 (rQ n p.procs.length).toNat).number=q at *
 have hoq:q.ki:=⟨vM hq.may (by omega),by omega⟩
 have h5:=fun s=>JA hoq s
 have h6:=fun s=>Fa (p:=q) (by omega) s
 have h7:=fun s=>Fa (p:=p) (by omega) s
 have b2:(q.check.1==0)=true:=by rw [hq.check];rfl
 rw [hc]at h6
 have e1 : ∀ x:Int,(x==x)=true:=fun x=>by simp
 refine aB.go nS rfl fun B Q hB hQ=> ?_
 have⟨hF,hP,hZ,gA⟩:=bH
 repeat' (first
 | simp only [go_sem,hF,hP,hZ,gA,b1,b2,e1,Bool.not_true]
 | (with_reducible refine CU (h1 _) ?_)
 | (with_reducible refine CU (h2 _) ?_)
 | (with_reducible refine CU (h3 _) ?_)
 | (with_reducible refine CU (h4 _) ?_)
 | (with_reducible refine CU (h5 _) ?_)
 | (with_reducible refine CU (h6 _) ?_)
 | (with_reducible refine CU (h7 _) ?_)
 | (with_reducible first | refine bw fun hc=> ?_ | refine bx fun hc=> ?_ | refine bA (fun hc=> ?_) fun hc=> ?_) <;> (try simp only [hc,bs, ↓reduceIte]at h) <;> try simp only [hc]
 | (with_reducible refine aG hQ ?_;(try cases h);simp only [ay,az,bF,bG,go_sem,hF,hP,hZ,gA,b1,b2,e1,Bool.not_true];try exact mj)
 | (cases h;replace h:=hr;clear hr;(try simp only [bs, ↓reduceIte]at h))
 | (cases h;done))
end Go.Abs
