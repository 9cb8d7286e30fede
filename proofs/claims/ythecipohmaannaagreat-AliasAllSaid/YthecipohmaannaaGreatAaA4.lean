/-
  What is proved here: the statement AliasAllSaid: whatever the arguments, the law, called, gives true, and of what was there nothing turns.
  No conditions.
-/
import Derived.Test.YthecipohmaannaaGreatAaA3
import Derived.RowKit3
import Derived.WalkKit
import Derived.ProofKit
import Derived.OpenShut
import Derived.ShutString
import Derived.ChangeMaps5
import Derived.ChangeStays
import Derived.KernelRfl
import Derived.Test.YthecipohmaannaaGreatRows

set_option linter.unusedSimpArgs false
set_option linter.unusedVariables false

/-! Al4 -/

namespace Go.Abs
set_option maxRecDepth 8000
open Go.Proofs
def lJ (k:Int):List It→List Int
 | []=> []
 | i::l=>if k==0 || i.s.kind==k then i.s.id::lJ k l else lJ k l
theorem yO (k:Int) : ∀ l,(lJ k l).length≤l.length
 | []=>Nat.le_refl _
 | i::l=>by
  have:=yO k l
  simp only [lJ]
  split <;> simp <;> omega
theorem WA {p:Pg} (hs:Pc.aU p.procs<4611686018427387000) (Ga:p.all.length≤1000) (kd:Int) (s:St):aD Tryz.prog uU [.agg (bD p), .int .i64 kd] s (.slice .shared 1 ((lJ kd p.all).map fV)) s:=by
 refine aD.pure ?_ (by simp [D.bM,D.ok,fT]) (by simp only [D.ok,Tag.ok,rY];rfl) s
 have pw:=fun s=>C5 hs s
 obtain⟨R,hR⟩ : ∃ R,lJ kd p.all=R:=⟨_,rfl⟩
 rw [hR]
 have Lc:R.length≤1000:=by rw [← hR];exact Nat.le_trans (yO kd p.all) Ga
 unfold S0
 refine aD.go Eb rfl fun B Q hB hQ=> ?_
 have⟨hD,hJ,hP,hY⟩:=bK
 repeat' (first
 | simp only [go_sem,hD,hJ,hP,hY]
 | (with_reducible refine CU (pw _) ?_)
 | (with_reducible first | refine ax fun hc=> ?_ | refine ay fun hc=> ?_ | refine az (fun hc=> ?_) fun hc=> ?_) <;> (try simp only [hc,bs, ↓reduceIte]at h) <;> try simp only [hc]
 | (with_reducible refine aA hQ ?_;exact bx)
 | (cases h;done))
 refine bl.kT 5 1 rfl ?_
 simp only [go_sem,hD,hJ,hP,hY]
 refine cP 1 1 (bl.ind (ι:=List It×Nat×List Int×Nat) (fun i=>p.all.drop i.2.1=i.1∧i.2.2.1++lJ kd i.1=R∧i.2.2.2=i.2.2.1.length) (fun i=>i.1.length)
  (fun i=> [(1, .int .i64 kd),(2, .ptr 0 0),(5, .slice (.tok 0) 1 (i.2.2.1.map fV)),(9, .slice .shared 16 (p.all.map dO)),(10, .int .i64 (p.all.length:Int)),(11, .int .i64 (i.2.1:Int))]) (fun i=>⟨[bD p],[some i.2.2.2]⟩) ?_ (p.all,0,[],0) ⟨rfl,hR,rfl⟩)
 clear hR
 rintro⟨rest,k,out,n'⟩ ⟨h1,h2,h3⟩ IH
 dsimp only at h1 h2 h3
 subst h3
 have mj:out.length≤1000:=by have:=congrArg List.length h2;rw [List.length_append]at this;omega
 cases rest with
 | nil=>
  have hD:=drop_nil h1
  simp only [lJ,List.append_nil]at h2
  subst h2
  repeat' (first
 | simp only [go_sem,hD,hJ,hP,hY]
 | (with_reducible first | refine ax fun hc=> ?_ | refine ay fun hc=> ?_ | refine az (fun hc=> ?_) fun hc=> ?_) <;> (try simp only [hc,bs, ↓reduceIte]at h) <;> try simp only [hc]
 | (with_reducible refine aA hQ ?_;exact bx)
 | (cases h;done))
 | cons a rest=>
  obtain⟨hJ,g2,hD,g4⟩:=drop_cons h1
  have bf:k<4611686018427387904:=by omega
  have hP:(out.length+1)*9≤bk:=by unfold bk;omega
  simp only [lJ]at h2
  rcases Bool.eq_false_or_eq_true (kd==0)with c1 | c1
  ·simp only [c1,Bool.true_or,if_true]at h2
   repeat' (first
 | simp only [go_sem,hD,hJ,hP,hY,c1]
 | (with_reducible first | refine ax fun hc=> ?_ | refine ay fun hc=> ?_ | refine az (fun hc=> ?_) fun hc=> ?_) <;> (try simp only [hc,bs, ↓reduceIte]at h) <;> try simp only [hc]
 | (with_reducible refine aA hQ ?_;(try cases h);simp only [aE,aF,aN,aO,go_sem,hD,hJ,hP,hY,c1];try exact aQ)
 | (cases h;done))
   refine bX 1 1 ?_ ?_ (IH (rest,k+1,out++ [a.s.id],out.length+1) ⟨g2,by rw [← h2];simp,by simp⟩ (Nat.lt_succ_self _))
   ·(simp only [go_sem,hD,hJ,hP,hY,au bf,List.map_append,List.map_cons,List.map_nil,fV];try exact aT)
   ·(simp only [go_sem,hD,hJ,hP,hY,au bf,List.map_append,List.map_cons,List.map_nil,fV];try exact aT)
  rcases Bool.eq_false_or_eq_true (a.s.kind==kd)with c2 | c2
  ·simp only [c1,c2,Bool.or_true,if_true]at h2
   repeat' (first
 | simp only [go_sem,hD,hJ,hP,hY,c1,c2]
 | (with_reducible first | refine ax fun hc=> ?_ | refine ay fun hc=> ?_ | refine az (fun hc=> ?_) fun hc=> ?_) <;> (try simp only [hc,bs, ↓reduceIte]at h) <;> try simp only [hc]
 | (with_reducible refine aA hQ ?_;(try cases h);simp only [aE,aF,aN,aO,go_sem,hD,hJ,hP,hY,c1,c2];try exact aQ)
 | (cases h;done))
   refine bX 1 1 ?_ ?_ (IH (rest,k+1,out++ [a.s.id],out.length+1) ⟨g2,by rw [← h2];simp,by simp⟩ (Nat.lt_succ_self _))
   ·(simp only [go_sem,hD,hJ,hP,hY,au bf,List.map_append,List.map_cons,List.map_nil,fV];try exact aT)
   ·(simp only [go_sem,hD,hJ,hP,hY,au bf,List.map_append,List.map_cons,List.map_nil,fV];try exact aT)
  ·simp only [c1,c2,Bool.or_false,Bool.false_eq_true,if_false]at h2
   repeat' (first
 | simp only [go_sem,hD,hJ,hP,hY,c1,c2]
 | (with_reducible first | refine ax fun hc=> ?_ | refine ay fun hc=> ?_ | refine az (fun hc=> ?_) fun hc=> ?_) <;> (try simp only [hc,bs, ↓reduceIte]at h) <;> try simp only [hc]
 | (with_reducible refine aA hQ ?_;(try cases h);simp only [aE,aF,aN,aO,go_sem,hD,hJ,hP,hY,c1,c2];try exact aQ)
 | (cases h;done))
   refine bX 1 1 ?_ ?_ (IH (rest,k+1,out,_) ⟨g2,h2,rfl⟩ (Nat.lt_succ_self _))
   ·(simp only [go_sem,hD,hJ,hP,hY,au bf];try exact aT)
   ·(simp only [go_sem,hD,hJ,hP,hY,au bf];try exact aT)
def mI (l:List Int) (n:Int):Int:=match l[(tM n l.length).toNat]? with | some x=>x | none=>0
theorem TI {l:List Int} (hl:l.length<1000000) (n:Int) (s:St):aD Tryz.prog tp [.slice .shared 1 (l.map fV), .int .i64 n] s (.int .i64 (mI l n)) s:=by
 refine aD.pure ?_ (by simp [D.bM,D.ok,Tag.ok,rY]) rfl s
 unfold S0
 by_cases hz:l.length=0
 ·have hz':l = []:=List.eq_nil_of_length_eq_zero hz
  have c1:((l.length:Int)==0)=true:=by rw [hz];rfl
  have e:mI l n=0:=by unfold mI;rw [hz'];rfl
  rw [e]
  refine aD.go vF rfl fun B Q hB hQ=> ?_
  have⟨hD,hJ,hP,hY⟩:=bK
  repeat' (first
 | simp only [go_sem,hD,hJ,hP,hY,c1]
 | (with_reducible first | refine ax fun hc=> ?_ | refine ay fun hc=> ?_ | refine az (fun hc=> ?_) fun hc=> ?_) <;> (try simp only [hc,bs, ↓reduceIte]at h) <;> try simp only [hc]
 | (with_reducible refine aA hQ ?_;(try cases h);simp only [aE,aF,aN,aO,go_sem,hD,hJ,hP,hY,c1];try exact aQ)
 | (cases h;done))
 ·have c1:((l.length:Int)==0)=false:=by simp only [beq_eq_false_iff_ne,ne_eq];omega
  have hk:=QY n (k:=(l.length:Int)) (by omega)
  have hm:=fun s=>Wy n (k:=(l.length:Int)) (by omega) (by omega) s
  obtain⟨j,hj⟩ : ∃ j:Nat,tM n l.length=(j:Int):=⟨(tM n l.length).toNat,(Int.toNat_of_nonneg hk.1).symm⟩
  have x5:j<l.length:=by have h2:=hk.2;rw [hj]at h2;omega
  obtain⟨f,hf⟩ : ∃ f,l[j]? = some f:=⟨_,List.getElem?_eq_getElem x5⟩
  have e:mI l n=f:=by unfold mI;rw [hj,Int.toNat_natCast,hf]
  rw [hj]at hm
  rw [e]
  have tZ:decide ((j:Int)<(l.length:Int))=true:=by simp;omega
  refine aD.go vF rfl fun B Q hB hQ=> ?_
  have⟨hD,hJ,hP,hY⟩:=bK
  repeat' (first
 | simp only [go_sem,hD,hJ,hP,hY,c1,hf,tZ,fV]
 | (with_reducible refine CU (hm _) ?_)
 | (with_reducible first | refine ax fun hc=> ?_ | refine ay fun hc=> ?_ | refine az (fun hc=> ?_) fun hc=> ?_) <;> (try simp only [hc,bs, ↓reduceIte]at h) <;> try simp only [hc]
 | (with_reducible refine aA hQ ?_;(try cases h);simp only [aE,aF,aN,aO,go_sem,hD,hJ,hP,hY,c1,hf,tZ,fV];try exact aQ)
 | (cases h;done))
def rk (id:Int):List It→Option It
 | []=>none
 | i::l=>if i.s.id==id then some i else rk id l
def mJ (id:Int):List Pc→Option (It×aH)
 | []=>none
 | f::l=>match rk id f.flat with | some i=>some (i,f.name) | none=>mJ id l
def PH:It:=⟨FY,0,0,false⟩
def lK (r:Option (It×aH)):D:=match r with
 | some (i,nm)=> .tuple [.agg (dO i), .str nm, .bool true]
 | none=> .tuple [.agg (dO PH), .str [], .bool false]
theorem QZ (r:Option (It×aH)):D.ok 0 0 (lK r)=true:=by cases r <;> simp [lK,D.ok,D.bM,IL]
theorem zZ:dO PH = [.int .i64 0, .int .i64 0, .slice .shared 1 [], .str [], .str [], .int .i64 0, .int .i64 0, .str [], .slice .shared 4 [], .bool false, .slice .shared 6 [], .slice .shared 13 [], .slice .shared 13 [], .int .i64 0, .int .i64 0, .bool false]:=nd rfl
theorem TJ {p:Pg} (hs:Pc.aU p.procs<4611686018427387000) (hp:p.procs.length<1000000) (id:Int) (s:St):aD Tryz.prog tv [.agg (bD p), .int .i64 id] s (lK (mJ id p.procs)) s:=by
 refine aD.pure ?_ (by simp [D.bM,D.ok,fT]) (QZ _) s
 obtain⟨R,hR⟩ : ∃ R,mJ id p.procs=R:=⟨_,rfl⟩
 rw [hR]
 unfold S0
 refine aD.go CD rfl fun B Q hB hQ=> ?_
 have⟨hD,hJ,hP,hY⟩:=bK
 repeat' (first
 | simp only [go_sem,hD,hJ,hP,hY]
 | (with_reducible first | refine ax fun hc=> ?_ | refine ay fun hc=> ?_ | refine az (fun hc=> ?_) fun hc=> ?_) <;> (try simp only [hc,bs, ↓reduceIte]at h) <;> try simp only [hc]
 | (with_reducible refine aA hQ ?_;exact bx)
 | (cases h;done))
 refine cP 2 0 (bl.ind (ι:=List Pc×Nat) (fun i=>p.procs.drop i.2=i.1∧mJ id i.1=R) (fun i=>i.1.length)
  (fun i=> [(1, .int .i64 id),(2, .ptr 0 0),(4, .ptr 1 0),(5, .str []),(6, .bool false),(12, .slice .shared 5 (p.procs.map bR)),(13, .int .i64 (p.procs.length:Int)),(14, .int .i64 (i.2:Int))]) (fun i=>⟨[bD p,[.int .i64 0, .int .i64 0, .slice .full 0 [], .str [], .str [], .int .i64 0, .int .i64 0, .str [], .slice .full 0 [], .bool false, .slice .full 0 [], .slice .full 0 [], .slice .full 0 [], .int .i64 0, .int .i64 0, .bool false]],[]⟩) ?_ (p.procs,0) ⟨rfl,hR⟩)
 clear hR
 rintro⟨rest,k⟩ ⟨h1,h2⟩ IH
 dsimp only at h1 h2
 cases rest with
 | nil=>
  have hD:=drop_nil h1
  simp only [mJ]at h2
  subst h2
  repeat' (first
 | simp only [go_sem,hD,hJ,hP,hY,lK,zZ]
 | (with_reducible first | refine ax fun hc=> ?_ | refine ay fun hc=> ?_ | refine az (fun hc=> ?_) fun hc=> ?_) <;> (try simp only [hc,bs, ↓reduceIte]at h) <;> try simp only [hc]
 | (with_reducible refine aA hQ ?_;(try cases h);simp only [aE,aF,aN,aO,go_sem,hD,hJ,hP,hY,lK,zZ];try exact aQ)
 | (cases h;done))
 | cons f rest=>
  obtain⟨hJ,g2,hD,g4⟩:=drop_cons h1
  have bf:k<4611686018427387904:=by omega
  have iZ:=fun s=>w5 (f:=f) (by have:=Pc.bS (List.mem_of_getElem? hJ);unfold Pc.size at this;omega) s
  have ajW:=Pc.pM f
  simp only [mJ]at h2
  repeat' (first
 | simp only [go_sem,hD,hJ,hP,hY]
 | (with_reducible refine CU (iZ _) ?_)
 | (with_reducible first | refine ax fun hc=> ?_ | refine ay fun hc=> ?_ | refine az (fun hc=> ?_) fun hc=> ?_) <;> (try simp only [hc,bs, ↓reduceIte]at h) <;> try simp only [hc]
 | (with_reducible refine aA hQ ?_;exact bx)
 | (cases h;done))
  refine cP 3 0 (bl.ind (ι:=List It×Nat) (fun i=>f.flat.drop i.2=i.1∧(match rk id i.1 with | some i=>some (i,f.name) | none=>mJ id rest)=R) (fun i=>i.1.length)
   (fun i=> [(1, .int .i64 id),(2, .ptr 0 0),(4, .ptr 1 0),(5, .str []),(6, .bool false),(8, .ptr 2 0),(12, .slice .shared 5 (p.procs.map bR)),(13, .int .i64 (p.procs.length:Int)),(14, .int .i64 (k:Int)),
    (19, .slice .shared 16 (f.flat.map dO)),(20, .int .i64 (f.flat.length:Int)),(21, .int .i64 (i.2:Int))]) (fun i=>⟨[bD p,[.int .i64 0, .int .i64 0, .slice .full 0 [], .str [], .str [], .int .i64 0, .int .i64 0, .str [], .slice .full 0 [], .bool false, .slice .full 0 [], .slice .full 0 [], .slice .full 0 [], .int .i64 0, .int .i64 0, .bool false],bR f],[]⟩) ?_ (f.flat,0) ⟨rfl,h2⟩)
  clear h2
  rintro⟨kg,k'⟩ ⟨j1,j2⟩ sc
  dsimp only at j1 j2
  cases kg with
  | nil=>
   have TK:=drop_nil j1
   simp only [rk]at j2
   repeat' (first
 | simp only [go_sem,hD,hJ,hP,hY,TK]
 | (with_reducible first | refine ax fun hc=> ?_ | refine ay fun hc=> ?_ | refine az (fun hc=> ?_) fun hc=> ?_) <;> (try simp only [hc,bs, ↓reduceIte]at h) <;> try simp only [hc]
 | (with_reducible refine aA hQ ?_;(try cases h);simp only [aE,aF,aN,aO,go_sem,hD,hJ,hP,hY,TK];try exact aQ)
 | (cases h;done))
   refine bX 2 0 ?_ ?_ (IH (rest,k+1) ⟨g2,j2⟩ (Nat.lt_succ_self _))
   ·(simp only [go_sem,hD,hJ,hP,hY,au bf];try exact aT)
   ·(simp only [go_sem,hD,hJ,hP,hY,au bf];try exact aT)
  | cons a kg=>
   obtain⟨dH,j3,fv,j4⟩:=drop_cons j1
   have fw:k'<4611686018427387904:=by omega
   simp only [rk]at j2
   rcases Bool.eq_false_or_eq_true (a.s.id==id)with c1 | c1
   ·simp only [c1,if_true]at j2
    subst j2
    repeat' (first
 | simp only [go_sem,hD,hJ,hP,hY,dH,fv,c1,lK,zZ]
 | (with_reducible first | refine ax fun hc=> ?_ | refine ay fun hc=> ?_ | refine az (fun hc=> ?_) fun hc=> ?_) <;> (try simp only [hc,bs, ↓reduceIte]at h) <;> try simp only [hc]
 | (with_reducible refine aA hQ ?_;(try cases h);simp only [aE,aF,aN,aO,go_sem,hD,hJ,hP,hY,dH,fv,c1,lK,zZ];try exact aQ)
 | (cases h;done))
   ·simp only [c1,Bool.false_eq_true,if_false]at j2
    repeat' (first
 | simp only [go_sem,hD,hJ,hP,hY,dH,fv,c1]
 | (with_reducible first | refine ax fun hc=> ?_ | refine ay fun hc=> ?_ | refine az (fun hc=> ?_) fun hc=> ?_) <;> (try simp only [hc,bs, ↓reduceIte]at h) <;> try simp only [hc]
 | (with_reducible refine aA hQ ?_;(try cases h);simp only [aE,aF,aN,aO,go_sem,hD,hJ,hP,hY,dH,fv,c1];try exact aQ)
 | (cases h;done))
    refine bX 3 0 ?_ ?_ (sc (kg,k'+1) ⟨j3,j2⟩ (Nat.lt_succ_self _))
    ·(simp only [go_sem,hD,hJ,hP,hY,au fw];try exact aT)
    ·(simp only [go_sem,hD,hJ,hP,hY,au fw];try exact aT)
def Pg.s4 (p:Pg) (id:Int):Sm:=match mJ id p.procs with | some (i,_)=>i.s | none=>FY
theorem TL {p:Pg} (hs:Pc.aU p.procs<4611686018427387000) (hp:p.procs.length<1000000) (id:Int) (s:St):aD Tryz.prog tq [.agg (bD p), .int .i64 id] s (.agg (bn (p.s4 id))) s:=by
 refine aD.pure ?_ (by simp [D.bM,D.ok,fT]) (by simp [D.ok,kV]) s
 have hf:=fun s=>TJ hs hp id s
 unfold Pg.s4
 generalize mJ id p.procs=r at hf ⊢
 unfold S0
 cases r with
 | none=>
  simp only [lK]at hf
  refine aD.go vG rfl fun B Q hB hQ=> ?_
  have⟨hD,hJ,hP,hY⟩:=bK
  repeat' (first
 | simp only [go_sem,hD,hJ,hP,hY,wZ,PH]
 | (with_reducible refine CU (hf _) ?_)
 | (with_reducible first | refine ax fun hc=> ?_ | refine ay fun hc=> ?_ | refine az (fun hc=> ?_) fun hc=> ?_) <;> (try simp only [hc,bs, ↓reduceIte]at h) <;> try simp only [hc]
 | (with_reducible refine aA hQ ?_;(try cases h);simp only [aE,aF,aN,aO,go_sem,hD,hJ,hP,hY,wZ,PH];try exact aQ)
 | (cases h;done))
 | some x=>
  obtain⟨i,nm⟩:=x
  simp only [lK]at hf
  refine aD.go vG rfl fun B Q hB hQ=> ?_
  have⟨hD,hJ,hP,hY⟩:=bK
  repeat' (first
 | simp only [go_sem,hD,hJ,hP,hY,wZ]
 | (with_reducible refine CU (hf _) ?_)
 | (with_reducible first | refine ax fun hc=> ?_ | refine ay fun hc=> ?_ | refine az (fun hc=> ?_) fun hc=> ?_) <;> (try simp only [hc,bs, ↓reduceIte]at h) <;> try simp only [hc]
 | (with_reducible refine aA hQ ?_;(try cases h);simp only [aE,aF,aN,aO,go_sem,hD,hJ,hP,hY,wZ];try exact aQ)
 | (cases h;done))
end Go.Abs

/-! Full1 -/

namespace Go.Abs
set_option maxRecDepth 8000
open Go.Proofs
def cv (t:aH) (n:Int):Int:=if n > 20000 then 20001 else if(t.length:Int)≥20000 - n then 20001 else n+1+t.length
mutual
def dW:Ex→Int→Int
 | ⟨_,_,name,kids⟩,n=>lf kids (cv name n)
def lf:List Ex→Int→Int
 | [],n=>n
 | x::l,n=>if n≤20000 then lf l (dW x n)else n
end
theorem ki {t:aH} {n:Int} (h0:0≤n):cv t n≤20001∧(n≤20000→n+1≤cv t n)∧0≤cv t n∧(cv t n≤20000→n+1+t.length=cv t n):=by
 unfold cv;split
 ·omega
 ·split <;> omega
theorem sh : ∀ (m:Nat) (x:Ex),x.size≤m→∀ n:Int,0≤n→dW x n≤20001∧(n≤20000→n+1≤dW x n)∧0≤dW x n∧(dW x n≤20000→(x.size:Int)+1≤2*(dW x n - n)∧x.texts):=by
 intro m
 induction m with
 | zero=>rintro⟨op,v,name,kids⟩ h;simp only [Ex.size]at h;omega
 | succ m ih=>
  rintro⟨op,v,name,kids⟩ h n h0
  simp only [Ex.size]at h
  obtain⟨t1,t2,t3,t4⟩:=ki (t:=name) h0
  have go : ∀ (l:List Ex),Ex.aU l≤m→∀ c:Int,0≤c→c≤20001→lf l c≤20001∧c≤lf l c∧(lf l c≤20000→(Ex.aU l:Int)≤2*(lf l c - c)∧Ex.rX l):=by
   intro l
   induction l with
   | nil=>intro _ c h0 h1;simp only [lf,Ex.aU];exact⟨h1,Int.le_refl _,fun _=>⟨by omega,trivial⟩⟩
   | cons y l ihl=>
    intro hs c h0 h1
    simp only [Ex.aU]at hs ⊢
    simp only [lf]
    split
    ·rename_i hc
     obtain⟨a1,a2,a3,a4⟩:=ih y (by omega) c h0
     obtain⟨b1,b2,b3⟩:=ihl (by omega) (dW y c) a3 a1
     have:=a2 hc
     refine⟨b1,by omega,fun hw=> ?_⟩
     obtain⟨c1,c2⟩:=b3 hw
     obtain⟨d1,d2⟩:=a4 (by omega)
     exact⟨by omega,d2,c2⟩
    ·exact⟨h1,Int.le_refl _,fun hw=>by omega⟩
  obtain⟨g1,g2,g3⟩:=go kids (by omega) (cv name n) t3 t1
  simp only [dW,Ex.size]
  refine⟨g1,fun hn=>by have:=t2 hn;omega,by omega,fun hw=> ?_⟩
  obtain⟨k1,k2⟩:=g3 hw
  have:=t4 (by omega)
  exact⟨by omega,by omega,k2⟩
theorem oh (t:aH) {n:Int} (h0:0≤n) (h1:n≤20001) (s:St):aD Tryz.prog fi [.str t, .int .i64 n] s (.int .i64 (cv t n)) s:=by
 refine aD.pure ?_ rfl rfl s
 unfold S0
 have w1:IntKind.wrap .i64 (20000 - n)=20000 - n:=dE (by omega) (by omega)
 have w2:IntKind.wrap .i64 (n+1)=n+1:=dE (by omega) (by omega)
 by_cases c:n > 20000
 ·have c1:decide (n > 20000)=true:=by simp;omega
  have e:cv t n=20001:=by simp [cv,c]
  rw [e]
  refine aD.go nc rfl fun B Q hB hQ=> ?_
  have⟨hD,hJ,hP,hY⟩:=bK
  repeat' (first
 | simp only [go_sem,hD,hJ,hP,hY,c1,w1,w2]
 | (with_reducible first | refine ax fun hc=> ?_ | refine ay fun hc=> ?_ | refine az (fun hc=> ?_) fun hc=> ?_) <;> (try simp only [hc,bs, ↓reduceIte]at h) <;> try simp only [hc]
 | (with_reducible refine aA hQ ?_;(try cases h);simp only [aE,aF,aN,aO,go_sem,hD,hJ,hP,hY,c1,w1,w2];try exact aQ)
 | (cases h;done))
 ·have c1:decide (n > 20000)=false:=by simp;omega
  by_cases d:(t.length:Int)≥20000 - n
  ·have d1:decide ((t.length:Int)≥20000 - n)=true:=by simp;omega
   have e:cv t n=20001:=by unfold cv;rw [if_neg c,if_pos d]
   rw [e]
   refine aD.go nc rfl fun B Q hB hQ=> ?_
   have⟨hD,hJ,hP,hY⟩:=bK
   repeat' (first
 | simp only [go_sem,hD,hJ,hP,hY,c1,d1,w1,w2]
 | (with_reducible first | refine ax fun hc=> ?_ | refine ay fun hc=> ?_ | refine az (fun hc=> ?_) fun hc=> ?_) <;> (try simp only [hc,bs, ↓reduceIte]at h) <;> try simp only [hc]
 | (with_reducible refine aA hQ ?_;(try cases h);simp only [aE,aF,aN,aO,go_sem,hD,hJ,hP,hY,c1,d1,w1,w2];try exact aQ)
 | (cases h;done))
  ·have d1:decide ((t.length:Int)≥20000 - n)=false:=by simp;omega
   have e:cv t n=n+1+t.length:=by unfold cv;rw [if_neg c,if_neg d]
   have w3:IntKind.wrap .i64 (n+1+t.length)=n+1+t.length:=dE (by omega) (by omega)
   rw [e]
   refine aD.go nc rfl fun B Q hB hQ=> ?_
   have⟨hD,hJ,hP,hY⟩:=bK
   repeat' (first
 | simp only [go_sem,hD,hJ,hP,hY,c1,d1,w1,w2,w3]
 | (with_reducible first | refine ax fun hc=> ?_ | refine ay fun hc=> ?_ | refine az (fun hc=> ?_) fun hc=> ?_) <;> (try simp only [hc,bs, ↓reduceIte]at h) <;> try simp only [hc]
 | (with_reducible refine aA hQ ?_;(try cases h);simp only [aE,aF,aN,aO,go_sem,hD,hJ,hP,hY,c1,d1,w1,w2,w3];try exact aQ)
 | (cases h;done))
theorem EZ : ∀ (m:Nat) (x:Ex),x.size≤m→∀ {n:Int},0≤n→n≤20000→∀ s:St,aD Tryz.prog iC [.agg (bL x), .int .i64 n] s (.int .i64 (dW x n)) s:=by
 intro m
 induction m with
 | zero=>rintro⟨op,v,name,kids⟩ h;simp only [Ex.size]at h;omega
 | succ m ih=>
  rintro⟨op,v,name,kids⟩ ek n h0 h1 s
  refine aD.pure ?_ (by simp [D.bM,D.ok,iN]) rfl s
  simp only [Ex.size]at ek
  have hk : ∀ y∈kids,∀ {n:Int},0≤n→n≤20000→∀ s:St,aD Tryz.prog iC [.agg (bL y), .int .i64 n] s (.int .i64 (dW y n)) s:=fun y hy=>ih y (by have:=Ex.bS hy;omega)
  have ht:=fun s=>oh name h0 (by omega) s
  obtain⟨t1,t2,t3,t4⟩:=ki (t:=name) h0
  unfold S0
  generalize h:dW ⟨op,v,name,kids⟩ n=p
  simp only [dW]at h
  refine aD.go wP rfl fun B Q hB hQ=> ?_
  have⟨hD,hJ,hP,hY⟩:=bK
  repeat' (first
 | simp only [go_sem,hD,hJ,hP,hY]
 | (with_reducible refine CU (ht _) ?_)
 | (with_reducible first | refine ax fun hc=> ?_ | refine ay fun hc=> ?_ | refine az (fun hc=> ?_) fun hc=> ?_) <;> (try simp only [hc,bs, ↓reduceIte]at h) <;> try simp only [hc]
 | (with_reducible refine aA hQ ?_;exact bx)
 | (cases h;done))
  refine cP 1 0 (bl.ind (ι:=List Ex×Nat×Int) (fun i=>kids.drop i.2.1=i.1∧lf i.1 i.2.2=p∧(i.2.1:Int)≤i.2.2∧i.2.2≤20001) (fun i=>i.1.length)
   (fun i=> [(1, .int .i64 i.2.2),(2, .ptr 0 0),(5, .int .i64 (i.2.1:Int))]) (fun i=>⟨[bL ⟨op,v,name,kids⟩],[]⟩) ?_ (kids,0,cv name n) ⟨rfl,h,t3,t1⟩)
  rintro⟨rest,k,c⟩ ⟨g1,h,g3,g4⟩ IH
  dsimp only at g1 h g3 g4
  cases rest with
  | nil=>
   have hD:=drop_nil g1
   simp only [lf]at h
   repeat' (first
 | simp only [go_sem,hD,hJ,hP,hY]
 | (with_reducible first | refine ax fun hc=> ?_ | refine ay fun hc=> ?_ | refine az (fun hc=> ?_) fun hc=> ?_) <;> (try simp only [hc,bs, ↓reduceIte]at h) <;> try simp only [hc]
 | (with_reducible refine aA hQ ?_;exact bx)
 | (cases h;done))
  | cons y rest=>
   obtain⟨hJ,g2,hD,g5⟩:=drop_cons g1
   simp only [lf]at h
   by_cases hc:c≤20000
   ·have c1:decide (c≤20000)=true:=by simp;omega
    have hy:=fun s=>hk y (List.mem_of_getElem? hJ) (n:=c) (by omega) hc s
    obtain⟨a1,a2,a3,a4⟩:=sh _ y (Nat.le_refl _) c (by omega)
    have:=a2 hc
    have w3:IntKind.wrap .i64 ((k:Int)+1)=((k+1:Nat):Int):=by rw [dE] <;> omega
    rw [if_pos hc]at h
    repeat' (first
 | simp only [go_sem,hD,hJ,hP,hY,c1,w3]
 | (with_reducible refine CU (hy _) ?_)
 | (with_reducible first | refine ax fun hc=> ?_ | refine ay fun hc=> ?_ | refine az (fun hc=> ?_) fun hc=> ?_) <;> (try simp only [hc,bs, ↓reduceIte]at h) <;> try simp only [hc]
 | (with_reducible refine aA hQ ?_;(try cases h);simp only [aE,aF,aN,aO,go_sem,hD,hJ,hP,hY,c1,w3];try exact aQ)
 | (cases h;done))
    refine cP 1 0 (IH (rest,k+1,dW y c) ⟨g2,h,by dsimp only;omega,a1⟩ (Nat.lt_succ_self _))
   ·have c1:decide (c≤20000)=false:=by simp;omega
    rw [if_neg hc]at h
    repeat' (first
 | simp only [go_sem,hD,hJ,hP,hY,c1]
 | (with_reducible first | refine ax fun hc=> ?_ | refine ay fun hc=> ?_ | refine az (fun hc=> ?_) fun hc=> ?_) <;> (try simp only [hc,bs, ↓reduceIte]at h) <;> try simp only [hc]
 | (with_reducible refine aA hQ ?_;(try cases h);simp only [aE,aF,aN,aO,go_sem,hD,hJ,hP,hY,c1];try exact aQ)
 | (cases h;done))
end Go.Abs

/-! Fits1 -/

namespace Go.Abs
set_option maxRecDepth 8000
open Go.Proofs
def df:List aH→Int→Int
 | [],n=>n
 | t::l,n=>if n≤20000 then df l (cv t n)else n
def gl:List Ar→Int→Int
 | [],n=>n
 | a::l,n=>if n≤20000 then gl l (cv a.name (dW a.x n))else n
def iV:List Pm→Int→Int
 | [],n=>n
 | a::l,n=>if n≤20000 then iV l (cv a.name n)else n
mutual
def pe:Sm→Int→Int
 | ⟨_,_,labels,name,proc,x,_,args,bp,bc⟩,n=>eD bc (eD bp (gl args (cv proc (cv name (df labels (dW x n))))))
def eD:List Sm→Int→Int
 | [],n=>n
 | s::l,n=>if n≤20000 then eD l (pe s n)else n
end
theorem Ln (s:Sm) (n:Int):pe s n=eD s.bc (eD s.bp (gl s.args (cv s.proc (cv s.name (df s.labels (dW s.x n)))))):=by cases s;simp only [pe]
def qu (f:Pc) (n:Int):Int:=eD f.body (iV f.params (df f.fin (df f.vars (cv f.name n))))
def lg:List Pc→Int→Int
 | [],n=>n
 | f::l,n=>if n≤20000 then lg l (qu f n)else n
def Pg.xG (p:Pg):Int:=lg p.procs (df p.globals 0)
theorem jk : ∀ (l:List aH) {n:Int},0≤n→n≤20001→df l n≤20001∧n≤df l n∧(df l n≤20000→n+l.length≤df l n∧∀ t∈l,t.length<4611686018427387904)
 | [],n,h0,h1=>by simp only [df];exact⟨h1,Int.le_refl _,fun _=>⟨by simp,by simp⟩⟩
 | t::l,n,h0,h1=>by
  simp only [df]
  split
  ·rename_i hc
   obtain⟨a1,a2,a3,a4⟩:=ki (t:=t) h0
   obtain⟨b1,b2,b3⟩:=jk l (n:=cv t n) a3 a1
   have:=a2 hc
   refine⟨b1,by omega,fun hw=> ?_⟩
   obtain⟨c1,c2⟩:=b3 hw
   have:=a4 (by omega)
   refine⟨by simp only [List.length_cons];omega,fun s m=> ?_⟩
   rcases List.mem_cons.1 m with rfl | m
   ·omega
   ·exact c2 s m
  ·exact⟨h1,Int.le_refl _,fun hw=>by omega⟩
theorem vq : ∀ (l:List Pm) {n:Int},0≤n→n≤20001→iV l n≤20001∧n≤iV l n∧(iV l n≤20000→n+l.length≤iV l n∧∀ t∈l,t.name.length<4611686018427387904)
 | [],n,h0,h1=>by simp only [iV];exact⟨h1,Int.le_refl _,fun _=>⟨by simp,by simp⟩⟩
 | t::l,n,h0,h1=>by
  simp only [iV]
  split
  ·rename_i hc
   obtain⟨a1,a2,a3,a4⟩:=ki (t:=t.name) h0
   obtain⟨b1,b2,b3⟩:=vq l (n:=cv t.name n) a3 a1
   have:=a2 hc
   refine⟨b1,by omega,fun hw=> ?_⟩
   obtain⟨c1,c2⟩:=b3 hw
   have:=a4 (by omega)
   refine⟨by simp only [List.length_cons];omega,fun s m=> ?_⟩
   rcases List.mem_cons.1 m with rfl | m
   ·omega
   ·exact c2 s m
  ·exact⟨h1,Int.le_refl _,fun hw=>by omega⟩
theorem vr : ∀ (l:List Ar) {n:Int},0≤n→n≤20001→gl l n≤20001∧n≤gl l n∧
 (gl l n≤20000→(Ar.aU l:Int)≤2*(gl l n - n)∧∀ a∈l,a.x.size<4611686018427387904∧a.x.texts∧a.name.length<4611686018427387904)
 | [],n,h0,h1=>by simp only [gl];exact⟨h1,Int.le_refl _,fun _=>⟨by simp [Ar.aU],by simp⟩⟩
 | a::l,n,h0,h1=>by
  simp only [gl]
  split
  ·rename_i hc
   obtain⟨a1,a2,a3,a4⟩:=sh _ a.x (Nat.le_refl _) n h0
   obtain⟨e1,e2,e3,e4⟩:=ki (t:=a.name) a3
   obtain⟨b1,b2,b3⟩:=vr l (n:=cv a.name (dW a.x n)) e3 e1
   have:=a2 hc
   have:dW a.x n≤cv a.name (dW a.x n):=by
    by_cases h:dW a.x n≤20000
    ·have:=e2 h;omega
    ·have:cv a.name (dW a.x n)=20001:=by unfold cv;rw [if_pos (by omega)]
     omega
   refine⟨b1,by omega,fun hw=> ?_⟩
   obtain⟨c1,c2⟩:=b3 hw
   have:=e4 (by omega)
   obtain⟨d1,d2⟩:=a4 (by omega)
   refine⟨by simp only [Ar.aU];omega,fun s m=> ?_⟩
   rcases List.mem_cons.1 m with rfl | m
   ·exact⟨by omega,d2,by omega⟩
   ·exact c2 s m
  ·exact⟨h1,Int.le_refl _,fun hw=>by omega⟩
theorem ju {t:aH} {n:Int} (h0:0≤n) (h1:n≤20001):n≤cv t n∧cv t n≤20001∧(cv t n≤20000→n+1≤cv t n∧t.length<4611686018427387904):=by
 obtain⟨e1,e2,e3,e4⟩:=ki (t:=t) h0
 by_cases h:n≤20000
 ·have:=e2 h
  exact⟨by omega,e1,fun hw=>⟨by omega,by have:=e4 hw;omega⟩⟩
 ·have:cv t n=20001:=by unfold cv;rw [if_pos (by omega)]
  exact⟨by omega,e1,fun hw=>by omega⟩
mutual
theorem Cl : ∀ (s:Sm) {n:Int},0≤n→n≤20000→pe s n≤20001∧n+1≤pe s n∧(pe s n≤20000→(s.size:Int)+1≤2*(pe s n - n)∧s.p8)
 | ⟨id,kind,labels,name,proc,x,has,args,bp,bc⟩,n,h0,h1=>by
  obtain⟨a1,a2,a3,a4⟩:=sh _ x (Nat.le_refl _) n h0
  have a2:=a2 h1
  obtain⟨b1,b2,b3⟩:=jk labels a3 a1
  obtain⟨c1,c2,c3⟩:=ju (t:=name) (n:=df labels (dW x n)) (by omega) b1
  obtain⟨d1,d2,d3⟩:=ju (t:=proc) (n:=cv name (df labels (dW x n))) (by omega) c2
  obtain⟨e1,e2,e3⟩:=vr args (n:=cv proc (cv name (df labels (dW x n)))) (by omega) d2
  obtain⟨f1,f2,f3⟩:=pf bp (n:=gl args (cv proc (cv name (df labels (dW x n))))) (by omega) e1
  obtain⟨g1,g2,g3⟩:=pf bc (n:=eD bp (gl args (cv proc (cv name (df labels (dW x n)))))) (by omega) f1
  simp only [pe,Sm.size]
  refine⟨g1,by omega,fun hw=> ?_⟩
  obtain⟨g4,g5⟩:=g3 hw
  obtain⟨f4,f5⟩:=f3 (by omega)
  obtain⟨e4,e5⟩:=e3 (by omega)
  obtain⟨d4,d5⟩:=d3 (by omega)
  obtain⟨c4,c5⟩:=c3 (by omega)
  obtain⟨b4,b5⟩:=b3 (by omega)
  obtain⟨a5,a6⟩:=a4 (by omega)
  have:=Ar.c7 args
  refine⟨by omega, ?_⟩
  rw [yD]
  exact⟨⟨b5,by dsimp only;omega,c5,d5,by dsimp only;omega,a6,by dsimp only;omega,e5⟩,f5,g5⟩
theorem pf : ∀ (l:List Sm) {n:Int},0≤n→n≤20001→eD l n≤20001∧n≤eD l n∧(eD l n≤20000→(Sm.aU l:Int)≤2*(eD l n - n)∧Sm.gJ l)
 | [],n,h0,h1=>by simp only [eD];exact⟨h1,Int.le_refl _,fun _=>⟨by simp [Sm.aU],by simp only [Sm.gJ]⟩⟩
 | s::l,n,h0,h1=>by
  simp only [eD]
  split
  ·rename_i hc
   obtain⟨a1,a2,a3⟩:=Cl s h0 hc
   obtain⟨b1,b2,b3⟩:=pf l (n:=pe s n) (by omega) a1
   refine⟨b1,by omega,fun hw=> ?_⟩
   obtain⟨c1,c2⟩:=b3 hw
   obtain⟨d1,d2⟩:=a3 (by omega)
   exact⟨by simp only [Sm.aU];omega,d2,c2⟩
  ·exact⟨h1,Int.le_refl _,fun hw=>by omega⟩
end
theorem Cm (f:Pc) {n:Int} (h0:0≤n) (h1:n≤20000):qu f n≤20001∧n+1≤qu f n∧(qu f n≤20000→(f.size:Int)+1≤2*(qu f n - n)∧
 (f.name.length<4611686018427387904∧(∀ t∈f.vars,t.length<4611686018427387904)∧(∀ t∈f.fin,t.length<4611686018427387904)∧∀ a∈f.params,a.name.length<4611686018427387904)∧Sm.gJ f.body):=by
 obtain⟨c1,c2,c3⟩:=ju (t:=f.name) h0 (by omega:n≤20001)
 have c4:=(ki (t:=f.name) h0).2.1 h1
 obtain⟨d1,d2,d3⟩:=jk f.vars (n:=cv f.name n) (by omega) c2
 obtain⟨e1,e2,e3⟩:=jk f.fin (n:=df f.vars (cv f.name n)) (by omega) d1
 obtain⟨g1,g2,g3⟩:=vq f.params (n:=df f.fin (df f.vars (cv f.name n))) (by omega) e1
 obtain⟨k1,k2,k3⟩:=pf f.body (n:=iV f.params (df f.fin (df f.vars (cv f.name n)))) (by omega) g1
 unfold qu Pc.size
 refine⟨k1,by omega,fun hw=> ?_⟩
 obtain⟨k4,k5⟩:=k3 hw
 obtain⟨g4,g5⟩:=g3 (by omega)
 obtain⟨e4,e5⟩:=e3 (by omega)
 obtain⟨d4,d5⟩:=d3 (by omega)
 obtain⟨_,c5⟩:=c3 (by omega)
 exact⟨by omega,⟨c5,d5,e5,g5⟩,k5⟩
theorem z6 : ∀ (l:List Pc) {n:Int},0≤n→n≤20001→lg l n≤20001∧n≤lg l n∧(lg l n≤20000→(Pc.aU l:Int)≤2*(lg l n - n)∧∀ f∈l,
 (f.name.length<4611686018427387904∧(∀ t∈f.vars,t.length<4611686018427387904)∧(∀ t∈f.fin,t.length<4611686018427387904)∧∀ a∈f.params,a.name.length<4611686018427387904)∧Sm.gJ f.body)
 | [],n,h0,h1=>by simp only [lg];exact⟨h1,Int.le_refl _,fun _=>⟨by simp [Pc.aU],by simp⟩⟩
 | f::l,n,h0,h1=>by
  simp only [lg]
  split
  ·rename_i hc
   obtain⟨a1,a2,a3⟩:=Cm f h0 hc
   obtain⟨b1,b2,b3⟩:=z6 l (n:=qu f n) (by omega) a1
   refine⟨b1,by omega,fun hw=> ?_⟩
   obtain⟨c1,c2⟩:=b3 hw
   obtain⟨d1,d2⟩:=a3 (by omega)
   refine⟨by simp only [Pc.aU];omega,fun s m=> ?_⟩
   rcases List.mem_cons.1 m with rfl | m
   ·exact d2
   ·exact c2 s m
  ·exact⟨h1,Int.le_refl _,fun hw=>by omega⟩
theorem I1 {p:Pg} (h:p.xG≤20000):p.size≤40001∧p.zM:=by
 unfold Pg.xG at h
 obtain⟨a1,a2,a3⟩:=jk p.globals (n:=0) (by omega) (by omega)
 obtain⟨b1,b2,b3⟩:=z6 p.procs (n:=df p.globals 0) (by omega) a1
 obtain⟨c1,c2⟩:=b3 h
 obtain⟨d1,d2⟩:=a3 (by omega)
 have:p.size≤40001:=by unfold Pg.size;omega
 exact⟨this,by omega,d2,fun f m=>(c2 f m).1,fun f m=>(c2 f m).2⟩
theorem s5 {l:List aH} {n:Int} (h0:0≤n) (h1:n≤20001) (s:St):aD Tryz.prog gX [.slice .shared 1 (l.map encStr), .int .i64 n] s (.int .i64 (df l n)) s:=by
 refine aD.pure ?_ (by simp [D.bM,D.ok,dL,Tag.ok]) rfl s
 unfold S0
 generalize h:df l n=p
 refine aD.go vT rfl fun B Q hB hQ=> ?_
 have⟨hD,hJ,hP,hY⟩:=bK
 repeat' (first
 | simp only [go_sem,hD,hJ,hP,hY]
 | (with_reducible first | refine ax fun hc=> ?_ | refine ay fun hc=> ?_ | refine az (fun hc=> ?_) fun hc=> ?_) <;> (try simp only [hc,bs, ↓reduceIte]at h) <;> try simp only [hc]
 | (with_reducible refine aA hQ ?_;exact bx)
 | (cases h;done))
 refine cP 0 0 (bl.ind (ι:=List aH×Nat×Int) (fun i=>l.drop i.2.1=i.1∧df i.1 i.2.2=p∧(i.2.1:Int)≤i.2.2∧i.2.2≤20001) (fun i=>i.1.length)
  (fun i=> [(0, .slice .shared 1 (l.map encStr)),(1, .int .i64 i.2.2),(5, .int .i64 (i.2.1:Int))]) (fun i=>⟨[],[]⟩) ?_ (l,0,n) ⟨rfl,h,h0,h1⟩)
 rintro⟨rest,k,c⟩ ⟨g1,h,g3,g4⟩ IH
 dsimp only at g1 h g3 g4
 cases rest with
 | nil=>
  have hD:=drop_nil g1
  simp only [df]at h
  subst h
  repeat' (first
 | simp only [go_sem,hD,hJ,hP,hY]
 | (with_reducible first | refine ax fun hc=> ?_ | refine ay fun hc=> ?_ | refine az (fun hc=> ?_) fun hc=> ?_) <;> (try simp only [hc,bs, ↓reduceIte]at h) <;> try simp only [hc]
 | (with_reducible refine aA hQ ?_;exact bx)
 | (cases h;done))
 | cons y rest=>
  obtain⟨hJ,g2,hD,g5⟩:=drop_cons g1
  simp only [df]at h
  by_cases hc:c≤20000
  ·have c1:decide (c≤20000)=true:=by simp;omega
   have hy:=fun s=>oh y (n:=c) (by omega) g4 s
   obtain⟨a1,a2,a3,a4⟩:=ki (t:=y) (n:=c) (by omega)
   have:=a2 hc
   have w3:IntKind.wrap .i64 ((k:Int)+1)=((k+1:Nat):Int):=by rw [dE] <;> omega
   rw [if_pos hc]at h
   repeat' (first
 | simp only [go_sem,hD,hJ,hP,hY,c1,w3]
 | (with_reducible refine CU (hy _) ?_)
 | (with_reducible first | refine ax fun hc=> ?_ | refine ay fun hc=> ?_ | refine az (fun hc=> ?_) fun hc=> ?_) <;> (try simp only [hc,bs, ↓reduceIte]at h) <;> try simp only [hc]
 | (with_reducible refine aA hQ ?_;(try cases h);simp only [aE,aF,aN,aO,go_sem,hD,hJ,hP,hY,c1,w3];try exact aQ)
 | (cases h;done))
   refine cP 0 0 (IH (rest,k+1,cv y c) ⟨g2,h,by dsimp only;omega,a1⟩ (Nat.lt_succ_self _))
  ·have c1:decide (c≤20000)=false:=by simp;omega
   rw [if_neg hc]at h
   subst h
   repeat' (first
 | simp only [go_sem,hD,hJ,hP,hY,c1]
 | (with_reducible first | refine ax fun hc=> ?_ | refine ay fun hc=> ?_ | refine az (fun hc=> ?_) fun hc=> ?_) <;> (try simp only [hc,bs, ↓reduceIte]at h) <;> try simp only [hc]
 | (with_reducible refine aA hQ ?_;(try cases h);simp only [aE,aF,aN,aO,go_sem,hD,hJ,hP,hY,c1];try exact aQ)
 | (cases h;done))
theorem Lo : ∀ (m:Nat) (l:List Sm),Sm.aU l≤m→∀ {n:Int},0≤n→n≤20001→∀ s:St,aD Tryz.prog je [.slice .shared 13 (l.map bn), .int .i64 n] s (.int .i64 (eD l n)) s:=by
 intro m
 induction m with
 | zero=>
  intro l h n h0 h1 s
  cases l with
  | nil=>
   have z:decide ((0:Int)<0)=false:=rfl
   refine aD.pure ?_ (by simp [D.bM,D.ok,D.jb,Tag.ok]) rfl s
   unfold S0
   simp only [eD]
   refine aD.go px rfl fun B Q hB hQ=> ?_
   have⟨hD,hJ,hP,hY⟩:=bK
   repeat' (first
 | simp only [go_sem,hD,hJ,hP,hY,z]
 | (with_reducible refine bl.uT ?_)
 | (with_reducible first | refine ax fun hc=> ?_ | refine ay fun hc=> ?_ | refine az (fun hc=> ?_) fun hc=> ?_) <;> (try simp only [hc,bs, ↓reduceIte]at h) <;> try simp only [hc]
 | (with_reducible refine aA hQ ?_;(try cases h);simp only [aE,aF,aN,aO,go_sem,hD,hJ,hP,hY,z];try exact aQ)
 | (cases h;done))
  | cons s l=>simp only [Sm.aU]at h;omega
 | succ m ih=>
  intro l h n h0 h1 s
  refine aD.pure ?_ (by simp [D.bM,D.ok,q8,Tag.ok]) rfl s
  unfold S0
  generalize hp:eD l n=p
  refine aD.go px rfl fun B Q hB hQ=> ?_
  have⟨hD,hJ,hP,hY⟩:=bK
  repeat' (first
 | simp only [go_sem,hD,hJ,hP,hY]
 | (with_reducible first | refine ax fun hc=> ?_ | refine ay fun hc=> ?_ | refine az (fun hc=> ?_) fun hc=> ?_) <;> (try simp only [hc,bs, ↓reduceIte]at h) <;> try simp only [hc]
 | (with_reducible refine aA hQ ?_;exact bx)
 | (cases h;done))
  refine cP 0 0 (bl.ind (ι:=List Sm×Nat×Int) (fun i=>l.drop i.2.1=i.1∧eD i.1 i.2.2=p∧(i.2.1:Int)≤i.2.2∧i.2.2≤20001) (fun i=>i.1.length)
   (fun i=> [(0, .slice .shared 13 (l.map bn)),(1, .int .i64 i.2.2),(5, .int .i64 (i.2.1:Int))]) (fun i=>⟨[],[]⟩) ?_ (l,0,n) ⟨rfl,hp,h0,h1⟩)
  rintro⟨rest,k,c⟩ ⟨g1,hp,g3,g4⟩ IH
  dsimp only at g1 hp g3 g4
  cases rest with
  | nil=>
   have hD:=drop_nil g1
   simp only [eD]at hp
   subst hp
   repeat' (first
 | simp only [go_sem,hD,hJ,hP,hY]
 | (with_reducible first | refine ax fun hc=> ?_ | refine ay fun hc=> ?_ | refine az (fun hc=> ?_) fun hc=> ?_) <;> (try simp only [hc,bs, ↓reduceIte]at h) <;> try simp only [hc]
 | (with_reducible refine aA hQ ?_;exact bx)
 | (cases h;done))
  | cons y rest=>
   obtain⟨hJ,g2,hD,g5⟩:=drop_cons g1
   simp only [eD]at hp
   by_cases hc:c≤20000
   ·have c1:decide (c≤20000)=true:=by simp;omega
    have ma:=List.mem_of_getElem? hJ
    have ek:=Sm.bS ma
    have acF:s.aw.length≤s.aw.length∧Sm.aU y.bp<y.size∧Sm.aU y.bc<y.size:=by cases y;simp only [Sm.size];omega
    have w3:IntKind.wrap .i64 ((k:Int)+1)=((k+1:Nat):Int):=by rw [dE] <;> omega
    rw [if_pos hc]at hp
    obtain⟨a1,a2,a3,a4⟩:=sh _ y.x (Nat.le_refl _) c (by omega)
    have a2:=a2 hc
    obtain⟨b1,b2,b3⟩:=jk y.labels a3 a1
    obtain⟨c1',c2,c3⟩:=ju (t:=y.name) (n:=df y.labels (dW y.x c)) (by omega) b1
    obtain⟨d1,d2,d3⟩:=ju (t:=y.proc) (n:=cv y.name (df y.labels (dW y.x c))) (by omega) c2
    have eE:=fun s=>EZ _ y.x (Nat.le_refl _) (n:=c) (by omega) hc s
    have eL:=fun s=>s5 (l:=y.labels) (n:=dW y.x c) (by omega) a1 s
    have eN:=fun s=>oh y.name (n:=df y.labels (dW y.x c)) (by omega) b1 s
    have eP:=fun s=>oh y.proc (n:=cv y.name (df y.labels (dW y.x c))) (by omega) c2 s
    obtain⟨r1,r2,r3⟩:=Cl y (n:=c) (by omega) hc
    rw [Ln]at hp r1 r2
    generalize hC:cv y.proc (cv y.name (df y.labels (dW y.x c)))=C at *
    obtain⟨s1,s2,s3⟩:=vr y.args (n:=C) (by omega) d2
    obtain⟨t1,t2,t3⟩:=pf y.bp (n:=gl y.args C) (by omega) s1
    have eT:=fun s=>ih y.bp (by omega) (n:=gl y.args C) (by omega) s1 s
    have eS:=fun s=>ih y.bc (by omega) (n:=eD y.bp (gl y.args C)) (by omega) t1 s
    generalize hW:gl y.args C=W at *
    repeat' (first
 | simp only [go_sem,hD,hJ,hP,hY,c1,w3]
 | (with_reducible refine CU (eE _) ?_)
 | (with_reducible refine CU (eL _) ?_)
 | (with_reducible refine CU (eN _) ?_)
 | (with_reducible refine CU (eP _) ?_)
 | (with_reducible first | refine ax fun hc=> ?_ | refine ay fun hc=> ?_ | refine az (fun hc=> ?_) fun hc=> ?_) <;> (try simp only [hc,bs, ↓reduceIte]at h) <;> try simp only [hc]
 | (with_reducible refine aA hQ ?_;(try cases h);simp only [aE,aF,aN,aO,go_sem,hD,hJ,hP,hY,c1,w3];try exact aQ)
 | (cases h;done))
    refine cP 1 0 (bl.ind (ι:=List Ar×Nat×Int) (fun i=>y.args.drop i.2.1=i.1∧gl i.1 i.2.2=W∧(i.2.1:Int)≤i.2.2∧i.2.2≤20001) (fun i=>i.1.length)
     (fun i=> [(0, .slice .shared 13 (l.map bn)),(1, .int .i64 i.2.2),(5, .int .i64 (k:Int)),(6, .ptr 0 0),(7, .int .i64 (i.2.1:Int))]) (fun i=>⟨[bn y],[]⟩) ?_ (y.args,0,C) ⟨rfl,hW,by dsimp only;omega,d2⟩)
    rintro⟨TO,j,e⟩ ⟨k1,hw,k3,k4⟩ sc
    dsimp only at k1 hw k3 k4
    cases TO with
    | nil=>
     have hD:=drop_nil k1
     simp only [gl]at hw
     subst hw
     repeat' (first
 | simp only [go_sem,hD,hJ,hP,hY,w3]
 | (with_reducible refine CU (eT _) ?_)
 | (with_reducible refine CU (eS _) ?_)
 | (with_reducible first | refine ax fun hc=> ?_ | refine ay fun hc=> ?_ | refine az (fun hc=> ?_) fun hc=> ?_) <;> (try simp only [hc,bs, ↓reduceIte]at h) <;> try simp only [hc]
 | (with_reducible refine aA hQ ?_;(try cases h);simp only [aE,aF,aN,aO,go_sem,hD,hJ,hP,hY,w3];try exact aQ)
 | (cases h;done))
     refine cP 0 0 (IH (rest,k+1,eD y.bc (eD y.bp e)) ⟨g2,hp,by dsimp only;omega,r1⟩ (Nat.lt_succ_self _))
    | cons a TO=>
     obtain⟨hJ,k2,hD,k5⟩:=drop_cons k1
     simp only [gl]at hw
     by_cases he:e≤20000
     ·have e1:decide (e≤20000)=true:=by simp;omega
      have w4:IntKind.wrap .i64 ((j:Int)+1)=((j+1:Nat):Int):=by rw [dE] <;> omega
      rw [if_pos he]at hw
      obtain⟨u1,u2,u3,u4⟩:=sh _ a.x (Nat.le_refl _) e (by omega)
      have u2:=u2 he
      obtain⟨v1,v2,v3⟩:=ju (t:=a.name) (n:=dW a.x e) u3 u1
      have eX:=fun s=>EZ _ a.x (Nat.le_refl _) (n:=e) (by omega) he s
      have eM:=fun s=>oh a.name (n:=dW a.x e) u3 u1 s
      repeat' (first
 | simp only [go_sem,hD,hJ,hP,hY,e1,w4]
 | (with_reducible refine CU (eX _) ?_)
 | (with_reducible refine CU (eM _) ?_)
 | (with_reducible first | refine ax fun hc=> ?_ | refine ay fun hc=> ?_ | refine az (fun hc=> ?_) fun hc=> ?_) <;> (try simp only [hc,bs, ↓reduceIte]at h) <;> try simp only [hc]
 | (with_reducible refine aA hQ ?_;(try cases h);simp only [aE,aF,aN,aO,go_sem,hD,hJ,hP,hY,e1,w4];try exact aQ)
 | (cases h;done))
      refine cP 1 0 (sc (TO,j+1,cv a.name (dW a.x e)) ⟨k2,hw,by dsimp only;omega,v2⟩ (Nat.lt_succ_self _))
     ·have e1:decide (e≤20000)=false:=by simp;omega
      rw [if_neg he]at hw
      subst hw
      repeat' (first
 | simp only [go_sem,hD,hJ,hP,hY,e1,w3]
 | (with_reducible refine CU (eT _) ?_)
 | (with_reducible refine CU (eS _) ?_)
 | (with_reducible first | refine ax fun hc=> ?_ | refine ay fun hc=> ?_ | refine az (fun hc=> ?_) fun hc=> ?_) <;> (try simp only [hc,bs, ↓reduceIte]at h) <;> try simp only [hc]
 | (with_reducible refine aA hQ ?_;(try cases h);simp only [aE,aF,aN,aO,go_sem,hD,hJ,hP,hY,e1,w3];try exact aQ)
 | (cases h;done))
      refine cP 0 0 (IH (rest,k+1,eD y.bc (eD y.bp e)) ⟨g2,hp,by dsimp only;omega,r1⟩ (Nat.lt_succ_self _))
   ·have c1:decide (c≤20000)=false:=by simp;omega
    rw [if_neg hc]at hp
    subst hp
    repeat' (first
 | simp only [go_sem,hD,hJ,hP,hY,c1]
 | (with_reducible first | refine ax fun hc=> ?_ | refine ay fun hc=> ?_ | refine az (fun hc=> ?_) fun hc=> ?_) <;> (try simp only [hc,bs, ↓reduceIte]at h) <;> try simp only [hc]
 | (with_reducible refine aA hQ ?_;(try cases h);simp only [aE,aF,aN,aO,go_sem,hD,hJ,hP,hY,c1];try exact aQ)
 | (cases h;done))
end Go.Abs

/-! Fits2 -/

namespace Go.Abs
set_option maxRecDepth 8000
open Go.Proofs
theorem TP (p:Pg) (s:St):aD Tryz.prog tn [.agg (bD p)] s (.bool (decide (p.xG≤20000))) s:=by
 refine aD.pure ?_ (by simp only [D.bM,D.ok,fT];rfl) rfl s
 unfold S0
 generalize hp:p.xG=W
 unfold Pg.xG at hp
 obtain⟨a1,a2,a3⟩:=jk p.globals (n:=0) (by omega) (by omega)
 have eG:=fun s=>s5 (l:=p.globals) (n:=0) (by omega) (by omega) s
 refine aD.go Cw rfl fun B Q hB hQ=> ?_
 have⟨hD,hJ,hP,hY⟩:=bK
 repeat' (first
 | simp only [go_sem,hD,hJ,hP,hY]
 | (with_reducible refine CU (eG _) ?_)
 | (with_reducible first | refine ax fun hc=> ?_ | refine ay fun hc=> ?_ | refine az (fun hc=> ?_) fun hc=> ?_) <;> (try simp only [hc,bs, ↓reduceIte]at h) <;> try simp only [hc]
 | (with_reducible refine aA hQ ?_;exact bx)
 | (cases h;done))
 refine cP 1 0 (bl.ind (ι:=List Pc×Nat×Int) (fun i=>p.procs.drop i.2.1=i.1∧lg i.1 i.2.2=W∧(i.2.1:Int)≤i.2.2∧i.2.2≤20001) (fun i=>i.1.length)
  (fun i=> [(1, .ptr 0 0),(3, .int .i64 i.2.2),(4, .int .i64 (i.2.1:Int))]) (fun i=>⟨[bD p],[]⟩) ?_ (p.procs,0,df p.globals 0) ⟨rfl,hp,a2,a1⟩)
 rintro⟨rest,k,c⟩ ⟨g1,hp,g3,g4⟩ IH
 dsimp only at g1 hp g3 g4
 cases rest with
 | nil=>
  have hD:=drop_nil g1
  simp only [lg]at hp
  subst hp
  repeat' (first
 | simp only [go_sem,hD,hJ,hP,hY]
 | (with_reducible first | refine ax fun hc=> ?_ | refine ay fun hc=> ?_ | refine az (fun hc=> ?_) fun hc=> ?_) <;> (try simp only [hc,bs, ↓reduceIte]at h) <;> try simp only [hc]
 | (with_reducible refine aA hQ ?_;exact bx)
 | (cases h;done))
 | cons f rest=>
  obtain⟨hJ,g2,hD,g5⟩:=drop_cons g1
  simp only [lg]at hp
  by_cases hc:c≤20000
  ·have c1:decide (c≤20000)=true:=by simp;omega
   have w3:IntKind.wrap .i64 ((k:Int)+1)=((k+1:Nat):Int):=by rw [dE] <;> omega
   rw [if_pos hc]at hp
   obtain⟨r1,r2,r3⟩:=Cm f (n:=c) (by omega) hc
   unfold qu at hp r1 r2
   obtain⟨c1',c2,c3⟩:=ju (t:=f.name) (n:=c) (by omega) g4
   obtain⟨d1,d2,d3⟩:=jk f.vars (n:=cv f.name c) (by omega) c2
   obtain⟨e1,e2,e3⟩:=jk f.fin (n:=df f.vars (cv f.name c)) (by omega) d1
   have eN:=fun s=>oh f.name (n:=c) (by omega) g4 s
   have eV:=fun s=>s5 (l:=f.vars) (n:=cv f.name c) (by omega) c2 s
   have eF:=fun s=>s5 (l:=f.fin) (n:=df f.vars (cv f.name c)) (by omega) d1 s
   generalize hC:df f.fin (df f.vars (cv f.name c))=C at *
   obtain⟨s1,s2,s3⟩:=vq f.params (n:=C) (by omega) e1
   have eT:=fun s=>Lo _ f.body (Nat.le_refl _) (n:=iV f.params C) (by omega) s1 s
   generalize hM:iV f.params C=M at *
   repeat' (first
 | simp only [go_sem,hD,hJ,hP,hY,c1,w3]
 | (with_reducible refine CU (eN _) ?_)
 | (with_reducible refine CU (eV _) ?_)
 | (with_reducible refine CU (eF _) ?_)
 | (with_reducible first | refine ax fun hc=> ?_ | refine ay fun hc=> ?_ | refine az (fun hc=> ?_) fun hc=> ?_) <;> (try simp only [hc,bs, ↓reduceIte]at h) <;> try simp only [hc]
 | (with_reducible refine aA hQ ?_;(try cases h);simp only [aE,aF,aN,aO,go_sem,hD,hJ,hP,hY,c1,w3];try exact aQ)
 | (cases h;done))
   refine cP 2 0 (bl.ind (ι:=List Pm×Nat×Int) (fun i=>f.params.drop i.2.1=i.1∧iV i.1 i.2.2=M∧(i.2.1:Int)≤i.2.2∧i.2.2≤20001) (fun i=>i.1.length)
    (fun i=> [(1, .ptr 0 0),(3, .int .i64 i.2.2),(4, .int .i64 (k:Int)),(5, .ptr 1 0),(6, .int .i64 (i.2.1:Int))]) (fun i=>⟨[bD p,bR f],[]⟩) ?_ (f.params,0,C) ⟨rfl,hM,by dsimp only;omega,e1⟩)
   rintro⟨ms,j,e⟩ ⟨k1,hw,k3,k4⟩ sc
   dsimp only at k1 hw k3 k4
   cases ms with
   | nil=>
    have hD:=drop_nil k1
    simp only [iV]at hw
    subst hw
    repeat' (first
 | simp only [go_sem,hD,hJ,hP,hY,w3]
 | (with_reducible refine CU (eT _) ?_)
 | (with_reducible first | refine ax fun hc=> ?_ | refine ay fun hc=> ?_ | refine az (fun hc=> ?_) fun hc=> ?_) <;> (try simp only [hc,bs, ↓reduceIte]at h) <;> try simp only [hc]
 | (with_reducible refine aA hQ ?_;(try cases h);simp only [aE,aF,aN,aO,go_sem,hD,hJ,hP,hY,w3];try exact aQ)
 | (cases h;done))
    refine cP 1 0 (IH (rest,k+1,eD f.body e) ⟨g2,hp,by dsimp only;omega,r1⟩ (Nat.lt_succ_self _))
   | cons a ms=>
    obtain⟨hJ,k2,hD,k5⟩:=drop_cons k1
    simp only [iV]at hw
    by_cases he:e≤20000
    ·have e1:decide (e≤20000)=true:=by simp;omega
     have w4:IntKind.wrap .i64 ((j:Int)+1)=((j+1:Nat):Int):=by rw [dE] <;> omega
     rw [if_pos he]at hw
     obtain⟨v1,v2,v3⟩:=ju (t:=a.name) (n:=e) (by omega) k4
     have v4:=(ki (t:=a.name) (n:=e) (by omega)).2.1 he
     have eM:=fun s=>oh a.name (n:=e) (by omega) k4 s
     repeat' (first
 | simp only [go_sem,hD,hJ,hP,hY,e1,w4]
 | (with_reducible refine CU (eM _) ?_)
 | (with_reducible first | refine ax fun hc=> ?_ | refine ay fun hc=> ?_ | refine az (fun hc=> ?_) fun hc=> ?_) <;> (try simp only [hc,bs, ↓reduceIte]at h) <;> try simp only [hc]
 | (with_reducible refine aA hQ ?_;(try cases h);simp only [aE,aF,aN,aO,go_sem,hD,hJ,hP,hY,e1,w4];try exact aQ)
 | (cases h;done))
     refine cP 2 0 (sc (ms,j+1,cv a.name e) ⟨k2,hw,by dsimp only;omega,v2⟩ (Nat.lt_succ_self _))
    ·have e1:decide (e≤20000)=false:=by simp;omega
     rw [if_neg he]at hw
     subst hw
     repeat' (first
 | simp only [go_sem,hD,hJ,hP,hY,e1,w3]
 | (with_reducible refine CU (eT _) ?_)
 | (with_reducible first | refine ax fun hc=> ?_ | refine ay fun hc=> ?_ | refine az (fun hc=> ?_) fun hc=> ?_) <;> (try simp only [hc,bs, ↓reduceIte]at h) <;> try simp only [hc]
 | (with_reducible refine aA hQ ?_;(try cases h);simp only [aE,aF,aN,aO,go_sem,hD,hJ,hP,hY,e1,w3];try exact aQ)
 | (cases h;done))
     refine cP 1 0 (IH (rest,k+1,eD f.body e) ⟨g2,hp,by dsimp only;omega,r1⟩ (Nat.lt_succ_self _))
  ·have c1:decide (c≤20000)=false:=by simp;omega
   rw [if_neg hc]at hp
   subst hp
   repeat' (first
 | simp only [go_sem,hD,hJ,hP,hY,c1]
 | (with_reducible first | refine ax fun hc=> ?_ | refine ay fun hc=> ?_ | refine az (fun hc=> ?_) fun hc=> ?_) <;> (try simp only [hc,bs, ↓reduceIte]at h) <;> try simp only [hc]
 | (with_reducible refine aA hQ ?_;(try cases h);simp only [aE,aF,aN,aO,go_sem,hD,hJ,hP,hY,c1];try exact aQ)
 | (cases h;done))
end Go.Abs

/-! MirEq -/

namespace Go.Abs
def TQ:List aH→List aH→Bool
 | [],_=>true
 | _::_,[]=>true
 | x::l,y::l'=>if !(x==y)then false else TQ l l'
def PI (l l':List aH):Bool:=if(l.length:Int) != (l'.length:Int)then false else TQ l l'
def Ar.nF:List Ar→List Ar→Bool
 | [],_=>true
 | _::_,[]=>true
 | a::l,b::l'=>if !(a.ref==b.ref) || !(a.name==b.name) || !(Ex.beq a.x b.x)then false else Ar.nF l l'
mutual
def Sm.beq:Sm→Sm→Bool
 | ⟨id,kind,labels,name,proc,x,has,args,bp,bc⟩,⟨id',WB,Q1,Il,WC,x',acX,zo,TR,TS⟩=>
  if id != id' || kind != WB || !(name==Il) || !(proc==WC) || !(has==acX) || !(PI labels Q1) || !(Ex.beq x x') || (args.length:Int) != (zo.length:Int)then false
  else if !(Ar.nF args zo)then false
  else if(if(bp.length:Int) != (TR.length:Int)then false else Sm.nF bp TR)then(if(bc.length:Int) != (TS.length:Int)then false else Sm.nF bc TS)else false
def Sm.nF:List Sm→List Sm→Bool
 | [],_=>true
 | _::_,[]=>true
 | s::l,t::l'=>if !(Sm.beq s t)then false else Sm.nF l l'
end
def Sm.acY (l l':List Sm):Bool:=if(l.length:Int) != (l'.length:Int)then false else Sm.nF l l'
def Pm.nF:List Pm→List Pm→Bool
 | [],_=>true
 | _::_,[]=>true
 | a::l,b::l'=>if !((a.name==b.name) && (a.ref==b.ref))then false else Pm.nF l l'
def Pc.nF:List Pc→List Pc→Bool
 | [],_=>true
 | _::_,[]=>true
 | f::l,g::l'=>
  if !(f.name==g.name) || (f.params.length:Int) != (g.params.length:Int) || !(PI f.vars g.vars) || !(PI f.fin g.fin) || !(Sm.acY f.body g.body)then false
  else if !(Pm.nF f.params g.params)then false else Pc.nF l l'
def Pg.beq (p q:Pg):Bool:=if !(PI p.globals q.globals) || (p.procs.length:Int) != (q.procs.length:Int)then false else Pc.nF p.procs q.procs
end Go.Abs

/-! RefEq -/

namespace Go.Abs
set_option maxRecDepth 8000
open Go.Proofs
end Go.Abs

/-! RefEq2 -/

namespace Go.Abs
set_option maxRecDepth 8000
open Go.Proofs
def xH (n:Int):Ex:=⟨1,n,[],[]⟩
def pg (s:aH):Ex:=⟨2,0,s,[]⟩
def z7 (op:Int) (a b:Ex):Ex:=⟨op,0,[],[a,b]⟩
theorem WD (n:Int) (s:St):aD Tryz.prog oP [.int .i64 n] s (.agg (bL (xH n))) s:=by
 refine aD.pure ?_ rfl (by simp [D.ok,iN]) s
 unfold S0
 refine aD.go Ee rfl fun B Q hB hQ=> ?_
 have⟨hD,hJ,hP,hY⟩:=bK
 repeat' (first
 | simp only [go_sem,hD,hJ,hP,hY,xH]
 | (with_reducible first | refine ax fun hc=> ?_ | refine ay fun hc=> ?_ | refine az (fun hc=> ?_) fun hc=> ?_) <;> (try simp only [hc,bs, ↓reduceIte]at h) <;> try simp only [hc]
 | (with_reducible refine aA hQ ?_;(try cases h);simp only [aE,aF,aN,aO,go_sem,hD,hJ,hP,hY,xH];try exact aQ)
 | (cases h;done))
theorem I2 (t:aH) (s:St):aD Tryz.prog jq [.str t] s (.agg (bL (pg t))) s:=by
 refine aD.pure ?_ rfl (by simp [D.ok,iN]) s
 unfold S0
 refine aD.go CF rfl fun B Q hB hQ=> ?_
 have⟨hD,hJ,hP,hY⟩:=bK
 repeat' (first
 | simp only [go_sem,hD,hJ,hP,hY,pg]
 | (with_reducible first | refine ax fun hc=> ?_ | refine ay fun hc=> ?_ | refine az (fun hc=> ?_) fun hc=> ?_) <;> (try simp only [hc,bs, ↓reduceIte]at h) <;> try simp only [hc]
 | (with_reducible refine aA hQ ?_;(try cases h);simp only [aE,aF,aN,aO,go_sem,hD,hJ,hP,hY,pg];try exact aQ)
 | (cases h;done))
theorem Lp (op:Int) (a b:Ex) (s:St):aD Tryz.prog ra [.int .i64 op, .agg (bL a), .agg (bL b)] s (.agg (bL (z7 op a b))) s:=by
 refine aD.pure ?_ (by simp [D.bM,D.ok,iN]) (by simp [D.ok,iN]) s
 unfold S0
 refine aD.go Ef rfl fun B Q hB hQ=> ?_
 have⟨hD,hJ,hP,hY⟩:=bK
 repeat' (first
 | simp only [go_sem,hD,hJ,hP,hY,z7]
 | (with_reducible first | refine ax fun hc=> ?_ | refine ay fun hc=> ?_ | refine az (fun hc=> ?_) fun hc=> ?_) <;> (try simp only [hc,bs, ↓reduceIte]at h) <;> try simp only [hc]
 | (with_reducible refine aA hQ ?_;(try cases h);simp only [aE,aF,aN,aO,go_sem,hD,hJ,hP,hY,z7];try exact aQ)
 | (cases h;done))
def source:aH:= [103,108,111,98,97,108,32,103,59,10,112,114,111,99,32,109,97,105,110,40,41,32,123,10,32,118,97,114,32,118,59,10,32,118,32,61,32,50,59,10,32,103,32,61,32,112,40,51,44,32,114,101,102,32,118,41,59,10,32,112,114,105,110,116,32,118,59,10,32,112,114,105,110,116,32,103,59,10,125,10,112,114,111,99,32,112,40,120,44,32,114,101,102,32,121,41,32,123,10,32,121,32,61,32,121,32,43,32,120,59,10,32,105,102,32,40,121,32,62,32,57,41,32,123,10,32,32,103,111,116,111,32,101,59,10,32,125,10,32,114,101,116,117,114,110,32,121,59,10,101,58,32,125,10]
def lL:Pg:=⟨[[103]],[
 ⟨[109,97,105,110],[],[[118]],[
  ⟨1,1,[],[118],[],xH 2,false,[],[],[]⟩,
  ⟨2,4,[],[103],[112],oI,false,[⟨false,[],xH 3⟩,⟨true,[118],oI⟩],[],[]⟩,
  ⟨3,3,[],[],[],pg [118],false,[],[],[]⟩,
  ⟨4,3,[],[],[],pg [103],false,[],[],[]⟩],[]⟩,
 ⟨[112],[⟨[120],false⟩,⟨[121],true⟩],[],[
  ⟨5,1,[],[121],[],z7 8 (pg [121]) (pg [120]),false,[],[],[]⟩,
  ⟨6,5,[],[],[],z7 12 (pg [121]) (xH 9),false,[],[⟨7,10,[],[101],[],oI,false,[],[],[]⟩],[]⟩,
  ⟨8,9,[],[],[],pg [121],true,[],[],[]⟩],[[101]]⟩]⟩
theorem TT (s:St):aD Tryz.prog tr [] s (.agg (bD lL)) s:=by
 refine aD.pure ?_ rfl (by simp [D.ok,fT]) s
 unfold S0
 refine aD.go Cz rfl fun B Q hB hQ=> ?_
 have⟨hD,hJ,hP,hY⟩:=bK
 repeat' (first
 | simp only [go_sem,hD,hJ,hP,hY,lL]
 | (with_reducible refine CU (WD _ _) ?_)
 | (with_reducible refine CU (I2 _ _) ?_)
 | (with_reducible refine CU (Lp _ _ _ _) ?_)
 | (with_reducible first | refine ax fun hc=> ?_ | refine ay fun hc=> ?_ | refine az (fun hc=> ?_) fun hc=> ?_) <;> (try simp only [hc,bs, ↓reduceIte]at h) <;> try simp only [hc]
 | (with_reducible refine aA hQ ?_;(try cases h);simp only [aE,aF,aN,aO,go_sem,hD,hJ,hP,hY,lL];repeat' (first | exact Ok.out | with_reducible refine gA ?_ ?_ | (simp;done)))
 | (cases h;done))
 repeat' (first | exact Ok.out | with_reducible refine Wk.agg ?_ | with_reducible refine Wk.rows ?_ | with_reducible refine Wk.slice ?_ | with_reducible refine gH.cons ?_ ?_ | with_reducible refine kP.cons ?_ ?_)
end Go.Abs

/-! LawTo1 -/

namespace Go.Abs
set_option maxRecDepth 8000
open Go.Proofs
theorem Lq:lL.may=true:=by decide +kernel
theorem Bg:lL.iQ:=⟨B4 Lq (by decide +kernel),by decide +kernel⟩
def Pg.ajd (p:Pg) (n:Int):aH:=match p.procs[(tM n p.procs.length).toNat]? with | some f=>f.name | none=> []
end Go.Abs

/-! AlP -/

namespace Go.Abs
set_option maxRecDepth 8000
open Go.Proofs
theorem z8 {id:Int} : ∀ {l:List It},rk id l=none→∀ i∈l,i.s.id≠id
 | a::l,h,i,m=>by
  simp only [rk]at h
  split at h
  ·cases h
  ·rename_i c
   rcases List.mem_cons.1 m with rfl | m
   ·simpa using c
   ·exact z8 h i m
theorem Aa {id:Int} {i:It} : ∀ {l:List It},rk id l=some i→i∈l∧i.s.id=id
 | a::l,h=>by
  simp only [rk]at h
  split at h
  ·rename_i c
   cases h
   exact⟨List.mem_cons_self ..,eq_of_beq c⟩
  ·obtain⟨h1,h2⟩:=Aa h
   exact⟨List.mem_cons_of_mem _ h1,h2⟩
theorem Ab {id:Int} {r:It×aH} : ∀ {l:List Pc},mJ id l=some r→∃ f∈l,r.1∈f.flat∧r.1.s.id=id∧r.2=f.name
 | f::l,h=>by
  simp only [mJ]at h
  split at h
  ·rename_i i e
   cases h
   obtain⟨h1,h2⟩:=Aa e
   exact⟨f,List.mem_cons_self ..,h1,h2,rfl⟩
  ·obtain⟨g,h1,h2⟩:=Ab h
   exact⟨g,List.mem_cons_of_mem _ h1,h2⟩
theorem Ac {id:Int} : ∀ {l:List Pc},mJ id l=none→∀ f∈l,∀ i∈f.flat,i.s.id≠id
 | f::l,h,g,m,i,hi=>by
  simp only [mJ]at h
  split at h
  ·cases h
  ·rename_i e
   rcases List.mem_cons.1 m with rfl | m
   ·exact z8 e i hi
   ·exact Ac h g m i hi
theorem N6 {p:Pg} (hb:p.may=true) {id:Int} (h : ∃ v∈p.pre,v.id=id):p.s4 id∈p.pre∧(p.s4 id).id=id:=by
 obtain⟨v,hv,Cn⟩:=h
 have iZ:=(nk hb).1
 unfold Pg.s4
 cases e:mJ id p.procs with
 | some r=>
  obtain⟨f,h1,h2,h3,_⟩:=Ab e
  refine⟨?_,h3⟩
  simp only [Pg.pre,List.mem_flatten,List.mem_map]
  exact⟨_,⟨f,h1,rfl⟩,by rw [← iZ f h1];exact List.mem_map_of_mem h2⟩
 | none=>
  simp only [Pg.pre,List.mem_flatten,List.mem_map]at hv
  obtain⟨l,⟨f,hf,rfl⟩,m⟩:=hv
  rw [← iZ f hf,List.mem_map]at m
  obtain⟨i,hi,rfl⟩:=m
  exact absurd Cn (Ac e f hf i hi)
theorem yP {k:Int} {x:Int} : ∀ {l:List It},x∈lJ k l↔∃ i∈l,(k==0 || i.s.kind==k)=true∧i.s.id=x
 | []=>by simp [lJ]
 | a::l=>by
  simp only [lJ]
  split
  ·rename_i c
   simp only [List.mem_cons,yP (l:=l),exists_eq_or_imp,c,true_and]
   exact or_congr_left ⟨Eq.symm,Eq.symm⟩
  ·rename_i c
   have c':(k==0 || a.s.kind==k)=false:=by simpa using c
   simp only [List.mem_cons,yP (l:=l),exists_eq_or_imp,c',Bool.false_eq_true,false_and,false_or]
theorem Lr {l:List Int} {n:Int} (h:mI l n≠0):mI l n∈l:=by
 unfold mI at *
 split
 ·rename_i x e;exact List.mem_of_getElem? e
 ·rename_i e;rw [e]at h;exact absurd rfl h
theorem Ls {p:Pg} (hb:p.may=true) {k n:Int} (h:mI (lJ k p.all) n≠0):p.s4 (mI (lJ k p.all) n)∈p.pre∧(p.s4 (mI (lJ k p.all) n)).id=mI (lJ k p.all) n:=by
 obtain⟨i,h1,_,h2⟩:=yP.1 (Lr h)
 exact N6 hb ⟨i.s,by rw [← (nk hb).2];exact List.mem_map_of_mem h1,h2⟩
theorem Q2 : ∃ F V,lL.procs[0]? = some F∧F.body[1]? = some V∧V∈lL.pre∧(lL.arity.1==0 && (V.gL lL && V.l6 lL))=true∧
 (lL.arity.1==0 && (({V with name:= [118]} : Sm).gL lL && ({V with name:= [118]} : Sm).l6 lL))=false:=by
 refine⟨_,_,rfl,rfl, ?_,by decide +kernel,by decide +kernel⟩
 simp [lL,Pg.pre,Sm.fk,Sm.pre]
theorem TU:Kj.iQ:=⟨B4 (by decide +kernel) (by decide +kernel),by decide +kernel⟩
theorem Lt:Kj.alias=(1,0):=by decide +kernel
theorem N7 (s:St):aD Tryz.prog qA [] s (.bool true) s:=by
 refine aD.pure ?_ rfl rfl s
 have hS:=fun s=>TT s
 obtain⟨F,V,hF,hV,hm,e1,e2⟩:=Q2
 have hv:=Bg.pre V hm
 have f1:=fun s=>yN Bg hv s
 have f2:=fun s=>yN (v:= {V with name:= [118]}) Bg hv s
 rw [e1]at f1
 rw [e2]at f2
 have f3:=fun s=>(Ck TU s).BK (d:= .agg [.slice .full 0 [], .slice .full 0 []]) (Wk.agg (.cons (Wk.nil _ _ _) (.cons (Wk.nil _ _ _) .nil)))
 simp only [Lt]at f3
 generalize lL=P at *
 simp only [cB,uw]at f1 f2
 have w1:((1:Int)==1)=true:=rfl
 have w3:Int.toNat 1=1:=rfl
 have w2:((0:Int)==0)=true:=rfl
 unfold S0
 refine aD.go zw rfl fun B Q hB hQ=> ?_
 have⟨hD,hJ,hP,hY⟩:=bK
 repeat' (first
 | simp only [go_sem,hD,hJ,hP,hY,uw,hF,zT,hV,cB,w1,w2,w3,Bool.not_false]
 | (with_reducible refine CU (hS _) ?_)
 | (with_reducible refine CU (f1 _) ?_)
 | (with_reducible refine CU (f2 _) ?_)
 | (with_reducible refine CU (f3 _) ?_)
 | (with_reducible first | refine ax fun hc=> ?_ | refine ay fun hc=> ?_ | refine az (fun hc=> ?_) fun hc=> ?_) <;> (try simp only [hc,bs, ↓reduceIte]at h) <;> try simp only [hc]
 | (with_reducible refine aA hQ ?_;(try cases h);simp only [aE,aF,aN,aO,go_sem,hD,hJ,hP,hY,uw,hF,zT,hV,cB,w1,w2,w3,Bool.not_false];try exact aQ)
 | (cases h;done))
theorem E0 (p:Pg) (n:Int) (s:St):aD Tryz.prog rJ [.agg (bD p), .int .i64 n] s (.bool true) s:=by
 refine aD.pure ?_ (by simp [D.bM,D.ok,fT]) rfl s
 have h1:=fun s=>N7 s
 have h2:=fun s=>TP p s
 unfold S0
 rcases Bool.eq_false_or_eq_true (decide (p.xG≤20000))with hw | hw
 case inr=>
  simp only [hw]at h2
  refine aD.go kb rfl fun B Q hB hQ=> ?_
  have⟨hD,hJ,hP,hY⟩:=bK
  repeat' (first
 | simp only [go_sem,hD,hJ,hP,hY]
 | (with_reducible refine CU (h1 _) ?_)
 | (with_reducible refine CU (h2 _) ?_)
 | (with_reducible first | refine ax fun hc=> ?_ | refine ay fun hc=> ?_ | refine az (fun hc=> ?_) fun hc=> ?_) <;> (try simp only [hc,bs, ↓reduceIte]at h) <;> try simp only [hc]
 | (with_reducible refine aA hQ ?_;exact bx)
 | (cases h;done))
 simp only [hw]at h2
 obtain⟨ek,WE⟩:=I1 (of_decide_eq_true hw)
 have ho:p.iQ:=⟨WE,by omega⟩
 obtain⟨oj,ng,oZ⟩:=ho.procs
 have h3:=fun s=>Ck ho s
 have h4:=fun s=>N4 ho s
 have e1:(p.alias.1==p.alias.1)=true:=beq_self_eq_true _
 have e2:(p.alias.2==p.alias.2)=true:=beq_self_eq_true _
 have hm:=fun s=>KO ho.IQ s
 simp only [Bd]at hm
 rcases Bool.eq_false_or_eq_true p.may with hb | hb
 case inr=>
  simp only [hb]at hm
  refine aD.go kb rfl fun B Q hB hQ=> ?_
  have⟨hD,hJ,hP,hY⟩:=bK
  repeat' (first
 | simp only [go_sem,hD,hJ,hP,hY,e1,e2,Bool.not_true]
 | (with_reducible refine CU (h1 _) ?_)
 | (with_reducible refine CU (h2 _) ?_)
 | (with_reducible refine CU (h3 _) ?_)
 | (with_reducible refine CU (h4 _) ?_)
 | (with_reducible refine CU (hm _) ?_)
 | (with_reducible first | refine ax fun hc=> ?_ | refine ay fun hc=> ?_ | refine az (fun hc=> ?_) fun hc=> ?_) <;> (try simp only [hc,bs, ↓reduceIte]at h) <;> try simp only [hc]
 | (with_reducible refine aA hQ ?_;(try cases h);simp only [aE,aF,aN,aO,go_sem,hD,hJ,hP,hY,e1,e2,Bool.not_true];try exact aQ)
 | (cases h;done))
 simp only [hb]at hm
 have Ga:=(uB hb).1
 have h5:=fun s=>WA (p:=p) (by omega) (by omega) 0 s
 have h6:=fun s=>TI (l:=lJ 0 p.all) (by have:=yO 0 p.all;omega) n s
 have ac0:=fun(h:mI (lJ 0 p.all) n≠0)=>Ls hb h
 generalize mI (lJ 0 p.all) n=id at *
 have h7:=fun s=>TL (p:=p) (by omega) (by omega) id s
 generalize p.s4 id=V at *
 rcases Bool.eq_false_or_eq_true (id==0)with Cn | Cn
 ·refine aD.go kb rfl fun B Q hB hQ=> ?_
  have⟨hD,hJ,hP,hY⟩:=bK
  repeat' (first
 | simp only [go_sem,hD,hJ,hP,hY,e1,e2,Bool.not_true,Cn]
 | (with_reducible refine CU (h1 _) ?_)
 | (with_reducible refine CU (h2 _) ?_)
 | (with_reducible refine CU (h3 _) ?_)
 | (with_reducible refine CU (h4 _) ?_)
 | (with_reducible refine CU (hm _) ?_)
 | (with_reducible refine CU (h5 _) ?_)
 | (with_reducible refine CU (h6 _) ?_)
 | (with_reducible refine CU (h7 _) ?_)
 | (with_reducible first | refine ax fun hc=> ?_ | refine ay fun hc=> ?_ | refine az (fun hc=> ?_) fun hc=> ?_) <;> (try simp only [hc,bs, ↓reduceIte]at h) <;> try simp only [hc]
 | (with_reducible refine aA hQ ?_;(try cases h);simp only [aE,aF,aN,aO,go_sem,hD,hJ,hP,hY,e1,e2,Bool.not_true,Cn];try exact aQ)
 | (cases h;done))
 ·obtain⟨hv,_⟩:=ac0 (by simpa using Cn)
  have h8:=fun s=>yN ho (ho.pre V hv) s
  have h9:=fun s=>N5 ho (ho.pre V hv) (Ge hb V hv) s
  generalize (p.arity.1==0 && (V.gL p && V.l6 p))=b at *
  have e3:(b==b)=true:=beq_self_eq_true _
  refine aD.go kb rfl fun B Q hB hQ=> ?_
  have⟨hD,hJ,hP,hY⟩:=bK
  repeat' (first
 | simp only [go_sem,hD,hJ,hP,hY,e1,e2,e3,Bool.not_true,Cn]
 | (with_reducible refine CU (h1 _) ?_)
 | (with_reducible refine CU (h2 _) ?_)
 | (with_reducible refine CU (h3 _) ?_)
 | (with_reducible refine CU (h4 _) ?_)
 | (with_reducible refine CU (hm _) ?_)
 | (with_reducible refine CU (h5 _) ?_)
 | (with_reducible refine CU (h6 _) ?_)
 | (with_reducible refine CU (h7 _) ?_)
 | (with_reducible refine CU (h8 _) ?_)
 | (with_reducible refine CU (h9 _) ?_)
 | (with_reducible first | refine ax fun hc=> ?_ | refine ay fun hc=> ?_ | refine az (fun hc=> ?_) fun hc=> ?_) <;> (try simp only [hc,bs, ↓reduceIte]at h) <;> try simp only [hc]
 | (with_reducible refine aA hQ ?_;(try cases h);simp only [aE,aF,aN,aO,go_sem,hD,hJ,hP,hY,e1,e2,e3,Bool.not_true,Cn];try exact aQ)
 | (cases h;done))
end Go.Abs

/-! Glue2 -/

namespace Go.Abs
def M0:Map:=⟨fun _ _=>none,fun _=>(0, .any),fun _=>none⟩
def Kept (w w':World):Prop:=w.keptBut w' (fun _=>False)∧∀ a:Addr,a.block<w.heap.size→w'.frozen? a=w.frozen? a
theorem Kept.frame {w w':World} (h:Kept w w') (may:MemPlace→Prop):w.keptBut w' may:=World.keptBut_mono (fun _ f=>f.elim) h.1
theorem Ext.TV {M M':Map} {s':St} {w w':World} (e:Ext M S0 w M' s' w'):Kept w w':=by
 have hh : ∀ b,b<w.heap.size→w'.heap[b]? = w.heap[b]? :=fun b hb=>
  e.kept b hb (fun o ho=>by simp [S0]at ho) (fun t c z hl=>by obtain⟨n,hn⟩:=hl;simp [S0]at hn)
 refine⟨⟨e.os,e.output,fun i hi=> ?_⟩,fun a ha=> ?_⟩
 ·rw [hh i hi]
  exact(World.keptBut_refl w (fun _=>False)).2.2 i hi
 ·simp only [World.frozen?,hh _ ha]
theorem ac1 (G:Nat→Nat→Option Value) (w:World) (h : ∀ b o v,G b o=some v→w.cell? ⟨b,o,none⟩=some v∧v.oneCell'=true):Rel ⟨G,fun _=>(0, .any),fun _=>none⟩ S0 w:=
 ⟨h,fun o ds e=>by simp [S0]at e,fun o ho=>by simp [S0]at ho,fun o o' ho=>by simp [S0]at ho,fun t n e=>by simp [S0]at e,
  fun t b c z o hl=>by obtain⟨n,hn⟩:=hl;simp [S0]at hn,fun t t' b c z c' z' hl=>by obtain⟨n,hn⟩:=hl;simp [S0]at hn⟩
def I3 (w:World):Prop:=∀ g cs,Rc g=some cs→∃ T fr,w.heap[g]? = some (.cells cs T fr)
theorem WG (G:Nat→Nat→Option Value) {w:World} (h:I3 w):Laid ⟨G,fun _=>(0, .any),fun _=>none⟩ S0 w:=
 fun g cs hg=>⟨h g cs hg,fun o ho=>by simp [S0]at ho,fun t c z hl=>by obtain⟨n,hn⟩:=hl;simp [S0]at hn⟩
theorem Lu {P:Program} {f:FuncId} {args:List D} {fx:Array Value} {w:World} {G:Nat→Nat→Option Value} (h:ej P f args S0 fun d _=>d = .bool true)
 (hG : ∀ b o v,G b o=some v→w.cell? ⟨b,o,none⟩=some v∧v.oneCell'=true) (hl:fx.size=args.length)
 (ha : ∀ (i:Nat) (d:D) (v:Value),args[i]? = some d→fx[i]? = some v→RD ⟨G,fun _=>(0, .any),fun _=>none⟩ S0 d v) (jI:I3 w) :
 Calls P f fx w fun e w'=>e = .returned (.bool true)∧Kept w w':=by
 refine(h _ w fx (ac1 G w hG) (WG G jI) hl ha).mono fun e w' hw=> ?_
 obtain⟨M',d,v,s',rfl,rfl,he,_,hv⟩:=hw
 rw [hv.lx]
 exact⟨rfl,he.TV⟩
section
variable {P:Program} {H:Type} {enc:TypeId×Value→H}
theorem E1 {f:Func} {s:ChangeSpec} {apart fresh handsOn again:Bool} {W W':World} {args:Array Value} {v:Value} {ds gs:List (DataW H)} {before pa pv:List MemPlace}
 (hW:DataW.Whole enc P f.params.toList s.vars apart W args.toList ds gs before)
 (TW : ∀ (b:Nat) (sp:Nat→Bool) (hd:Bool),DataW.TrodAll enc P W' b sp hd f.resultTypes.toList (v.resultList f.resultTypes.size) (s.fn H (ds++gs)).results [])
 (CW : ∀ sp:Nat→Bool,(∀ p∈before,sp p.block=true)→DataW.TrodAll enc P W' 0 sp true f.params.toList args.toList (s.fn H (ds++gs)).args pa)
 (Ad : ∀ sp:Nat→Bool,(∀ p∈before,sp p.block=true)→DataW.TrodVars enc P W' sp s.vars (s.fn H (ds++gs)).vars pv)
 (ng:before=pa++pv) (hk:Kept W W')
 (Bx : ∀ (j:Nat) (t:TypeId) (r:Value),f.resultTypes[j]? = some t→(v.resultList f.resultTypes.size)[j]? = some r→Value.okWide P W' .any 0 t r) :
 s.post enc P f apart fresh handsOn again W args v W':=by
 have hD : ∀ p∈before,p.block<W.heap.size:=fun p hp=>hW.lt p hp
 have hold : ∀ p∈before,(fun b=>decide (b<W.heap.size)) p.block=true:=fun p hp=>by simpa using hD p hp
 refine⟨ds,gs,before,[],pa,pv,hW,TW _ _ _,CW _ hold,Ad _ hold,World.keptBut_mono (fun p hp=>⟨hp, ?_⟩) (hk.frame (· ∈before)),fun _=> ?_⟩
 ·rw [ng,List.mem_append]at hp
  exact Or.inr hp
 ·obtain⟨_,_,_,_,_,hz,hn⟩:=hW
  refine⟨Bx,_,_,([]++pa)++pv,⟨[]++pa,pv,ChangeShapes.trodAll_append (CW _ (fun _ _=>rfl)) (TW _ _ _),Ad _ (fun _ _=>rfl),rfl, ?_, ?_⟩, ?_⟩
  ·intro b off hp
   have mq:MemPlace.cell b off∈before:=by rw [ng];simpa using hp
   rw [hk.2 _ (hD _ mq)]
   exact hz b off mq
  ·intro ha
   have:=hn ha
   rw [ng]at this
   simpa using this
  ·intro p hp _
   rw [ng]
   simpa using hp
end
end Go.Abs

/-! Join -/

namespace Go.Abs
open Go.RowKit Go.ChangeShapes Go.WideShapes
def Bi (w:World) (b o:Nat):Option Value:=
 match w.cell? ⟨b,o,none⟩with
 | some v=>if v.oneCell'=true then some v else none
 | none=>none
theorem Gg {w:World} (b o:Nat) (v:Value) (h:Bi w b o=some v):w.cell? ⟨b,o,none⟩=some v∧v.oneCell'=true:=by
 unfold Bi at h
 split at h
 ·split at h
  ·cases h;exact⟨‹_›, ‹_›⟩
  ·cases h
 ·cases h
def xo (w:World):Map:=⟨Bi w,fun _=>(0, .any),fun _=>none⟩
theorem Kept.sameAt {w w':World} (h:Kept w w') {p:MemPlace} (hp:p.block<w.heap.size):w.sameAt w' p:=by
 have hk:=h.1.2.2 p.block hp
 cases p with
 | cell b off=>
  simp only [MemPlace.block]at hk hp
  simp only [World.sameAt,World.cell?]
  split at hk
  ·rename_i c t fr c' t' fr' e e'
   rw [e,e']
   simp only [hk.2.2.2 off (fun f=>f)]
  ·rename_i es clock vy TX e e'
   rw [e,e']
  ·rw [hk]
 | map b=>
  simp only [MemPlace.block]at hk hp
  simp only [World.sameAt]
  split at hk
  ·rename_i c t fr c' t' fr' e e'
   rw [e,e']
   obtain⟨rfl,rfl,hs,hc⟩:=hk
   have:c'=c:=by
    apply Array.ext_getElem?
    intro i
    exact hc i (fun f=>f)
   rw [this]
  ·rename_i es clock vy TX e e'
   rcases hk with f | ⟨rfl,rfl⟩
   ·exact f.elim
   ·rw [e,e']
  ·exact hk
section
variable {P:Program} {H:Type} {enc:TypeId×Value→H} {T:TypeId→Prop}
theorem Ae (K:Kids P T) (hz : ∀ {t e:TypeId},T t→P.underlying t=some (.slice e)→0<P.cellsOf e) {W W':World} (hk:Kept W W') {sp:Nat→Bool} :
 ∀ {ts:List TypeId} {vs:List Value} {ds:List (DataW H)} {ps:List MemPlace},(∀ t∈ts,T t)→(∀ p∈ps,p.block<W.heap.size)→(∀ p∈ps,sp p.block=true)→
  DataW.TrodAll enc P W 0 (fun _=>true) true ts vs ds ps→DataW.TrodAll enc P W' 0 sp true ts vs ds ps
 | [],[],[],_,_,_,_,h=>h
 | t::ts,v::vs,d::ds,ps,hT,hD,hs,⟨p,q,⟨n,h1⟩,h2,e⟩=>by
  subst e
  refine⟨p,q,⟨n,DataW.trod_stays K hz (fun f=>by cases f) (hT t (List.mem_cons_self ..)) h1 (fun x hx=>hk.sameAt (hD x (List.mem_append_left _ hx))) (fun x hx=>hs x (List.mem_append_left _ hx))⟩, ?_,rfl⟩
  exact Ae K hz hk (fun t ht=>hT t (List.mem_cons_of_mem _ ht)) (fun x hx=>hD x (List.mem_append_right _ hx)) (fun x hx=>hs x (List.mem_append_right _ hx)) h2
 | [],[],_::_,_,_,_,_,h=>h.elim
 | [],_::_,_,_,_,_,_,h=>h.elim
 | _::_,[],_,_,_,_,_,h=>h.elim
 | _::_,_::_,[],_,_,_,_,h=>h.elim
theorem N8 (K:Kids P T) (hz : ∀ {t e:TypeId},T t→P.underlying t=some (.slice e)→0<P.cellsOf e) {f:Func} {s:ChangeSpec} {apart fresh handsOn again:Bool} {tb:TypeId} {W W':World} {args:Array Value} {ds gs:List (DataW H)} {before:List MemPlace}
 (hT : ∀ t∈f.params.toList,T t) (hb:P.underlying tb=some .bool) (hr:f.resultTypes = #[tb]) (Ad:s.vars = []) (hW:DataW.Whole enc P f.params.toList s.vars apart W args.toList ds gs before)
 (sR:s.fn H (ds++gs) = {results:= [.lit (.bool true)],args:=ds}) (hk:Kept W W'):s.post enc P f apart fresh handsOn again W args (.bool true) W':=by
 have TY:=hW
 have hD : ∀ p∈before,p.block<W.heap.size:=fun p hp=>hW.lt p hp
 obtain⟨p,q,hA,hV,rfl,hfz,hnd⟩:=hW
 rw [Ad]at hV
 obtain⟨rfl,rfl⟩:=trodVars_none hV
 simp only [List.append_nil]at hD sR
 refine E1 (pa:=p) (pv:= []) TY (fun b sp hd=> ?_) (fun sp mS=> ?_) (fun sp mS=> ?_) rfl hk (ok_one hr rfl (okWide_bool_mk hb _))
 ·rw [List.append_nil,sR,hr]
  exact trodAll_cons_mk (shut_bool hb _) trodAll_mk0
 ·rw [List.append_nil,sR]
  simp only [List.append_nil]at mS
  exact Ae K hz hk hT hD mS hA
 ·rw [List.append_nil,sR,Ad]
  rfl
theorem Q4 {f:FuncId} {args:List D} {fx:Array Value} {w:World} (h:ej P f args S0 fun d _=>d = .bool true) (hl:fx.size=args.length)
 (ha : ∀ (i:Nat) (d:D) (v:Value),args[i]? = some d→fx[i]? = some v→RD (xo w) S0 d v) (jI:I3 w):Calls P f fx w fun e w'=>e = .returned (.bool true)∧Kept w w':=
 Lu (G:=Bi w) h Gg hl ha jI
end
end Go.Abs

/-! Binds1 -/

namespace Go.Abs
open Go.Proofs
def Af (n:Int):List D:= [.int .i64 n]
theorem WH (n:Int):D.bM 0 0 (Af n)=true:=rfl
theorem T4 (n m:Nat) (l:List Int):D.ja n m (l.map Af)=l.map Af:=kU WH n m l
attribute [go_sem] Af T4
def WI (op:Int):aH:=
 if op=5 then [42]else if op=6 then [47]else if op=7 then [37]else if op=8 then [43]else if op=9 then [45]else if op=10 then [60]else if op=11 then [60,61]
 else if op=12 then [62]else if op=13 then [62,61]else if op=14 then [61,61]else if op=15 then [33,61]else if op=16 then [38,38]else [124,124]
def ajC (op:Int):Int:=(SS (WI op)).1
def Lv:Nat→List aH
 | 0=> []
 | n+1=>Lv n++ [[UInt8.ofNat (97+n)]]
end Go.Abs

/-! Join2 -/

namespace Go.Abs
open Go.RowKit Go.ChangeShapes Go.WideShapes
end Go.Abs

/-! Join3 -/

namespace Go.Abs
open Go.RowKit Go.ChangeShapes Go.WideShapes
def ei (W:World) (ds:List D) (cs:List Value):Prop:=ds.length=cs.length∧(∀ (i:Nat) (d:D) (v:Value),ds[i]? = some d→cs[i]? = some v→RD (xo W) S0 d v)∧∀ v∈cs,v.oneCell'=true
theorem ei.one {W:World} {d:D} {v:Value} (h:RD (xo W) S0 d v) (hv:v.oneCell'=true):ei W [d] [v]:=by
 refine⟨rfl,fun i d' v' h1 h2=> ?_,fun u hu=>by simp at hu;subst hu;exact hv⟩
 cases i with
 | zero=>simp at h1 h2;subst h1 h2;exact h
 | succ i=>simp at h1
theorem ei.app {W:World} {ds mf:List D} {cs hO:List Value} (h:ei W ds cs) (h':ei W mf hO):ei W (ds++mf) (cs++hO):=by
 obtain⟨a1,a2,a3⟩:=h
 obtain⟨b1,b2,b3⟩:=h'
 refine⟨by simp [a1,b1],fun i d v h1 h2=> ?_,fun v hv=> ?_⟩
 ·by_cases hi:i<ds.length
  ·rw [List.getElem?_append_left hi]at h1
   rw [List.getElem?_append_left (by omega)]at h2
   exact a2 i d v h1 h2
  ·rw [List.getElem?_append_right (by omega)]at h1
   rw [List.getElem?_append_right (by omega), ← a1]at h2
   exact b2 _ d v h1 h2
 ·rcases List.mem_append.1 hv with hv | hv
  ·exact a3 v hv
  ·exact b3 v hv
theorem ei.at {W:World} {ds mf:List D} {cs:List Value} {o n:Nat} (h:ei W ds ((cs.drop o).take n)) (h':ei W mf (cs.drop (o+n))):ei W (ds++mf) (cs.drop o):=by
 have e:cs.drop o=(cs.drop o).take n++cs.drop (o+n):=by rw [← List.drop_drop,List.take_append_drop]
 rw [e]
 exact h.app h'
theorem ei.end {W:World} {cs:List Value} {o:Nat} (h:cs.length=o):ei W [] (cs.drop o):=by
 rw [← h,List.drop_length]
 exact⟨rfl,fun i d v h=>by simp at h,fun v hv=>by cases hv⟩
section
variable {H:Type} {enc:TypeId×Value→H} {P:Program} {W:World} {sp:Nat→Bool}
def structOf (P:Program) (t:TypeId):List (TypeId×Nat):=
 match P.underlying t with
 | some (.struct fs)=>fs.toList.map fun f=>(f.type,f.offset)
 | _=> []
theorem jW {t:TypeId} {l:List (TypeId×Nat)} {fuel:Nat} {cs:List Value} {x:DataW H×List MemPlace} (h:structOf P t=l) (eQ:l≠ []) (ht:DataW.trod enc P W 0 sp true fuel t cs=some x) :
 ∃ n,fuel=n+1∧cs.length=P.cellsOf t∧∀ (i:Nat) (f:TypeId×Nat),l[i]? = some f→∃ y,DataW.trod enc P W 0 sp true n f.1 ((cs.drop f.2).take (P.cellsOf f.1))=some y:=by
 unfold structOf at h
 split at h
 ·rename_i fs hu
  obtain⟨xs,n,e,_,hl,hlen,hf⟩:=DataW.trod_struct hu ht
  refine⟨n,e,hl,fun i f hi=> ?_⟩
  subst h
  rw [List.getElem?_map,Option.map_eq_some_iff]at hi
  obtain⟨g,hg,rfl⟩:=hi
  have OT:fs[i]? = some g:=by simpa using hg
  have hi:i<xs.length:=by rw [hlen];exact(Array.getElem?_eq_some_iff.1 OT).1
  exact⟨xs[i],by rw [hf i g OT,List.getElem?_eq_getElem hi]⟩
 ·exact absurd h.symm eQ
theorem CS {t:TypeId} {l:List (TypeId×Nat)} (h:structOf P t=l) (eQ:l≠ []) : ∃ fs,P.underlying t=some (.struct fs):=by
 unfold structOf at h
 split at h
 ·exact⟨_, ‹_›⟩
 ·exact absurd h.symm eQ
theorem ya {α:Type} {Q:Nat→α→Prop} : ∀ n,(∀ i,i<n→∃ y,Q i y)→∃ ys:List α,ys.length=n∧∀ i y,ys[i]? = some y→Q i y
 | 0,_=>⟨[],rfl,fun i y h=>by simp at h⟩
 | n+1,h=>by
  obtain⟨ys,h1,h2⟩:=ya n fun i hi=>h i (by omega)
  obtain⟨y,hy⟩:=h n (by omega)
  refine⟨ys++ [y],by simp [h1],fun i z hz=> ?_⟩
  by_cases hi:i<ys.length
  ·rw [List.getElem?_append_left hi]at hz;exact h2 i z hz
  ·rw [List.getElem?_append_right (by omega)]at hz
   have:i - ys.length=0:=by
    rcases Nat.eq_zero_or_pos (i - ys.length)with h | h
    ·exact h
    ·rw [List.getElem?_eq_none (by simp only [List.length_cons,List.length_nil];omega)]at hz;cases hz
   rw [this]at hz
   simp at hz
   subst hz
   have:i=n:=by omega
   subst this
   exact hy
theorem np {α:Type} (en:α→List D) (good:α→Prop) {z:Nat} {t e:TypeId} {fuel:Nat} {cs:List Value} {x:DataW H×List MemPlace} (ht:P.underlying t=some (.slice e)) (hz:P.cellsOf e=z) (hz0:0<z) (T5 : ∀ y,(en y).length=z)
 (hel : ∀ n<fuel,∀ cs x,DataW.trod enc P W 0 sp true n e cs=some x→∃ y,ei W (en y) cs∧good y) (h:DataW.trod enc P W 0 sp true fuel t cs=some x) :
 ∃ ys:List α,ei W [.slice .shared z (ys.map en)] cs∧∀ y∈ys,good y:=by
 rcases DataW.trod_slice ht h with ⟨rfl,_⟩ | ⟨a,len,cap,elems,rest,n,hn,rfl,_,hb,hl,hm,hlen,sw,_,_⟩
 ·exact⟨[],ei.one (.iz _ _ _ rfl trivial) rfl,fun y hy=>by cases hy⟩
 ·by_cases h0:len=0
  ·subst h0
   exact⟨[],ei.one (.lr _ _ _) rfl,fun y hy=>by cases hy⟩
  ·obtain⟨ys,hys,yo⟩:=ya (Q:=fun i y=>good y∧∃ hO,W.cells? 0 (a.add (i*z)) z=some hO∧ei W (en y) hO) len fun i hi=>by
    have hc:=sw i hi
    rw [List.getElem?_eq_getElem (by omega),hz,Option.bind_eq_some_iff]at hc
    obtain⟨hO,h1,h2⟩:=hc
    obtain⟨y,h3,h4⟩:=hel n (by omega) _ _ h2
    exact⟨y,h4,hO,h1,h3⟩
   have cell : ∀ i y,ys[i]? = some y→∀ (j:Nat) d,(en y)[j]? = some d→∃ v,W.cell? ((a.add (i*z)).add j)=some v∧RD (xo W) S0 d v∧v.oneCell'=true:=by
    intro i y hy j d hd
    obtain⟨_,hO,h1,h2,h3,h4⟩:=yo i y hy
    obtain⟨_,k1,k2⟩:=World.cells?_some h1
    have hj:j<z:=by rw [← T5 y];exact(List.getElem?_eq_some_iff.1 hd).1
    have hv:hO[j]? = some hO[j]:=List.getElem?_eq_getElem (by omega)
    exact⟨hO[j],by rw [k2 j hj,hv],h3 j d _ hd hv,h4 _ (List.getElem_mem _)⟩
   obtain⟨b,off,spot⟩:=a
   have WJ:spot=none:=by
    have hy:ys[0]? = some (ys[0]'(by omega)):=List.getElem?_eq_getElem (by omega)
    obtain⟨d,hd⟩ : ∃ d,(en (ys[0]'(by omega)))[0]? = some d:=⟨_,List.getElem?_eq_getElem (show 0<(en (ys[0]'(by omega))).length by rw [T5];exact hz0)⟩
    obtain⟨v,hv,_⟩:=cell 0 _ hy 0 _ hd
    have:=World.cell?_spot hv
    simpa [Addr.add]using this
   subst WJ
   have e:(ys.map en).length=len:=by simp [hys]
   have:=RD.slice (M:=xo W) (s:=S0) .shared z (ys.map en) b off cap (by omega) (fun row hr=>by obtain⟨y,_,rfl⟩:=List.mem_map.1 hr;exact T5 y)
    (fun i row j d h1 h2=>by
     rw [List.getElem?_map,Option.map_eq_some_iff]at h1
     obtain⟨y,h1,rfl⟩:=h1
     obtain⟨v,hv,_,h4⟩:=cell i y h1 j d h2
     rw [add_plain,add_plain]at hv
     refine⟨v, ?_⟩
     show Bi W b (off+(i*z+j))=_
     unfold Bi
     rw [show off+(i*z+j)=off+i*z+j by omega,hv]
     simp [h4])
    (fun i row j d u h1 h2 hu=>by
     rw [List.getElem?_map,Option.map_eq_some_iff]at h1
     obtain⟨y,h1,rfl⟩:=h1
     obtain⟨v,hv,h3,h4⟩:=cell i y h1 j d h2
     rw [add_plain,add_plain]at hv
     obtain⟨hu,_⟩:=Gg _ _ _ hu
     rw [show off+(i*z+j)=off+i*z+j by omega,hv]at hu
     cases hu
     exact h3) trivial
   rw [e]at this
   refine⟨ys,ei.one this rfl,fun y hy=> ?_⟩
   obtain⟨i,hi⟩:=List.getElem?_of_mem hy
   exact(yo i y hi).1
theorem Ag {t:TypeId} {fuel:Nat} {cs:List Value} {x:DataW H×List MemPlace} (ht:P.underlying t=some (.int .i64)) (h:DataW.trod enc P W 0 sp true fuel t cs=some x) : ∃ n:Int,ei W [.int .i64 n] cs∧n≤9223372036854775807∧ -9223372036854775808≤n:=by
 obtain⟨n,rfl,_,hw⟩:=DataW.trod_int ht h
 simp [Lit.wf,IntKind.min,IntKind.max,IntKind.signed,IntKind.bits]at hw
 exact⟨n,ei.one (.int _ _) rfl,by omega,by omega⟩
theorem Bj {t:TypeId} {fuel:Nat} {cs:List Value} {x:DataW H×List MemPlace} (ht:P.underlying t=some .bool) (h:DataW.trod enc P W 0 sp true fuel t cs=some x) : ∃ b:Bool,ei W [.bool b] cs:=by
 obtain⟨n,rfl,_⟩:=DataW.trod_bool ht h
 exact⟨n,ei.one (.bool _) rfl⟩
theorem si {t:TypeId} {fuel:Nat} {cs:List Value} {x:DataW H×List MemPlace} (ht:P.underlying t=some .string) (h:DataW.trod enc P W 0 sp true fuel t cs=some x) : ∃ s:aH,ei W (encStr s) cs∧s.length≤maxLen:=by
 obtain⟨s,rfl,_,hm⟩:=DataW.trod_string ht h
 obtain⟨⟨l⟩⟩:=s
 exact⟨l,ei.one (.str l) rfl,hm⟩
theorem WK {tE tI tN tS tK:TypeId} (hE:structOf P tE = [(tI,0),(tN,1),(tS,2),(tK,3)]) (XD:P.cellsOf tE=4) (hI:P.underlying tI=some (.int .i64)) (hN:P.underlying tN=some (.int .i64)) (hS:P.underlying tS=some .string) (hK:P.underlying tK=some (.slice tE))
 (cI:P.cellsOf tI=1) (cN:P.cellsOf tN=1) (cS:P.cellsOf tS=1) (cK:P.cellsOf tK=1) :
 ∀ (fuel:Nat) (cs:List Value) (x:DataW H×List MemPlace),DataW.trod enc P W 0 sp true fuel tE cs=some x→∃ y:Ex,ei W (bL y) cs∧y.o6:=by
 intro fuel
 induction fuel using Nat.strongRecOn with
 | _ fuel ih=>
  intro cs x h
  obtain⟨n,rfl,hl,hf⟩:=jW hE (by simp) h
  obtain⟨y0,h0⟩:=hf 0 _ rfl
  obtain⟨y1,h1⟩:=hf 1 _ rfl
  obtain⟨y2,h2⟩:=hf 2 _ rfl
  obtain⟨y3,h3⟩:=hf 3 _ rfl
  dsimp only at h0 h1 h2 h3
  rw [cI]at h0
  rw [cN]at h1
  rw [cS]at h2
  rw [cK]at h3
  obtain⟨op,r0,_⟩:=Ag hI h0
  obtain⟨m,r1,hm,_⟩:=Ag hN h1
  obtain⟨s,r2,_⟩:=si hS h2
  obtain⟨ks,r3,hg⟩:=np (W:=W) bL Ex.o6 hK XD (by decide) OW (fun k hk cs x hx=>ih k (by omega) cs x hx) h3
  refine⟨⟨op,m,s,ks⟩, ?_,hm, ?_⟩
  ·have:=r0.at (r1.at (r2.at (r3.at (ei.end (by rw [hl,XD])))))
   rw [gD]
   simpa [encStr]using this
  ·clear r3
   induction ks with
   | nil=>exact trivial
   | cons k ks ihk=>exact⟨hg k (by simp),ihk fun y hy=>hg y (by simp [hy])⟩
theorem ei.agg {ds:List D} {v:Value} (h:ei W ds v.cells.toList) (hv : ∃ vs,v = .agg vs):RD (xo W) S0 (.agg ds) v:=by
 obtain⟨vs,rfl⟩:=hv
 obtain⟨h1,h2,h3⟩:=h
 have e:(Value.agg vs).cells=vs:=rfl
 rw [e]at h1 h2 h3
 refine .agg ds vs (by simpa using h1) (fun v hv=>h3 v (by simpa using hv)) fun i d v hd hv=>h2 i d v hd (by simpa using hv)
end
end Go.Abs

/-! Join4 -/

namespace Go.Abs
open Go.Proofs Go.RowKit Go.ChangeShapes Go.WideShapes
section
variable {H:Type} {enc:TypeId×Value→H} {W:World} {sp:Nat→Bool}
theorem Lw (fuel:Nat) (cs:List Value) (x:DataW H×List MemPlace) (h:DataW.trod enc Tryz.prog W 0 sp true fuel 46 cs=some x) : ∃ y:Ex,ei W (bL y) cs∧y.o6:=
 WK (tE:=46) (tI:=3) (tN:=2) (tS:=9) (tK:=44) (by kernel_rfl) (by kernel_rfl) (by kernel_rfl) (by kernel_rfl) (by kernel_rfl) (by kernel_rfl) (by kernel_rfl) (by kernel_rfl) (by kernel_rfl) (by kernel_rfl) _ _ _ h
theorem Q5:Tryz.prog.underlying 22=some (.slice 9):=by kernel_rfl
theorem uG:Tryz.prog.underlying 9=some .string:=by kernel_rfl
theorem Lx:Tryz.prog.underlying 3=some (.int .i64):=by kernel_rfl
theorem Bk:Tryz.prog.underlying 4=some .bool:=by kernel_rfl
theorem xp:Tryz.prog.cellsOf 9=1:=by kernel_rfl
theorem T9:Tryz.prog.cellsOf 3=1:=by kernel_rfl
theorem Bl:Tryz.prog.cellsOf 4=1:=by kernel_rfl
theorem Bm:Tryz.prog.cellsOf 22=1:=by kernel_rfl
theorem PJ:Tryz.prog.cellsOf 46=4:=by kernel_rfl
theorem vt {fuel:Nat} {cs:List Value} {x:DataW H×List MemPlace} (h:DataW.trod enc Tryz.prog W 0 sp true fuel 22 cs=some x) : ∃ l:List aH,ei W [.slice .shared 1 (l.map encStr)] cs:=by
 obtain⟨l,h,_⟩:=np (W:=W) encStr (fun _=>True) Q5 xp (by decide) (fun _=>rfl) (fun k hk cs x hx=>by
  obtain⟨s,hs,_⟩:=si uG hx
  exact⟨s,hs,trivial⟩) h
 exact⟨l,h⟩
theorem Ua {fuel:Nat} {cs:List Value} {x:DataW H×List MemPlace} (h:DataW.trod enc Tryz.prog W 0 sp true fuel 63 cs=some x) : ∃ y:Pm,ei W (fI y) cs:=by
 obtain⟨n,rfl,hl,hf⟩:=jW (l:= [(9,0),(4,1)]) (by kernel_rfl) (by simp) h
 have hc:Tryz.prog.cellsOf 63=2:=by kernel_rfl
 obtain⟨y0,h0⟩:=hf 0 _ rfl
 obtain⟨y1,h1⟩:=hf 1 _ rfl
 dsimp only at h0 h1
 rw [xp]at h0
 rw [Bl]at h1
 obtain⟨s,r0,_⟩:=si uG h0
 obtain⟨b,r1⟩:=Bj Bk h1
 refine⟨⟨s,b⟩, ?_⟩
 have:=r0.at (r1.at (ei.end (by rw [hl,hc])))
 simpa [encStr,fI]using this
theorem Ub {fuel:Nat} {cs:List Value} {x:DataW H×List MemPlace} (h:DataW.trod enc Tryz.prog W 0 sp true fuel 87 cs=some x) : ∃ y:Ar,ei W (dt y) cs∧y.x.o6:=by
 obtain⟨n,rfl,hl,hf⟩:=jW (l:= [(4,0),(9,1),(46,2)]) (by kernel_rfl) (by simp) h
 have hc:Tryz.prog.cellsOf 87=6:=by kernel_rfl
 obtain⟨y0,h0⟩:=hf 0 _ rfl
 obtain⟨y1,h1⟩:=hf 1 _ rfl
 obtain⟨y2,h2⟩:=hf 2 _ rfl
 dsimp only at h0 h1 h2
 rw [Bl]at h0
 rw [xp]at h1
 rw [PJ]at h2
 obtain⟨b,r0⟩:=Bj Bk h0
 obtain⟨s,r1,_⟩:=si uG h1
 obtain⟨e,r2,hr⟩:=Lw _ _ _ h2
 refine⟨⟨b,s,e⟩, ?_,hr⟩
 have:=r0.at (r1.at (r2.at (ei.end (by rw [hl,hc]))))
 rw [gD]at this
 simpa [encStr,dt]using this
theorem vu : ∀ {l:List Sm},(∀ s∈l,s.o6)→Sm.tC l
 | [],_=>trivial
 | s::l,h=>⟨h s (List.mem_cons_self ..),vu fun t m=>h t (List.mem_cons_of_mem _ m)⟩
theorem Uc : ∀ (fuel:Nat) (cs:List Value) (x:DataW H×List MemPlace),DataW.trod enc Tryz.prog W 0 sp true fuel 49 cs=some x→∃ y:Sm,ei W (bn y) cs∧y.o6:=by
 intro fuel
 induction fuel using Nat.strongRecOn with
 | _ fuel ih=>
  intro cs x h
  obtain⟨n,rfl,hl,hf⟩:=jW (l:= [(3,0),(3,1),(22,2),(9,3),(9,4),(46,5),(4,9),(47,10),(37,11),(37,12)]) (by kernel_rfl) (by simp) h
  have hc:Tryz.prog.cellsOf 49=13:=by kernel_rfl
  have ca:Tryz.prog.cellsOf 47=1:=by kernel_rfl
  have hO:Tryz.prog.cellsOf 37=1:=by kernel_rfl
  have ua:Tryz.prog.underlying 47=some (.slice 87):=by kernel_rfl
  have us:Tryz.prog.underlying 37=some (.slice 49):=by kernel_rfl
  have ca6:Tryz.prog.cellsOf 87=6:=by kernel_rfl
  obtain⟨y0,h0⟩:=hf 0 _ rfl
  obtain⟨y1,h1⟩:=hf 1 _ rfl
  obtain⟨y2,h2⟩:=hf 2 _ rfl
  obtain⟨y3,h3⟩:=hf 3 _ rfl
  obtain⟨y4,h4⟩:=hf 4 _ rfl
  obtain⟨y5,h5⟩:=hf 5 _ rfl
  obtain⟨y6,h6⟩:=hf 6 _ rfl
  obtain⟨y7,h7⟩:=hf 7 _ rfl
  obtain⟨y8,h8⟩:=hf 8 _ rfl
  obtain⟨y9,h9⟩:=hf 9 _ rfl
  dsimp only at h0 h1 h2 h3 h4 h5 h6 h7 h8 h9
  rw [T9]at h0 h1
  rw [Bm]at h2
  rw [xp]at h3 h4
  rw [PJ]at h5
  rw [Bl]at h6
  rw [ca]at h7
  rw [hO]at h8 h9
  obtain⟨id,r0,_⟩:=Ag Lx h0
  obtain⟨kind,r1,_⟩:=Ag Lx h1
  obtain⟨labels,r2⟩:=vt h2
  obtain⟨name,r3,_⟩:=si uG h3
  obtain⟨proc,r4,_⟩:=si uG h4
  obtain⟨e,r5,hr⟩:=Lw _ _ _ h5
  obtain⟨b,r6⟩:=Bj Bk h6
  obtain⟨args,r7,ha⟩:=np (W:=W) dt (fun a=>a.x.o6) ua ca6 (by decide) (fun _=>rfl) (fun k hk cs x hx=>Ub hx) h7
  obtain⟨bp,r8,ht⟩:=np (W:=W) bn Sm.o6 us hc (by decide) CY (fun k hk cs x hx=>ih k (by omega) cs x hx) h8
  obtain⟨bc,r9,he⟩:=np (W:=W) bn Sm.o6 us hc (by decide) CY (fun k hk cs x hx=>ih k (by omega) cs x hx) h9
  refine⟨⟨id,kind,labels,name,proc,e,b,args,bp,bc⟩, ?_,hr,ha,vu ht,vu he⟩
  have:=r0.at (r1.at (r2.at (r3.at (r4.at (r5.at (r6.at (r7.at (r8.at (r9.at (ei.end (by rw [hl,hc])))))))))))
  rw [gD]at this
  rw [cB]
  simpa [encStr]using this
theorem Ud {fuel:Nat} {cs:List Value} {x:DataW H×List MemPlace} (h:DataW.trod enc Tryz.prog W 0 sp true fuel 39 cs=some x) : ∃ y:Pc,ei W (bR y) cs∧Sm.tC y.body:=by
 obtain⟨n,rfl,hl,hf⟩:=jW (l:= [(9,0),(36,1),(22,2),(37,3),(22,4)]) (by kernel_rfl) (by simp) h
 have hc:Tryz.prog.cellsOf 39=5:=by kernel_rfl
 have cp:Tryz.prog.cellsOf 36=1:=by kernel_rfl
 have hO:Tryz.prog.cellsOf 37=1:=by kernel_rfl
 have up:Tryz.prog.underlying 36=some (.slice 63):=by kernel_rfl
 have us:Tryz.prog.underlying 37=some (.slice 49):=by kernel_rfl
 have cp2:Tryz.prog.cellsOf 63=2:=by kernel_rfl
 have ac4:Tryz.prog.cellsOf 49=13:=by kernel_rfl
 obtain⟨y0,h0⟩:=hf 0 _ rfl
 obtain⟨y1,h1⟩:=hf 1 _ rfl
 obtain⟨y2,h2⟩:=hf 2 _ rfl
 obtain⟨y3,h3⟩:=hf 3 _ rfl
 obtain⟨y4,h4⟩:=hf 4 _ rfl
 dsimp only at h0 h1 h2 h3 h4
 rw [xp]at h0
 rw [cp]at h1
 rw [Bm]at h2 h4
 rw [hO]at h3
 obtain⟨name,r0,_⟩:=si uG h0
 obtain⟨ps,r1,_⟩:=np (W:=W) fI (fun _=>True) up cp2 (by decide) (fun _=>rfl) (fun k hk cs x hx=>by
  obtain⟨y,hy⟩:=Ua hx
  exact⟨y,hy,trivial⟩) h1
 obtain⟨vars,r2⟩:=vt h2
 obtain⟨body,r3,hb⟩:=np (W:=W) bn Sm.o6 us ac4 (by decide) CY (fun k hk cs x hx=>Uc k cs x hx) h3
 obtain⟨fin,r4⟩:=vt h4
 refine⟨⟨name,ps,vars,body,fin⟩, ?_,vu hb⟩
 have:=r0.at (r1.at (r2.at (r3.at (r4.at (ei.end (by rw [hl,hc]))))))
 simpa [encStr,bR]using this
theorem Ue {fuel:Nat} {cs:List Value} {x:DataW H×List MemPlace} (h:DataW.trod enc Tryz.prog W 0 sp true fuel 25 cs=some x) : ∃ y:Pg,ei W (bD y) cs∧y.o6:=by
 obtain⟨n,rfl,hl,hf⟩:=jW (l:= [(22,0),(23,1)]) (by kernel_rfl) (by simp) h
 have hc:Tryz.prog.cellsOf 25=2:=by kernel_rfl
 have cp:Tryz.prog.cellsOf 23=1:=by kernel_rfl
 have up:Tryz.prog.underlying 23=some (.slice 39):=by kernel_rfl
 have cp5:Tryz.prog.cellsOf 39=5:=by kernel_rfl
 obtain⟨y0,h0⟩:=hf 0 _ rfl
 obtain⟨y1,h1⟩:=hf 1 _ rfl
 dsimp only at h0 h1
 rw [Bm]at h0
 rw [cp]at h1
 obtain⟨globals,r0⟩:=vt h0
 obtain⟨procs,r1,hp⟩:=np (W:=W) bR (fun f=>Sm.tC f.body) up cp5 (by decide) (fun _=>rfl) (fun k hk cs x hx=>Ud hx) h1
 refine⟨⟨globals,procs⟩, ?_,hp⟩
 have:=r0.at (r1.at (ei.end (by rw [hl,hc])))
 simpa [bD]using this
end
end Go.Abs

/-! Join5 -/

namespace Go.Abs
open Go.Proofs Go.ChangeShapes Go.WideShapes Go.ChangeAt Go.RowKit
theorem Co {H:Type} {enc:TypeId×Value→H} {P:Program} {W:World} {sp:Nat→Bool} {t:TypeId} {ts:List TypeId} {ps:List MemPlace} : ∀ {l:List Value} {ds:List (DataW H)},DataW.TrodAll enc P W 0 sp true (t::ts) l ds ps→
 ∃ v l' d mf p q,l=v::l'∧ds=d::mf∧DataW.Trod enc P W 0 sp true t v d p∧DataW.TrodAll enc P W 0 sp true ts l' mf q
 | v::l,d::ds,⟨p,q,h1,h2,e⟩=>⟨v,l,d,ds,p,q,rfl,rfl,h1,h2⟩
 | [],[],h=>h.elim
 | [],_::_,h=>h.elim
 | _::_,[],h=>h.elim
theorem N9 {H:Type} {enc:TypeId×Value→H} {P:Program} {W:World} {sp:Nat→Bool} {ps:List MemPlace} : ∀ {l:List Value} {ds:List (DataW H)},DataW.TrodAll enc P W 0 sp true [] l ds ps→l = []∧ds = []
 | [],[],_=>⟨rfl,rfl⟩
 | [],_::_,h=>h.elim
 | _::_,ds,h=>by cases ds <;> exact h.elim
end Go.Abs

/-! AliasAll -/

namespace Go.Proofs.YthecipohmaannaaGreat.aliasAll
open Go.ChangeShapes Go.WideShapes Go.ChangeAt Go.RowKit Go.Abs
theorem own:ownKnob Tryz.prog.godebug=none:=by kernel_rfl
theorem kids:Kids Tryz.prog (· < Tryz.prog.types.size):=kids_rows (by kernel_rfl) (by kernel_rfl)
theorem full : ∀ {t e:TypeId},t<Tryz.prog.types.size→Tryz.prog.underlying t=some (.slice e)→0<Tryz.prog.cellsOf e:=fun {t e}=>slices_full_of Tryz.prog (by kernel_rfl) t e
theorem walk (w:World) (x0:Pg) (Jo:x0.o6) (v0:Value) (Uf:RD (xo w) S0 (.agg (bD x0)) v0) (x1:Int):Calls Tryz.prog 5 #[v0, .int .i64 x1] w fun e w'=>e = .returned (.bool true)∧Kept w w':=by
 refine Q4 (args:= [.agg (bD x0), .int .i64 x1]) ((E0 x0 x1 S0).mono fun _ _ h=>h.1) rfl ?_ (fun _ _ h=>nomatch h)
 intro i d v h1 h2
 match i,h1,h2 with
 | 0,h1,h2=>simp at h1 h2;subst h1 h2;exact Uf
 | 1,h1,h2=>simp at h1 h2;subst h1 h2;exact RD.int _ _
set_option maxRecDepth 100000 in
theorem lifted (os : Os) (started : os.Started) (H : Type) (enc : TypeId × Value → H) :
   ReturnsInHanded {} Tryz.checked os 5 .any (Rows.aliasAllSpec.pre6 enc Tryz.prog Tryz.f5 Rows.aliasAllRow.domain false) (Rows.aliasAllSpec.post enc Tryz.prog Tryz.f5 false true false false) := by
 refine returnsInHanded_of_change (C := Tryz.checked) own started (by kernel_rfl) Tryz.func5
   (ChangeSpec.witness6 (enc := enc) (C := Tryz.checked) false ⟨#[], #[.agg #[.slice none 0 0, .slice none 0 0], .int .i64 0], []⟩ 8 (by kernel_rfl) (by kernel_rfl) (by kernel_rfl) (by kernel_rfl)) ?_
 intro W base args ds gs before WQ hW kl _
 have pG : ∀ (j : Nat) t v, Tryz.f5.params[j]? = some t → args[j]? = some v → Value.okWide Tryz.prog W .any base t v := WQ
 have TY := hW
 obtain ⟨p, q, Ug, hV, rfl, hfz, hnd⟩ := hW
 have hA : DataW.TrodAll enc Tryz.prog W 0 (fun _ => true) true Tryz.f5.params.toList args.toList ds p := Ug
 rw [Tryz.params5] at hA pG
 obtain ⟨l⟩ := args
 obtain ⟨v0, l0, d0, WZ, p0, q0, e0, XE, BM, Ug⟩ := Co hA
 obtain ⟨v1, l1, d1, ds1, p1, q1, e1, e1d, PD, hA1⟩ := Co Ug
 obtain ⟨en, end_⟩ := N9 hA1
 have el : l = [v0, v1] := by rw [show l = _ from e0, e1, en]
 subst el
 have ed : ds = [d0, d1] := by rw [XE, e1d, end_]
 clear XE
 subst ed
 have hpg : ∀ (i : Nat) (v : Value), Tryz.f5.params[i]? = some 25 → (⟨[v0, v1]⟩ : Array Value)[i]? = some v → ∀ {d ps}, DataW.Trod enc Tryz.prog W 0 (fun _ => true) true 25 v d ps → ∃ x : Pg, RD (xo W) S0 (.agg (bD x)) v ∧ x.o6 := by
   intro i v hp hv d ps ⟨fuel, hf⟩
   obtain ⟨y, h1, h2⟩ := Ue hf
   obtain ⟨fs, rA⟩ := CS (P := Tryz.prog) (t := 25) (l := [(22, 0), (23, 1)]) (by kernel_rfl) (by simp)
   obtain ⟨cs, e, _⟩ := okWide_struct rA (pG i 25 v (by rw [← Tryz.params5]; exact hp) hv)
   exact ⟨y, h1.agg ⟨cs, e⟩, h2⟩
 obtain ⟨x0, Uf, Jo⟩ := hpg 0 v0 (by rw [Tryz.params5]; rfl) rfl BM
 obtain ⟨x1, rfl, rfl, rfl, hi1⟩ := open_int Tryz.underlying3 (pG 1 _ _ rfl rfl) PD
 obtain ⟨rfl, rfl⟩ := trodVars_none hV
 refine (walk W x0 Jo v0 Uf x1).mono fun e W' ⟨he, hg⟩ => ?_
 subst he
 exact ⟨_, rfl, N8 kids full (by rw [Tryz.params5]; decide) Tryz.underlying4 (by kernel_rfl) rfl TY rfl hg⟩
theorem over:Rows.aliasAllRow.holds Tryz.pinned (OpenSpec.ofChange Rows.aliasAllSpec):=
 OpenClaim.holds_of_wide 5 Tryz.f5 rfl rfl rfl rfl rfl rfl rfl ⟨rfl,rfl,rfl,rfl,rfl⟩ rfl rfl rfl rfl rfl (by kernel_rfl) Tryz.func5 (by kernel_rfl)
  (of_decide_eq_true (by kernel_rfl)) (by unfold Func.isWrapper;first | (rw [if_pos (by decide +kernel)];kernel_rfl) | (rw [if_neg (by decide +kernel)];exact⟨rfl,rfl⟩))
  (fun os started H enc _=>lifted os started H enc)
theorem proved:Rows.AliasAllSaid:=
 over
#print axioms proved
end Go.Proofs.YthecipohmaannaaGreat.aliasAll
