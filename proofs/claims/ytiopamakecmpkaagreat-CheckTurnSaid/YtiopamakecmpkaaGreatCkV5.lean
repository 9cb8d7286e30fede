/-
  What is proved here: the statement CheckTurnSaid: whatever the arguments, the law, called, gives true, and of what was there nothing turns.
  No conditions.
-/
import Derived.Test.YtiopamakecmpkaaGreatCkV4
import Derived.WalkKit
import Derived.ProofKit
import Derived.OpenShut
import Derived.ShutString
import Derived.ChangeMaps5
import Derived.ChangeStays
import Derived.KernelRfl
import Derived.Test.YtiopamakecmpkaaGreatRows

set_option linter.unusedSimpArgs false
set_option linter.unusedVariables false
namespace Go.Abs
set_option maxRecDepth 8000
open Go.Proofs
theorem JR (aN:Nat) (s:Sm):BN aN s=List.replicate aN 32++dQ s.labels++j9 s++ [10]++(if s.kind=5∨s.kind=6 then
 dG (aN+1) s.aS++(if s.kind=5∧s.aL.length≠0 then List.replicate aN 32++ [125,32,101,108,115,101,32,123,10]++dG (aN+1) s.aL else [])++(List.replicate aN 32++ [125,10])else []):=by
 rw[acR]
 unfold j9 gf
 by_cases c6:s.kind=6
 ·simp[c6]
 ·by_cases c5:s.kind=5
  ·by_cases ce:s.aL.length=0
   ·simp only[c5,ce,Int.reduceEq,↓reduceIte,true_or,ne_eq,not_true_eq_false,and_false,List.append_assoc,List.cons_append,List.nil_append]
   ·simp only[c5,ce,Int.reduceEq,↓reduceIte,true_or,ne_eq,not_false_eq_true,and_true,List.append_assoc,List.cons_append,List.nil_append]
  ·simp only[c6,c5,↓reduceIte,or_self,List.append_assoc,List.cons_append,List.nil_append,List.append_nil]
theorem acX : ∀ (m:Nat) (l:List Sm),Sm.aT l≤m→Sm.aT l≤1000000→∀ (aN:Nat),Sm.qD aN l→∀ s:St,
 aA Tryz.prog pJ [.slice .shared 13 (l.map bh), .str (List.replicate aN 32)] s (.str (dG aN l)) s:=by
 intro m
 induction m with
 | zero=>
  intro l h hs aN hp s
  cases l with
  |nil=>
   have z:decide ((0:Int)<0)=false:=rfl
   simp only[dG]
   refine aA.pure ?_ (by simp[D.bN,D.ok,D.kc,Tag.ok]) rfl s
   unfold S0
   refine aA.go B5 rfl fun B Q hB hQ=>?_
   have⟨hY,hZ,gA,gB⟩:=bu
   repeat' (first
 |simp only[go_sem,hY,hZ,gA,gB,z]
 |(with_reducible refine bn.uH ?_)
 |(with_reducible refine aB hQ ?_;exact aU))
  |cons s l=>simp only[Sm.aT]at h;omega
 |succ m ih=>
  intro l h hs aN hp s
  refine aA.pure ?_ (by simp[D.bN,D.ok,mZ,Tag.ok]) rfl s
  unfold S0
  generalize hR:dG aN l=R
  have Vh:=oT l hp
  rw[hR]at Vh
  have hlen:=Sm.cu l
  refine aA.go B5 rfl fun B Q hB hQ=>?_
  have⟨hY,hZ,gA,gB⟩:=bu
  repeat' (first
 |simp only[go_sem,hY,hZ,gA,gB]
 | (with_reducible refine aB hQ ?_;exact aU))
  refine cq 0 0 (bn.ind (ι:=List Sm×Nat×ay) (fun i=>l.drop i.2.1=i.1∧i.2.2++dG aN i.1=R) (fun i=>i.1.length)
   (fun i=> [(1, .str (List.replicate aN 32)),(5, .str i.2.2),(8, .slice .shared 13 (l.map bh)),(9, .int .i64 (l.length:Int)),(10, .int .i64 (i.2.1:Int))]) (fun i=>⟨[],[]⟩) ?_ (l,0,[]) ⟨rfl,hR⟩)
  rintro⟨rest,k,acc⟩ ⟨h1,h2⟩ IH
  dsimp only at h1 h2
  cases rest with
  |nil=>
   have hY:=drop_nil h1
   simp only[dG,List.append_nil]at h2
   subst h2
   repeat' (first
 |simp only[go_sem,hY,hZ,gA,gB]
 | (with_reducible refine aB hQ ?_;exact aU))
  | cons s rest=>
   obtain⟨hZ,g2,hY,g4⟩:=drop_cons h1
   have iW:=List.mem_of_getElem? hZ
   have ew:=Sm.bJ iW
   have hPR:=Nn hp iW
   obtain⟨ho,G6,we,V1⟩:=(Dz _ _).1 hPR
   have hk:k<4611686018427387904:=by omega
   have Lm:s.labels.length+s.x.size+Ar.aT s.args+Sm.aT s.aS+Sm.aT s.aL+1≤s.size:=by cases s;simp only[Sm.size];omega
   have w1:IntKind.wrap .i64 ((k:Int)+1)=((k+1:Nat):Int):=by rw[bC]<;>omega
   have lm:=nN ho.Da
   have lp:=V0 ho
   have em:=fun st=>PF (by omega) ho.Da st
   have el:=fun st=>acW ho (by omega) st
   have et:=fun st=>ih s.aS (by omega) (by omega) (aN+1) we st
   have ee:=fun st=>ih s.aL (by omega) (by omega) (aN+1) V1 st
   have lt:=oT s.aS we
   have le:=oT s.aL V1
   have eO:=JR aN s
   have lr:=No s hPR
   have Zd:List.replicate aN (32:UInt8)++ [32] = List.replicate (aN+1) 32:=List.replicate_succ'.symm
   simp only[dG]at h2
   have jc:=congrArg List.length h2
   rw[eO]at jc
   simp only[List.length_append,List.length_replicate,List.length_cons,List.length_nil]at jc
   have b1:aN+(dQ s.labels).length≤aF:=by unfold aF;omega
   have b2:aN+(dQ s.labels).length+(j9 s).length≤aF:=by unfold aF;omega
   have b3:aN+(dQ s.labels).length+(j9 s).length+1≤aF:=by unfold aF;omega
   have b4:acc.length+(aN+(dQ s.labels).length+(j9 s).length+1)≤aF:=by unfold aF;omega
   cases c5:s.kind==5 with
   | true=>
    have Ns:s.kind=5:=by simpa using c5
    rw[if_pos (.inl Ns)]at jc
    rw[if_pos (.inl Ns)]at eO
    simp only[List.length_append,List.length_replicate,List.length_cons,List.length_nil]at jc
    have b5:aN+1≤aF:=by unfold aF;omega
    have b6:acc.length+(aN+(dQ s.labels).length+(j9 s).length+1)+(dG (aN+1) s.aS).length≤aF:=by unfold aF;omega
    have b7:aN+1+1≤aF:=by unfold aF;omega
    cases ce:decide ((s.aL.length:Int) > 0)with
    |true=>
     have V2:s.aL.length≠0:=by have:=of_decide_eq_true ce;omega
     rw[if_pos ⟨Ns,V2⟩]at jc
     rw[if_pos ⟨Ns,V2⟩]at eO
     simp only[List.length_append,List.length_replicate,List.length_cons,List.length_nil]at jc
     have b8:aN+1+1+1+1+1+1+1+1+1≤aF:=by unfold aF;omega
     have b9:aN+1+1+1+1+1+1+1+1+1+(dG (aN+1) s.aL).length≤aF:=by unfold aF;omega
     have V3:acc.length+(aN+(dQ s.labels).length+(j9 s).length+1)+(dG (aN+1) s.aS).length+(aN+1+1+1+1+1+1+1+1+1+(dG (aN+1) s.aL).length)≤aF:=by unfold aF;omega
     have Nt:acc.length+(aN+(dQ s.labels).length+(j9 s).length+1)+(dG (aN+1) s.aS).length+(aN+1+1+1+1+1+1+1+1+1+(dG (aN+1) s.aL).length)+(aN+1+1)≤aF:=by unfold aF;omega
     repeat' (first
 |simp only[go_sem,hY,hZ,gA,gB,c5,ce,w1,b1,b2,b3,b4,b5,b6,b7,b8,b9,V3,Nt,Zd,List.length_replicate]
 |(with_reducible refine CU (em _) ?_)
 |(with_reducible refine CU (el _) ?_)
 |(with_reducible refine CU (et _) ?_)
 |(with_reducible refine CU (ee _) ?_)
 | (with_reducible refine aB hQ ?_;exact aU))
     refine cq 0 0 (IH (rest,k+1,acc++(List.replicate aN 32++dQ s.labels++j9 s++ [10])++dG (aN+1) s.aS++(List.replicate aN 32++ [125,32,101,108,115,101,32,123,10]++dG (aN+1) s.aL)++(List.replicate aN 32++ [125,10])) ⟨g2,by rw[← h2,eO];simp only[List.append_assoc]⟩ (by simp))
    |false=>
     have V2:s.aL.length=0:=by have:=of_decide_eq_false ce;omega
     rw[if_neg (fun h=>h.2 V2)]at jc
     rw[if_neg (fun h=>h.2 V2)]at eO
     simp only[List.length_append,List.length_replicate,List.length_cons,List.length_nil]at jc
     have Nt:acc.length+(aN+(dQ s.labels).length+(j9 s).length+1)+(dG (aN+1) s.aS).length+(aN+1+1)≤aF:=by unfold aF;omega
     repeat' (first
 |simp only[go_sem,hY,hZ,gA,gB,c5,ce,w1,b1,b2,b3,b4,b5,b6,b7,Nt,Zd,List.length_replicate]
 |(with_reducible refine CU (em _) ?_)
 |(with_reducible refine CU (el _) ?_)
 |(with_reducible refine CU (et _) ?_)
 | (with_reducible refine aB hQ ?_;exact aU))
     refine cq 0 0 (IH (rest,k+1,acc++(List.replicate aN 32++dQ s.labels++j9 s++ [10])++dG (aN+1) s.aS++(List.replicate aN 32++ [125,10])) ⟨g2,by rw[← h2,eO];simp only[List.append_assoc,List.nil_append]⟩ (by simp))
   |false=>
   have Ns : ¬ s.kind=5:=by simpa using c5
   cases c6:s.kind==6 with
   |true=>
    have c6':s.kind=6:=by simpa using c6
    have ug:=ho.aL c6'
    have ce:decide ((s.aL.length:Int) > 0)=false:=by rw[ug];rfl
    rw[if_pos (.inr c6'),if_neg (fun h=>Ns h.1)]at jc
    rw[if_pos (.inr c6'),if_neg (fun h=>Ns h.1)]at eO
    simp only[List.length_append,List.length_replicate,List.length_cons,List.length_nil]at jc
    have b5:aN+1≤aF:=by unfold aF;omega
    have b6:acc.length+(aN+(dQ s.labels).length+(j9 s).length+1)+(dG (aN+1) s.aS).length≤aF:=by unfold aF;omega
    have b7:aN+1+1≤aF:=by unfold aF;omega
    have Nt:acc.length+(aN+(dQ s.labels).length+(j9 s).length+1)+(dG (aN+1) s.aS).length+(aN+1+1)≤aF:=by unfold aF;omega
    repeat' (first
 |simp only[go_sem,hY,hZ,gA,gB,c5,c6,ce,w1,b1,b2,b3,b4,b5,b6,b7,Nt,Zd,List.length_replicate]
 |(with_reducible refine CU (em _) ?_)
 |(with_reducible refine CU (el _) ?_)
 |(with_reducible refine CU (et _) ?_)
 | (with_reducible refine aB hQ ?_;exact aU))
    refine cq 0 0 (IH (rest,k+1,acc++(List.replicate aN 32++dQ s.labels++j9 s++ [10])++dG (aN+1) s.aS++(List.replicate aN 32++ [125,10])) ⟨g2,by rw[← h2,eO];simp only[List.append_assoc,List.nil_append]⟩ (by simp))
   |false=>
    have c6' : ¬ s.kind=6:=by simpa using c6
    rw[if_neg (by omega)]at eO
    repeat' (first
 |simp only[go_sem,hY,hZ,gA,gB,c5,c6,w1,b1,b2,b3,b4,List.length_replicate]
 |(with_reducible refine CU (em _) ?_)
 |(with_reducible refine CU (el _) ?_)
 | (with_reducible refine aB hQ ?_;exact aU))
    refine cq 0 0 (IH (rest,k+1,acc++(List.replicate aN 32++dQ s.labels++j9 s++ [10])) ⟨g2,by rw[← h2,eO];simp only[List.append_assoc,List.nil_append]⟩ (by simp))
mutual
def Sm.z:Sm→Sm
 |⟨_,kind,labels,name,proc,x,has,args,aS,aL⟩=>⟨0,kind,labels,name,proc,x,has,args,Sm.zs aS,Sm.zs aL⟩
def Sm.zs:List Sm→List Sm
 | []=> []
 |s::l=>s.z::Sm.zs l
end
theorem auA (s:Sm):s.z = ⟨0,s.kind,s.labels,s.name,s.proc,s.x,s.has,s.args,Sm.zs s.aS,Sm.zs s.aL⟩:=by cases s;simp only[Sm.z]
structure auB (s:Sm):Prop where
 Da:dn s.labels=true
 x:s.iZ=true→s.x.may=true
 x0:s.iZ=false→s.x=jY
 has:s.has=true→s.kind=9
 nm:s.hasName=true→isName s.name=true
 nm0:s.hasName=false→s.name = []∨(s.kO=true∧isName s.name=true)
 proc:s.kO=true→isName s.proc=true
 call:s.kO=false→s.proc = []∧s.args = []
 args:Ar.e7 s.args=true
 aS:s.aS = []∨s.kind=5∨s.kind=6
 aL:s.aL = []∨s.kind=5
 kind:1≤s.kind∧s.kind≤10
theorem Nu {x:Ex} (h:x.none=true):x=jY:=by
 obtain⟨op,n,name,kids⟩:=x
 simp only[Ex.none,Bool.and_eq_true,beq_iff_eq]at h
 obtain⟨⟨⟨rfl,rfl⟩,rfl⟩,h⟩:=h
 have:kids = []:=List.eq_nil_of_length_eq_zero (by omega)
 subst this;rfl
theorem yZ {s:Sm} (h:s.one=true):auB s:=by
 unfold Sm.one at h
 split at h
 ·cases h
 rename_i c1
 split at h
 ·cases h
 rename_i c2
 split at h
 ·cases h
 rename_i c3
 split at h
 ·cases h
 rename_i c4
 simp only[Bool.or_eq_true,Bool.and_eq_true,decide_eq_true_eq,Bool.not_eq_true',not_or,Bool.not_eq_false,not_and,Bool.not_eq_true,beq_iff_eq]at c1 c2 c3 c4 h
 refine⟨c1.1.1.1.2,c1.1.1.2,fun k=>Nu (c1.1.2 k),fun k=>?_,c2.1,fun k=>?_,c3.1.2,fun k=>⟨?_, ?_⟩,c4, ?_, ?_,by omega⟩
 ·have:=c1.2 k;simpa using this
 ·by_cases e:s.name = []
  ·exact .inl e
  ·exact .inr (c2.2 ⟨k,by simpa using e⟩)
 ·have:=c3.1.1;rw[k]at this;simpa using this
 ·have:=c3.2 k
  exact List.eq_nil_of_length_eq_zero (by omega)
 ·rcases h.1 with (h | h) | h
  ·exact .inl (List.eq_nil_of_length_eq_zero (by omega))
  ·exact .inr (.inl h)
  ·exact .inr (.inr h)
 ·rcases h.2 with h | h
  ·exact .inl (List.eq_nil_of_length_eq_zero (by omega))
  ·exact .inr h
theorem ac0 {a:Ar} (h:a.may=true):Hq a=a:=by
 obtain⟨rf,nm,x⟩:=a
 unfold Ar.may at h
 unfold Hq
 dsimp only at h ⊢
 split at h
 ·rename_i hr
  simp only[Bool.and_eq_true]at h
  rw[if_pos hr,Nu h.2,hr]
 ·rename_i hr
  simp only[Bool.and_eq_true,beq_iff_eq]at h
  rw[if_neg hr,h.1]
  simp at hr
  rw[hr]
theorem Nv {l:List Ar} (h:Ar.e7 l=true):l.map Hq=l:=by
 induction l with
 |nil=>rfl
 | cons a l ih=>
  simp only[Ar.e7]at h
  split at h
  ·cases h
  ·rename_i hc
   rw[List.map_cons,ih h,ac0 (by simpa using hc)]
def qc (aN:Nat) (s:Sm):ay:=j9 s++([10]++(if s.kind=5∨s.kind=6 then
 dG (aN+1) s.aS++((if s.kind=5∧s.aL.length≠0 then List.replicate aN 32++ [125,32,101,108,115,101,32,123,10]++dG (aN+1) s.aL else [])++(List.replicate aN 32++ [125,10]))else []))
theorem V4 (aN:Nat) (s:Sm):BN aN s=List.replicate aN 32++(dQ s.labels++qc aN s):=by
 rw[JR];unfold qc
 simp only[List.append_assoc]
theorem At.n {r:Rd} {l:List aX} (h:At r l) (k:Nat):At ({r with n:=k} : Rd) l:=⟨h.d,h.c,h.s⟩
def EO (w:ay) (l:List aX):Prop:=∃ t l',l=t::l'∧Kd t∧((t.kind≠3∧t.kind≠4)∨t.text≠w)
abbrev V5 (l:List aX):Prop:=EO [101,108,115,101] l
def mT (nest:Int) (n0 n1:Nat) (s:Sm) (l:List aX):Prop:=∀ (r:Rd) (lr:List aX) (m n:Nat),At r (l++lr)→V5 lr→r.n=n0→3*l.length<m→l.length≤n→
 Rd.stmt m n nest r=some ({s.z with labels:= []},{r.mv l.length with n:=n1})
theorem wY {r:Rd} {t:aX} {lr:List aX} {m n:Nat} {nest:Int} {n0:Nat} (hA:At r (t::lr)) (hk:Kd t) (hn:r.n=n0) (ij:n0+1≤200) (fB:nest≤12)
 (hb:(if t.kind==1 then true else if t.kind != 3 then false
 else t.text == [105,102] ||t.text == [119,104,105,108,101] ||t.text == [98,114,101,97,107] ||t.text == [99,111,110,116,105,110,117,101] ||t.text == [114,101,116,117,114,110] ||t.text == [103,111,116,111] ||t.text == [114,101,97,100] ||t.text == [112,114,105,110,116])=true) :
 Rd.stmt m (n+1) nest r=(if t.kind==1 then Rd.named m {r with n:=n0+1}
  else if t.text == [105,102]then Rd.choice m n nest {r with n:=n0+1,i:=r.i+1}
  else if t.text == [119,104,105,108,101]then(Rd.head m {r with n:=n0+1,i:=r.i+1}).bind fun x=>(Rd.block m n nest x.2).bind fun b=>some (⟨0,6,[],[],[],x.1,false,[],b.1,[]⟩,b.2)
  else(Rd.plain m t.text {r with n:=n0+1,i:=r.i+1}).bind fun s=>(s.2.want [59]).bind fun r=>some (s.1,r)):=by
 rw[Rd.stmt]
 unfold Rd.Ge
 rw[hA.ic hk,Option.bind_some,hb,Option.bind_some]
 simp only[Bool.not_true,Bool.false_eq_true,↓reduceIte]
 have hi:inc r.n=some (n0+1):=by unfold inc;rw[hn,if_pos (by omega)]
 rw[hi,Option.bind_some,if_neg (by simp only[Bool.or_eq_true,decide_eq_true_eq];omega),(hA.n (n0+1)).ic hk,Option.bind_some]
theorem uu {r:Rd} {t:aX} {lr:List aX} {m n:Nat} {nest:Int} {n0:Nat} {w:ay} (hA:At r (t::lr)) (hk:t.kind=3) (ht:t.text=w) (hn:r.n=n0) (ij:n0+1≤200) (fB:nest≤12)
 (hb:(w == [98,114,101,97,107] ||w == [99,111,110,116,105,110,117,101] ||w == [114,101,116,117,114,110] ||w == [103,111,116,111] ||w == [114,101,97,100] ||w == [112,114,105,110,116])=true) :
 Rd.stmt m (n+1) nest r=(Rd.plain m w {r.mv 1 with n:=n0+1}).bind fun s=>(s.2.want [59]).bind fun r=>some (s.1,r):=by
 have k1:(t.kind==1)=false:=by simp[hk]
 have k3:(t.kind != 3)=false:=by simp[hk]
 have hw:w≠ [105,102]∧w≠ [119,104,105,108,101]:=by
  simp only[Bool.or_eq_true,beq_iff_eq]at hb
  rcases hb with ((((rfl|rfl)|rfl)|rfl)|rfl)|rfl<;>exact⟨by decide,by decide⟩
 rw[wY hA (Kd.of hk) hn ij fB (by rw[k1,k3,ht];simp only[Bool.false_eq_true,↓reduceIte];simp only[Bool.or_eq_true]at hb ⊢;rcases hb with ((((h|h)|h)|h)|h)|h<;>simp[h]),k1,ht]
 simp only[Bool.false_eq_true,↓reduceIte,beq_iff_eq,hw.1,hw.2]
 rfl
theorem Nw (nest:Int) (n:Nat):Sm.gF nest n [] = (true,n):=by simp[Sm.gF,gate,Sm.dA]
theorem OF {nest:Int} {n0:Nat} {s:Sm} (h:(Sm.jU nest n0 s).1=true) (ht:s.aS = []) (he:s.aL = []):(Sm.jU nest n0 s).2=n0+1:=by
 obtain⟨_,_,_,_,_,h6⟩:=mw h
 rw[h6,ht,he,Nw,Nw]
theorem OG {nest:Int} {n0:Nat} (ij:n0+1≤200) (fB:nest≤12) {x:Ex} {t e q:aX} {lx:List aX} (ht:t.kind=1) (he:e.kind=4) (Nx:e.text = [61]) (hx:sw x lx) (hc:qC lx) (hq:q.kind=4) (iQ:q.text = [59]) :
 ∀ (r:Rd) (lr:List aX) (m n:Nat),At r (t::e::(lx++q::lr))→r.n=n0→3*lx.length<m→0<n→Rd.stmt m n nest r=some (⟨0,1,[],t.text,[],x,false,[],[],[]⟩,{r.mv (lx.length+3)with n:=n0+1}):=by
 intro r lr m n hA hn hm h0
 cases n with
 |zero=>omega
 | succ n=>
  have k1:(t.kind==1)=true:=by simp[ht]
  rw[wY hA (xZ ht) hn ij fB (by rw[k1];rfl),if_pos k1]
  have hA:=hA.n (n0+1)
  have fU:=hA.one
  have kP:=fU.one
  unfold Rd.named
  rw[hA.name ht,Option.bind_some,fU.is (yY he),Option.bind_some]
  have b0:((e.kind==3 ||e.kind==4) && e.text == [40])=false:=by rw[Nx];simp
  dsimp only
  rw[b0]
  simp only[Bool.false_eq_true,↓reduceIte]
  rw[fU.want (.inr he) Nx,Option.bind_some]
  have hno:((({r with n:=n0+1} : Rd).mv 1).mv 1).ahead [40] = some false:=by
   refine kP.Nq ?_
   rcases hc with ⟨a,l',rfl,h⟩|⟨a,rfl,h⟩|⟨a,u,l',rfl,h,h2⟩
   ·exact⟨a,_,rfl,by rcases h with h|h;exact Kd.of h;exact Kd.of h.1, .inl (by rcases h with h|h;omega;omega)⟩
   ·exact⟨a,_,rfl,xZ h, .inr ⟨q,lr,rfl, .inr (by rw[iQ];decide)⟩⟩
   ·refine⟨a,_,rfl,xZ h, .inr ⟨u,_,rfl, .inr ?_⟩⟩
    intro hu
    by_cases hk:u.kind=4
    ·have:kl u=(0,0):=by simp (decide:=true) [kl,hk,hu]
     rw[this]at h2;simp at h2
    ·have:kl u=(0,0):=by simp [kl,hk]
     rw[this]at h2;simp at h2
  rw[hno,Option.bind_some]
  simp only[Bool.false_eq_true,↓reduceIte]
  rw[hx _ (q::lr) m kP (vz hq iQ (by decide)) hm,Option.bind_some]
  dsimp only
  rw[kP.app.want (.inr hq) iQ,Option.bind_some]
  simp only[Rd.mv]
  congr 3
  omega
theorem Ht {xs:List Ar} {l:List aX} (h:lS qE xs l) : ∃ t l',l=t::l'∧Kd t∧((t.kind≠3∧t.kind≠4)∨t.text≠ [41]):=by
 have one : ∀ (x:Ar) (l:List aX),qE x l→∃ t l',l=t::l'∧Kd t∧((t.kind≠3∧t.kind≠4)∨t.text≠ [41]):=by
  intro x l hx
  unfold qE at hx
  split at hx
  ·obtain⟨w,k,rfl,w1,w2,_⟩:=hx
   exact⟨w,[k],rfl,Kd.of w1, .inr (by rw[w2];decide)⟩
  ·obtain⟨t,l',e,hk,hs⟩:=hx.2.1.first
   exact⟨t,l',e,hk,hs _ (by decide)⟩
 cases h with
 |one x l hx=>exact one x l hx
 |cons x l c hc xs m hx k=>
  obtain⟨t,l',rfl,h⟩:=one x l hx
  exact⟨t,_,rfl,h⟩
theorem Ze {xs:List Ar} {l:List aX} (h:lS qE xs l):xs.length≤l.length:=by
 have one : ∀ (x:Ar) (l:List aX),qE x l→0<l.length:=by
  intro x l hx
  obtain⟨t,l',rfl,_⟩:=Ht (lS.one x l hx)
  simp
 induction h with
 |one x l hx=>have:=one x l hx;simp only[List.length_cons,List.length_nil];omega
 |cons x l c hc xs m hx k ih=>simp only[List.length_cons,List.length_append];omega
theorem JS {nm pr:ay} {args:List Ar} {p q c:aX} {la:List aX} (hp:p.kind=4) (tJ:p.text = [40]) (ha:(args = []∧la = [])∨lS qE args la) (hz:args.map Hq=args) (hq:q.kind=4) (iQ:q.text = [41]) (hc:c.kind=4) (oQ:c.text = [59]) (ry:args.length≤1000000) :
 ∀ (r:Rd) (lr:List aX) (m:Nat),At r (p::(la++q::c::lr))→3*la.length<m→Rd.call m nm pr r=some (⟨0,4,[],nm,pr,jY,false,args,[],[]⟩,r.mv (la.length+3)):=by
 intro r lr m hA hm
 unfold Rd.call
 rw[hA.want (.inr hp) tJ,Option.bind_some]
 have fU:=hA.one
 rcases ha with ⟨rfl,rfl⟩|ha
 ·have fU:At (r.mv 1) (q::c::lr):=fU
  unfold Rd.other
  rw[if_pos fU.good,fU.is (yY hq),Option.bind_some,Option.bind_some]
  have b0:((q.kind==3 ||q.kind==4) && q.text == [41])=true:=by simp[hq,iQ]
  rw[b0]
  simp only[Bool.not_true,Bool.false_eq_true,↓reduceIte]
  rw[fU.want (.inr hq) iQ,Option.bind_some,fU.one.want (.inr hc) oQ,Option.bind_some]
  rfl
 ·have hlen:=Ze ha
  obtain⟨t,l',e,hk,eB⟩:=Ht ha
  have SX:At (r.mv 1) (t::(l'++q::c::lr)):=by rw[e]at fU;exact fU
  unfold Rd.other
  rw[if_pos SX.good,SX.is hk,Option.bind_some,Option.bind_some]
  have b0:((t.kind==3 ||t.kind==4) && t.text == [41])=false:=by
   rcases eB with ⟨h1,h2⟩|h
   ·simp[h1,h2]
   ·simp[h]
  rw[b0]
  simp only[Bool.not_false,↓reduceIte]
  rw[acS ha _ q (c::lr) [] m m fU hq iQ (by simpa using ry) (by omega) hm,Option.bind_some]
  dsimp only
  rw[fU.app.want (.inr hq) iQ,Option.bind_some,fU.app.one.want (.inr hc) oQ,Option.bind_some,hz]
  simp only[List.nil_append,pb]
  congr 3
  omega
theorem SY {nest:Int} {n0:Nat} (ij:n0+1≤200) (fB:nest≤12) {args:List Ar} {t p q c:aX} {la:List aX} (ht:t.kind=1) (hp:p.kind=4) (tJ:p.text = [40]) (ha:(args = []∧la = [])∨lS qE args la) (hz:args.map Hq=args) (hq:q.kind=4) (iQ:q.text = [41]) (hc:c.kind=4) (oQ:c.text = [59]) (ry:args.length≤1000000) :
 ∀ (r:Rd) (lr:List aX) (m n:Nat),At r (t::p::(la++q::c::lr))→r.n=n0→3*la.length<m→0<n→Rd.stmt m n nest r=some (⟨0,4,[],[],t.text,jY,false,args,[],[]⟩,{r.mv (la.length+4)with n:=n0+1}):=by
 intro r lr m n hA hn hm h0
 cases n with
 |zero=>omega
 |succ n=>
  have k1:(t.kind==1)=true:=by simp[ht]
  rw[wY hA (xZ ht) hn ij fB (by rw[k1];rfl),if_pos k1]
  have hA:=hA.n (n0+1)
  have fU:=hA.one
  unfold Rd.named
  rw[hA.name ht,Option.bind_some]
  dsimp only
  rw[fU.is (yY hp),Option.bind_some]
  have b0:((p.kind==3 ||p.kind==4) && p.text == [40])=true:=by simp[hp,tJ]
  rw[if_pos b0,JS hp tJ ha hz hq iQ hc oQ ry _ lr m fU hm]
  simp only[Rd.mv]
  congr 3
  omega
theorem OH {nest:Int} {n0:Nat} (ij:n0+1≤200) (fB:nest≤12) {args:List Ar} {s e t p q c:aX} {la:List aX} (hs:s.kind=1) (he:e.kind=4) (Nx:e.text = [61]) (ht:t.kind=1) (hp:p.kind=4) (tJ:p.text = [40]) (ha:(args = []∧la = [])∨lS qE args la) (hz:args.map Hq=args) (hq:q.kind=4) (iQ:q.text = [41]) (hc:c.kind=4) (oQ:c.text = [59]) (ry:args.length≤1000000) :
 ∀ (r:Rd) (lr:List aX) (m n:Nat),At r (s::e::t::p::(la++q::c::lr))→r.n=n0→3*la.length<m→0<n→Rd.stmt m n nest r=some (⟨0,4,[],s.text,t.text,jY,false,args,[],[]⟩,{r.mv (la.length+6)with n:=n0+1}):=by
 intro r lr m n hA hn hm h0
 cases n with
 |zero=>omega
 |succ n=>
  have k1:(s.kind==1)=true:=by simp[hs]
  rw[wY hA (xZ hs) hn ij fB (by rw[k1];rfl),if_pos k1]
  have hA:=hA.n (n0+1)
  have fU:=hA.one
  have kP:=fU.one
  unfold Rd.named
  rw[hA.name hs,Option.bind_some]
  dsimp only
  rw[fU.is (yY he),Option.bind_some]
  have b0:((e.kind==3 ||e.kind==4) && e.text == [40])=false:=by rw[Nx];simp
  rw[if_neg (by rw[b0];simp),fU.want (.inr he) Nx,Option.bind_some,kP.JP ht hp tJ,Option.bind_some]
  simp only[↓reduceIte]
  rw[kP.name ht,Option.bind_some]
  dsimp only
  rw[JS hp tJ ha hz hq iQ hc oQ ry _ lr m kP.one hm]
  simp only[Rd.mv]
  congr 3
  omega
theorem DB {nest:Int} {n0:Nat} (ij:n0+1≤200) (fB:nest≤12) {w q:aX} (hw:w.kind=3) {k:Int} (hk:(k=7∧w.text = [98,114,101,97,107])∨(k=8∧w.text = [99,111,110,116,105,110,117,101])∨(k=9∧w.text = [114,101,116,117,114,110])) (hq:q.kind=4) (iQ:q.text = [59]) :
 ∀ (r:Rd) (lr:List aX) (m n:Nat),At r (w::q::lr)→r.n=n0→0<n→Rd.stmt m n nest r=some (⟨0,k,[],[],[],jY,false,[],[],[]⟩,{r.mv 2 with n:=n0+1}):=by
 intro r lr m n hA hn h0
 cases n with
 |zero=>omega
 | succ n=>
  have fU:At ({r.mv 1 with n:=n0+1} : Rd) (q::lr):=hA.one.n (n0+1)
  rcases hk with ⟨rfl,h⟩|⟨rfl,h⟩|⟨rfl,h⟩
  ·rw [uu hA hw h hn ij fB (by decide)]
   unfold Rd.plain
   simp only[beq_self_eq_true,↓reduceIte,Option.bind_some]
   rw[fU.want (.inr hq) iQ];rfl
  ·rw [uu hA hw h hn ij fB (by decide)]
   unfold Rd.plain
   rw[if_neg (by decide),if_pos (by decide),Option.bind_some]
   dsimp only
   rw[fU.want (.inr hq) iQ];rfl
  ·rw [uu hA hw h hn ij fB (by decide)]
   unfold Rd.plain
   rw[if_neg (by decide),if_neg (by decide),if_pos (by decide),fU.is (yY hq),Option.bind_some]
   have b0:((q.kind==3 ||q.kind==4) && q.text == [59])=true:=by simp[hq,iQ]
   rw[b0]
   simp only[Bool.not_true,Bool.false_eq_true,↓reduceIte,Option.bind_some]
   rw[fU.want (.inr hq) iQ];rfl
theorem Hu {nest:Int} {n0:Nat} (ij:n0+1≤200) (fB:nest≤12) {w t q:aX} (hw:w.kind=3) {k:Int} (hk:(k=10∧w.text = [103,111,116,111])∨(k=2∧w.text = [114,101,97,100])) (ht:t.kind=1) (hq:q.kind=4) (iQ:q.text = [59]) :
 ∀ (r:Rd) (lr:List aX) (m n:Nat),At r (w::t::q::lr)→r.n=n0→0<n→Rd.stmt m n nest r=some (⟨0,k,[],t.text,[],jY,false,[],[],[]⟩,{r.mv 3 with n:=n0+1}):=by
 intro r lr m n hA hn h0
 cases n with
 |zero=>omega
 | succ n=>
  have fU:At ({r.mv 1 with n:=n0+1} : Rd) (t::q::lr):=hA.one.n (n0+1)
  rcases hk with ⟨rfl,h⟩|⟨rfl,h⟩
  ·rw [uu hA hw h hn ij fB (by decide)]
   unfold Rd.plain
   rw[if_neg (by decide),if_neg (by decide),if_neg (by decide),if_pos (by decide),fU.name ht,Option.bind_some,Option.bind_some]
   dsimp only
   rw[fU.one.want (.inr hq) iQ];rfl
  ·rw [uu hA hw h hn ij fB (by decide)]
   unfold Rd.plain
   rw[if_neg (by decide),if_neg (by decide),if_neg (by decide),if_neg (by decide),if_pos (by decide),fU.name ht,Option.bind_some,Option.bind_some]
   dsimp only
   rw[fU.one.want (.inr hq) iQ];rfl
theorem Hv {nest:Int} {n0:Nat} (ij:n0+1≤200) (fB:nest≤12) {w q:aX} {x:Ex} {lx:List aX} (hw:w.kind=3) {k:Int} {b:Bool} (hk:(k=3∧b=false∧w.text = [112,114,105,110,116])∨(k=9∧b=true∧w.text = [114,101,116,117,114,110])) (hx:sw x lx) (hc:qC lx) (hq:q.kind=4) (iQ:q.text = [59]) :
 ∀ (r:Rd) (lr:List aX) (m n:Nat),At r (w::(lx++q::lr))→r.n=n0→3*lx.length<m→0<n→Rd.stmt m n nest r=some (⟨0,k,[],[],[],x,b,[],[],[]⟩,{r.mv (lx.length+2)with n:=n0+1}):=by
 intro r lr m n hA hn hm h0
 cases n with
 |zero=>omega
 | succ n=>
  have fU:At ({r.mv 1 with n:=n0+1} : Rd) (lx++q::lr):=hA.one.n (n0+1)
  have fin : ∀ r':Rd,r'=({r.mv 1 with n:=n0+1} : Rd).mv lx.length→r'.want [59] = some {r.mv (lx.length+2)with n:=n0+1}:=by
   intro r' e
   rw[e,fU.app.want (.inr hq) iQ]
   simp only[Rd.mv]
   congr 2
   omega
  rcases hk with ⟨rfl,rfl,h⟩|⟨rfl,rfl,h⟩
  ·rw [uu hA hw h hn ij fB (by decide)]
   unfold Rd.plain
   rw[if_neg (by decide),if_neg (by decide),if_neg (by decide),if_neg (by decide),if_neg (by decide),if_pos (by decide),hx _ (q::lr) m fU (vz hq iQ (by decide)) hm,Option.bind_some,Option.bind_some]
   dsimp only
   rw[fin _ rfl];rfl
  ·rw [uu hA hw h hn ij fB (by decide)]
   unfold Rd.plain
   obtain⟨t,l',e,hk,hs⟩:=hc.first
   have SX:At ({r.mv 1 with n:=n0+1} : Rd) (t::(l'++q::lr)):=by rw[e]at fU;exact fU
   have b0:((t.kind==3 ||t.kind==4) && t.text == [59])=false:=by
    rcases hs [59] (by decide)with ⟨h1,h2⟩|h
    ·simp[h1,h2]
    ·simp[h]
   rw[if_neg (by decide),if_neg (by decide),if_pos (by decide),SX.is hk,Option.bind_some,b0]
   simp only[Bool.not_false,↓reduceIte]
   rw[hx _ (q::lr) m fU (vz hq iQ (by decide)) hm,Option.bind_some,Option.bind_some]
   dsimp only
   rw[fin _ rfl];rfl
def argN (a:Ar):Nat:=if a.ref then 2 else ku 0 a.x
def lT {α:Type} (f:α→Nat):List α→Nat
 | []=>0
 | [a]=>f a
 |a::b::l=>f a+1+lT f (b::l)
theorem Iz {α:Type} {G:α→List aX→Prop} {f:α→Nat} (hG : ∀ a l,G a l→l.length=f a) {xs:List α} {l:List aX} (h:lS G xs l):l.length=lT f xs:=by
 induction h with
 |one x l hx=>exact hG x l hx
 |cons x l c hc xs m hx k ih=>
  cases k with
  |one y l' hy=>simp only[lT,List.length_append,List.length_cons]at ih ⊢;rw[hG x l hx,ih];omega
  |cons y l' c' hc' ys m' hy k'=>simp only[lT,List.length_append,List.length_cons]at ih ⊢;rw[hG x l hx];omega
theorem Zf (a:Ar) (l:List aX) (h:qE a l):l.length=argN a:=by
 unfold qE at h
 unfold argN
 split at h
 ·rename_i hr;rw[if_pos hr];obtain⟨w,k,rfl,_⟩:=h;rfl
 ·rename_i hr;rw[if_neg hr];exact h.2.2
def mU (kind:Int) (name:ay) (x:Ex) (has:Bool) (args:List Ar):Nat:=
 if kind=1 then ku 0 x+3 else if kind=2 then 3 else if kind=3 then ku 0 x+2 else if kind=7 then 2 else if kind=8 then 2 else if kind=10 then 3
 else if kind=9 then(if has then ku 0 x+2 else 2)else(if name = []then 0 else 2)+lT argN args+4
theorem mT.of {nest:Int} {n0 n1 k:Nat} {s v:Sm} {l:List aX} (h : ∀ (r:Rd) (lr:List aX) (m n:Nat),At r (l++lr)→r.n=n0→3*l.length<m→0<n→Rd.stmt m n nest r=some (v,{r.mv k with n:=n1})) (hk:k=l.length) (hv:v = {s.z with labels:= []}) (h0:0<l.length):mT nest n0 n1 s l:=by
 intro r lr m n hA _ hn hm hl
 rw[h r lr m n hA hn hm (by omega),hk,hv]
theorem cY.end (pos:Nat):cY [59,10] pos [gN 59 pos]:=cY.sg (cY.blank (by decide) (cY.nil _))
theorem ac1 {args:List Ar} (hm:Ar.e7 args=true) (hr : ∀ a∈args,a.x.kG) (hs : ∀ a∈args,a.x.size<1000000000) (h0:args≠ []) (pos:Nat) : ∃ l,ep (Lib.join (args.map jD) [44,32]) pos l∧lS qE args l:=by
 refine ep.join jD qE args pos h0 fun a ha pos=>?_
 have Ny:=Bw hm ha
 unfold Ar.may at Ny
 unfold jD qE
 split at Ny
 ·rename_i Nz
  simp only[Bool.and_eq_true]at Ny
  rw[if_pos Nz]
  refine⟨[iN [114,101,102] pos,AR a.name (pos+4)], ?_, ?_⟩
  ·have:cY [114,101,102,32] pos [iN [114,101,102] pos]:=ep.then (s:= [114,101,102]) (c:=32) (t:= []) (ep.wd pos) (cY.blank (by decide) (cY.nil _))
   exact ep.behind this (ep.nm Ny.1 _)
  ·simp only[Nz,↓reduceIte];exact⟨_,_,rfl,rfl,rfl,rfl,rfl⟩
 ·rename_i Nz
  simp only[Bool.and_eq_true,beq_iff_eq]at Ny
  rw[if_neg Nz]
  have hF:=sv Ny.2 (hr a ha)
  have hd:a.x.depth≤20:=by have:=Ny.2;simp only[Ex.may,Bool.and_eq_true,decide_eq_true_eq]at this;omega
  obtain⟨l,g1,g2,g3,g4⟩:=uq hF hd (hs a ha) pos
  refine⟨l,g2, ?_⟩
  simp only[Nz,Bool.false_eq_true,↓reduceIte]
  exact⟨g3,g4,g1⟩
def rT (l:List aX):Prop:=(∃ t u l',l=t::u::l'∧t.kind=1∧(u.kind≠4∨u.text≠ [58]))∨(∃ t l',l=t::l'∧t.kind=3∧t.text≠ [125]∧t.text≠ [101,108,115,101]∧t.text≠ [118,97,114])
theorem rT.Da {l:List aX} (h:rT l) (lr:List aX):aa5 (l++lr):=by
 rcases h with ⟨t,u,l',rfl,h1,h2⟩|⟨t,l',rfl,h1,h2,h3⟩
 ·exact⟨t,_,rfl,xZ h1, .inr ⟨u,_,rfl,h2⟩⟩
 ·exact⟨t,_,rfl,Kd.of h1, .inl (by omega)⟩
theorem rT.is {l:List aX} (h:rT l) {r:Rd} {lr:List aX} (hA:At r (l++lr)):r.is [125] = some false:=by
 rcases h with ⟨t,u,l',rfl,h1,h2⟩|⟨t,l',rfl,h1,h2,h3⟩
 ·have hA:At r (t::(u::l'++lr)):=hA
  rw[hA.is (xZ h1)];simp[h1]
 ·have hA:At r (t::(l'++lr)):=hA
  rw[hA.is (Kd.of h1)];simp[h1,h2]
theorem rT.aL {l:List aX} (h:rT l) {w:ay} (hw:w = [101,108,115,101]∨w = [118,97,114]) (lr:List aX):EO w (l++lr):=by
 rcases h with ⟨t,u,l',rfl,h1,h2⟩|⟨t,l',rfl,h1,h2,h3,h4⟩
 ·exact⟨t,_,rfl,xZ h1, .inl (by omega)⟩
 ·exact⟨t,_,rfl,Kd.of h1, .inr (by rcases hw with rfl|rfl;exact h3;exact h4)⟩
theorem rT.pos {l:List aX} (h:rT l):0<l.length:=by
 rcases h with ⟨t,u,l',rfl,_⟩|⟨t,l',rfl,_⟩<;>simp
theorem Zg {s:Sm} (ho:s.one=true) (hxr:s.x.kG) (har : ∀ a∈s.args,a.x.kG) (hs:s.size<1000000) (k5:s.kind≠5) (k6:s.kind≠6) {nest:Int} {n0:Nat} (ij:n0+1≤200) (fB:nest≤12) (pos:Nat) :
 ∃ l,cY (gd s.kind s.name s.proc s.x s.has s.args++ [59,10]) pos l∧l.length=mU s.kind s.name s.x s.has s.args∧rT l∧mT nest n0 (n0+1) s l:=by
 have hf:=yZ ho
 obtain⟨id,kind,labels,name,proc,x,has,args,aS,aL⟩:=s
 obtain⟨_,hx,NA,IA,tM,IB,rR,od,l7,agC,ug,KY⟩:=hf
 dsimp only at hx NA IA tM IB rR od l7 agC ug KY hxr har k5 k6 ⊢
 simp only[Sm.size]at hs
 have ht:aS = []:=agC.resolve_right (by omega)
 have he:aL = []:=ug.resolve_right (by omega)
 subst ht he
 have hF:x.may=true→fW x∧x.depth≤20:=fun h=>⟨sv h hxr,by simp only[Ex.may,Bool.and_eq_true,decide_eq_true_eq]at h;omega⟩
 have mO:x.size<1000000000:=by omega
 have h9:kind≠9→has=false:=fun h=>by
  cases hh:has
  ·rfl
  ·exact absurd (IA hh) h
 have hz : ∀ v:Sm,v = ⟨0,kind,[],name,proc,x,has,args,[],[]⟩→v = {(Sm.z ⟨id,kind,labels,name,proc,x,has,args,[],[]⟩)with labels:= []}:=by
  rintro v rfl;simp only[Sm.z,Sm.zs]
 have:kind=1∨kind=2∨kind=3∨kind=4∨kind=7∨kind=8∨kind=9∨kind=10:=by omega
 rcases this with rfl|rfl|rfl|rfl|rfl|rfl|rfl|rfl
 ·-- an assignment
  have hX:=hF (hx rfl)
  have hn:=tM rfl
  obtain⟨rfl,rfl⟩:=od rfl
  obtain rfl:=h9 (by decide)
  obtain⟨lx,g1,g2,g3,g4⟩:=uq hX.1 hX.2 mO (pos+name.length+1+2)
  have e:gd 1 name [] x false []++ [59,10] = name++32::(61::32::(dV 0 x++59:: [10])):=by simp[gd]
  rw[e]
  refine⟨_,ep.then (ep.nm hn pos) (cY.blank (by decide) (cY.eq (ep.then g2 (cY.end _)))), ?_, ?_, ?_⟩
  ·simp[mU,g1]
  ·exact .inl ⟨_,_,_,rfl,rfl, .inr (by simp[gN])⟩
  ·refine mT.of (k:=lx.length+3) (fun r lr m n hA jW hm h0=> ?_) ?_ (hz _ rfl) (by simp)
   ·exact OG ij fB (t:=AR name pos) rfl rfl rfl g3 g4 (q:=gN 59 (pos+name.length+1+2+(dV 0 x).length)) rfl rfl r lr m n (by simpa using hA) jW (by simp at hm;omega) h0
   ·simp
 ·-- read
  have hn:=tM rfl
  obtain⟨rfl,rfl⟩:=od rfl
  obtain rfl:=h9 (by decide)
  obtain rfl:=NA rfl
  have e:gd 2 name [] jY false []++ [59,10] = [114,101,97,100]++32::(name++59:: [10]):=by simp[gd]
  rw[e]
  refine⟨_,ep.then (ep.wd pos) (cY.blank (by decide) (ep.then (ep.nm hn _) (cY.end _))), ?_, ?_, ?_⟩
  ·simp[mU]
  ·exact .inr ⟨_,_,rfl,rfl,by simp[iN],by simp[iN],by simp[iN]⟩
  ·refine mT.of (k:=3) (fun r lr m n hA jW hm h0=> ?_) ?_ (hz _ rfl) (by simp)
   ·exact Hu ij fB (w:=iN [114,101,97,100] pos) rfl (.inr ⟨rfl,rfl⟩) (t:=AR name (pos+4+1)) rfl (q:=gN 59 (pos+4+1+name.length)) rfl rfl r lr m n (by simpa using hA) jW h0
   ·simp
 ·-- print
  have hX:=hF (hx rfl)
  obtain⟨rfl,rfl⟩:=od rfl
  obtain rfl:=h9 (by decide)
  have hn:name = []:=(IB rfl).resolve_right (by intro h;exact absurd h.1 (by simp[Sm.kO]))
  subst hn
  obtain⟨lx,g1,g2,g3,g4⟩:=uq hX.1 hX.2 mO (pos+5+1)
  have e:gd 3 [] [] x false []++ [59,10] = [112,114,105,110,116]++32::(dV 0 x++59:: [10]):=by simp[gd]
  rw[e]
  refine⟨_,ep.then (ep.wd pos) (cY.blank (by decide) (ep.then g2 (cY.end _))), ?_, ?_, ?_⟩
  ·simp[mU,g1]
  ·exact .inr ⟨_,_,rfl,rfl,by simp[iN],by simp[iN],by simp[iN]⟩
  ·refine mT.of (k:=lx.length+2) (fun r lr m n hA jW hm h0=> ?_) ?_ (hz _ rfl) (by simp)
   ·exact Hv ij fB (w:=iN [112,114,105,110,116] pos) rfl (.inl ⟨rfl,rfl,rfl⟩) g3 g4 (q:=gN 59 (pos+5+1+(dV 0 x).length)) rfl rfl r lr m n (by simpa using hA) jW (by simp at hm;omega) h0
   ·simp
 ·-- a call
  have hp:=rR rfl
  obtain rfl:=h9 (by decide)
  obtain rfl:=NA rfl
  have aCl:=Ar.cu args
  have ew : ∀ a∈args,a.x.size<1000000000:=fun a ha=>by have:=Ar.bJ ha;omega
  have key : ∀ P:Nat,∃ la,ep (Lib.join (args.map jD) [44,32]) P la∧((args = []∧la = [])∨lS qE args la)∧la.length=lT argN args:=by
   intro P
   by_cases h0:args = []
   ·subst h0
    refine⟨[], ?_, .inl ⟨rfl,rfl⟩,rfl⟩
    simp only[List.map_nil]
    have:Lib.join [] [44,32] = []:=by simp[Lib.join]
    rw[this]
    exact(cY.nil _).s
   ·obtain⟨l,h1,h2⟩:=ac1 l7 har ew h0 P
    exact⟨l,h1, .inr h2,Iz Zf h2⟩
  rcases IB rfl with hn|⟨_,hn⟩
  ·subst hn
   have e:gd 4 [] proc jY false args++ [59,10] = proc++40::(Lib.join (args.map jD) [44,32]++41::(59:: [10])):=by simp[gd,uT]
   rw[e]
   obtain⟨la,g1,g2,g3⟩:=key (pos+proc.length+1)
   refine⟨_,ep.then (ep.nm hp pos) (cY.sg (ep.then g1 (cY.sg (cY.end _)))), ?_, ?_, ?_⟩
   ·simp[mU,g3]
   ·exact .inl ⟨_,_,_,rfl,rfl, .inr (by simp[gN])⟩
   ·refine mT.of (k:=la.length+4) (fun r lr m n hA jW hm h0=> ?_) ?_ (hz _ rfl) (by simp)
    ·exact SY ij fB (t:=AR proc pos) rfl (p:=gN 40 (pos+proc.length)) rfl rfl g2 (Nv l7) (q:=gN 41 (pos+proc.length+1+(Lib.join (args.map jD) [44,32]).length)) rfl rfl (c:=gN 59 (pos+proc.length+1+(Lib.join (args.map jD) [44,32]).length+1)) rfl rfl (by omega) r lr m n (by simpa using hA) jW (by simp at hm;omega) h0
    ·simp
  ·have eB:=Jf hn
   have e:gd 4 name proc jY false args++ [59,10] = name++32::(61::32::(proc++40::(Lib.join (args.map jD) [44,32]++41::(59:: [10])))):=by simp[gd,uT,eB]
   rw[e]
   obtain⟨la,g1,g2,g3⟩:=key (pos+name.length+1+2+proc.length+1)
   refine⟨_,ep.then (ep.nm hn pos) (cY.blank (by decide) (cY.eq (ep.then (ep.nm hp _) (cY.sg (ep.then g1 (cY.sg (cY.end _))))))), ?_, ?_, ?_⟩
   ·simp[mU,g3,eB];omega
   ·exact .inl ⟨_,_,_,rfl,rfl, .inr (by simp[gN])⟩
   ·refine mT.of (k:=la.length+6) (fun r lr m n hA jW hm h0=> ?_) ?_ (hz _ rfl) (by simp)
    ·exact OH ij fB (s:=AR name pos) rfl (e:=gN 61 (pos+name.length+1)) rfl rfl (t:=AR proc (pos+name.length+1+2)) rfl (p:=gN 40 (pos+name.length+1+2+proc.length)) rfl rfl g2 (Nv l7) (q:=gN 41 (pos+name.length+1+2+proc.length+1+(Lib.join (args.map jD) [44,32]).length)) rfl rfl (c:=gN 59 (pos+name.length+1+2+proc.length+1+(Lib.join (args.map jD) [44,32]).length+1)) rfl rfl (by omega) r lr m n (by simpa using hA) jW (by simp at hm;omega) h0
    ·simp
 ·-- break
  obtain⟨rfl,rfl⟩:=od rfl
  obtain rfl:=h9 (by decide)
  obtain rfl:=NA rfl
  have hn:name = []:=(IB rfl).resolve_right (by intro h;exact absurd h.1 (by simp[Sm.kO]))
  subst hn
  have e:gd 7 [] [] jY false []++ [59,10] = [98,114,101,97,107]++59:: [10]:=by simp[gd]
  rw[e]
  refine⟨_,ep.then (ep.wd pos) (cY.end _), ?_, ?_, ?_⟩
  ·simp[mU]
  ·exact .inr ⟨_,_,rfl,rfl,by simp[iN],by simp[iN],by simp[iN]⟩
  ·refine mT.of (k:=2) (fun r lr m n hA jW hm h0=> ?_) ?_ (hz _ rfl) (by simp)
   ·exact DB ij fB (w:=iN [98,114,101,97,107] pos) rfl (.inl ⟨rfl,rfl⟩) (q:=gN 59 (pos+5)) rfl rfl r lr m n (by simpa using hA) jW h0
   ·simp
 ·-- continue
  obtain⟨rfl,rfl⟩:=od rfl
  obtain rfl:=h9 (by decide)
  obtain rfl:=NA rfl
  have hn:name = []:=(IB rfl).resolve_right (by intro h;exact absurd h.1 (by simp[Sm.kO]))
  subst hn
  have e:gd 8 [] [] jY false []++ [59,10] = [99,111,110,116,105,110,117,101]++59:: [10]:=by simp[gd]
  rw[e]
  refine⟨_,ep.then (ep.wd pos) (cY.end _), ?_, ?_, ?_⟩
  ·simp[mU]
  ·exact .inr ⟨_,_,rfl,rfl,by simp[iN],by simp[iN],by simp[iN]⟩
  ·refine mT.of (k:=2) (fun r lr m n hA jW hm h0=> ?_) ?_ (hz _ rfl) (by simp)
   ·exact DB ij fB (w:=iN [99,111,110,116,105,110,117,101] pos) rfl (.inr (.inl ⟨rfl,rfl⟩)) (q:=gN 59 (pos+8)) rfl rfl r lr m n (by simpa using hA) jW h0
   ·simp
 ·-- return
  obtain⟨rfl,rfl⟩:=od rfl
  have hn:name = []:=(IB rfl).resolve_right (by intro h;exact absurd h.1 (by simp[Sm.kO]))
  subst hn
  cases has with
  | false=>
   obtain rfl:=NA rfl
   have e:gd 9 [] [] jY false []++ [59,10] = [114,101,116,117,114,110]++59:: [10]:=by simp[gd]
   rw[e]
   refine⟨_,ep.then (ep.wd pos) (cY.end _), ?_, ?_, ?_⟩
   ·simp[mU]
   ·exact .inr ⟨_,_,rfl,rfl,by simp[iN],by simp[iN],by simp[iN]⟩
   ·refine mT.of (k:=2) (fun r lr m n hA jW hm h0=> ?_) ?_ (hz _ rfl) (by simp)
    ·exact DB ij fB (w:=iN [114,101,116,117,114,110] pos) rfl (.inr (.inr ⟨rfl,rfl⟩)) (q:=gN 59 (pos+6)) rfl rfl r lr m n (by simpa using hA) jW h0
    ·simp
  | true=>
   have hX:=hF (hx rfl)
   obtain⟨lx,g1,g2,g3,g4⟩:=uq hX.1 hX.2 mO (pos+6+1)
   have e:gd 9 [] [] x true []++ [59,10] = [114,101,116,117,114,110]++32::(dV 0 x++59:: [10]):=by simp[gd]
   rw[e]
   refine⟨_,ep.then (ep.wd pos) (cY.blank (by decide) (ep.then g2 (cY.end _))), ?_, ?_, ?_⟩
   ·simp[mU,g1]
   ·exact .inr ⟨_,_,rfl,rfl,by simp[iN],by simp[iN],by simp[iN]⟩
   ·refine mT.of (k:=lx.length+2) (fun r lr m n hA jW hm h0=> ?_) ?_ (hz _ rfl) (by simp)
    ·exact Hv ij fB (w:=iN [114,101,116,117,114,110] pos) rfl (.inr ⟨rfl,rfl,rfl⟩) g3 g4 (q:=gN 59 (pos+6+1+(dV 0 x).length)) rfl rfl r lr m n (by simpa using hA) jW (by simp at hm;omega) h0
    ·simp
 ·-- goto
  have hn:=tM rfl
  obtain⟨rfl,rfl⟩:=od rfl
  obtain rfl:=h9 (by decide)
  obtain rfl:=NA rfl
  have e:gd 10 name [] jY false []++ [59,10] = [103,111,116,111]++32::(name++59:: [10]):=by simp[gd]
  rw[e]
  refine⟨_,ep.then (ep.wd pos) (cY.blank (by decide) (ep.then (ep.nm hn _) (cY.end _))), ?_, ?_, ?_⟩
  ·simp[mU]
  ·exact .inr ⟨_,_,rfl,rfl,by simp[iN],by simp[iN],by simp[iN]⟩
  ·refine mT.of (k:=3) (fun r lr m n hA jW hm h0=> ?_) ?_ (hz _ rfl) (by simp)
   ·exact Hu ij fB (w:=iN [103,111,116,111] pos) rfl (.inl ⟨rfl,rfl⟩) (t:=AR name (pos+4+1)) rfl (q:=gN 59 (pos+4+1+name.length)) rfl rfl r lr m n (by simpa using hA) jW h0
   ·simp
mutual
def uU:Sm→Nat
 |⟨_,kind,_,name,_,x,has,args,aS,aL⟩=>if kind=6 then ku 0 x+5+qZ aS else if kind=5 then ku 0 x+5+qZ aS+(if aL.length=0 then 0 else qZ aL+3)else mU kind name x has args
def qZ:List Sm→Nat
 | []=>0
 |s::l=>2*s.labels.length+uU s+qZ l
end
theorem ur.len {ls:List ay} {l:List aX} (h:ur ls l):l.length=2*ls.length:=by
 induction h with
 |nil=>rfl
 |cons t c ls m _ _ _ _ ih=>simp only[List.length_cons];omega
theorem NB : ∀ {ls:List ay},dn ls=true→∀ pos,∃ l,cY (dQ ls) pos l∧ur ls l
 | [],_,pos=>⟨[],cY.nil _, .nil⟩
 |t::ls,h,pos=>by
  simp only[dn]at h
  split at h
  ·cases h
  rename_i ht
  have ht:isName t=true:=by simpa using ht
  obtain⟨l,g1,g2⟩:=NB h (pos+t.length+1+1)
  have e:dQ (t::ls)=t++58::(32::dQ ls):=by simp[dQ]
  rw[e]
  exact⟨_,ep.then (ep.nm ht pos) (cY.sg (cY.blank (by decide) g1)), .cons (AR t pos) (gN 58 (pos+t.length)) ls l rfl rfl rfl g2⟩
def tx (nest:Int) (n0 n1:Nat) (l:List Sm) (L:List aX):Prop:=∀ (fin:List ay) (F:List aX) (q:aX) (body:Bool) (r:Rd) (lr:List aX) (m n:Nat) (out:List Sm),ur fin F→q.kind=4→q.text = [125]→(body=true∨fin = [])→
 At r (L++(F++q::lr))→r.n=n0→3*(L.length+F.length+1)<m→L.length+F.length+1≤n→out.length+l.length≤1000000→fin.length≤1000000→
 Rd.sP m n nest body out r=some ((out++Sm.zs l,fin),{r.mv (L.length+F.length+1)with n:=n1})
def tz (L:List aX):Prop:=∀ w,(w = [101,108,115,101]∨w = [118,97,114])→∀ lr,EO w lr→EO w (L++lr)
theorem tz.nil:tz []:=fun w _ lr h=>h
theorem ur.aL {ls:List ay} {l:List aX} (h:ur ls l):tz l:=by
 intro w hw lr hlr
 cases h with
 |nil=>exact hlr
 |cons t c ls m ht _ _ _=>exact⟨t,_,rfl,xZ ht, .inl (by omega)⟩
theorem tz.cons {Fs ls L:List aX} {Iq:List ay} (hF:ur Iq Fs) (hb:rT ls):tz (Fs++(ls++L)):=by
 intro w hw lr _
 rw[List.append_assoc,List.append_assoc]
 exact hF.aL w hw _ (hb.aL hw _)
theorem Zh (nest:Int) (n0:Nat):tx nest n0 n0 [] []:=by
 intro fin F q body r lr m n out hF hq iQ hb hA hn hm hl ho hf
 have hFl:=hF.len
 simp only[List.length_nil]at hm hl
 cases n with
 |zero=>omega
 |succ n=>
  have hA:At r (F++q::lr):=hA
  rw[Rd.sP,if_pos hA.good,JQ hF r (q::lr) [] m hA ⟨q,lr,rfl,yY hq, .inl (by omega)⟩ (by simpa using hf) (by omega),Option.bind_some]
  dsimp only
  have fU:=hA.app
  rw[fU.is (yY hq),Option.bind_some]
  have b0:((q.kind==3 ||q.kind==4) && q.text == [125])=true:=by simp[hq,iQ]
  have b1:(body ||((([]++fin:List ay).length:Nat):Int)==0)=true:=by rcases hb with rfl|rfl<;>simp
  rw[b0,b1]
  simp only[Bool.and_self,↓reduceIte,List.nil_append,Sm.zs,List.append_nil,List.length_nil,Nat.zero_add]
  simp only[Rd.mv, ← hn,Nat.add_assoc]
theorem V6 {nest:Int} {n0 n1 n2:Nat} {s:Sm} {l:List Sm} {Fs ls L:List aX} (hF:ur s.labels Fs) (hb:rT ls) (hs:mT nest n0 n1 s ls) (hl:tx nest n1 n2 l L) (hLb:tz L) (MS:s.labels.length≤1000000):tx nest n0 n2 (s::l) (Fs++(ls++L)):=by
 intro fin F q body r lr m n out agE hq iQ hbd hA hn hm hlen ho hf
 simp only[List.length_append]at hm hlen
 simp only[List.length_cons]at ho
 have hFl:=hF.len
 have hbp:=hb.pos
 cases n with
 |zero=>omega
 |succ n=>
  have hA:At r (Fs++(ls++(L++(F++q::lr)))):=by simpa only[List.append_assoc]using hA
  have fU:=hA.app
  rw[Rd.sP,if_pos hA.good,JQ hF r _ [] m hA (hb.Da _) (by simpa using MS) (by omega),Option.bind_some]
  dsimp only
  rw[hb.is fU,Option.bind_some]
  simp only[Bool.false_and,Bool.false_eq_true,↓reduceIte]
  have eB:V5 (L++(F++q::lr)):=hLb _ (.inl rfl) _ (agE.aL _ (.inl rfl) _ ⟨q,lr,rfl,yY hq, .inr (by rw[iQ];decide)⟩)
  rw[hs (r.mv Fs.length) (L++(F++q::lr)) m n fU eB (by simpa[Rd.mv]using hn) (by omega) (by omega),Option.bind_some]
  dsimp only
  rw[qY (by omega) (by omega),Option.bind_some]
  have kP:At ({(r.mv Fs.length).mv ls.length with n:=n1} : Rd) (L++(F++q::lr)):=fU.app.n n1
  rw[hl fin F q body _ lr m n _ agE hq iQ hbd kP rfl (by omega) (by omega) (by simp only[List.length_append,List.length_cons,List.length_nil];omega) hf]
  have e:({({(Sm.z s)with labels:= []} : Sm)with labels:= []++s.labels} : Sm)=s.z:=by rw[auA];simp
  rw[e]
  simp only[List.append_assoc,List.cons_append,List.nil_append,Sm.zs,Rd.mv,List.length_append]
  congr 3
  omega
theorem FH {nest:Int} {k n1:Nat} {aS:List Sm} {L:List aX} (h:tx (nest+1) k n1 aS L) (fB : -1000≤nest∧nest≤12) (hl:aS.length≤1000000) {b c:aX} (hb:b.kind=4) (BY:b.text = [123]) (hc:c.kind=4) (oQ:c.text = [125]) :
 ∀ (r:Rd) (lr:List aX) (m n:Nat),At r (b::(L++c::lr))→r.n=k→3*(L.length+1)<m→L.length+3≤n→Rd.block m n nest r=some (Sm.zs aS,{r.mv (L.length+2)with n:=n1}):=by
 intro r lr m n hA hn hm hlen
 obtain⟨n,rfl⟩ : ∃ n',n=n'+2:=⟨n - 2,by omega⟩
 rw[Rd.block,hA.want (.inr hb) BY,Option.bind_some]
 have hi:L4 nest=some (nest+1):=by unfold L4;rw[if_pos (by omega)]
 rw[hi,Option.bind_some,Rd.rows]
 rw[h [] [] c false (r.mv 1) lr m n [] .nil hc oQ (.inr rfl) hA.one (by simpa[Rd.mv]using hn) (by simpa using hm) (by simp;omega) (by simpa using hl) (by simp),Option.bind_some]
 simp only[List.nil_append,Rd.mv,List.length_nil,Nat.add_zero]
 congr 3
 omega
theorem PG {x:Ex} {lx:List aX} (hx:sw x lx) {p q:aX} (hp:p.kind=4) (tJ:p.text = [40]) (hq:q.kind=4) (iQ:q.text = [41]) : ∀ (r:Rd) (lr:List aX) (m:Nat),At r (p::(lx++q::lr))→3*lx.length<m→Rd.head m r=some (x,r.mv (lx.length+2)):=by
 intro r lr m hA hm
 unfold Rd.head
 rw[hA.want (.inr hp) tJ,Option.bind_some,hx _ (q::lr) m hA.one (vz hq iQ (by decide)) hm,Option.bind_some]
 dsimp only
 rw[hA.one.app.want (.inr hq) iQ,Option.bind_some]
 simp only[Rd.mv]
 congr 3
 omega
theorem SZ {nest:Int} {n0 n1:Nat} (ij:n0+1≤200) (fB : -1000≤nest∧nest≤12) {x:Ex} {lx L:List aX} {aS:List Sm} {w p q b c:aX} (hw:w.kind=3) (sj:w.text = [119,104,105,108,101]) (hp:p.kind=4) (tJ:p.text = [40]) (hx:sw x lx) (hq:q.kind=4) (iQ:q.text = [41])
 (hb:b.kind=4) (BY:b.text = [123]) (hL:tx (nest+1) (n0+1) n1 aS L) (hl:aS.length≤1000000) (hc:c.kind=4) (oQ:c.text = [125]) :
 ∀ (r:Rd) (lr:List aX) (m n:Nat),At r (w::p::(lx++q::b::(L++c::lr)))→r.n=n0→3*(lx.length+L.length+5)<m→lx.length+L.length+5≤n→Rd.stmt m n nest r=some (⟨0,6,[],[],[],x,false,[],Sm.zs aS,[]⟩,{r.mv (lx.length+L.length+5)with n:=n1}):=by
 intro r lr m n hA hn hm hlen
 obtain⟨n,rfl⟩ : ∃ n',n=n'+1:=⟨n - 1,by omega⟩
 have k1:(w.kind==1)=false:=by simp[hw]
 have k3:(w.kind != 3)=false:=by simp[hw]
 rw[wY hA (Kd.of hw) hn ij fB.2 (by rw[k1,k3,sj];decide),k1,sj]
 rw[if_neg (by simp),if_neg (by decide),if_pos (by decide)]
 have fU:At ({r with n:=n0+1,i:=r.i+1} : Rd) (p::(lx++q::b::(L++c::lr))):=hA.one.n (n0+1)
 rw[PG hx hp tJ hq iQ _ _ m fU (by omega),Option.bind_some]
 dsimp only
 have kP:At (({r with n:=n0+1,i:=r.i+1} : Rd).mv (lx.length+2)) (b::(L++c::lr)):=by
  have:=fU.one.app.one
  simpa only[pb,Nat.add_comm,Nat.add_left_comm,Nat.add_assoc,Nat.reduceAdd]using this
 rw[FH hL fB hl hb BY hc oQ _ lr m n kP rfl (by omega) (by omega),Option.bind_some]
 simp only[Rd.mv]
 congr 3
 omega
theorem PH {nest:Int} {n0 n1:Nat} (ij:n0+1≤200) (fB : -1000≤nest∧nest≤12) {x:Ex} {lx L:List aX} {aS:List Sm} {w p q b c:aX} (hw:w.kind=3) (sj:w.text = [105,102]) (hp:p.kind=4) (tJ:p.text = [40]) (hx:sw x lx) (hq:q.kind=4) (iQ:q.text = [41])
 (hb:b.kind=4) (BY:b.text = [123]) (hL:tx (nest+1) (n0+1) n1 aS L) (hl:aS.length≤1000000) (hc:c.kind=4) (oQ:c.text = [125]) :
 (∀ (r:Rd) (t:aX) (lr:List aX) (m n:Nat),At r (w::p::(lx++q::b::(L++c::t::lr)))→Kd t→((t.kind≠3∧t.kind≠4)∨t.text≠ [101,108,115,101])→r.n=n0→3*(lx.length+L.length+5)<m→lx.length+L.length+5≤n→Rd.stmt m n nest r=some (⟨0,5,[],[],[],x,false,[],Sm.zs aS,[]⟩,{r.mv (lx.length+L.length+5)with n:=n1}))∧
 ∀ {n2:Nat} {E:List aX} {aL:List Sm} {e b' c':aX},e.kind=3→e.text = [101,108,115,101]→b'.kind=4→b'.text = [123]→tx (nest+1) n1 n2 aL E→aL.length≤1000000→c'.kind=4→c'.text = [125]→
  ∀ (r:Rd) (lr:List aX) (m n:Nat),At r (w::p::(lx++q::b::(L++c::e::b'::(E++c'::lr))))→r.n=n0→3*(lx.length+L.length+E.length+8)<m→lx.length+L.length+E.length+8≤n→Rd.stmt m n nest r=some (⟨0,5,[],[],[],x,false,[],Sm.zs aS,Sm.zs aL⟩,{r.mv (lx.length+L.length+E.length+8)with n:=n2}):=by
 have first : ∀ (r:Rd) (t:aX) (lr:List aX) (m n:Nat),At r (w::p::(lx++q::b::(L++c::t::lr)))→r.n=n0→3*(lx.length+L.length+5)<m→lx.length+L.length+3≤n→Rd.stmt m (n+2) nest r=((({r.mv (lx.length+L.length+5)with n:=n1} : Rd).take [101,108,115,101]).bind fun q=>if q.1 then(Rd.block m n nest q.2).bind fun e=>some (⟨0,5,[],[],[],x,false,[],Sm.zs aS,e.1⟩,e.2)else some (⟨0,5,[],[],[],x,false,[],Sm.zs aS,[]⟩,q.2))∧
  At ({r.mv (lx.length+L.length+5)with n:=n1} : Rd) (t::lr):=by
  intro r t lr m n hA hn hm hlen
  have k1:(w.kind==1)=false:=by simp[hw]
  have k3:(w.kind != 3)=false:=by simp[hw]
  have fU:At ({r with n:=n0+1,i:=r.i+1} : Rd) (p::(lx++q::b::(L++c::t::lr))):=hA.one.n (n0+1)
  have kP:At (({r with n:=n0+1,i:=r.i+1} : Rd).mv (lx.length+2)) (b::(L++c::t::lr)):=by
   have:=fU.one.app.one
   simpa only[pb,Nat.add_comm,Nat.add_left_comm,Nat.add_assoc,Nat.reduceAdd]using this
  have hA3:At ({r.mv (lx.length+L.length+5)with n:=n1} : Rd) (t::lr):=by
   have:=kP.one.app.one.n n1
   have e:({(((({r with n:=n0+1,i:=r.i+1} : Rd).mv (lx.length+2)).mv 1).mv L.length).mv 1 with n:=n1} : Rd) = {r.mv (lx.length+L.length+5)with n:=n1}:=by
    simp only[Rd.mv];congr 1;omega
   rw[e]at this;exact this
  refine⟨?_,hA3⟩
  rw[wY hA (Kd.of hw) hn ij fB.2 (by rw[k1,k3,sj];decide),k1,sj]
  rw[if_neg (by simp),if_pos (by decide),Rd.choice]
  rw[PG hx hp tJ hq iQ _ _ m fU (by omega),Option.bind_some]
  dsimp only
  rw[FH hL fB hl hb BY hc oQ _ (t::lr) m n kP rfl (by omega) (by omega),Option.bind_some]
  have e:({(({r with n:=n0+1,i:=r.i+1} : Rd).mv (lx.length+2)).mv (L.length+2)with n:=n1} : Rd) = {r.mv (lx.length+L.length+5)with n:=n1}:=by
   simp only[Rd.mv];congr 1;omega
  dsimp only
  rw[e]
 refine⟨fun r t lr m n hA hk ht hn hm hlen=>?_,fun {n2 E aL e b' c'} he Nx tH auC hE hel hc' auD r lr m n hA hn hm hlen=>?_⟩
 ·obtain⟨n,rfl⟩ : ∃ n',n=n'+2:=⟨n - 2,by omega⟩
  obtain⟨h1,h2⟩:=first r t lr m n hA hn hm (by omega)
  rw[h1,h2.mJ hk ht,Option.bind_some]
  rfl
 ·obtain⟨n,rfl⟩ : ∃ n',n=n'+2:=⟨n - 2,by omega⟩
  obtain⟨h1,h2⟩:=first r e _ m n hA hn (by omega) (by omega)
  rw[h1,h2.lR (.inl he) Nx,Option.bind_some]
  simp only[↓reduceIte]
  rw[FH hE fB hel tH auC hc' auD _ lr m n h2.one rfl (by omega) (by omega),Option.bind_some]
  simp only[Rd.mv]
  congr 3
  omega
theorem za {nest:Int} {n:Nat} {s:Sm} {l:List Sm} (h:(Sm.dA nest n (s::l)).1=true):(Sm.jU nest n s).1=true∧(Sm.dA nest (Sm.jU nest n s).2 l).1=true∧(Sm.dA nest n (s::l)).2=(Sm.dA nest (Sm.jU nest n s).2 l).2:=by
 simp only[Sm.dA]at h ⊢
 split at h
 ·cases h
 rename_i hc
 rw[if_neg hc]
 exact⟨by simpa using hc,h,rfl⟩
mutual
theorem ac2 : ∀ (s:Sm) (aN:Nat) (nest:Int) (n0:Nat),(Sm.jU nest n0 s).1=true→s.kG→ -1000≤nest∧nest≤12→s.size<1000000→∀ pos,∃ l,cY (qc aN s) pos l∧l.length=uU s∧rT l∧mT nest n0 (Sm.jU nest n0 s).2 s l
 | ⟨id,kind,labels,name,proc,x,has,args,aS,aL⟩,aN,nest,n0,hm,hr,fB,hs,pos=>by
  obtain⟨ij,_,ho,ht,he,h2⟩:=mw hm
  obtain⟨r1,r2,r3,r4⟩:=(Sm.Vd _).1 hr
  have tt:=fP ht
  have te:=fP he
  rw[tt.2]at ht te he h2
  rw[te.2]at he h2
  have hf:=yZ ho
  dsimp only at r1 r2 r3 r4 ht he tt te h2
  simp only[Sm.size]at hs
  have mO:x.size<1000000000:=by omega
  have hY:=Sm.cu aS
  have hle:=Sm.cu aL
  by_cases k6:kind=6
  ·subst k6
   have hX:=hf.x rfl
   dsimp only at hX
   have hF:=sv hX r1
   have hd:x.depth≤20:=by simp only[Ex.may,Bool.and_eq_true,decide_eq_true_eq]at hX;omega
   have ug:=hf.aL.resolve_right (by simp)
   dsimp only at ug
   subst ug
   have IA:has=false:=by
    cases hh:has
    ·rfl
    ·have:=hf.has hh;simp at this
   have od:=hf.call rfl
   have tM:name = []:=(hf.nm0 rfl).resolve_right (by intro h;exact absurd h.1 (by simp[Sm.kO]))
   dsimp only at od
   obtain⟨rfl,rfl⟩:=od
   subst IA tM
   obtain⟨lx,g1,g2,g3,g4⟩:=uq hF hd mO (pos+5+1+1)
   obtain⟨L,k1,k2,k3,k4⟩:=AT aS (aN+1) (nest+1) (n0+1) ht r3 (tt.1.imp_right fun h=>⟨by omega,h⟩) (by omega) (by omega) (pos+5+1+1+(dV 0 x).length+1+1+1+1)
   have e:qc aN ⟨id,6,labels,[],[],x,false,[],aS,[]⟩ = [119,104,105,108,101]++32::(40::(dV 0 x++41::(32::(123::(10::(dG (aN+1) aS++(List.replicate aN 32++(125:: [10])))))))):=by
    simp[qc,j9]
   rw[e]
   refine⟨_,ep.then (ep.wd pos) (cY.blank (by decide) (cY.sg (ep.then g2 (cY.sg (cY.blank (by decide) (cY.sg (cY.blank (by decide) (cY.app k1 (cY.xY aN (cY.sg (cY.blank (by decide) (cY.nil _)))))))))))) , ?_, ?_, ?_⟩
   ·simp[uU,g1,k2];omega
   ·exact .inr ⟨_,_,rfl,rfl,by simp[iN],by simp[iN],by simp[iN]⟩
   ·intro r lr m n hA _ hn BV hl
    simp only[List.length_append,List.length_cons,List.length_nil]at BV hl
    rw[SZ ij fB (w:=iN [119,104,105,108,101] pos) rfl rfl (p:=gN 40 (pos+5+1)) rfl rfl g3 (q:=gN 41 (pos+5+1+1+(dV 0 x).length)) rfl rfl (b:=gN 123 (pos+5+1+1+(dV 0 x).length+1+1)) rfl rfl k4 (by omega) (c:=gN 125 (pos+5+1+1+(dV 0 x).length+1+1+1+1+(dG (aN+1) aS).length+aN)) rfl rfl r lr m n (by simpa using hA) hn (by omega) (by omega)]
    rw[h2]
    simp only[Sm.z,Sm.zs,Sm.dA,List.length_append,List.length_cons,List.length_nil,Rd.mv]
    congr 3
    omega
  ·by_cases k5:kind=5
   ·subst k5
    have hX:=hf.x rfl
    dsimp only at hX
    have hF:=sv hX r1
    have hd:x.depth≤20:=by simp only[Ex.may,Bool.and_eq_true,decide_eq_true_eq]at hX;omega
    have IA:has=false:=by
     cases hh:has
     ·rfl
     ·have:=hf.has hh;simp at this
    have od:=hf.call rfl
    have tM:name = []:=(hf.nm0 rfl).resolve_right (by intro h;exact absurd h.1 (by simp[Sm.kO]))
    dsimp only at od
    obtain⟨rfl,rfl⟩:=od
    subst IA tM
    obtain⟨lx,g1,g2,g3,g4⟩:=uq hF hd mO (pos+2+1+1)
    obtain⟨L,k1,k2,k3,k4⟩:=AT aS (aN+1) (nest+1) (n0+1) ht r3 (tt.1.imp_right fun h=>⟨by omega,h⟩) (by omega) (by omega) (pos+2+1+1+(dV 0 x).length+1+1+1+1)
    by_cases ce:aL.length=0
    ·have ug:aL = []:=List.eq_nil_of_length_eq_zero ce
     subst ug
     have e:qc aN ⟨id,5,labels,[],[],x,false,[],aS,[]⟩ = [105,102]++32::(40::(dV 0 x++41::(32::(123::(10::(dG (aN+1) aS++(List.replicate aN 32++(125:: [10])))))))):=by
      simp[qc,j9]
     rw[e]
     refine⟨_,ep.then (ep.wd pos) (cY.blank (by decide) (cY.sg (ep.then g2 (cY.sg (cY.blank (by decide) (cY.sg (cY.blank (by decide) (cY.app k1 (cY.xY aN (cY.sg (cY.blank (by decide) (cY.nil _)))))))))))) , ?_, ?_, ?_⟩
     ·simp[uU,g1,k2];omega
     ·exact .inr ⟨_,_,rfl,rfl,by simp[iN],by simp[iN],by simp[iN]⟩
     ·intro r lr m n hA hNE hn BV hl
      simp only[List.length_append,List.length_cons,List.length_nil]at BV hl
      obtain⟨t,DC,rfl,hk,eB⟩:=hNE
      rw[(PH ij fB (w:=iN [105,102] pos) rfl rfl (p:=gN 40 (pos+2+1)) rfl rfl g3 (q:=gN 41 (pos+2+1+1+(dV 0 x).length)) rfl rfl (b:=gN 123 (pos+2+1+1+(dV 0 x).length+1+1)) rfl rfl k4 (by omega) (c:=gN 125 (pos+2+1+1+(dV 0 x).length+1+1+1+1+(dG (aN+1) aS).length+aN)) rfl rfl).1 r t DC m n (by simpa using hA) hk eB hn (by omega) (by omega)]
      rw[h2]
      simp only[Sm.z,Sm.zs,Sm.dA,List.length_append,List.length_cons,List.length_nil,Rd.mv]
      congr 3
      omega
    ·obtain⟨E,j1,j2,j3,j4⟩:=AT aL (aN+1) (nest+1) _ he r4 (te.1.imp_right fun h=>⟨by omega,h⟩) (by omega) (by omega) (pos+2+1+1+(dV 0 x).length+1+1+1+1+(dG (aN+1) aS).length+aN+1+1+4+1+1+1)
     have e:qc aN ⟨id,5,labels,[],[],x,false,[],aS,aL⟩ = [105,102]++32::(40::(dV 0 x++41::(32::(123::(10::(dG (aN+1) aS++(List.replicate aN 32++(125::(32::([101,108,115,101]++32::(123::(10::(dG (aN+1) aL++(List.replicate aN 32++(125:: [10]))))))))))))))):=by
      have:aL≠ []:=fun h=>ce (by rw[h];rfl)
      simp[qc,j9,this]
     rw[e]
     refine⟨_,ep.then (ep.wd pos) (cY.blank (by decide) (cY.sg (ep.then g2 (cY.sg (cY.blank (by decide) (cY.sg (cY.blank (by decide) (cY.app k1 (cY.xY aN (cY.sg (cY.blank (by decide)
      (ep.then (ep.wd _) (cY.blank (by decide) (cY.sg (cY.blank (by decide) (cY.app j1 (cY.xY aN (cY.sg (cY.blank (by decide) (cY.nil _)))))))))))))))))))), ?_, ?_, ?_⟩
     ·simp only[uU,List.length_append,List.length_cons,List.length_nil,Int.reduceEq,↓reduceIte,if_neg ce,g1,k2,j2];omega
     ·exact .inr ⟨_,_,rfl,rfl,by simp[iN],by simp[iN],by simp[iN]⟩
     ·intro r lr m n hA hNE hn BV hl
      simp only[List.length_append,List.length_cons,List.length_nil]at BV hl
      rw[(PH ij fB (w:=iN [105,102] pos) rfl rfl (p:=gN 40 (pos+2+1)) rfl rfl g3 (q:=gN 41 (pos+2+1+1+(dV 0 x).length)) rfl rfl (b:=gN 123 (pos+2+1+1+(dV 0 x).length+1+1)) rfl rfl k4 (by omega) (c:=gN 125 (pos+2+1+1+(dV 0 x).length+1+1+1+1+(dG (aN+1) aS).length+aN)) rfl rfl).2
       (e:=iN [101,108,115,101] (pos+2+1+1+(dV 0 x).length+1+1+1+1+(dG (aN+1) aS).length+aN+1+1)) rfl rfl (b':=gN 123 (pos+2+1+1+(dV 0 x).length+1+1+1+1+(dG (aN+1) aS).length+aN+1+1+4+1)) rfl rfl j4 (by omega)
       (c':=gN 125 (pos+2+1+1+(dV 0 x).length+1+1+1+1+(dG (aN+1) aS).length+aN+1+1+4+1+1+1+(dG (aN+1) aL).length+aN)) rfl rfl r lr m n (by simpa using hA) hn (by omega) (by omega)]
      rw[h2]
      simp only[Sm.z,Sm.zs,Sm.dA,List.length_append,List.length_cons,List.length_nil,Rd.mv]
      congr 3
      omega
   ·obtain⟨l,g1,g2,g3,g4⟩:=Zg ho r1 r2 (by simp only [Sm.size];omega) k5 k6 ij fB.2 pos
    have Cu:aS = []:=hf.aS.resolve_right (by dsimp only;omega)
    have he0:aL = []:=hf.aL.resolve_right k5
    refine⟨l, ?_, ?_,g3, ?_⟩
    ·have e:qc aN ⟨id,kind,labels,name,proc,x,has,args,aS,aL⟩=gd kind name proc x has args++ [59,10]:=by
      unfold qc j9
      dsimp only
      rw[if_neg k6,if_neg k5,if_neg (by omega)]
      simp
     rw[e];exact g1
    ·rw[g2];simp only[uU,if_neg k6,if_neg k5]
    ·rw[OF hm Cu he0];exact g4
theorem AT : ∀ (l:List Sm) (aN:Nat) (nest:Int) (n0:Nat),(Sm.dA nest n0 l).1=true→Sm.pU l→(l = []∨(-1000≤nest∧nest≤12))→l.length≤1000000→Sm.aT l<1000000→∀ pos,∃ L,cY (dG aN l) pos L∧L.length=qZ l∧tz L∧tx nest n0 (Sm.dA nest n0 l).2 l L
 | [],aN,nest,n0,_,_,_,_,_,pos=>⟨[],by simp only[dG];exact cY.nil _,by simp[qZ], .nil,by simp only[Sm.dA];exact Zh nest n0⟩
 | s::l,aN,nest,n0,hm,hr,fB,hln,hs,pos=>by
  obtain⟨m1,m2,m3⟩:=za hm
  have fB:=fB.resolve_left (by simp)
  simp only[Sm.pU]at hr
  simp only[Sm.aT]at hs
  simp only[List.length_cons]at hln
  have MS:s.labels.length<s.size:=by cases s;simp only[Sm.size];omega
  have hml:dn s.labels=true:=(yZ (mw m1).2.2.1).Da
  obtain⟨Fs,f1,f2⟩:=NB hml (pos+aN)
  obtain⟨ls,g1,g2,g3,g4⟩:=ac2 s aN nest n0 m1 hr.1 fB (by omega) (pos+aN+(dQ s.labels).length)
  obtain⟨L,k1,k2,k3,k4⟩:=AT l aN nest _ m2 hr.2 (.inr fB) (by omega) (by omega) (pos+aN+(dQ s.labels).length+(qc aN s).length)
  refine⟨Fs++(ls++L), ?_, ?_,tz.cons f2 g3, ?_⟩
  ·simp only [dG]
   rw[V4]
   have e:List.replicate aN 32++(dQ s.labels++qc aN s)++dG aN l=List.replicate aN 32++(dQ s.labels++(qc aN s++dG aN l)):=by simp only[List.append_assoc]
   rw[e]
   exact cY.xY aN (cY.app f1 (cY.app g1 k1))
  ·simp only[qZ,List.length_append,f2.len,g2,k2];omega
  ·rw[m3];exact V6 f2 g3 g4 k4 k3 (by omega)
end
set_option maxRecDepth 8000
open Go.Proofs
theorem ac3 (f:Pc):tv f=([112,114,111,99,32]++f.name++ [40]++Lib.join (f.params.map fJ) [44,32]++ [41,32,123,10])++(if f.vars.length=0 then []else([32,118,97,114,32]++Lib.join f.vars [44,32]++ [59,10]))++(dG 1 f.body++dQ f.fin++ [125,10]):=by
 unfold tv gf
 split<;>simp only[List.append_assoc,List.cons_append,List.nil_append,List.replicate_zero,List.replicate_succ]
theorem Zi (l:List ay):xX l=if l.length=0 then []else [103,108,111,98,97,108,32]++Lib.join l [44,32]++ [59,10]:=by
 unfold xX gf
 split<;>simp only[List.append_assoc,List.cons_append,List.nil_append,List.replicate_zero]
set_option maxHeartbeats 1600000 in
theorem Zj {p : Pg} (hf : p.kJ) (hg : p.may = true → p.PrG) (hs : p.size ≤ 1000000) (s : St) : aA Tryz.prog xu [.agg (bY p)] s (.str (if p.may then qb p else [])) s := by
 refine aA.pure ?_ (by simp only[D.bN, D.ok, jP]; rfl) rfl s
 have hm := fun s => aiQ hf s
 cases cm : p.may with
 | false =>
   rw[if_neg (by simp)]
   unfold S0
   refine aA.go Ac rfl fun B Q hB hQ =>?_
   have ⟨hY, hZ, gA, gB⟩ := bu
   repeat' (first
 |simp only[go_sem, hY, hZ, gA, gB, cm]
 |(with_reducible refine CU (hm _) ?_)
 |(with_reducible refine aB hQ ?_; exact aU))
 | true =>
   rw[if_pos rfl]
   have hg := hg cm
   have q7 : Pc.aT p.procs ≤ 1000000 := by simp only[Pg.size]at hs; omega
   have wk : p.globals.length ≤ 1000000 := by simp only[Pg.size]at hs; omega
   have sI := Pc.cu p.procs
   have lg := SV hg.globals
   have lp := Hp hg.procs
   have ls := vy [44, 32] hg.globals
   have egl := Zi p.globals
   simp only[List.length_cons, List.length_nil]at ls
   generalize hR : qb p = R
   have Vh : R.length ≤ 540000000000 := by rw[← hR]; simp only[qb, List.length_append]; omega
   unfold qb at hR
   unfold S0
   have ej := fun s => D5 (l := p.globals) (sep := [44, 32]) (by omega) (by omega) .shared s
   have b1 : (7 : Nat) + (Lib.join p.globals [44, 32]).length ≤ aF := by unfold aF; omega
   have b2 : (Lib.join p.globals [44, 32]).length + 1 + 1 + 1 + 1 + 1 + 1 + 1 + 1 + 1 ≤ aF := by unfold aF; omega
   refine aA.go Ac rfl fun B Q hB hQ =>?_
   have ⟨hY, hZ, gA, gB⟩ := bu
   have key : ∀ i : List Pc × Nat × ay, (p.procs.drop i.2.1 = i.1 ∧ i.2.2 ++ lC i.1 = R) →
       bn Tryz.prog B 82 QHG (gI 0 (jF (gS Tryz.prog B 82 QHL Q) Q))
         [(3, .str i.2.2), (22, .slice .shared 5 (p.procs.map cH)), (23, .int .i64 (p.procs.length : Int)), (24, .int .i64 (i.2.1 : Int))] ⟨[bY p], []⟩ := by
     refine bn.ind (ι := List Pc × Nat × ay) (fun i => p.procs.drop i.2.1 = i.1 ∧ i.2.2 ++ lC i.1 = R) (fun i => i.1.length) (fun i => [(3, .str i.2.2), (22, .slice .shared 5 (p.procs.map cH)), (23, .int .i64 (p.procs.length : Int)), (24, .int .i64 (i.2.1 : Int))]) (fun i => ⟨[bY p], []⟩) ?_
     rintro ⟨rest, k, acc⟩ ⟨h1, h2⟩ IH
     dsimp only at h1 h2
     cases rest with
     | nil =>
       have hY := drop_nil h1
       simp only[lC, List.append_nil]at h2
       subst h2
       repeat' (first
 |simp only[go_sem, hY, hZ, gA, gB]
 |(with_reducible refine aB hQ ?_; exact aU))
     | cons f rest =>
       obtain ⟨hZ, g2, hY, g4⟩ := drop_cons h1
       have iW := List.mem_of_getElem? hZ
       have ew := Pc.bJ iW
       have hP := hg.procs f iW
       have hk : k < 4611686018427387904 := by omega
       have w1 : IntKind.wrap .i64 ((k : Int) + 1) = ((k + 1 : Nat) : Int) := by rw[bC]<;>omega
       simp only[lC]at h2
       have eT := ac3 f
       have hfz : f.params.length + f.vars.length + f.fin.length + Sm.aT f.body + 1 ≤ f.size := by unfold Pc.size; omega
       repeat' (first
 |simp only[go_sem, hY, hZ, gA, gB]
 |(with_reducible refine aB hQ ?_; exact aU))
       refine bn.oZ 6 1 rfl ?_
       simp only[go_sem, hY, hZ, gA, gB]
       refine cq 2 1 (bn.ind (ι := List Pm × Nat × List ay) (fun i => f.params.drop i.2.1 = i.1 ∧ i.2.2 ++ i.1.map fJ = f.params.map fJ ∧ i.2.2.length = i.2.1) (fun i => i.1.length)
         (fun i => [(3, .str acc), (22, .slice .shared 5 (p.procs.map cH)), (23, .int .i64 (p.procs.length : Int)), (24, .int .i64 (k : Int)), (5, .ptr 1 0), (6, .slice (.tok 0) 1 (i.2.2.map encStr)), (29, .slice .shared 2 (f.params.map fC)), (30, .int .i64 (f.params.length : Int)), (31, .int .i64 (i.2.1 : Int))]) (fun i => ⟨[bY p, cH f], [some i.2.1]⟩) ?_ (f.params, 0, []) ⟨rfl, rfl, rfl⟩)
       rintro ⟨ps, j, out⟩ ⟨p1, p2, p3⟩ vo
       dsimp only at p1 p2 p3
       cases ps with
       | nil =>
         have hY := drop_nil p1
         simp only[List.map_nil, List.append_nil]at p2
         subst p2
         have lps := Ho hP.params
         have lvs := vy [44, 32] hP.vars
         have lms := nN hP.fin
         have lrs := oT f.body hP.body
         have lnm := hP.name
         simp only[List.length_cons, List.length_nil]at lvs
         have ej := fun s => D5 (l := f.params.map fJ) (sep := [44, 32]) (by simp; omega) (by omega) (.tok 0) s
         have em := fun st => PF (by omega) hP.fin st
         have er : ∀ st, aA Tryz.prog pJ [.slice .shared 13 (f.body.map bh), .str [32]] st (.str (dG 1 f.body)) st := fun st => acX _ f.body (Nat.le_refl _) (by omega) 1 hP.body st
         have jc := congrArg List.length h2
         rw[eT]at jc
         rw[eT]at h2
         have b1 : (5 : Nat) + f.name.length ≤ aF := by unfold aF; omega
         have b2 : f.name.length + 1 + 1 + 1 + 1 + 1 + 1 ≤ aF := by unfold aF; omega
         have b3 : f.name.length + 1 + 1 + 1 + 1 + 1 + 1 + (Lib.join (f.params.map fJ) [44, 32]).length ≤ aF := by unfold aF; omega
         have b4 : f.name.length + 1 + (Lib.join (f.params.map fJ) [44, 32]).length + 1 + 1 + 1 + 1 + 1 + 1 + 1 + 1 + 1 ≤ aF := by unfold aF; omega
         have b8 : (dG 1 f.body).length + (dQ f.fin).length ≤ aF := by unfold aF; omega
         have b9 : (dG 1 f.body).length + (dQ f.fin).length + 1 + 1 ≤ aF := by unfold aF; omega
         simp only[List.length_append, List.length_cons, List.length_nil]at jc
         have b5 : acc.length + (f.name.length + 1 + (Lib.join (f.params.map fJ) [44, 32]).length + 1 + 1 + 1 + 1 + 1 + 1 + 1 + 1 + 1) ≤ aF := by unfold aF; omega
         cases cv : decide ((f.vars.length : Int) > 0) with
         | false =>
           have DD : f.vars.length = 0 := by have := of_decide_eq_false cv; omega
           rw[if_pos DD]at h2 jc
           simp only[List.length_nil]at jc
           have V3 : acc.length + (f.name.length + 1 + (Lib.join (f.params.map fJ) [44, 32]).length + 1 + 1 + 1 + 1 + 1 + 1 + 1 + 1 + 1) + ((dG 1 f.body).length + (dQ f.fin).length + 1 + 1) ≤ aF := by unfold aF; omega
           have hl := IH (rest, k + 1, acc ++ ([112, 114, 111, 99, 32] ++ f.name ++ [40] ++ Lib.join (f.params.map fJ) [44, 32] ++ [41, 32, 123, 10]) ++ (dG 1 f.body ++ dQ f.fin ++ [125, 10])) ⟨g2, by rw[← h2]; simp only[List.append_assoc, List.cons_append, List.nil_append]⟩ (by simp)
           simp only[List.cons_append, List.nil_append]at hl
           repeat' (first
 |simp only[go_sem, hY, hZ, gA, gB, w1, cv, b1, b2, b3, b4, b5, b8, b9, V3]
 |(with_reducible refine CU (ej _) ?_)
 |(with_reducible refine CU (em _) ?_)
 |(with_reducible refine CU (er _) ?_)
 |(with_reducible refine aB hQ ?_; exact aU))
           refine cq 1 0 (hl)
         | true =>
           have DD : f.vars.length ≠ 0 := by have := of_decide_eq_true cv; omega
           rw[if_neg DD]at h2 jc
           simp only[List.length_append, List.length_cons, List.length_nil]at jc
           have ej2 := fun s => D5 (l := f.vars) (sep := [44, 32]) (by omega) (by omega) .shared s
           have b6 : (5 : Nat) + (Lib.join f.vars [44, 32]).length ≤ aF := by unfold aF; omega
           have b7 : (Lib.join f.vars [44, 32]).length + 1 + 1 + 1 + 1 + 1 + 1 + 1 ≤ aF := by unfold aF; omega
           have Nt : acc.length + (f.name.length + 1 + (Lib.join (f.params.map fJ) [44, 32]).length + 1 + 1 + 1 + 1 + 1 + 1 + 1 + 1 + 1) + ((Lib.join f.vars [44, 32]).length + 1 + 1 + 1 + 1 + 1 + 1 + 1) ≤ aF := by unfold aF; omega
           have V3 : acc.length + (f.name.length + 1 + (Lib.join (f.params.map fJ) [44, 32]).length + 1 + 1 + 1 + 1 + 1 + 1 + 1 + 1 + 1) + ((Lib.join f.vars [44, 32]).length + 1 + 1 + 1 + 1 + 1 + 1 + 1) + ((dG 1 f.body).length + (dQ f.fin).length + 1 + 1) ≤ aF := by unfold aF; omega
           have hl := IH (rest, k + 1, acc ++ ([112, 114, 111, 99, 32] ++ f.name ++ [40] ++ Lib.join (f.params.map fJ) [44, 32] ++ [41, 32, 123, 10]) ++ ([32, 118, 97, 114, 32] ++ Lib.join f.vars [44, 32] ++ [59, 10]) ++ (dG 1 f.body ++ dQ f.fin ++ [125, 10])) ⟨g2, by rw[← h2]; simp only[List.append_assoc, List.cons_append, List.nil_append]⟩ (by simp)
           simp only[List.cons_append, List.nil_append]at hl
           repeat' (first
 |simp only[go_sem, hY, hZ, gA, gB, w1, cv, b1, b2, b3, b4, b5, b6, b7, b8, b9, V3, Nt]
 |(with_reducible refine CU (ej _) ?_)
 |(with_reducible refine CU (ej2 _) ?_)
 |(with_reducible refine CU (em _) ?_)
 |(with_reducible refine CU (er _) ?_)
 |(with_reducible refine aB hQ ?_; exact aU))
           refine cq 1 0 (hl)
       | cons a ps =>
         obtain ⟨hZ, q2, hY, q4⟩ := drop_cons p1
         have ajk := List.mem_of_getElem? hZ
         have han := hP.params a ajk
         have hj : j < 4611686018427387904 := by omega
         have w2 : IntKind.wrap .i64 ((j : Int) + 1) = ((j + 1 : Nat) : Int) := by rw[bC]<;>omega
         have gA : (j + 1) * 17 ≤ aF := by unfold aF; omega
         have ea : fJ a = (if a.ref = true then [114, 101, 102, 32] else []) ++ a.name := rfl
         cases hr : a.ref with
         | true =>
           rw[hr]at ea
           have m1 : (4 : Nat) + a.name.length ≤ aF := by unfold aF; omega
           repeat' (first
 |simp only[go_sem, hY, hZ, gA, gB, hr, m1, w2, p3]
 |(with_reducible refine aB hQ ?_; exact aU))
           refine eQ 2 1 ?_ ?_ (vo (ps, j + 1, out ++ [fJ a]) ⟨q2, by rw[← p2]; simp, by simp[p3]⟩ (by simp))
           · (simp only[go_sem, hY, hZ, gA, gB, ea, List.cons_append, List.nil_append]; try exact bQ)
           · (simp only[go_sem, hY, hZ, gA, gB, ea, List.cons_append, List.nil_append]; try exact bQ)
         | false =>
           rw[hr]at ea
           repeat' (first
 |simp only[go_sem, hY, hZ, gA, gB, hr, w2, p3, List.nil_append]
 | (with_reducible refine aB hQ ?_; exact aU))
           refine eQ 2 1 ?_ ?_ (vo (ps, j + 1, out ++ [fJ a]) ⟨q2, by rw[← p2]; simp, by simp[p3]⟩ (by simp))
           · (simp only[go_sem, hY, hZ, gA, gB, ea, List.cons_append, List.nil_append]; try exact bQ)
           · (simp only[go_sem, hY, hZ, gA, gB, ea, List.cons_append, List.nil_append]; try exact bQ)
   cases cg : decide ((p.globals.length : Int) > 0) with
   | true =>
     have Ey : p.globals.length ≠ 0 := by have := of_decide_eq_true cg; omega
     rw[if_neg Ey]at egl
     have hl := key (p.procs, 0, xX p.globals) ⟨rfl, hR⟩
     simp only[egl, List.cons_append, List.nil_append]at hl
     repeat' (first
 |simp only[go_sem, hY, hZ, gA, gB, cm, cg, b1, b2]
 |(with_reducible refine CU (hm _) ?_)
 |(with_reducible refine CU (ej _) ?_)
 | (with_reducible refine aB hQ ?_; exact aU))
     refine cq 1 0 (hl)
   | false =>
     have Ey : p.globals.length = 0 := by have := of_decide_eq_false cg; omega
     rw[if_pos Ey]at egl
     have hl := key (p.procs, 0, xX p.globals) ⟨rfl, hR⟩
     simp only[egl]at hl
     repeat' (first
 |simp only[go_sem, hY, hZ, gA, gB, cm, cg]
 |(with_reducible refine CU (hm _) ?_)
 |(with_reducible refine aB hQ ?_; exact aU))
     refine cq 1 0 (hl)
def x4 (a:Pm):Nat:=if a.ref then 2 else 1
theorem zb (a:ay) (l:List aX) (h:BO a l):l.length=1:=by obtain⟨k,rfl,_⟩:=h;rfl
theorem Hx (a:Pm) (l:List aX) (h:pG a l):l.length=x4 a:=by
 unfold pG at h
 unfold x4
 split at h
 ·rename_i hr;rw[if_pos hr];obtain⟨w,k,rfl,_⟩:=h;rfl
 ·rename_i hr;rw[if_neg hr];exact zb _ _ h
theorem Zk {l:List ay} (hm:dn l=true) (h0:l≠ []) (pos:Nat) : ∃ t,ep (Lib.join l [44,32]) pos t∧lS BO l t:=by
 have:=ep.join id BO l pos h0 fun a ha pos=>⟨[AR a pos],ep.nm (jB hm ha) pos,⟨_,rfl,rfl,rfl⟩⟩
 simpa using this
theorem V8 {l:List Pm} (hm:Pm.e7 l=true) (h0:l≠ []) (pos:Nat) : ∃ t,ep (Lib.join (l.map fJ) [44,32]) pos t∧lS pG l t:=by
 refine ep.join fJ pG l pos h0 fun a ha pos=>?_
 have hn:=yG hm ha
 unfold fJ pG
 by_cases hr:a.ref=true
 ·simp only [hr, ↓reduceIte]
  have:cY [114,101,102,32] pos [iN [114,101,102] pos]:=ep.then (s:= [114,101,102]) (c:=32) (t:= []) (ep.wd pos) (cY.blank (by decide) (cY.nil _))
  exact⟨_,ep.behind this (ep.nm hn _),⟨_,_,rfl,rfl,rfl,rfl,rfl⟩⟩
 ·simp only [hr,Bool.false_eq_true, ↓reduceIte,List.nil_append]
  exact⟨[AR a.name pos],ep.nm hn pos,⟨_,rfl,rfl,rfl⟩⟩
theorem V9 {α:Type} {G:α→List aX→Prop} {K:List aX→Prop} (hG : ∀ a l m,G a l→K (l++m)) {xs:List α} {l:List aX} (h:lS G xs l) : ∀ m,K (l++m):=by
 cases h with
 |one x l hx=>exact fun m=>hG x l m hx
 |cons x l c hc xs m hx k=>intro m';rw[List.append_assoc];exact hG x l _ hx
def AU (w:ay) (l:List ay) (T:List aX):Prop:=(l = []∧T = [])∨∃ (t q:aX) (m:List aX),T=t::(m++ [q])∧t.kind=3∧t.text=w∧lS BO l m∧q.kind=4∧q.text = [59]
def tA (l:List ay):Nat:=if l.length=0 then 0 else lT (fun _=>1) l+2
theorem AU.len {w:ay} {l:List ay} {T:List aX} (h:AU w l T) (h0 : ∀ m,¬ lS BO [] m):T.length=tA l:=by
 rcases h with ⟨rfl,rfl⟩|⟨t,q,m,rfl,_,_,hs,_⟩
 ·rfl
 ·have:l.length≠0:=by
   intro hl
   have:l = []:=List.eq_nil_of_length_eq_zero hl
   subst this
   exact h0 m hs
  unfold tA
  rw[if_neg this]
  simp only[List.length_cons,List.length_append,List.length_nil,Iz zb hs]
theorem Wa {α:Type} {G:α→List aX→Prop} (m:List aX) : ¬ lS G [] m:=by intro h;cases h
theorem NC {α:Type} {G:α→List aX→Prop} (hG : ∀ a l,G a l→0<l.length) {xs:List α} {l:List aX} (h:lS G xs l):xs.length≤l.length:=by
 induction h with
 |one x l hx=>have:=hG x l hx;simp only[List.length_cons,List.length_nil];omega
 |cons x l c hc xs m hx k ih=>simp only[List.length_cons,List.length_append];omega
theorem ac4 {l:List ay} {T:List aX} (h:AU [118,97,114] l T) (ND:l.length≤16) : ∀ (r:Rd) (lr:List aX) (m n:Nat),At r (T++lr)→EO [118,97,114] lr→T.length<m→1<n→Rd.vars m n [] r=some (l,r.mv T.length):=by
 intro r lr m n hA hN hm hn
 obtain⟨n,rfl⟩ : ∃ n',n=n'+2:=⟨n - 2,by omega⟩
 obtain⟨t,DC,rfl,hk,eB⟩:=hN
 rcases h with ⟨rfl,rfl⟩|⟨w,q,M,rfl,w1,w2,hs,q1,q2⟩
 ·have hA:At r (t::DC):=hA
  rw[Rd.vars,hA.mJ hk eB,Option.bind_some]
  rfl
 ·have hA:At r (w::(M++q::(t::DC))):=by simpa using hA
  simp only[List.length_cons,List.length_append,List.length_nil]at hm
  have hlen:=NC (fun a l h=>by rw[zb a l h];omega) hs
  rw[Rd.vars,hA.lR (.inl w1) w2,Option.bind_some]
  simp only[↓reduceIte]
  rw[Np hs _ q (t::DC) [] m 16 hA.one q1 q2 (by simp;omega) (by omega) (by omega),Option.bind_some]
  dsimp only
  have kP:At ((r.mv 1).mv (M.length+1)) (t::DC):=by
   have:=hA.one.app.one
   simpa only[pb,Nat.add_assoc]using this
  rw[Rd.vars,kP.mJ hk eB,Option.bind_some]
  simp only[Bool.false_eq_true,↓reduceIte,List.nil_append,pb,List.length_cons,List.length_append,List.length_nil]
  congr 3
  omega
theorem S1 {l:List ay} {T:List aX} (h:AU [103,108,111,98,97,108] l T) (ND:l.length≤16) : ∀ (r:Rd) (lr:List aX) (m n:Nat),At r (T++lr)→EO [103,108,111,98,97,108] lr→T.length<m→1<n→Rd.globals m n [] r=some (l,r.mv T.length):=by
 intro r lr m n hA hN hm hn
 obtain⟨n,rfl⟩ : ∃ n',n=n'+2:=⟨n - 2,by omega⟩
 obtain⟨t,DC,rfl,hk,eB⟩:=hN
 rcases h with ⟨rfl,rfl⟩|⟨w,q,M,rfl,w1,w2,hs,q1,q2⟩
 ·have hA:At r (t::DC):=hA
  rw[Rd.globals,hA.mJ hk eB,Option.bind_some]
  rfl
 ·have hA:At r (w::(M++q::(t::DC))):=by simpa using hA
  simp only[List.length_cons,List.length_append,List.length_nil]at hm
  have hlen:=NC (fun a l h=>by rw[zb a l h];omega) hs
  rw[Rd.globals,hA.lR (.inl w1) w2,Option.bind_some]
  simp only[↓reduceIte]
  rw[Np hs _ q (t::DC) [] m 16 hA.one q1 q2 (by simp;omega) (by omega) (by omega),Option.bind_some]
  dsimp only
  have kP:At ((r.mv 1).mv (M.length+1)) (t::DC):=by
   have:=hA.one.app.one
   simpa only[pb,Nat.add_assoc]using this
  rw[Rd.globals,kP.mJ hk eB,Option.bind_some]
  simp only[Bool.false_eq_true,↓reduceIte,List.nil_append,pb,List.length_cons,List.length_append,List.length_nil]
  congr 3
  omega
def Wb (n0 n1:Nat) (f:Pc) (l:List aX):Prop:=∀ (r:Rd) (lr:List aX) (m:Nat),At r (l++lr)→r.n=n0→3*l.length+10<m→Rd.proc m r=some (⟨f.name,f.params,f.vars,Sm.zs f.body,f.fin⟩,{r.mv l.length with n:=n1})
def D6 (f:Pc):Nat:=6+lT x4 f.params+tA f.vars+qZ f.body+2*f.fin.length
theorem NF {a:Pm} {l m:List aX} (h:pG a l):EO [41] (l++m):=by
 unfold pG at h
 split at h
 ·obtain⟨w,k,rfl,w1,w2,_⟩:=h
  exact⟨w,_,rfl,Kd.of w1, .inr (by rw[w2];decide)⟩
 ·obtain⟨k,rfl,k1,_⟩:=h
  exact⟨k,_,rfl,xZ k1, .inl (by omega)⟩
theorem Wc {n0 n1:Nat} {f:Pc} {t p q b c:aX} {P V L F:List aX} (ht:t.kind=1) (Mx:t.text=f.name) (hp:p.kind=4) (tJ:p.text = [40]) (hP:(f.params = []∧P = [])∨lS pG f.params P) (h8:f.params.length≤8) (hq:q.kind=4) (iQ:q.text = [41]) (hb:b.kind=4) (BY:b.text = [123])
 (hV:AU [118,97,114] f.vars V) (ND:f.vars.length≤16) (hL:tx 1 n0 n1 f.body L) (hLb:tz L) (hF:ur f.fin F) (hc:c.kind=4) (oQ:c.text = [125]) (hl:f.body.length≤1000000) (ml:f.fin.length≤1000000):Wb n0 n1 f (t::p::(P++q::b::(V++(L++(F++ [c]))))):=by
 intro r lr m hA hn hm
 simp only[List.length_cons,List.length_append,List.length_nil]at hm
 have hA:At r (t::p::(P++q::b::(V++(L++(F++c::lr))))):=by simpa using hA
 have kP:=hA.one.one
 have body : ∀ r1:Rd,At r1 (V++(L++(F++c::lr)))→r1.n=n0→Rd.wE m f.name f.params r1=some (⟨f.name,f.params,f.vars,Sm.zs f.body,f.fin⟩,{r1.mv (V.length+L.length+F.length+1)with n:=n1}):=by
  intro r1 fU hn1
  unfold Rd.wE
  have hno:EO [118,97,114] (L++(F++c::lr)):=hLb _ (.inr rfl) _ (hF.aL _ (.inr rfl) _ ⟨c,lr,rfl,yY hc, .inr (by rw[oQ];decide)⟩)
  rw[ac4 hV ND r1 _ m m fU hno (by omega) (by omega),Option.bind_some]
  dsimp only
  obtain⟨m',rfl⟩ : ∃ m',m=m'+1:=⟨m - 1,by omega⟩
  rw[Rd.rows,hL f.fin F c true _ lr (m'+1) m' [] hF hc oQ (.inl rfl) fU.app (by simpa[Rd.mv]using hn1) (by omega) (by omega) (by simpa using hl) ml,Option.bind_some]
  simp only[List.nil_append,Rd.mv]
  congr 3
  omega
 unfold Rd.proc
 rw[hA.name ht,Option.bind_some]
 dsimp only
 rw[hA.one.want (.inr hp) tJ,Option.bind_some,Mx]
 rcases hP with ⟨hp0,rfl⟩|hP
 ·have kP:At ((r.mv 1).mv 1) (q::b::(V++(L++(F++c::lr)))):=kP
  unfold Rd.other
  rw[if_pos kP.good,kP.is (yY hq),Option.bind_some,Option.bind_some]
  have b0:((q.kind==3 ||q.kind==4) && q.text == [41])=true:=by simp[hq,iQ]
  rw[b0]
  simp only[Bool.not_true,Bool.false_eq_true,↓reduceIte]
  rw[kP.want (.inr hq) iQ,Option.bind_some,kP.one.want (.inr hb) BY,Option.bind_some]
  have:=body _ kP.one.one (by simpa[Rd.mv]using hn)
  rw[hp0]at this ⊢
  rw[this]
  simp only[Rd.mv,List.length_cons,List.length_append,List.length_nil]
  congr 3
  omega
 ·obtain⟨t',l',e,hk,eB⟩:=V9 (K:=EO [41]) (fun a l m h=>NF h) hP (q::b::(V++(L++(F++c::lr))))
  have auE:At ((r.mv 1).mv 1) (t'::l'):=by rw[← e];exact kP
  have sI:=NC (fun a l h=>by rw[Hx a l h];unfold x4;split<;>omega) hP
  unfold Rd.other
  rw[if_pos kP.good,auE.is hk,Option.bind_some,Option.bind_some]
  have b0:((t'.kind==3 ||t'.kind==4) && t'.text == [41])=false:=by
   rcases eB with ⟨h1,h2⟩|h
   ·simp[h1,h2]
   ·simp[h]
  rw[b0]
  simp only[Bool.not_false,↓reduceIte]
  rw[VZ hP _ q _ [] m kP hq iQ (by simpa using h8) (by omega),Option.bind_some]
  dsimp only
  rw[kP.app.want (.inr hq) iQ,Option.bind_some,kP.app.one.want (.inr hb) BY,Option.bind_some,List.nil_append]
  rw[body _ kP.app.one.one (by simpa[Rd.mv]using hn)]
  simp only[Rd.mv,List.length_cons,List.length_append,List.length_nil]
  congr 3
  omega
theorem Hy {w:ay} (hw:(isWord w && w.all kN && !w.isEmpty && decide (w.length≤8))=true) {l:List ay} (hm:dn l=true) (n pos:Nat) : ∃ T,cY (if l.length=0 then []else gf n (w++ [32]++Lib.join l [44,32]++ [59])) pos T∧AU w l T:=by
 by_cases h0:l.length=0
 ·rw [if_pos h0]
  exact⟨[],cY.nil _, .inl ⟨List.eq_nil_of_length_eq_zero h0,rfl⟩⟩
 ·rw [if_neg h0]
  have eB:l≠ []:=fun h=>h0 (by rw[h];rfl)
  obtain⟨T,g1,g2⟩:=Zk hm eB (pos+n+w.length+1)
  have e:gf n (w++ [32]++Lib.join l [44,32]++ [59])=List.replicate n 32++(w++32::(Lib.join l [44,32]++59:: [10])):=by simp[gf]
  rw[e]
  refine⟨_,cY.xY n (ep.then (ep.wd (pos+n) hw) (cY.blank (by decide) (ep.then g1 (cY.end _)))), .inr ⟨iN w (pos+n),gN 59 (pos+n+w.length+1+(Lib.join l [44,32]).length),T,by simp,rfl,rfl,g2,rfl,rfl⟩⟩
theorem ac5 {f:Pc} {n0:Nat} (hn:isName f.name=true) (hv:dn f.vars=true) (wo:dn f.fin=true) (hp:Pm.e7 f.params=true) (h8:f.params.length≤8) (ND:f.vars.length≤16) (hm:(Sm.dA 1 n0 f.body).1=true) (hr:Sm.pU f.body) (hs:f.size<1000000) (pos:Nat) :
 ∃ T,cY (tv f) pos T∧∃ t l,T=t::l∧t.kind=3∧t.text = [112,114,111,99]∧l.length+1=D6 f∧Wb n0 (Sm.dA 1 n0 f.body).2 f l:=by
 have hfz:f.params.length+f.vars.length+f.fin.length+Sm.aT f.body+1≤f.size:=by unfold Pc.size;omega
 have hbl:=Sm.cu f.body
 have key : ∀ P:Nat,∃ l,ep (Lib.join (f.params.map fJ) [44,32]) P l∧((f.params = []∧l = [])∨lS pG f.params l)∧l.length=lT x4 f.params:=by
  intro P
  by_cases h0:f.params = []
  ·rw [h0]
   refine⟨[], ?_, .inl ⟨rfl,rfl⟩,rfl⟩
   simp only[List.map_nil]
   have:Lib.join [] [44,32] = []:=by simp[Lib.join]
   rw[this]
   exact(cY.nil _).s
  ·obtain⟨l,h1,h2⟩:=V8 hp h0 P
   exact⟨l,h1, .inr h2,Iz Hx h2⟩
 obtain⟨P,a1,a2,a3⟩:=key (pos+4+1+f.name.length+1)
 obtain⟨V,v1,v2⟩:=Hy (w:= [118,97,114]) (by decide) hv 1 (pos+4+1+f.name.length+1+(Lib.join (f.params.map fJ) [44,32]).length+1+1+1+1)
 obtain⟨L,k1,k2,k3,k4⟩:=AT f.body 1 1 n0 hm hr (.inr (by omega)) (by omega) (by omega) (pos+4+1+f.name.length+1+(Lib.join (f.params.map fJ) [44,32]).length+1+1+1+1+(if f.vars.length=0 then []else gf 1 ([118,97,114]++ [32]++Lib.join f.vars [44,32]++ [59])).length)
 obtain⟨F,f1,f2⟩:=NB wo (pos+4+1+f.name.length+1+(Lib.join (f.params.map fJ) [44,32]).length+1+1+1+1+(if f.vars.length=0 then []else gf 1 ([118,97,114]++ [32]++Lib.join f.vars [44,32]++ [59])).length+(dG 1 f.body).length)
 have e:tv f = [112,114,111,99]++32::(f.name++40::(Lib.join (f.params.map fJ) [44,32]++41::(32::(123::(10::((if f.vars.length=0 then []else gf 1 ([118,97,114]++ [32]++Lib.join f.vars [44,32]++ [59]))++(dG 1 f.body++(dQ f.fin++(125:: [10]))))))))):=by
  unfold tv
  split<;>simp[gf]
 rw[e]
 refine⟨_,ep.then (ep.wd pos) (cY.blank (by decide) (ep.then (ep.nm hn _) (cY.sg (ep.then a1 (cY.sg (cY.blank (by decide) (cY.sg (cY.blank (by decide) (cY.app v1 (cY.app k1 (cY.app f1 (cY.sg (cY.blank (by decide) (cY.nil _)))))))))))))),_,_,List.singleton_append,rfl,rfl, ?_, ?_⟩
 ·have:=v2.len (fun m=>Wa m)
  have:=f2.len
  simp only[List.nil_append,List.length_cons,List.length_append,List.length_nil,D6];omega
 ·have:=Wc (f:=f) (t:=AR f.name (pos+4+1)) rfl rfl (p:=gN 40 (pos+4+1+f.name.length)) rfl rfl a2 h8 (q:=gN 41 (pos+4+1+f.name.length+1+(Lib.join (f.params.map fJ) [44,32]).length)) rfl rfl
   (b:=gN 123 (pos+4+1+f.name.length+1+(Lib.join (f.params.map fJ) [44,32]).length+1+1)) rfl rfl v2 ND k4 k3 f2
   (c:=gN 125 (pos+4+1+f.name.length+1+(Lib.join (f.params.map fJ) [44,32]).length+1+1+1+1+(if f.vars.length=0 then []else gf 1 ([118,97,114]++ [32]++Lib.join f.vars [44,32]++ [59])).length+(dG 1 f.body).length+(dQ f.fin).length)) rfl rfl (by omega) (by omega)
  simpa using this
def Pc.z (f:Pc):Pc:=⟨f.name,f.params,f.vars,Sm.zs f.body,f.fin⟩
def Pg.z (p:Pg):Pg:=⟨p.globals,p.procs.map Pc.z⟩
mutual
theorem ajl : ∀ (s:Sm) (nest:Int) (n:Nat),(Sm.jU nest n s).1=true→Sm.num true n s.z=(s,(Sm.jU nest n s).2)
 |⟨id,kind,labels,name,proc,x,has,args,aS,aL⟩,nest,n,hm=>by
  obtain⟨_,hid,_,h2,h3,h4⟩:=mw hm
  have t2:=(fP h2).2
  have t3:=(fP h3).2
  rw[t2]at h2 h3 h4 t3
  rw[t3]at h3 h4
  dsimp only at hid h2 h3 h4
  simp only[Sm.z,Sm.num,D7 aS _ _ h2,D7 aL _ _ h3,↓reduceIte]
  rw[h4, ← hid]
theorem D7 : ∀ (l:List Sm) (nest:Int) (n:Nat),(Sm.dA nest n l).1=true→Sm.fT true n (Sm.zs l)=(l,(Sm.dA nest n l).2)
 | [],nest,n,_=>by simp only[Sm.zs,Sm.fT,Sm.dA]
 |s::l,nest,n,hm=>by
  obtain⟨m1,m2,m3⟩:=za hm
  simp only[Sm.zs,Sm.fT,ajl s nest n m1,D7 l nest _ m2,m3]
end
def ac6 (n0:Nat) (l:List Pc) (L:List aX):Prop:=∀ (r:Rd) (e:aX) (m n:Nat) (out:List Pc),At r (L++ [e])→e.kind=0→r.n=n0→out.length+l.length≤16→3*L.length+10<m→l.length<n→
 ∃ n1,Rd.procs m n out r=some (out++l.map Pc.z,{r.mv L.length with n:=n1})
def tB:List Pc→Nat
 | []=>0
 |f::l=>D6 f+tB l
theorem NG : ∀ (l:List Pc) (n0:Nat),Pc.dA n0 l=true→(∀ f∈l,Sm.pU f.body)→(∀ f∈l,f.size<1000000)→∀ pos,∃ L,cY (lC l) pos L∧L.length=tB l∧ac6 n0 l L∧(Pc.fT n0 (l.map Pc.z)=l)∧(∀ e:aX,e.kind=0→EO [103,108,111,98,97,108] (L++ [e]))
 | [],n0,_,_,_,pos=>by
  refine⟨[],by simp only[lC];exact cY.nil _,rfl, ?_,by simp[Pc.fT],fun e he=>⟨e,[],rfl,Kd.of he, .inl (by omega)⟩⟩
  intro r e m n out hA he hn ho hm hl
  refine⟨r.n, ?_⟩
  cases n with
  |zero=>simp at hl
  |succ n=>
   have hA:At r [e]:=hA
   have k3:(e.kind==3)=false:=by simp[he]
   have k4:(e.kind==4)=false:=by simp[he]
   rw[Rd.procs]
   unfold Rd.Gf Rd.Gg
   rw[if_pos hA.good,hA.is (Kd.of he),Option.bind_some,k3,k4]
   simp only[Bool.or_self,Bool.false_and,Bool.false_eq_true,↓reduceIte]
   rw[if_pos hA.good,hA.ic (Kd.of he),Option.bind_some,Option.bind_some,he]
   simp[Rd.mv]
 | f::l,n0,h,hr,hs,pos=>by
  simp only[Pc.dA]at h
  split at h
  ·cases h
  rename_i c1
  split at h
  ·cases h
  rename_i c2
  split at h
  ·cases h
  rename_i c3
  simp only[Bool.or_eq_true,Bool.not_eq_true',not_or,Bool.not_eq_false,decide_eq_true_eq]at c1 c2 c3
  have hg:=(fP c3).2
  rw[hg]at c3 h
  obtain⟨T,g1,t,L1,rfl,g2,g3,g4,g5⟩:=ac5 (f:=f) (n0:=n0) c1.1.1.2 c1.1.2 c1.2 c2 (by omega) (by omega) c3 (hr f (List.mem_cons_self ..)) (hs f (List.mem_cons_self ..)) pos
  obtain⟨L2,k1,k2,k3,k4,k5⟩:=NG l _ h (fun g m=>hr g (List.mem_cons_of_mem _ m)) (fun g m=>hs g (List.mem_cons_of_mem _ m)) (pos+(tv f).length)
  refine⟨(t::L1)++L2, ?_, ?_, ?_, ?_,fun e he=>⟨t,_,rfl,Kd.of g2, .inr (by rw[g3];decide)⟩⟩
  ·simp only[lC];exact cY.app g1 k1
  ·simp only[tB,List.length_append,List.length_cons,k2];omega
  ·intro r e m n out hA he hn ho hm hl
   simp only[List.length_append,List.length_cons]at ho hm hl
   cases n with
   |zero=>omega
   |succ n=>
    have hA:At r (t::(L1++(L2++ [e]))):=by simpa using hA
    rw[Rd.procs]
    unfold Rd.Gf
    rw[if_pos hA.good,hA.is (Kd.of g2),Option.bind_some]
    have b0:((t.kind==3 ||t.kind==4) && t.text == [112,114,111,99])=true:=by simp[g2,g3]
    rw[if_pos b0,if_neg (by simp only[beq_iff_eq];omega)]
    have e1:=g5 (r.mv 1) (L2++ [e]) m hA.one (by simpa[Rd.mv]using hn) (by omega)
    have e1':Rd.proc m {r with i:=r.i+1} = _:=e1
    rw[e1',Option.bind_some]
    dsimp only
    rw[qY (by omega) (by omega),Option.bind_some]
    obtain⟨n1,e2⟩:=k3 ({(r.mv 1).mv L1.length with n:=(Sm.dA 1 n0 f.body).2} : Rd) e m n (out++ [⟨f.name,f.params,f.vars,Sm.zs f.body,f.fin⟩]) (hA.one.app.n _) he rfl (by simp only[List.length_append,List.length_cons,List.length_nil];omega) (by omega) (by omega)
    refine⟨n1, ?_⟩
    rw[e2]
    simp only[List.map_cons,List.append_assoc,List.cons_append,List.nil_append,Pc.z,Rd.mv,List.length_append,List.length_cons]
    congr 3
    omega
  ·simp only [List.map_cons,Pc.fT]
   have e1:=D7 f.body 1 n0 c3
   have e2:(Pc.z f).body=Sm.zs f.body:=rfl
   rw[e2,e1,k4]
   rfl
def Pg.aD (p:Pg):Nat:=tA p.globals+tB p.procs
theorem ac7 {p:Pg} (h:p.may=true) (hr:p.kG) (hs:p.size<1000000) : ∃ L,Lx 0 (qb p) L∧L.length=p.aD∧p.z.number=p∧
 ∀ (r:Rd) (e:aX) (m:Nat),At r (L++ [e])→e.kind=0→r.n=0→3*L.length+30<m→∃ n1,Rd.program m r=some (p.z,{r.mv L.length with n:=n1}):=by
 rw[← ui]at h
 unfold Pg.zH at h
 split at h
 ·cases h
 rename_i c
 simp only[Bool.or_eq_true,Bool.not_eq_true',not_or,Bool.not_eq_false,decide_eq_true_eq]at c
 have ew : ∀ f∈p.procs,f.size<1000000:=fun f m=>by have:=Pc.bJ m;simp only[Pg.size]at hs;omega
 obtain⟨T,t1,t2⟩:=Hy (w:= [103,108,111,98,97,108]) (by decide) c.2 0 0
 obtain⟨L,k1,k2,k3,k4,k5⟩:=NG p.procs 0 h hr ew (0+(if p.globals.length=0 then []else gf 0 ([103,108,111,98,97,108]++ [32]++Lib.join p.globals [44,32]++ [59])).length)
 have e:qb p=(if p.globals.length=0 then []else gf 0 ([103,108,111,98,97,108]++ [32]++Lib.join p.globals [44,32]++ [59]))++lC p.procs:=rfl
 refine⟨T++L, ?_, ?_, ?_, ?_⟩
 ·rw [e]
  have:=cY.app t1 k1 [] [] (.nil _)
  simpa using this
 ·rw[List.length_append,t2.len (fun m=>Wa m),k2];rfl
 ·unfold Pg.number Pg.z
  dsimp only
  rw[k4]
 ·intro r e m hA he hn hm
  simp only[List.length_append]at hm
  have hA:At r (T++(L++ [e])):=by simpa using hA
  have hlp:p.procs.length≤16:=by omega
  unfold Rd.program
  rw[S1 t2 (by omega) r _ m m hA (k5 e he) (by omega) (by omega),Option.bind_some]
  dsimp only
  obtain⟨n1,e2⟩:=k3 (r.mv T.length) e m m [] hA.app he (by simpa[Rd.mv]using hn) (by simpa using hlp) (by omega) (by omega)
  refine⟨n1, ?_⟩
  rw[e2,Option.bind_some]
  simp only[List.nil_append,Pg.z,Rd.mv,List.length_append]
  congr 3
  omega
theorem S2 {p:Pg} (hp:p.may=true) (Cd:p.kG) (q7:p.size<1000000) (hl:(qb p).length≤100000) (ht:p.aD≤2000):AN Hg (qb p)=some (p,0,0):=by
 obtain⟨L,a1,a2,a3,a4⟩:=ac7 hp Cd q7
 have SD:=VN a1 hl (by omega)
 have hA:At (M7 (L++ [Ni (qb p).length])) (L++ [Ni (qb p).length]):=⟨rfl,rfl,by simp[M7];omega⟩
 obtain⟨n1,e1⟩:=a4 _ (Ni (qb p).length) Hg hA rfl rfl (by unfold Hg;omega)
 unfold AN
 rw[SD]
 simp only[bne_self_eq_false,Bool.false_eq_true,↓reduceIte]
 rw[e1,Option.bind_some]
 dsimp only
 rw[if_neg (by simp[Rd.mv,M7])]
 have hz:p.z.size=p.size:=by rw[← a3,Pg.OD,a3]
 unfold Pg.DU
 rw[if_pos (by omega),a3]
 rfl
set_option maxRecDepth 8000
open Go.Proofs
abbrev aBm (a b:ay) (N:Nat):Prop:=∀ l:List Sm,Sm.aT l<N→∀ s:St,aA Tryz.prog E9 [.slice .shared 13 (l.map bh), .str a, .str b] s (.slice .shared 13 ((Sm.yR a b l).map bh)) s
theorem DE {x:Ex} (h:fW x) : ∀ least,(dV least x).length≤20*ku least x:=by
 induction h with
 |num n=>intro least;rw[vw];simp only[ku];have:=BL 20 n.toNat;omega
 |name t h=>intro least;rw[su];simp only[ku];have:=gG h;omega
 |neg y _ ih=>intro least;rw[vx];have:=ih 7;simp only[ku,List.length_append,List.length_cons,List.length_nil];omega
 |no y _ ih=>intro least;rw[yW];have:=ih 7;simp only[ku,List.length_append,List.length_cons,List.length_nil];omega
 |two op a b ho _ _ vb wa=>
  intro least;rw[tu]
  have:=BM ho;have:=vb (du op);have:=wa (du op+1)
  simp only[ku]
  split<;>simp only[Hj,List.length_append,List.length_cons,List.length_nil]<;>omega
theorem zc {α:Type} (f:α→ay) (w:α→Nat) (sep:ay) (hs:sep.length≤2) : ∀ {l:List α},(∀ a∈l,(f a).length≤20*w a)→(Lib.join (l.map f) sep).length≤20*lT w l
 | [],_=>by simp[Lib.join]
 | [a],h=>by
  have:=h a (by simp)
  simpa[Lib.join,List.intercalate,lT]using this
 |a::b::l,h=>by
  have h1:=h a (by simp)
  have h2:=zc f w sep hs (l:=b::l) (fun c m=>h c (List.mem_cons_of_mem _ m))
  have e:Lib.join ((a::b::l).map f) sep=f a++(sep++Lib.join ((b::l).map f) sep):=by simp only[Lib.join,List.map_cons,List.intercalate_cons_cons,List.append_assoc]
  rw[e]
  simp only[lT,List.length_append]
  omega
theorem OM {s:Sm} (h:s.JM) (ib:s.one=true) (k5:s.kind≠5) (k6:s.kind≠6):(gd s.kind s.name s.proc s.x s.has s.args).length+1≤20*mU s.kind s.name s.x s.has s.args:=by
 have hf:=yZ ib
 obtain⟨hx,_,wz,rR,l7,KY,_⟩:=h
 have hE:s.iZ=true→(dV 0 s.x).length≤20*ku 0 s.x:=fun h=>DE (hx h) 0
 unfold gd mU
 split
 ·rename_i k
  have:=hE (by simp[Sm.iZ,k])
  simp only[List.length_append,List.length_cons,List.length_nil];omega
 split
 ·simp only[List.length_append,List.length_cons,List.length_nil];omega
 split
 ·rename_i k
  have:=hE (by simp[Sm.iZ,k])
  simp only[List.length_append,List.length_cons,List.length_nil];omega
 split
 ·simp only[List.length_cons,List.length_nil];omega
 split
 ·simp only[List.length_cons,List.length_nil];omega
 split
 ·simp only[List.length_append,List.length_cons,List.length_nil];omega
 split
 ·rename_i k
  split
  ·rename_i kh
   have:=hE (by simp[Sm.iZ,k,kh])
   simp only[List.length_append,List.length_cons,List.length_nil];omega
  ·simp only[List.length_cons,List.length_nil];omega
 ·have hj:=zc jD argN [44,32] (by decide) (l:=s.args) (fun a ha=>by
   obtain⟨h1,h2⟩:=l7 a ha
   unfold jD argN
   split
   ·simp only[List.length_append,List.length_cons,List.length_nil];omega
   ·rename_i hr
    exact DE (h2 (by simpa using hr)) 0)
  unfold uT
  split<;>simp only[List.length_append,List.length_cons,List.length_nil]<;>omega
mutual
theorem Wd : ∀ (s:Sm) (aN:Nat) (nest:Int) (n0:Nat),s.JO aN→(Sm.jU nest n0 s).1=true→(BN aN s).length≤35*(2*s.labels.length+uU s)
 | ⟨id,kind,labels,name,proc,x,has,args,aS,aL⟩,aN,nest,n0,h,hm=>by
  obtain⟨ho,hi,ht,he⟩:=(Dz _ _).1 h
  obtain⟨_,_,ib,mt,me,_⟩:=mw hm
  have tt:=(fP mt).2
  have te:=(fP me).2
  rw[tt]at mt te me
  rw[te]at me
  dsimp only at ht he mt me
  have h1:=wV aS (aN+1) _ _ ht mt
  have h2:=wV aL (aN+1) _ _ he me
  have h3:=nN ho.Da
  dsimp only at h3
  have hE:(kind=5∨kind=6)→(dV 0 x).length≤20*ku 0 x:=fun k=>DE (ho.x (by rcases k with k|k<;>simp[Sm.iZ,k])) 0
  simp only[BN,uU]
  split
  ·rename_i k
   have h5:=hE (.inr k)
   simp only[List.length_append,List.length_cons,List.length_nil,mA];omega
  rename_i k6
  split
  ·rename_i k
   have h5:=hE (.inl k)
   split<;>simp only[List.length_append,List.length_cons,List.length_nil,mA]<;>omega
  ·rename_i k5
   have h4:=OM ho ib k5 k6
   dsimp only at h4
   simp only[List.length_append,List.length_cons,List.length_nil,mA];omega
theorem wV : ∀ (l:List Sm) (aN:Nat) (nest:Int) (n0:Nat),Sm.qD aN l→(Sm.dA nest n0 l).1=true→(dG aN l).length≤35*qZ l
 | [],_,_,_,_,_=>by simp[dG]
 |s::l,aN,nest,n0,h,hm=>by
  obtain⟨m1,m2,_⟩:=za hm
  simp only[Sm.qD]at h
  have h1:=Wd s aN nest n0 h.1 m1
  have h2:=wV l aN nest _ h.2 m2
  simp only[dG,qZ,List.length_append];omega
end
theorem EP {l:List ay} (h : ∀ t∈l,t.length≤8) (n:Nat) (hn:n≤1) (w:ay) (hw:w.length≤6):(if l.length=0 then([] : ay)else gf n (w++ [32]++Lib.join l [44,32]++ [59])).length≤35*tA l:=by
 unfold tA
 by_cases h0:l.length=0
 ·rw[if_pos h0,if_pos h0];simp
 ·rw [if_neg h0,if_neg h0]
  have hj:=zc id (fun _=>1) [44,32] (by decide) (l:=l) (fun a ha=>by have:=h a ha;simp only[id];omega)
  rw[List.map_id]at hj
  simp only[List.length_append,List.length_cons,List.length_nil,mA];omega
theorem S3 {f:Pc} (h:f.PC) {nest:Int} {n0:Nat} (hm:(Sm.dA nest n0 f.body).1=true):(tv f).length≤35*D6 f:=by
 have h1:=zc fJ x4 [44,32] (by decide) (l:=f.params) (fun a ha=>by
  have:=h.params a ha
  unfold fJ x4
  split<;>simp only[List.length_append,List.length_cons,List.length_nil]<;>omega)
 have h2:=EP h.vars 1 (by omega) [118,97,114] (by decide)
 have h3:=nN h.fin
 have h4:=wV f.body 1 nest n0 h.body hm
 have h5:=h.name
 have e:tv f=gf 0 ([112,114,111,99,32]++f.name++ [40]++Lib.join (f.params.map fJ) [44,32]++ [41,32,123])++(if f.vars.length=0 then([] : ay)else gf 1 ([118,97,114]++ [32]++Lib.join f.vars [44,32]++ [59]))++dG 1 f.body++gf 0 (dQ f.fin++ [125]):=rfl
 rw[e]
 unfold D6
 simp only[List.length_append,List.length_cons,List.length_nil,mA]at h2 ⊢
 omega
theorem S4 {p:Pg} (h:p.may=true) (hr:p.kG):(qb p).length≤35*p.aD:=by
 have hG:=Ix h hr
 rw[← ui]at h
 unfold Pg.zH at h
 split at h
 ·cases h
 have h1:=EP hG.globals 0 (by omega) [103,108,111,98,97,108] (by decide)
 have h2 : ∀ (l:List Pc) (n0:Nat),Pc.dA n0 l=true→(∀ f∈l,f.PC)→(lC l).length≤35*tB l:=by
  intro l
  induction l with
  |nil=>intro _ _ _;simp[lC]
  |cons f l ih=>
   intro n0 h hP
   simp only[Pc.dA]at h
   split at h
   ·cases h
   split at h
   ·cases h
   split at h
   ·cases h
   rename_i c3
   have c3:(Sm.gF 1 n0 f.body).1=true:=by simpa using c3
   have c4:=c3
   rw[(fP c3).2]at c4
   have a1:=S3 (hP f (List.mem_cons_self ..)) c4
   have a2:=ih _ h fun g m=>hP g (List.mem_cons_of_mem _ m)
   simp only[lC,tB,List.length_append];omega
 have h3:=h2 p.procs 0 h hG.procs
 have e:qb p=(if p.globals.length=0 then([] : ay)else gf 0 ([103,108,111,98,97,108]++ [32]++Lib.join p.globals [44,32]++ [59]))++lC p.procs:=rfl
 rw[e,List.length_append]
 unfold Pg.aD
 omega
open Go.Proofs
def prB:Pc:=⟨[112],[⟨[120],false⟩,⟨[121],true⟩],[],[
 ⟨5,1,[],[121],[],uS 8 (lB [121]) (lB [120]),false,[],[],[]⟩,
 ⟨6,5,[],[],[],uS 12 (lB [121]) (yV 9),false,[],[⟨7,10,[],[101],[],jY,false,[],[],[]⟩],[]⟩,
 ⟨8,9,[],[],[],lB [121],true,[],[],[]⟩],[[101]]⟩
def stB:Sm:=⟨6,5,[],[],[],uS 12 (lB [121]) (yV 9),false,[],[⟨7,10,[],[101],[],jY,false,[],[],[]⟩],[]⟩
set_option maxRecDepth 8000
open Go.Proofs
def ju:List Ar→Int
 | []=>0
 |a::l=>3+4*fV a.x 2000+ju l
def qd (s:Sm):Int:=8+2*(s.labels.length:Int)+4*fV s.x 2000+ju s.args
def gM:List It→Int
 | []=>0
 |i::l=>qd i.s+gM l
def nO:List Pm→Int
 | []=>0
 |a::l=>(if a.ref then 1 else 0)+nO l
def ze (f:Pc):Int:=6+2*(f.params.length:Int)+2*(f.fin.length:Int)+nO f.params - (if f.params.length=0 then 0 else 1)+(if f.vars.length=0 then 0 else 1+2*(f.vars.length:Int))+gM f.flat
def mV:List Pc→Int
 | []=>0
 |f::l=>ze f+mV l
def IC (p:Pg):Int:=(if p.globals.length=0 then 0 else 1+2*(p.globals.length:Int))+mV p.procs
theorem x5 (x:Ex):1≤fV x 2000∧fV x 2000≤2001:=by
 obtain⟨h1,h2,_⟩:=Iv _ x (Nat.le_refl _) 2000 (by omega)
 exact⟨h1,by omega⟩
theorem qF : ∀ l:List Ar,0≤ju l∧ju l≤9000*(l.length:Int)
 | []=>by simp[ju]
 |a::l=>by
  have:=qF l;have:=x5 a.x
  simp only[ju,List.length_cons];omega
theorem ID {s:Sm} (h:s.size≤1000000):0≤qd s∧qd s≤10000000000:=by
 have:=qF s.args;have:=x5 s.x
 have h1:=Ar.cu s.args
 have h2:s.labels.length+Ar.aT s.args≤s.size:=by cases s;simp only[Sm.size];omega
 unfold qd;omega
theorem BQ : ∀ {l:List It},(∀ i∈l,i.s.size≤1000000)→0≤gM l∧gM l≤10000000000*(l.length:Int)
 | [],_=>by simp[gM]
 |i::l,h=>by
  have:=BQ fun j m=>h j (List.mem_cons_of_mem _ m)
  have:=ID (h i (List.mem_cons_self ..))
  simp only[gM,List.length_cons];omega
theorem AV : ∀ l:List Pm,0≤nO l∧nO l≤(l.length:Int)
 | []=>by simp[nO]
 |a::l=>by
  have:=AV l
  simp only[nO,List.length_cons]
  split<;>omega
theorem S5 {s:Sm} (hs:s.size≤1000000) (st:St):aA Tryz.prog sU [.agg (bh s)] st (.int .i64 (qd s)) st:=by
 refine aA.pure ?_ (by simp[D.bN,D.ok,np]) rfl st
 obtain⟨hb0,IW⟩:=ID hs
 have ew:s.labels.length+s.x.size+Ar.aT s.args≤s.size:=by cases s;simp only[Sm.size];omega
 have e1:=fun st=>VO _ s.x (Nat.le_refl _) (cZ:=2000) (by omega) (by omega) st
 have sb:=x5 s.x
 have ab:=qF s.args
 generalize hR:qd s=R at *
 unfold qd at hR
 unfold S0
 have w1:IntKind.wrap .i64 (2*(s.labels.length:Int))=2*(s.labels.length:Int):=bC (by omega) (by omega)
 have w2:IntKind.wrap .i64 (8+2*(s.labels.length:Int))=8+2*(s.labels.length:Int):=bC (by omega) (by omega)
 have w3:IntKind.wrap .i64 (4*fV s.x 2000)=4*fV s.x 2000:=bC (by omega) (by omega)
 have w4:IntKind.wrap .i64 (8+2*(s.labels.length:Int)+4*fV s.x 2000)=8+2*(s.labels.length:Int)+4*fV s.x 2000:=bC (by omega) (by omega)
 refine aA.go Ef rfl fun B Q hB hQ=>?_
 have⟨hY,hZ,gA,gB⟩:=bu
 repeat' (first
 |simp only[go_sem,hY,hZ,gA,gB,w1,w2,w3,w4]
 |(with_reducible refine CU (e1 _) ?_)
 |(with_reducible refine aB hQ ?_;exact aU))
 refine cq 1 0 (bn.ind (ι:=List Ar×Nat×Int) (fun i=>s.args.drop i.2.1=i.1∧i.2.2+ju i.1=R∧0≤i.2.2) (fun i=>i.1.length)
  (fun i=> [(3, .int .i64 i.2.2),(17, .slice .shared 6 (s.args.map fb)),(18, .int .i64 (s.args.length:Int)),(19, .int .i64 (i.2.1:Nat))]) (fun i=>⟨[bh s],[]⟩) ?_ (s.args,0,8+2*(s.labels.length:Int)+4*fV s.x 2000) ⟨rfl,hR,by dsimp only;omega⟩)
 rintro⟨rest,k,c⟩ ⟨g1,h,g3⟩ IH
 dsimp only at g1 h g3
 cases rest with
 |nil=>
  have hY:=drop_nil g1
  simp only[ju,Int.add_zero]at h
  subst h
  repeat' (first
 |simp only[go_sem,hY,hZ,gA,gB]
 |(with_reducible refine aB hQ ?_;exact aU))
 |cons a rest=>
  obtain⟨hZ,g2,hY,g5⟩:=drop_cons g1
  have iW:=List.mem_of_getElem? hZ
  have Lm:=Ar.bJ iW
  have hln:=Ar.cu s.args
  have e2:=fun st=>VO _ a.x (Nat.le_refl _) (cZ:=2000) (by omega) (by omega) st
  have sb2:=x5 a.x
  have rb:=qF rest
  simp only[ju]at h
  have w5:IntKind.wrap .i64 ((k:Int)+1)=((k+1:Nat):Int):=by rw[bC]<;>omega
  have w6:IntKind.wrap .i64 (4*fV a.x 2000)=4*fV a.x 2000:=bC (by omega) (by omega)
  have w7:IntKind.wrap .i64 (3+4*fV a.x 2000)=3+4*fV a.x 2000:=bC (by omega) (by omega)
  have w8:IntKind.wrap .i64 (c+(3+4*fV a.x 2000))=c+(3+4*fV a.x 2000):=bC (by omega) (by omega)
  repeat' (first
 |simp only[go_sem,hY,hZ,gA,gB,w5,w6,w7,w8]
 |(with_reducible refine CU (e2 _) ?_)
 |(with_reducible refine aB hQ ?_;exact aU))
  refine cq 1 0 (IH (rest,k+1,c+(3+4*fV a.x 2000)) ⟨g2,by dsimp only;omega,by dsimp only;omega⟩ (Nat.lt_succ_self _))
theorem Zl {p:Pg} (hs:p.size≤1000000) (st:St):aA Tryz.prog vM [.agg (bY p)] st (.int .i64 (IC p)) st:=by
 refine aA.pure ?_ (by simp only[D.bN,D.ok,jP];rfl) rfl st
 have q7:Pc.aT p.procs≤1000000:=by simp only[Pg.size]at hs;omega
 have sI:=Pc.cu p.procs
 have wk:p.globals.length≤1000000:=by simp only[Pg.size]at hs;omega
 have wq : ∀ f∈p.procs,∀ i∈f.flat,i.s.size≤1000000:=by
  intro f hf i hi
  have h1:=Pc.bJ hf
  rcases vq _ hi with h|h
  ·simp at h
  ·unfold Pc.size at h1;omega
 have hfb : ∀ f∈p.procs,0≤gM f.flat∧gM f.flat≤2010000000000:=by
  intro f hf
  have h1:=BQ (wq f hf)
  have h2:f.flat.length≤201:=kF _ _ _ _ (by simp) f.body
  omega
 have hpb : ∀ f∈p.procs,0≤ze f+1∧ze f≤3000000000000:=by
  intro f hf
  have h1:=hfb f hf
  have h2:=AV f.params
  have h3:=Pc.bJ hf
  unfold Pc.size at h3
  unfold ze
  split<;>split<;>omega
 have aCo : ∀ l:List Pc,(∀ f∈l,f∈p.procs)→ -(l.length:Int)≤mV l∧mV l≤3000000000000*(l.length:Int):=by
  intro l
  induction l with
  |nil=>intro _;simp[mV]
  |cons f l ih=>
   intro h
   have:=ih fun g m=>h g (List.mem_cons_of_mem _ m)
   have:=hpb f (h f (List.mem_cons_self ..))
   simp only[mV,List.length_cons];omega
 unfold S0
 generalize hR:IC p=R
 unfold IC at hR
 have w1:IntKind.wrap .i64 (2*(p.globals.length:Int))=2*(p.globals.length:Int):=bC (by omega) (by omega)
 have w2:IntKind.wrap .i64 (1+2*(p.globals.length:Int))=1+2*(p.globals.length:Int):=bC (by omega) (by omega)
 refine aA.go Gj rfl fun B Q hB hQ=>?_
 have⟨hY,hZ,gA,gB⟩:=bu
 have key : ∀ i:List Pc×Nat×Int,(p.procs.drop i.2.1=i.1∧i.2.2+mV i.1=R∧ -(i.2.1:Int)≤i.2.2∧i.2.2≤2000001+3000000000000*(i.2.1:Int))→
  bn Tryz.prog B 82 QFT (gI 0 (jF (gS Tryz.prog B 82 O6 Q) Q))
   [(3, .int .i64 i.2.2),(20, .slice .shared 5 (p.procs.map cH)),(21, .int .i64 (p.procs.length:Int)),(22, .int .i64 (i.2.1:Nat))] ⟨[bY p],[]⟩:=by
  refine bn.ind (ι:=List Pc×Nat×Int) (fun i=>p.procs.drop i.2.1=i.1∧i.2.2+mV i.1=R∧ -(i.2.1:Int)≤i.2.2∧i.2.2≤2000001+3000000000000*(i.2.1:Int)) (fun i=>i.1.length) (fun i=> [(3, .int .i64 i.2.2),(20, .slice .shared 5 (p.procs.map cH)),(21, .int .i64 (p.procs.length:Int)),(22, .int .i64 (i.2.1:Nat))]) (fun i=>⟨[bY p],[]⟩) ?_
  rintro⟨rest,k,c⟩ ⟨g1,h,b1,b2⟩ IH
  dsimp only at g1 h b1 b2
  cases rest with
  |nil=>
   have hY:=drop_nil g1
   simp only[mV,Int.add_zero]at h
   subst h
   repeat' (first
 |simp only[go_sem,hY,hZ,gA,gB]
 | (with_reducible refine aB hQ ?_;exact aU))
  | cons f rest=>
   obtain⟨hZ,g2,hY,g5⟩:=drop_cons g1
   have iW:=List.mem_of_getElem? hZ
   have hfz:=Pc.bJ iW
   have aCp:f.params.length+f.vars.length+f.fin.length+Sm.aT f.body+1≤f.size:=by unfold Pc.size;omega
   have hfi:=hfb f iW
   have hits:=wq f iW
   have hfp:=hpb f iW
   have Nz:=AV f.params
   have eF:=fun st=>UX (f:=f) (by omega) st
   have ml:f.flat.length≤201:=kF _ _ _ _ (by simp) f.body
   simp only[mV]at h
   generalize hV:ze f=V at *
   unfold ze at hV
   have w3:IntKind.wrap .i64 ((k:Int)+1)=((k+1:Nat):Int):=by rw[bC]<;>omega
   have w4:IntKind.wrap .i64 (2*(f.params.length:Int))=2*(f.params.length:Int):=bC (by omega) (by omega)
   have w5:IntKind.wrap .i64 (6+2*(f.params.length:Int))=6+2*(f.params.length:Int):=bC (by omega) (by omega)
   have w6:IntKind.wrap .i64 (2*(f.fin.length:Int))=2*(f.fin.length:Int):=bC (by omega) (by omega)
   have w7:IntKind.wrap .i64 (6+2*(f.params.length:Int)+2*(f.fin.length:Int))=6+2*(f.params.length:Int)+2*(f.fin.length:Int):=bC (by omega) (by omega)
   have w8:IntKind.wrap .i64 (c+(6+2*(f.params.length:Int)+2*(f.fin.length:Int)))=c+(6+2*(f.params.length:Int)+2*(f.fin.length:Int)):=bC (by omega) (by omega)
   have fin : ∀ i:List It×Nat×Int,(f.flat.drop i.2.1=i.1∧i.2.2+gM i.1=c+V∧ -1000000000≤i.2.2)→
    bn Tryz.prog B 82 QFG (gI 4 (gI 1 (jF (gS Tryz.prog B 82 QFQ (jF (bn Tryz.prog B 82 QFT (gI 0 (jF (gS Tryz.prog B 82 O6 Q) Q))) (gI 0 (jF (gS Tryz.prog B 82 O6 Q) Q)))) (jF (bn Tryz.prog B 82 QFT (gI 0 (jF (gS Tryz.prog B 82 O6 Q) Q))) (gI 0 (jF (gS Tryz.prog B 82 O6 Q) Q))))))
     [(3, .int .i64 i.2.2),(20, .slice .shared 5 (p.procs.map cH)),(21, .int .i64 (p.procs.length:Int)),(22, .int .i64 (k:Nat)),(68, .slice .shared 16 (f.flat.map fN)),(69, .int .i64 (f.flat.length:Int)),(70, .int .i64 (i.2.1:Nat))] ⟨[bY p],[]⟩:=by
    refine bn.ind (ι:=List It×Nat×Int) (fun i=>f.flat.drop i.2.1=i.1∧i.2.2+gM i.1=c+V∧ -1000000000≤i.2.2) (fun i=>i.1.length) (fun i=> [(3, .int .i64 i.2.2),(20, .slice .shared 5 (p.procs.map cH)),(21, .int .i64 (p.procs.length:Int)),(22, .int .i64 (k:Nat)),(68, .slice .shared 16 (f.flat.map fN)),(69, .int .i64 (f.flat.length:Int)),(70, .int .i64 (i.2.1:Nat))]) (fun i=>⟨[bY p],[]⟩) ?_
    rintro⟨EK,j,d⟩ ⟨k1,hd,k3⟩ IH3
    dsimp only at k1 hd k3
    cases EK with
    |nil=>
     have hY:=drop_nil k1
     simp only[gM,Int.add_zero]at hd
     subst hd
     repeat' (first
 |simp only[go_sem,hY,hZ,gA,gB,w3]
 | (with_reducible refine aB hQ ?_;exact aU))
     refine cq 1 0 (IH (rest,k+1,c+V) ⟨g2,by dsimp only;omega,by dsimp only;omega,by dsimp only;omega⟩ (Nat.lt_succ_self _))
    |cons i EK=>
     obtain⟨hZ,k2,hY,k5⟩:=drop_cons k1
     have hmi:=List.mem_of_getElem? hZ
     have hb:=ID (hits i hmi)
     have hrb:=BQ (l:=EK) fun z m=>hits z (List.mem_of_mem_drop (by rw[k2];exact m))
     have et:=fun st=>S5 (hits i hmi) st
     simp only[gM]at hd
     have x1:IntKind.wrap .i64 ((j:Int)+1)=((j+1:Nat):Int):=by rw[bC]<;>omega
     have x2:IntKind.wrap .i64 (d+qd i.s)=d+qd i.s:=by rw[bC]<;>omega
     have ND:List.take 16 (fN i)=fN i:=List.take_of_length_le (by rw[aaL];exact Nat.le_refl _)
     repeat' (first
 |simp only[go_sem,hY,hZ,gA,gB,x1,x2,ND]
 |(with_reducible refine CU (et _) ?_)
 | (with_reducible refine aB hQ ?_;exact aU))
     refine cq 1 0 (IH3 (EK,j+1,d+qd i.s) ⟨k2,by dsimp only;omega,by dsimp only;omega⟩ (Nat.lt_succ_self _))
   repeat' (first
 |simp only[go_sem,hY,hZ,gA,gB,w4,w5,w6,w7,w8]
 | (with_reducible refine aB hQ ?_;exact aU))
   refine cq 2 0 (bn.ind (ι:=List Pm×Nat×Int) (fun i=>f.params.drop i.2.1=i.1∧i.2.2+nO i.1=c+(6+2*(f.params.length:Int)+2*(f.fin.length:Int))+nO f.params∧ -1000000000≤i.2.2) (fun i=>i.1.length)
    (fun i=> [(3, .int .i64 i.2.2),(5, .ptr 1 0),(20, .slice .shared 5 (p.procs.map cH)),(21, .int .i64 (p.procs.length:Int)),(22, .int .i64 (k:Nat)),(39, .slice .shared 2 (f.params.map fC)),(40, .int .i64 (f.params.length:Int)),(41, .int .i64 (i.2.1:Nat))]) (fun i=>⟨[bY p,cH f],[]⟩) ?_ (f.params,0,c+(6+2*(f.params.length:Int)+2*(f.fin.length:Int))) ⟨rfl,rfl,by dsimp only;omega⟩)
   rintro⟨ps,j,d⟩ ⟨k1,hd,k3⟩ vo
   dsimp only at k1 hd k3
   cases ps with
   | nil=>
    have hY:=drop_nil k1
    simp only[nO,Int.add_zero]at hd
    have wm:IntKind.wrap .i64 (d - 1)=d - 1:=bC (by omega) (by omega)
    have wv:IntKind.wrap .i64 (2*(f.vars.length:Int))=2*(f.vars.length:Int):=bC (by omega) (by omega)
    have wv2:IntKind.wrap .i64 (1+2*(f.vars.length:Int))=1+2*(f.vars.length:Int):=bC (by omega) (by omega)
    have wv3:IntKind.wrap .i64 (d+(1+2*(f.vars.length:Int)))=d+(1+2*(f.vars.length:Int)):=bC (by omega) (by omega)
    have wv4:IntKind.wrap .i64 (d - 1+(1+2*(f.vars.length:Int)))=d - 1+(1+2*(f.vars.length:Int)):=bC (by omega) (by omega)
    cases cp:decide ((f.params.length:Int) > 0)with
    | true=>
     have cp':f.params.length≠0:=by have:=of_decide_eq_true cp;omega
     rw[if_neg cp']at hV
     cases cv:decide ((f.vars.length:Int) > 0)with
     |true=>
      have DD:f.vars.length≠0:=by have:=of_decide_eq_true cv;omega
      rw[if_neg DD]at hV
      repeat' (first
 |simp only[go_sem,hY,hZ,gA,gB,cp,cv,wm,wv,wv2,wv4]
 |(with_reducible refine CU (eF _) ?_)
 |(with_reducible refine aB hQ ?_;exact aU))
      refine cq 1 0 (fin (f.flat,0,d - 1+(1+2*(f.vars.length:Int))) ⟨rfl,by dsimp only;omega,by dsimp only;omega⟩)
     |false=>
      have DD:f.vars.length=0:=by have:=of_decide_eq_false cv;omega
      rw[if_pos DD]at hV
      repeat' (first
 |simp only[go_sem,hY,hZ,gA,gB,cp,cv,wm]
 |(with_reducible refine CU (eF _) ?_)
 | (with_reducible refine aB hQ ?_;exact aU))
      refine cq 1 0 (fin (f.flat,0,d - 1) ⟨rfl,by dsimp only;omega,by dsimp only;omega⟩)
    | false=>
     have cp':f.params.length=0:=by have:=of_decide_eq_false cp;omega
     rw[if_pos cp']at hV
     cases cv:decide ((f.vars.length:Int) > 0)with
     |true=>
      have DD:f.vars.length≠0:=by have:=of_decide_eq_true cv;omega
      rw[if_neg DD]at hV
      repeat' (first
 |simp only[go_sem,hY,hZ,gA,gB,cp,cv,wv,wv2,wv3]
 |(with_reducible refine CU (eF _) ?_)
 |(with_reducible refine aB hQ ?_;exact aU))
      refine cq 1 0 (fin (f.flat,0,d+(1+2*(f.vars.length:Int))) ⟨rfl,by dsimp only;omega,by dsimp only;omega⟩)
     |false=>
      have DD:f.vars.length=0:=by have:=of_decide_eq_false cv;omega
      rw[if_pos DD]at hV
      repeat' (first
 |simp only[go_sem,hY,hZ,gA,gB,cp,cv]
 |(with_reducible refine CU (eF _) ?_)
 | (with_reducible refine aB hQ ?_;exact aU))
      refine cq 1 0 (fin (f.flat,0,d) ⟨rfl,by dsimp only;omega,by dsimp only;omega⟩)
   | cons a ps=>
    obtain⟨hZ,k2,hY,k5⟩:=drop_cons k1
    have rb:=AV ps
    simp only[nO]at hd
    have x1:IntKind.wrap .i64 ((j:Int)+1)=((j+1:Nat):Int):=by rw[bC]<;>omega
    have x2:IntKind.wrap .i64 (d+1)=d+1:=by rw[bC]<;>(split at hd<;>omega)
    cases hr:a.ref with
    |true=>
     rw[hr]at hd
     simp only[↓reduceIte]at hd
     repeat' (first
 |simp only[go_sem,hY,hZ,gA,gB,hr,x1,x2]
 | (with_reducible refine aB hQ ?_;exact aU))
     refine cq 2 0 (vo (ps,j+1,d+1) ⟨k2,by dsimp only;omega,by dsimp only;omega⟩ (Nat.lt_succ_self _))
    |false=>
     rw[hr]at hd
     simp only[Bool.false_eq_true,↓reduceIte]at hd
     repeat' (first
 |simp only[go_sem,hY,hZ,gA,gB,hr,x1]
 |(with_reducible refine aB hQ ?_;exact aU))
     refine cq 2 0 (vo (ps,j+1,d) ⟨k2,by dsimp only;omega,by dsimp only;omega⟩ (Nat.lt_succ_self _))
 cases cg:decide ((p.globals.length:Int) > 0)with
 |true=>
  have Ey:p.globals.length≠0:=by have:=of_decide_eq_true cg;omega
  rw[if_neg Ey]at hR
  repeat' (first
 |simp only[go_sem,hY,hZ,gA,gB,cg,w1,w2]
 |(with_reducible refine aB hQ ?_;exact aU))
  refine cq 1 0 (key (p.procs,0,1+2*(p.globals.length:Int)) ⟨rfl,hR,by dsimp only;omega,by dsimp only;omega⟩)
 |false=>
  have Ey:p.globals.length=0:=by have:=of_decide_eq_false cg;omega
  rw[if_pos Ey]at hR
  repeat' (first
 |simp only[go_sem,hY,hZ,gA,gB,cg]
 |(with_reducible refine aB hQ ?_;exact aU))
  refine cq 1 0 (key (p.procs,0,0) ⟨rfl,hR,by dsimp only;omega,by dsimp only;omega⟩)
mutual
def DF:Sm→Int
 |⟨id,kind,labels,name,proc,x,has,args,aS,aL⟩=>qd ⟨id,kind,labels,name,proc,x,has,args,aS,aL⟩+pH aS+pH aL
def pH:List Sm→Int
 | []=>0
 |s::l=>DF s+pH l
end
theorem x6 : ∀ a b:List It,gM (a++b)=gM a+gM b
 | [],b=>by simp[gM]
 |i::a,b=>by simp only[List.cons_append,gM,x6 a b];omega
mutual
theorem Zm : ∀ (s:Sm) (nest aN:Int) (aL:Bool) (n:Nat) (out:List It),nest≤12→out.length≤n→n≤200→(Sm.jU nest n s).1=true→
 ∃ new,iF nest aN aL out s=out++new∧gM new=DF s∧n+new.length=(Sm.jU nest n s).2∧(Sm.jU nest n s).2≤200
 |⟨id,kind,labels,name,proc,x,has,args,aS,e⟩,nest,aN,aL,n,out,fB,ho,hn,h=>by
  obtain⟨h1,h2,h3,h4,h5,h6⟩:=mw h
  dsimp only at h2 h4 h5 h6
  rw[h6]
  obtain⟨g1,e1⟩:=fP h4
  rw[e1]at h4 h5 ⊢
  obtain⟨g2,e2⟩:=fP h5
  rw[e2]at h5 ⊢
  obtain⟨n1,k1,k2,k3,k4⟩:=BR aS (nest+1) id false (n+1) (out++ [⟨⟨id,kind,labels,name,proc,x,has,args,aS,e⟩,nest,aN,aL⟩]) g1 (by simp;omega) h1 h4
  obtain⟨n2,j1,j2,j3,j4⟩:=BR e (nest+1) id true _ (out++ [⟨⟨id,kind,labels,name,proc,x,has,args,aS,e⟩,nest,aN,aL⟩]++n1) g2 (by simp;omega) k4 h5
  simp only[iF]
  rw[if_pos (by simpa using fB),k1,j1]
  refine⟨⟨⟨id,kind,labels,name,proc,x,has,args,aS,e⟩,nest,aN,aL⟩::(n1++n2),by simp, ?_, ?_,j4⟩
  ·simp only[gM,x6,DF,k2,j2];omega
  ·simp only[List.length_cons,List.length_append];omega
theorem BR : ∀ (l:List Sm) (nest aN:Int) (aL:Bool) (n:Nat) (out:List It),(l = []∨nest≤12)→out.length≤n→n≤200→(Sm.dA nest n l).1=true→
 ∃ new,dW nest aN aL out l=out++new∧gM new=pH l∧n+new.length=(Sm.dA nest n l).2∧(Sm.dA nest n l).2≤200
 | [],nest,aN,aL,n,out,fB,ho,hn,h=>⟨[],by simp[dW],rfl,by simp[Sm.dA],by simpa[Sm.dA]using hn⟩
 |s::l,nest,aN,aL,n,out,fB,ho,hn,h=>by
  have My:nest≤12:=fB.resolve_left (by simp)
  simp only[Sm.dA]at h ⊢
  split at h
  ·cases h
  rename_i hc
  rw[if_neg hc]
  obtain⟨n1,k1,k2,k3,k4⟩:=Zm s nest aN aL n out My ho hn (by simpa using hc)
  obtain⟨n2,j1,j2,j3,j4⟩:=BR l nest aN aL _ (out++n1) (.inr My) (by simp;omega) k4 h
  simp only[dW]
  rw[if_pos (by simp only[decide_eq_true_eq];omega),k1,j1]
  refine⟨n1++n2,by simp, ?_,by simp;omega,j4⟩
  rw[x6,k2,j2];rfl
end
theorem ac8 (s:Sm):0≤qd s:=by
 have:=qF s.args;have:=x5 s.x
 unfold qd;omega
mutual
theorem Wf : ∀ s:Sm,0≤DF s
 |⟨id,kind,labels,name,proc,x,has,args,aS,aL⟩=>by
  have:=ac8 ⟨id,kind,labels,name,proc,x,has,args,aS,aL⟩
  have:=sa aS
  have:=sa aL
  simp only[DF];omega
theorem sa : ∀ l:List Sm,0≤pH l
 | []=>by simp[pH]
 |s::l=>by
  have:=Wf s
  have:=sa l
  simp only[pH];omega
end
theorem Wg {x:Ex} (h:fW x) (hs:fV x 2000≤2000):(ku 0 x:Int)≤3*fV x 2000:=by
 obtain⟨_,_,h3⟩:=Iv _ x (Nat.le_refl _) 2000 (by omega)
 rw[h3 hs]
 have:=(VW h 0).2
 omega
theorem agH {args:List Ar} (hm : ∀ a∈args,a.ref=false→fW a.x) (h:ju args≤2000):(lT argN args:Int)≤ju args:=by
 have key : ∀ l:List Ar,(∀ a∈l,a.ref=false→fW a.x)→ju l≤2000→(lT argN l:Int)+(if l = []then 0 else 1)≤ju l:=by
  intro l
  induction l with
  |nil=>intro _ _;simp[lT,ju]
  | cons a l ih=>
   intro hm h
   simp only[ju]at h
   have hb:=qF l
   have hs:=x5 a.x
   have ih:=ih (fun b m=>hm b (List.mem_cons_of_mem _ m)) (by omega)
   have ha:(argN a:Int)+1≤3+4*fV a.x 2000:=by
    unfold argN
    split
    ·omega
    ·rename_i hr
     have:=Wg (hm a (List.mem_cons_self ..) (by simpa using hr)) (by omega)
     omega
   cases l with
   |nil=>simp only[lT,ju]at ih ⊢;simp;omega
   |cons b l=>
    rw[if_neg (by simp)]at ih ⊢
    have e:ju (a::b::l)=3+4*fV a.x 2000+ju (b::l):=rfl
    rw[e]
    simp only[lT]at ih ⊢
    omega
 have:=key args hm h
 split at this<;>omega
mutual
theorem ac9 : ∀ (s:Sm) (aN:Nat) (nest:Int) (n0:Nat),s.JO aN→(Sm.jU nest n0 s).1=true→DF s≤2000→(2*s.labels.length+uU s:Nat)≤DF s
 | ⟨id,kind,labels,name,proc,x,has,args,aS,aL⟩,aN,nest,n0,h,hm,ht=>by
  obtain⟨ho,hi,we,V1⟩:=(Dz _ _).1 h
  obtain⟨_,_,ib,mt,me,_⟩:=mw hm
  have tt:=(fP mt).2
  have te:=(fP me).2
  rw[tt]at mt te me
  rw[te]at me
  dsimp only at we V1 mt me
  have r1:=sa aS
  have r2:=sa aL
  have ab:=qF args
  have sb:=x5 x
  simp only[DF,qd]at ht ⊢
  have h1:=D8 aS (aN+1) _ _ we mt (by omega)
  have h2:=D8 aL (aN+1) _ _ V1 me (by omega)
  have hE:(Sm.iZ ⟨id,kind,labels,name,proc,x,has,args,aS,aL⟩=true)→(ku 0 x:Int)≤3*fV x 2000:=fun k=>Wg (ho.x k) (by omega)
  simp only[uU]
  split
  ·rename_i k
   have:=hE (by simp[Sm.iZ,k])
   omega
  split
  ·rename_i k
   have:=hE (by simp[Sm.iZ,k])
   split<;>omega
  ·rename_i k6 k5
   have aCq:=agH (args:=args) (fun a m=>(ho.args a m).2) (by omega)
   unfold mU
   split
   ·rename_i k;have:=hE (by simp[Sm.iZ,k]);omega
   split
   ·omega
   split
   ·rename_i k;have:=hE (by simp[Sm.iZ,k]);omega
   split
   ·omega
   split
   ·omega
   split
   ·omega
   split
   ·rename_i k
    split
    ·rename_i kh;have:=hE (by simp[Sm.iZ,k,kh]);omega
    ·omega
   ·split<;>omega
theorem D8 : ∀ (l:List Sm) (aN:Nat) (nest:Int) (n0:Nat),Sm.qD aN l→(Sm.dA nest n0 l).1=true→pH l≤2000→(qZ l:Int)≤pH l
 | [],_,_,_,_,_,_=>by simp[qZ,pH]
 |s::l,aN,nest,n0,h,hm,ht=>by
  obtain⟨m1,m2,_⟩:=za hm
  simp only[Sm.qD]at h
  simp only[pH]at ht ⊢
  have s0:=Wf s
  have r0:=sa l
  have h1:=ac9 s aN nest n0 h.1 m1 (by omega)
  have h2:=D8 l aN nest _ h.2 m2 (by omega)
  simp only[qZ];omega
end
theorem NK (l:List ay):(tA l:Int)≤(if l.length=0 then 0 else 1+2*(l.length:Int)):=by
 unfold tA
 have key : ∀ l:List ay,l≠ []→lT (fun _=>1) l+1=2*l.length:=by
  intro l
  induction l with
  |nil=>intro h;exact absurd rfl h
  | cons a l ih=>
   intro _
   cases l with
   |nil=>simp[lT]
   |cons b l=>
    have:=ih (by simp)
    simp only[lT,List.length_cons]at this ⊢
    omega
 split
 ·simp
 ·rename_i h
  have:=key l (fun e=>h (by rw[e];rfl))
  omega
theorem Wh (l:List Pm):(lT x4 l:Int)≤2*(l.length:Int)+nO l - (if l.length=0 then 0 else 1):=by
 have key : ∀ l:List Pm,l≠ []→(lT x4 l:Int)+1=2*(l.length:Int)+nO l:=by
  intro l
  induction l with
  |nil=>intro h;exact absurd rfl h
  | cons a l ih=>
   intro _
   cases l with
   |nil=>simp only[lT,x4,nO,List.length_cons,List.length_nil];split<;>simp
   |cons b l=>
    have:=ih (by simp)
    have e:nO (a::b::l)=(if a.ref then 1 else 0)+nO (b::l):=rfl
    rw[e]
    simp only[lT,x4,List.length_cons]at this ⊢
    split<;>omega
 by_cases h:l = []
 ·subst h;simp[lT,nO]
 ·have:=key l h
  have h0:l.length≠0:=fun e=>h (List.eq_nil_of_length_eq_zero e)
  rw[if_neg h0];omega
theorem NL : ∀ (l:List Pc) (n0:Nat),n0≤200→Pc.dA n0 l=true→(∀ f∈l,f.PC)→0≤mV l∧(mV l≤2000→(tB l:Int)≤mV l)
 | [],_,_,_,_=>by simp[tB,mV]
 |f::l,n0,hn,h,hP=>by
  simp only[Pc.dA]at h
  split at h
  ·cases h
  split at h
  ·cases h
  split at h
  ·cases h
  rename_i c3
  have c3:(Sm.gF 1 n0 f.body).1=true:=by simpa using c3
  have c4:=c3
  rw[(fP c3).2]at c4 h
  obtain⟨new,k1,k2,k3,k4⟩:=BR f.body 1 0 false n0 [] (.inr (by omega)) (by simp) hn c4
  have ml:f.flat=new:=by unfold Pc.flat;rw[k1];rfl
  have Lh:=sa f.body
  obtain⟨g1,g2⟩:=NL l _ k4 h fun g m=>hP g (List.mem_cons_of_mem _ m)
  have hb:=D8 f.body 1 1 n0 (hP f (List.mem_cons_self ..)).body c4
  have hv:=NK f.vars
  have hp:=Wh f.params
  have Nz:=AV f.params
  have e:ze f=6+2*(f.params.length:Int)+2*(f.fin.length:Int)+nO f.params - (if f.params.length=0 then 0 else 1)+(if f.vars.length=0 then 0 else 1+2*(f.vars.length:Int))+pH f.body:=by unfold ze;rw[ml,k2]
  simp only[mV,tB,D6,e]
  generalize (if f.params.length=0 then(0:Int)else 1)=P at *
  generalize hVV:(if f.vars.length=0 then(0:Int)else 1+2*(f.vars.length:Int))=V at *
  have hV0:0≤V:=by omega
  refine⟨by omega,fun hw=>?_⟩
  have:=hb (by omega)
  have:=g2 (by omega)
  omega
theorem ada {p:Pg} (h:p.may=true) (hr:p.kG) (ht:IC p≤2000):p.aD≤2000:=by
 have hG:=Ix h hr
 rw[← ui]at h
 unfold Pg.zH at h
 split at h
 ·cases h
 obtain⟨g1,g2⟩:=NL p.procs 0 (by omega) h hG.procs
 have hv:=NK p.globals
 unfold IC at ht
 have hv0:0≤(tA p.globals:Int):=Int.natCast_nonneg _
 have:=g2 (by omega)
 unfold Pg.aD
 omega
set_option maxRecDepth 8000
open Go.Proofs
theorem Kq {p:Pg} (hr:p.kG) (s:St):aA Tryz.prog wh [.agg (bY p)] s (.bool true) s:=by
 refine aA.pure ?_ (by simp[D.bN,D.ok,jP]) rfl s
 have h1:=fun s=>VM s
 have h2:=fun s=>agm p s
 unfold S0
 rcases Bool.eq_false_or_eq_true (decide (p.D4≤20000))with hw|hw
 case inr=>
  simp only[hw]at h2
  refine aA.go ng rfl fun B Q hB hQ=>?_
  have⟨hY,hZ,gA,gB⟩:=bu
  repeat' (first
 |simp only[go_sem,hY,hZ,gA,gB]
 |(with_reducible refine CU (h1 _) ?_)
 |(with_reducible refine CU (h2 _) ?_)
 |(with_reducible refine aB hQ ?_;exact aU))
 simp only[hw]at h2
 obtain⟨ew,abb⟩:=SF (of_decide_eq_true hw)
 have ho:p.my:=⟨abb,by omega⟩
 have h3:=fun s=>VI ho s
 rcases Bool.eq_false_or_eq_true (p.check.1==0)with b1|b1
 case inr=>
  refine aA.go ng rfl fun B Q hB hQ=>?_
  have⟨hY,hZ,gA,gB⟩:=bu
  repeat' (first
 |simp only[go_sem,hY,hZ,gA,gB,b1,Bool.not_false]
 |(with_reducible refine CU (h1 _) ?_)
 |(with_reducible refine CU (h2 _) ?_)
 |(with_reducible refine CU (h3 _) ?_)
 |(with_reducible refine aB hQ ?_;exact aU))
 have hm:p.may=true:=by
  rcases Bool.eq_false_or_eq_true p.may with h|h
  ·exact h
  ·have:p.check=(1,0):=by unfold Pg.check;rw [Nb h];rfl
   rw[this]at b1;cases b1
 have hT:=fun s=>Zl (p:=p) (by omega) s
 rcases Bool.eq_false_or_eq_true (decide (IC p > 2000))with c3|c3
 ·refine aA.go ng rfl fun B Q hB hQ=> ?_
  have⟨hY,hZ,gA,gB⟩:=bu
  repeat' (first
 |simp only[go_sem,hY,hZ,gA,gB,b1,c3,Bool.not_true]
 |(with_reducible refine CU (h1 _) ?_)
 |(with_reducible refine CU (h2 _) ?_)
 |(with_reducible refine CU (h3 _) ?_)
 |(with_reducible refine CU (hT _) ?_)
 |(with_reducible refine aB hQ ?_;exact aU))
 have ht:=ada hm hr (by simp only[decide_eq_false_iff_not]at c3;omega)
 have hl:=S4 hm hr
 have hx:=S2 hm hr (by omega) (by omega) (by omega)
 have hP:=fun s=>Zj (p:=p) (Sq abb) (fun h=>Ix hm hr) (by omega) s
 rw[if_pos hm]at hP
 have h4:=fun s=>Py hx (fun _=>⟨hm,rfl⟩) (by omega) (by omega) s
 have e:BK p 0 0=(p,0,0):=by unfold BK;rw[b1];rfl
 rw[e]at h4
 have he:=fun s=>aup (a:=p) (b:=p) (by omega) s
 rw[Pg.beq_refl]at he
 have z2:((0:Int)==0)=true:=rfl
 clear hx hl
 generalize qb p=T at *
 refine aA.go ng rfl fun B Q hB hQ=>?_
 have⟨hY,hZ,gA,gB⟩:=bu
 repeat' (first
 |simp only[go_sem,hY,hZ,gA,gB,b1,c3,z2,n4,Bool.not_true]
 |(with_reducible refine CU (h1 _) ?_)
 |(with_reducible refine CU (h2 _) ?_)
 |(with_reducible refine CU (h3 _) ?_)
 |(with_reducible refine CU (hT _) ?_)
 |(with_reducible refine CU (hP _) ?_)
 |(with_reducible refine CU (h4 _) ?_)
 |(with_reducible refine CU (he _) ?_)
 |(with_reducible refine aB hQ ?_;exact aU))
open Go.RowKit Go.ChangeShapes Go.WideShapes
def IE (w:World) (b o:Nat):Option Value:=
 match w.cell? ⟨b,o,none⟩with
 |some v=>if v.oneCell'=true then some v else none
 |none=>none
theorem PI {w:World} (b o:Nat) (v:Value) (h:IE w b o=some v):w.cell? ⟨b,o,none⟩=some v∧v.oneCell'=true:=by
 unfold IE at h
 split at h
 ·split at h
  ·cases h;exact⟨‹_›, ‹_›⟩
  ·cases h
 ·cases h
def DG (w:World):Map:=⟨IE w,fun _=>(0, .any),fun _=>none⟩
theorem Kept.sameAt {w w':World} (h:Kept w w') {p:MemPlace} (hp:p.block<w.heap.size):w.sameAt w' p:=by
 have hk:=h.1.2.2 p.block hp
 cases p with
 | cell b off=>
  simp only[MemPlace.block]at hk hp
  simp only[World.sameAt,World.cell?]
  split at hk
  ·rename_i c t fr c' t' fr' e e'
   rw[e,e']
   simp only[hk.2.2.2 off (fun f=>f)]
  ·rename_i es clock CH agI e e'
   rw[e,e']
  ·rw[hk]
 | map b=>
  simp only[MemPlace.block]at hk hp
  simp only[World.sameAt]
  split at hk
  ·rename_i c t fr c' t' fr' e e'
   rw[e,e']
   obtain⟨rfl,rfl,hs,hc⟩:=hk
   have:c'=c:=by
    apply Array.ext_getElem?
    intro i
    exact hc i (fun f=>f)
   rw[this]
  ·rename_i es clock CH agI e e'
   rcases hk with f|⟨rfl,rfl⟩
   ·exact f.elim
   ·rw[e,e']
  ·exact hk
section
variable {P:Program} {H:Type} {enc:TypeId×Value→H} {T:TypeId→Prop}
theorem Hz (K:Kids P T) (hz : ∀ {t e:TypeId},T t→P.underlying t=some (.slice e)→0<P.cellsOf e) {W W':World} (hk:Kept W W') {sp:Nat→Bool} :
 ∀ {ts:List TypeId} {vs:List Value} {ds:List (DataW H)} {ps:List MemPlace},(∀ t∈ts,T t)→(∀ p∈ps,p.block<W.heap.size)→(∀ p∈ps,sp p.block=true)→
  DataW.TrodAll enc P W 0 (fun _=>true) true ts vs ds ps→DataW.TrodAll enc P W' 0 sp true ts vs ds ps
 | [],[],[],_,_,_,_,h=>h
 |t::ts,v::vs,d::ds,ps,hT,hY,hs,⟨p,q,⟨n,h1⟩,h2,e⟩=>by
  subst e
  refine⟨p,q,⟨n,DataW.trod_stays K hz (fun f=>by cases f) (hT t (List.mem_cons_self ..)) h1 (fun x hx=>hk.sameAt (hY x (List.mem_append_left _ hx))) (fun x hx=>hs x (List.mem_append_left _ hx))⟩, ?_,rfl⟩
  exact Hz K hz hk (fun t ht=>hT t (List.mem_cons_of_mem _ ht)) (fun x hx=>hY x (List.mem_append_right _ hx)) (fun x hx=>hs x (List.mem_append_right _ hx)) h2
 | [],[],_::_,_,_,_,_,h=>h.elim
 | [],_::_,_,_,_,_,_,h=>h.elim
 |_::_,[],_,_,_,_,_,h=>h.elim
 |_::_,_::_,[],_,_,_,_,h=>h.elim
theorem Zn (K:Kids P T) (hz : ∀ {t e:TypeId},T t→P.underlying t=some (.slice e)→0<P.cellsOf e) {f:Func} {s:ChangeSpec} {apart fresh handsOn again:Bool} {tb:TypeId} {W W':World} {args:Array Value} {ds gs:List (DataW H)} {before:List MemPlace}
 (hT : ∀ t∈f.params.toList,T t) (hb:P.underlying tb=some .bool) (hr:f.resultTypes = #[tb]) (Hh:s.vars = []) (hW:DataW.Whole enc P f.params.toList s.vars apart W args.toList ds gs before)
 (wo:s.fn H (ds++gs) = {results:= [.lit (.bool true)],args:=ds}) (hk:Kept W W'):s.post enc P f apart fresh handsOn again W args (.bool true) W':=by
 have hW':=hW
 have hY : ∀ p∈before,p.block<W.heap.size:=fun p hp=>hW.lt p hp
 obtain⟨p,q,hA,hV,rfl,hfz,hnd⟩:=hW
 rw[Hh]at hV
 obtain⟨rfl,rfl⟩:=trodVars_none hV
 simp only[List.append_nil]at hY wo
 refine Nf (pa:=p) (pv:= []) hW' (fun b sp hd=>?_) (fun sp EA=>?_) (fun sp EA=>?_) rfl hk (ok_one hr rfl (okWide_bool_mk hb _))
 ·rw [List.append_nil,wo,hr]
  exact trodAll_cons_mk (shut_bool hb _) trodAll_mk0
 ·rw [List.append_nil,wo]
  simp only[List.append_nil]at EA
  exact Hz K hz hk hT hY EA hA
 ·rw [List.append_nil,wo,Hh]
  rfl
theorem adb {f:FuncId} {args:List D} {ik:Array Value} {w:World} (h:fh P f args S0 fun d _=>d = .bool true) (hl:ik.size=args.length)
 (ha : ∀ (i:Nat) (d:D) (v:Value),args[i]? = some d→ik[i]? = some v→RD (DG w) S0 d v) (mY:SL w):Calls P f ik w fun e w'=>e = .returned (.bool true)∧Kept w w':=
 VJ (G:=IE w) h PI hl ha mY
end
end Go.Abs
namespace Go.Abs
open Go.RowKit Go.ChangeShapes Go.WideShapes
end Go.Abs
namespace Go.Abs
open Go.RowKit Go.ChangeShapes Go.WideShapes
def fE (W:World) (ds:List D) (cs:List Value):Prop:=ds.length=cs.length∧(∀ (i:Nat) (d:D) (v:Value),ds[i]? = some d→cs[i]? = some v→RD (DG W) S0 d v)∧∀ v∈cs,v.oneCell'=true
theorem fE.one {W:World} {d:D} {v:Value} (h:RD (DG W) S0 d v) (hv:v.oneCell'=true):fE W [d] [v]:=by
 refine⟨rfl,fun i d' v' h1 h2=>?_,fun u hu=>by simp at hu;subst hu;exact hv⟩
 cases i with
 |zero=>simp at h1 h2;subst h1 h2;exact h
 |succ i=>simp at h1
theorem fE.app {W:World} {ds pW:List D} {cs kA:List Value} (h:fE W ds cs) (h':fE W pW kA):fE W (ds++pW) (cs++kA):=by
 obtain⟨a1,a2,a3⟩:=h
 obtain⟨b1,b2,b3⟩:=h'
 refine⟨by simp[a1,b1],fun i d v h1 h2=>?_,fun v hv=>?_⟩
 ·by_cases hi:i<ds.length
  ·rw [List.getElem?_append_left hi]at h1
   rw[List.getElem?_append_left (by omega)]at h2
   exact a2 i d v h1 h2
  ·rw [List.getElem?_append_right (by omega)]at h1
   rw[List.getElem?_append_right (by omega), ← a1]at h2
   exact b2 _ d v h1 h2
 ·rcases List.mem_append.1 hv with hv | hv
  ·exact a3 v hv
  ·exact b3 v hv
theorem fE.at {W:World} {ds pW:List D} {cs:List Value} {o n:Nat} (h:fE W ds ((cs.drop o).take n)) (h':fE W pW (cs.drop (o+n))):fE W (ds++pW) (cs.drop o):=by
 have e:cs.drop o=(cs.drop o).take n++cs.drop (o+n):=by rw[← List.drop_drop,List.take_append_drop]
 rw[e]
 exact h.app h'
theorem fE.end {W:World} {cs:List Value} {o:Nat} (h:cs.length=o):fE W [] (cs.drop o):=by
 rw[← h,List.drop_length]
 exact⟨rfl,fun i d v h=>by simp at h,fun v hv=>by cases hv⟩
section
variable {H:Type} {enc:TypeId×Value→H} {P:Program} {W:World} {sp:Nat→Bool}
def structOf (P:Program) (t:TypeId):List (TypeId×Nat):=
 match P.underlying t with
 |some (.struct fs)=>fs.toList.map fun f=>(f.type,f.offset)
 |_=> []
theorem ny {t:TypeId} {l:List (TypeId×Nat)} {fuel:Nat} {cs:List Value} {x:DataW H×List MemPlace} (h:structOf P t=l) (eB:l≠ []) (ht:DataW.trod enc P W 0 sp true fuel t cs=some x) :
 ∃ n,fuel=n+1∧cs.length=P.cellsOf t∧∀ (i:Nat) (f:TypeId×Nat),l[i]? = some f→∃ y,DataW.trod enc P W 0 sp true n f.1 ((cs.drop f.2).take (P.cellsOf f.1))=some y:=by
 unfold structOf at h
 split at h
 ·rename_i fs hu
  obtain⟨xs,n,e,_,hl,hlen,hf⟩:=DataW.trod_struct hu ht
  refine⟨n,e,hl,fun i f hi=>?_⟩
  subst h
  rw[List.getElem?_map,Option.map_eq_some_iff]at hi
  obtain⟨g,hg,rfl⟩:=hi
  have Es:fs[i]? = some g:=by simpa using hg
  have hi:i<xs.length:=by rw[hlen];exact(Array.getElem?_eq_some_iff.1 Es).1
  exact⟨xs[i],by rw[hf i g Es,List.getElem?_eq_getElem hi]⟩
 ·exact absurd h.symm eB
theorem Kr {t:TypeId} {l:List (TypeId×Nat)} (h:structOf P t=l) (eB:l≠ []) : ∃ fs,P.underlying t=some (.struct fs):=by
 unfold structOf at h
 split at h
 ·exact⟨_, ‹_›⟩
 ·exact absurd h.symm eB
theorem ER {α:Type} {Q:Nat→α→Prop} : ∀ n,(∀ i,i<n→∃ y,Q i y)→∃ ys:List α,ys.length=n∧∀ i y,ys[i]? = some y→Q i y
 | 0,_=>⟨[],rfl,fun i y h=>by simp at h⟩
 | n+1,h=>by
  obtain⟨ys,h1,h2⟩:=ER n fun i hi=>h i (by omega)
  obtain⟨y,hy⟩:=h n (by omega)
  refine⟨ys++ [y],by simp[h1],fun i z hz=>?_⟩
  by_cases hi:i<ys.length
  ·rw[List.getElem?_append_left hi]at hz;exact h2 i z hz
  ·rw [List.getElem?_append_right (by omega)]at hz
   have:i - ys.length=0:=by
    rcases Nat.eq_zero_or_pos (i - ys.length)with h|h
    ·exact h
    ·rw[List.getElem?_eq_none (by simp only[List.length_cons,List.length_nil];omega)]at hz;cases hz
   rw[this]at hz
   simp at hz
   subst hz
   have:i=n:=by omega
   subst this
   exact hy
theorem qG {α:Type} (en:α→List D) (good:α→Prop) {z:Nat} {t e:TypeId} {fuel:Nat} {cs:List Value} {x:DataW H×List MemPlace} (ht:P.underlying t=some (.slice e)) (hz:P.cellsOf e=z) (hz0:0<z) (hen : ∀ y,(en y).length=z)
 (hel : ∀ n<fuel,∀ cs x,DataW.trod enc P W 0 sp true n e cs=some x→∃ y,fE W (en y) cs∧good y) (h:DataW.trod enc P W 0 sp true fuel t cs=some x) :
 ∃ ys:List α,fE W [.slice .shared z (ys.map en)] cs∧∀ y∈ys,good y:=by
 rcases DataW.trod_slice ht h with ⟨rfl,_⟩|⟨a,len,cap,elems,rest,n,hn,rfl,_,hb,hl,hm,hlen,yl,_,_⟩
 ·exact⟨[],fE.one (.kR _ _ _ rfl trivial) rfl,fun y hy=>by cases hy⟩
 ·by_cases h0:len=0
  ·subst h0
   exact⟨[],fE.one (.oV _ _ _) rfl,fun y hy=>by cases hy⟩
  ·obtain⟨ys,hys,zo⟩:=ER (Q:=fun i y=>good y∧∃ kA,W.cells? 0 (a.add (i*z)) z=some kA∧fE W (en y) kA) len fun i hi=>by
    have hc:=yl i hi
    rw[List.getElem?_eq_getElem (by omega),hz,Option.bind_eq_some_iff]at hc
    obtain⟨kA,h1,h2⟩:=hc
    obtain⟨y,h3,h4⟩:=hel n (by omega) _ _ h2
    exact⟨y,h4,kA,h1,h3⟩
   have cell : ∀ i y,ys[i]? = some y→∀ (j:Nat) d,(en y)[j]? = some d→∃ v,W.cell? ((a.add (i*z)).add j)=some v∧RD (DG W) S0 d v∧v.oneCell'=true:=by
    intro i y hy j d hd
    obtain⟨_,kA,h1,h2,h3,h4⟩:=zo i y hy
    obtain⟨_,k1,k2⟩:=World.cells?_some h1
    have hj:j<z:=by rw[← hen y];exact(List.getElem?_eq_some_iff.1 hd).1
    have hv:kA[j]? = some kA[j]:=List.getElem?_eq_getElem (by omega)
    exact⟨kA[j],by rw[k2 j hj,hv],h3 j d _ hd hv,h4 _ (List.getElem_mem _)⟩
   obtain⟨b,off,spot⟩:=a
   have ajm:spot=none:=by
    have hy:ys[0]? = some (ys[0]'(by omega)):=List.getElem?_eq_getElem (by omega)
    obtain⟨d,hd⟩ : ∃ d,(en (ys[0]'(by omega)))[0]? = some d:=⟨_,List.getElem?_eq_getElem (show 0<(en (ys[0]'(by omega))).length by rw[hen];exact hz0)⟩
    obtain⟨v,hv,_⟩:=cell 0 _ hy 0 _ hd
    have:=World.cell?_spot hv
    simpa[Addr.add]using this
   subst ajm
   have e:(ys.map en).length=len:=by simp[hys]
   have:=RD.slice (M:=DG W) (s:=S0) .shared z (ys.map en) b off cap (by omega) (fun row hr=>by obtain⟨y,_,rfl⟩:=List.mem_map.1 hr;exact hen y)
    (fun i row j d h1 h2=>by
     rw[List.getElem?_map,Option.map_eq_some_iff]at h1
     obtain⟨y,h1,rfl⟩:=h1
     obtain⟨v,hv,_,h4⟩:=cell i y h1 j d h2
     rw[add_plain,add_plain]at hv
     refine⟨v, ?_⟩
     show IE W b (off+(i*z+j))=_
     unfold IE
     rw[show off+(i*z+j)=off+i*z+j by omega,hv]
     simp[h4])
    (fun i row j d u h1 h2 hu=>by
     rw[List.getElem?_map,Option.map_eq_some_iff]at h1
     obtain⟨y,h1,rfl⟩:=h1
     obtain⟨v,hv,h3,h4⟩:=cell i y h1 j d h2
     rw[add_plain,add_plain]at hv
     obtain⟨hu,_⟩:=PI _ _ _ hu
     rw[show off+(i*z+j)=off+i*z+j by omega,hv]at hu
     cases hu
     exact h3) trivial
   rw[e]at this
   refine⟨ys,fE.one this rfl,fun y hy=>?_⟩
   obtain⟨i,hi⟩:=List.getElem?_of_mem hy
   exact(zo i y hi).1
theorem HA {t:TypeId} {fuel:Nat} {cs:List Value} {x:DataW H×List MemPlace} (ht:P.underlying t=some (.int .i64)) (h:DataW.trod enc P W 0 sp true fuel t cs=some x) : ∃ n:Int,fE W [.int .i64 n] cs∧n≤9223372036854775807∧ -9223372036854775808≤n:=by
 obtain⟨n,rfl,_,hw⟩:=DataW.trod_int ht h
 simp[Lit.wf,IntKind.min,IntKind.max,IntKind.signed,IntKind.bits]at hw
 exact⟨n,fE.one (.int _ _) rfl,by omega,by omega⟩
theorem IF {t:TypeId} {fuel:Nat} {cs:List Value} {x:DataW H×List MemPlace} (ht:P.underlying t=some .bool) (h:DataW.trod enc P W 0 sp true fuel t cs=some x) : ∃ b:Bool,fE W [.bool b] cs:=by
 obtain⟨n,rfl,_⟩:=DataW.trod_bool ht h
 exact⟨n,fE.one (.bool _) rfl⟩
theorem x7 {t:TypeId} {fuel:Nat} {cs:List Value} {x:DataW H×List MemPlace} (ht:P.underlying t=some .string) (h:DataW.trod enc P W 0 sp true fuel t cs=some x) : ∃ s:ay,fE W (encStr s) cs∧s.length≤maxLen:=by
 obtain⟨s,rfl,_,hm⟩:=DataW.trod_string ht h
 obtain⟨⟨l⟩⟩:=s
 exact⟨l,fE.one (.str l) rfl,hm⟩
theorem ajn {tE tI tN tS tK:TypeId} (hE:structOf P tE = [(tI,0),(tN,1),(tS,2),(tK,3)]) (hEc:P.cellsOf tE=4) (hI:P.underlying tI=some (.int .i64)) (hN:P.underlying tN=some (.int .i64)) (hS:P.underlying tS=some .string) (hK:P.underlying tK=some (.slice tE))
 (cI:P.cellsOf tI=1) (cN:P.cellsOf tN=1) (cS:P.cellsOf tS=1) (cK:P.cellsOf tK=1) :
 ∀ (fuel:Nat) (cs:List Value) (x:DataW H×List MemPlace),DataW.trod enc P W 0 sp true fuel tE cs=some x→∃ y:Ex,fE W (bx y) cs∧y.kG:=by
 intro fuel
 induction fuel using Nat.strongRecOn with
 | _ fuel ih=>
  intro cs x h
  obtain⟨n,rfl,hl,hf⟩:=ny hE (by simp) h
  obtain⟨y0,h0⟩:=hf 0 _ rfl
  obtain⟨y1,h1⟩:=hf 1 _ rfl
  obtain⟨y2,h2⟩:=hf 2 _ rfl
  obtain⟨y3,h3⟩:=hf 3 _ rfl
  dsimp only at h0 h1 h2 h3
  rw[cI]at h0
  rw[cN]at h1
  rw[cS]at h2
  rw[cK]at h3
  obtain⟨op,r0,_⟩:=HA hI h0
  obtain⟨m,r1,hm,_⟩:=HA hN h1
  obtain⟨s,r2,_⟩:=x7 hS h2
  obtain⟨ks,r3,hg⟩:=qG (W:=W) bx Ex.kG hK hEc (by decide) ZY (fun k hk cs x hx=>ih k (by omega) cs x hx) h3
  refine⟨⟨op,m,s,ks⟩, ?_,hm, ?_⟩
  ·have:=r0.at (r1.at (r2.at (r3.at (fE.end (by rw [hl,hEc])))))
   rw[gv]
   simpa[encStr]using this
  ·clear r3
   induction ks with
   |nil=>exact trivial
   |cons k ks ihk=>exact⟨hg k (by simp),ihk fun y hy=>hg y (by simp[hy])⟩
theorem fE.agg {ds:List D} {v:Value} (h:fE W ds v.cells.toList) (hv : ∃ vs,v = .agg vs):RD (DG W) S0 (.agg ds) v:=by
 obtain⟨vs,rfl⟩:=hv
 obtain⟨h1,h2,h3⟩:=h
 have e:(Value.agg vs).cells=vs:=rfl
 rw[e]at h1 h2 h3
 refine .agg ds vs (by simpa using h1) (fun v hv=>h3 v (by simpa using hv)) fun i d v hd hv=>h2 i d v hd (by simpa using hv)
end
end Go.Abs
namespace Go.Abs
open Go.Proofs Go.RowKit Go.ChangeShapes Go.WideShapes
section
variable {H:Type} {enc:TypeId×Value→H} {W:World} {sp:Nat→Bool}
theorem Wi (fuel:Nat) (cs:List Value) (x:DataW H×List MemPlace) (h:DataW.trod enc Tryz.prog W 0 sp true fuel 50 cs=some x) : ∃ y:Ex,fE W (bx y) cs∧y.kG:=
 ajn (tE:=50) (tI:=3) (tN:=2) (tS:=9) (tK:=48) (by kernel_rfl) (by kernel_rfl) (by kernel_rfl) (by kernel_rfl) (by kernel_rfl) (by kernel_rfl) (by kernel_rfl) (by kernel_rfl) (by kernel_rfl) (by kernel_rfl) _ _ _ h
theorem ade:Tryz.prog.underlying 22=some (.slice 9):=by kernel_rfl
theorem AW:Tryz.prog.underlying 9=some .string:=by kernel_rfl
theorem Wj:Tryz.prog.underlying 3=some (.int .i64):=by kernel_rfl
theorem IG:Tryz.prog.underlying 4=some .bool:=by kernel_rfl
theorem DH:Tryz.prog.cellsOf 9=1:=by kernel_rfl
theorem agO:Tryz.prog.cellsOf 3=1:=by kernel_rfl
theorem II:Tryz.prog.cellsOf 4=1:=by kernel_rfl
theorem IJ:Tryz.prog.cellsOf 22=1:=by kernel_rfl
theorem abd:Tryz.prog.cellsOf 50=4:=by kernel_rfl
theorem BS {fuel:Nat} {cs:List Value} {x:DataW H×List MemPlace} (h:DataW.trod enc Tryz.prog W 0 sp true fuel 22 cs=some x) : ∃ l:List ay,fE W [.slice .shared 1 (l.map encStr)] cs:=by
 obtain⟨l,h,_⟩:=qG (W:=W) encStr (fun _=>True) ade DH (by decide) (fun _=>rfl) (fun k hk cs x hx=>by
  obtain⟨s,hs,_⟩:=x7 AW hx
  exact⟨s,hs,trivial⟩) h
 exact⟨l,h⟩
theorem agP {fuel:Nat} {cs:List Value} {x:DataW H×List MemPlace} (h:DataW.trod enc Tryz.prog W 0 sp true fuel 42 cs=some x) : ∃ y:Pm,fE W (fC y) cs:=by
 obtain⟨n,rfl,hl,hf⟩:=ny (l:= [(9,0),(4,1)]) (by kernel_rfl) (by simp) h
 have hc:Tryz.prog.cellsOf 42=2:=by kernel_rfl
 obtain⟨y0,h0⟩:=hf 0 _ rfl
 obtain⟨y1,h1⟩:=hf 1 _ rfl
 dsimp only at h0 h1
 rw[DH]at h0
 rw[II]at h1
 obtain⟨s,r0,_⟩:=x7 AW h0
 obtain⟨b,r1⟩:=IF IG h1
 refine⟨⟨s,b⟩, ?_⟩
 have:=r0.at (r1.at (fE.end (by rw[hl,hc])))
 simpa[encStr,fC]using this
theorem agQ {fuel:Nat} {cs:List Value} {x:DataW H×List MemPlace} (h:DataW.trod enc Tryz.prog W 0 sp true fuel 123 cs=some x) : ∃ y:Ar,fE W (fb y) cs∧y.x.kG:=by
 obtain⟨n,rfl,hl,hf⟩:=ny (l:= [(4,0),(9,1),(50,2)]) (by kernel_rfl) (by simp) h
 have hc:Tryz.prog.cellsOf 123=6:=by kernel_rfl
 obtain⟨y0,h0⟩:=hf 0 _ rfl
 obtain⟨y1,h1⟩:=hf 1 _ rfl
 obtain⟨y2,h2⟩:=hf 2 _ rfl
 dsimp only at h0 h1 h2
 rw[II]at h0
 rw[DH]at h1
 rw[abd]at h2
 obtain⟨b,r0⟩:=IF IG h0
 obtain⟨s,r1,_⟩:=x7 AW h1
 obtain⟨e,r2,hr⟩:=Wi _ _ _ h2
 refine⟨⟨b,s,e⟩, ?_,hr⟩
 have:=r0.at (r1.at (r2.at (fE.end (by rw[hl,hc]))))
 rw[gv]at this
 simpa[encStr,fb]using this
theorem BT : ∀ {l:List Sm},(∀ s∈l,s.kG)→Sm.pU l
 | [],_=>trivial
 |s::l,h=>⟨h s (List.mem_cons_self ..),BT fun t m=>h t (List.mem_cons_of_mem _ m)⟩
theorem agR : ∀ (fuel:Nat) (cs:List Value) (x:DataW H×List MemPlace),DataW.trod enc Tryz.prog W 0 sp true fuel 53 cs=some x→∃ y:Sm,fE W (bh y) cs∧y.kG:=by
 intro fuel
 induction fuel using Nat.strongRecOn with
 |_ fuel ih=>
  intro cs x h
  obtain⟨n,rfl,hl,hf⟩:=ny (l:= [(3,0),(3,1),(22,2),(9,3),(9,4),(50,5),(4,9),(51,10),(44,11),(44,12)]) (by kernel_rfl) (by simp) h
  have hc:Tryz.prog.cellsOf 53=13:=by kernel_rfl
  have ca:Tryz.prog.cellsOf 51=1:=by kernel_rfl
  have kA:Tryz.prog.cellsOf 44=1:=by kernel_rfl
  have ua:Tryz.prog.underlying 51=some (.slice 123):=by kernel_rfl
  have us:Tryz.prog.underlying 44=some (.slice 53):=by kernel_rfl
  have ca6:Tryz.prog.cellsOf 123=6:=by kernel_rfl
  obtain⟨y0,h0⟩:=hf 0 _ rfl
  obtain⟨y1,h1⟩:=hf 1 _ rfl
  obtain⟨y2,h2⟩:=hf 2 _ rfl
  obtain⟨y3,h3⟩:=hf 3 _ rfl
  obtain⟨y4,h4⟩:=hf 4 _ rfl
  obtain⟨y5,h5⟩:=hf 5 _ rfl
  obtain⟨y6,h6⟩:=hf 6 _ rfl
  obtain⟨y7,h7⟩:=hf 7 _ rfl
  obtain⟨y8,h8⟩:=hf 8 _ rfl
  obtain⟨y9,h9⟩:=hf 9 _ rfl
  dsimp only at h0 h1 h2 h3 h4 h5 h6 h7 h8 h9
  rw[agO]at h0 h1
  rw[IJ]at h2
  rw[DH]at h3 h4
  rw[abd]at h5
  rw[II]at h6
  rw[ca]at h7
  rw[kA]at h8 h9
  obtain⟨id,r0,_⟩:=HA Wj h0
  obtain⟨kind,r1,_⟩:=HA Wj h1
  obtain⟨labels,r2⟩:=BS h2
  obtain⟨name,r3,_⟩:=x7 AW h3
  obtain⟨proc,r4,_⟩:=x7 AW h4
  obtain⟨e,r5,hr⟩:=Wi _ _ _ h5
  obtain⟨b,r6⟩:=IF IG h6
  obtain⟨args,r7,ha⟩:=qG (W:=W) fb (fun a=>a.x.kG) ua ca6 (by decide) (fun _=>rfl) (fun k hk cs x hx=>agQ hx) h7
  obtain⟨aS,r8,ht⟩:=qG (W:=W) bh Sm.kG us hc (by decide) Kw (fun k hk cs x hx=>ih k (by omega) cs x hx) h8
  obtain⟨aL,r9,he⟩:=qG (W:=W) bh Sm.kG us hc (by decide) Kw (fun k hk cs x hx=>ih k (by omega) cs x hx) h9
  refine⟨⟨id,kind,labels,name,proc,e,b,args,aS,aL⟩, ?_,hr,ha,BT ht,BT he⟩
  have:=r0.at (r1.at (r2.at (r3.at (r4.at (r5.at (r6.at (r7.at (r8.at (r9.at (fE.end (by rw[hl,hc])))))))))))
  rw[gv]at this
  rw[dF]
  simpa[encStr]using this
theorem agS {fuel:Nat} {cs:List Value} {x:DataW H×List MemPlace} (h:DataW.trod enc Tryz.prog W 0 sp true fuel 46 cs=some x) : ∃ y:Pc,fE W (cH y) cs∧Sm.pU y.body:=by
 obtain⟨n,rfl,hl,hf⟩:=ny (l:= [(9,0),(43,1),(22,2),(44,3),(22,4)]) (by kernel_rfl) (by simp) h
 have hc:Tryz.prog.cellsOf 46=5:=by kernel_rfl
 have cp:Tryz.prog.cellsOf 43=1:=by kernel_rfl
 have kA:Tryz.prog.cellsOf 44=1:=by kernel_rfl
 have up:Tryz.prog.underlying 43=some (.slice 42):=by kernel_rfl
 have us:Tryz.prog.underlying 44=some (.slice 53):=by kernel_rfl
 have cp2:Tryz.prog.cellsOf 42=2:=by kernel_rfl
 have auK:Tryz.prog.cellsOf 53=13:=by kernel_rfl
 obtain⟨y0,h0⟩:=hf 0 _ rfl
 obtain⟨y1,h1⟩:=hf 1 _ rfl
 obtain⟨y2,h2⟩:=hf 2 _ rfl
 obtain⟨y3,h3⟩:=hf 3 _ rfl
 obtain⟨y4,h4⟩:=hf 4 _ rfl
 dsimp only at h0 h1 h2 h3 h4
 rw[DH]at h0
 rw[cp]at h1
 rw[IJ]at h2 h4
 rw[kA]at h3
 obtain⟨name,r0,_⟩:=x7 AW h0
 obtain⟨ps,r1,_⟩:=qG (W:=W) fC (fun _=>True) up cp2 (by decide) (fun _=>rfl) (fun k hk cs x hx=>by
  obtain⟨y,hy⟩:=agP hx
  exact⟨y,hy,trivial⟩) h1
 obtain⟨vars,r2⟩:=BS h2
 obtain⟨body,r3,hb⟩:=qG (W:=W) bh Sm.kG us auK (by decide) Kw (fun k hk cs x hx=>agR k cs x hx) h3
 obtain⟨fin,r4⟩:=BS h4
 refine⟨⟨name,ps,vars,body,fin⟩, ?_,BT hb⟩
 have:=r0.at (r1.at (r2.at (r3.at (r4.at (fE.end (by rw[hl,hc]))))))
 simpa[encStr,cH]using this
theorem agT {fuel:Nat} {cs:List Value} {x:DataW H×List MemPlace} (h:DataW.trod enc Tryz.prog W 0 sp true fuel 25 cs=some x) : ∃ y:Pg,fE W (bY y) cs∧y.kG:=by
 obtain⟨n,rfl,hl,hf⟩:=ny (l:= [(22,0),(23,1)]) (by kernel_rfl) (by simp) h
 have hc:Tryz.prog.cellsOf 25=2:=by kernel_rfl
 have cp:Tryz.prog.cellsOf 23=1:=by kernel_rfl
 have up:Tryz.prog.underlying 23=some (.slice 46):=by kernel_rfl
 have cp5:Tryz.prog.cellsOf 46=5:=by kernel_rfl
 obtain⟨y0,h0⟩:=hf 0 _ rfl
 obtain⟨y1,h1⟩:=hf 1 _ rfl
 dsimp only at h0 h1
 rw[IJ]at h0
 rw[cp]at h1
 obtain⟨globals,r0⟩:=BS h0
 obtain⟨procs,r1,hp⟩:=qG (W:=W) cH (fun f=>Sm.pU f.body) up cp5 (by decide) (fun _=>rfl) (fun k hk cs x hx=>agS hx) h1
 refine⟨⟨globals,procs⟩, ?_,hp⟩
 have:=r0.at (r1.at (fE.end (by rw[hl,hc])))
 simpa[bY]using this
end
end Go.Abs
namespace Go.Abs
open Go.Proofs Go.ChangeShapes Go.WideShapes Go.ChangeAt Go.RowKit
theorem Wl {H:Type} {enc:TypeId×Value→H} {P:Program} {W:World} {sp:Nat→Bool} {t:TypeId} {ts:List TypeId} {ps:List MemPlace} : ∀ {l:List Value} {ds:List (DataW H)},DataW.TrodAll enc P W 0 sp true (t::ts) l ds ps→
 ∃ v l' d pW p q,l=v::l'∧ds=d::pW∧DataW.Trod enc P W 0 sp true t v d p∧DataW.TrodAll enc P W 0 sp true ts l' pW q
 |v::l,d::ds,⟨p,q,h1,h2,e⟩=>⟨v,l,d,ds,p,q,rfl,rfl,h1,h2⟩
 | [],[],h=>h.elim
 | [],_::_,h=>h.elim
 |_::_,[],h=>h.elim
theorem Zo {H:Type} {enc:TypeId×Value→H} {P:Program} {W:World} {sp:Nat→Bool} {ps:List MemPlace} : ∀ {l:List Value} {ds:List (DataW H)},DataW.TrodAll enc P W 0 sp true [] l ds ps→l = []∧ds = []
 | [],[],_=>⟨rfl,rfl⟩
 | [],_::_,h=>h.elim
 |_::_,ds,h=>by cases ds<;>exact h.elim
end Go.Abs
namespace Go.Proofs.YtiopamakecmpkaaGreat.checkTurn
open Go.ChangeShapes Go.WideShapes Go.ChangeAt Go.RowKit Go.Abs
theorem own:ownKnob Tryz.prog.godebug=none:=by kernel_rfl
theorem kids:Kids Tryz.prog (· < Tryz.prog.types.size):=kids_rows (by kernel_rfl) (by kernel_rfl)
theorem full : ∀ {t e:TypeId},t<Tryz.prog.types.size→Tryz.prog.underlying t=some (.slice e)→0<Tryz.prog.cellsOf e:=fun {t e}=>slices_full_of Tryz.prog (by kernel_rfl) t e
theorem walk (w:World) (x0:Pg) (Lh:x0.kG) (v0:Value) (hv0:RD (DG w) S0 (.agg (bY x0)) v0):Calls Tryz.prog 10 #[v0] w fun e w'=>e = .returned (.bool true)∧Kept w w':=by
 refine adb (args:= [.agg (bY x0)]) ((Kq Lh S0).mono fun _ _ h=>h.1) rfl ?_ (fun _ _ h=>nomatch h)
 intro i d v h1 h2
 match i,h1,h2 with
 | 0,h1,h2=>simp at h1 h2;subst h1 h2;exact hv0
set_option maxRecDepth 100000 in
theorem lifted (os : Os) (started : os.Started) (H : Type) (enc : TypeId × Value → H) :
   ReturnsInHanded {} Tryz.checked os 10 .any (Rows.checkTurnSpec.pre6 enc Tryz.prog Tryz.f10 Rows.checkTurnRow.domain false) (Rows.checkTurnSpec.post enc Tryz.prog Tryz.f10 false true false false) := by
 refine returnsInHanded_of_change (C := Tryz.checked) own started (by kernel_rfl) Tryz.func10
   (ChangeSpec.witness6 (enc := enc) (C := Tryz.checked) false ⟨#[], #[.agg #[.slice none 0 0, .slice none 0 0]], []⟩ 8 (by kernel_rfl) (by kernel_rfl) (by kernel_rfl) (by kernel_rfl)) ?_
 intro W base args ds gs before ajs hW mN _
 have vH : ∀ (j : Nat) t v, Tryz.f10.params[j]? = some t → args[j]? = some v → Value.okWide Tryz.prog W .any base t v := ajs
 have hW' := hW
 obtain ⟨p, q, hA0, hV, rfl, hfz, hnd⟩ := hW
 have hA : DataW.TrodAll enc Tryz.prog W 0 (fun _ => true) true Tryz.f10.params.toList args.toList ds p := hA0
 rw[Tryz.params10]at hA vH
 obtain ⟨l⟩ := args
 obtain ⟨v0, l0, d0, ds0, p0, q0, e0, e0d, Jb, hA0⟩ := Wl hA
 obtain ⟨en, end_⟩ := Zo hA0
 have el : l = [v0] := by rw[show l = _ from e0, en]
 subst el
 have ed : ds = [d0] := by rw[e0d, end_]
 clear e0d
 subst ed
 have hpg : ∀ (i : Nat) (v : Value), Tryz.f10.params[i]? = some 25 → (⟨[v0]⟩ : Array Value)[i]? = some v → ∀ {d ps}, DataW.Trod enc Tryz.prog W 0 (fun _ => true) true 25 v d ps → ∃ x : Pg, RD (DG W) S0 (.agg (bY x)) v ∧ x.kG := by
   intro i v hp hv d ps ⟨fuel, hf⟩
   obtain ⟨y, h1, h2⟩ := agT hf
   obtain ⟨fs, FY⟩ := Kr (P := Tryz.prog) (t := 25) (l := [(22, 0), (23, 1)]) (by kernel_rfl) (by simp)
   obtain ⟨cs, e, _⟩ := okWide_struct FY (vH i 25 v (by rw[← Tryz.params10]; exact hp) hv)
   exact ⟨y, h1.agg ⟨cs, e⟩, h2⟩
 obtain ⟨x0, hv0, Lh⟩ := hpg 0 v0 (by rw[Tryz.params10]; rfl) rfl Jb
 obtain ⟨rfl, rfl⟩ := trodVars_none hV
 refine (walk W x0 Lh v0 hv0).mono fun e W' ⟨he, hg⟩ =>?_
 subst he
 exact ⟨_, rfl, Zn kids full (by rw[Tryz.params10]; decide) Tryz.underlying4 (by kernel_rfl) rfl hW' rfl hg⟩
theorem over:Rows.checkTurnRow.holds Tryz.pinned (OpenSpec.ofChange Rows.checkTurnSpec):=
 OpenClaim.holds_of_wide 10 Tryz.f10 rfl rfl rfl rfl rfl rfl rfl ⟨rfl,rfl,rfl,rfl,rfl⟩ rfl rfl rfl rfl rfl (by kernel_rfl) Tryz.func10 (by kernel_rfl)
  (of_decide_eq_true (by kernel_rfl)) (by unfold Func.isWrapper;first|(rw[if_pos (by decide +kernel)];kernel_rfl)|(rw[if_neg (by decide +kernel)];exact⟨rfl,rfl⟩))
  (fun os started H enc _=>lifted os started H enc)
theorem proved:Rows.CheckTurnSaid:=
 over
#print axioms proved
end Go.Proofs.YtiopamakecmpkaaGreat.checkTurn
