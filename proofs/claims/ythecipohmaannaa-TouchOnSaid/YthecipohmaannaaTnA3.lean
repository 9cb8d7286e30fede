/-
  What is proved here: the statement TouchOnSaid: whatever the arguments, the law, called, gives true, and of what was there nothing turns.
  No conditions.
-/
import Derived.Test.YthecipohmaannaaTnA2
import Derived.RowKit3
import Derived.WalkKit
import Derived.ProofKit
import Derived.OpenShut
import Derived.ShutString
import Derived.ChangeMaps5
import Derived.ChangeStays
import Derived.KernelRfl
import Derived.Test.YthecipohmaannaaRows

set_option linter.unusedSimpArgs false
set_option linter.unusedVariables false

/-! MirEq -/

namespace Go.Abs
def Od:List ax→List ax→Bool
 | [],_=>true
 | _::_,[]=>true
 | x::l,y::l'=>if !(x==y)then false else Od l l'
def Ks (l l':List ax):Bool:=if(l.length:Int) != (l'.length:Int)then false else Od l l'
def Ar.kT:List Ar→List Ar→Bool
 | [],_=>true
 | _::_,[]=>true
 | a::l,b::l'=>if !(a.ref==b.ref) || !(a.name==b.name) || !(Ex.beq a.x b.x)then false else Ar.kT l l'
mutual
def Sm.beq:Sm→Sm→Bool
 | ⟨id,kind,labels,name,proc,x,has,args,bf,bb⟩,⟨Y1,P6,LG,D0,P7,x',Sv,vO,Oe,Og⟩=>
  if id != Y1 || kind != P6 || !(name==D0) || !(proc==P7) || !(has==Sv) || !(Ks labels LG) || !(Ex.beq x x') || (args.length:Int) != (vO.length:Int)then false
  else if !(Ar.kT args vO)then false
  else if(if(bf.length:Int) != (Oe.length:Int)then false else Sm.kT bf Oe)then(if(bb.length:Int) != (Og.length:Int)then false else Sm.kT bb Og)else false
def Sm.kT:List Sm→List Sm→Bool
 | [],_=>true
 | _::_,[]=>true
 | s::l,t::l'=>if !(Sm.beq s t)then false else Sm.kT l l'
end
def Sm.Sw (l l':List Sm):Bool:=if(l.length:Int) != (l'.length:Int)then false else Sm.kT l l'
def Pm.kT:List Pm→List Pm→Bool
 | [],_=>true
 | _::_,[]=>true
 | a::l,b::l'=>if !((a.name==b.name) && (a.ref==b.ref))then false else Pm.kT l l'
def Pc.kT:List Pc→List Pc→Bool
 | [],_=>true
 | _::_,[]=>true
 | f::l,g::l'=>
  if !(f.name==g.name) || (f.params.length:Int) != (g.params.length:Int) || !(Ks f.vars g.vars) || !(Ks f.fin g.fin) || !(Sm.Sw f.body g.body)then false
  else if !(Pm.kT f.params g.params)then false else Pc.kT l l'
def Pg.beq (p q:Pg):Bool:=if !(Ks p.globals q.globals) || (p.procs.length:Int) != (q.procs.length:Int)then false else Pc.kT p.procs q.procs
end Go.Abs

/-! RefEq -/

namespace Go.Abs
open Go.Proofs
end Go.Abs

/-! RefEq2 -/

namespace Go.Abs
set_option maxRecDepth 8000
open Go.Proofs
def tX (n:Int):Ex:=⟨1,n,[],[]⟩
def mD (s:ax):Ex:=⟨2,0,s,[]⟩
def wD (op:Int) (a b:Ex):Ex:=⟨op,0,[],[a,b]⟩
theorem P8 (n:Int) (s:St):aH Try.prog me [.int .i64 n] s (.agg (bu (tX n))) s:=by
 refine aH.pure ?_ rfl (by simp [D.ok,kc]) s
 unfold S0
 refine aH.go Aa rfl fun B Q hB hQ=> ?_
 have⟨hD,hF,hJ,hP⟩:=cf
 repeat' (first
 | simp only [go_sem,hD,hF,hJ,hP,tX]
 | (with_reducible first | refine cq fun hc=> ?_ | refine cr fun hc=> ?_ | refine ct (fun hc=> ?_) fun hc=> ?_) <;> (try simp only [hc,bs, ↓reduceIte]at h) <;> try simp only [hc]
 | (with_reducible refine aL hQ ?_;(try cases h);simp only [aE,aF,dj,dk,go_sem,hD,hF,hJ,hP,tX];try exact la)
 | (cases h;done))
theorem Em (t:ax) (s:St):aH Try.prog gN [.str t] s (.agg (bu (mD t))) s:=by
 refine aH.pure ?_ rfl (by simp [D.ok,kc]) s
 unfold S0
 refine aH.go yz rfl fun B Q hB hQ=> ?_
 have⟨hD,hF,hJ,hP⟩:=cf
 repeat' (first
 | simp only [go_sem,hD,hF,hJ,hP,mD]
 | (with_reducible first | refine cq fun hc=> ?_ | refine cr fun hc=> ?_ | refine ct (fun hc=> ?_) fun hc=> ?_) <;> (try simp only [hc,bs, ↓reduceIte]at h) <;> try simp only [hc]
 | (with_reducible refine aL hQ ?_;(try cases h);simp only [aE,aF,dj,dk,go_sem,hD,hF,hJ,hP,mD];try exact la)
 | (cases h;done))
theorem GO (op:Int) (a b:Ex) (s:St):aH Try.prog oG [.int .i64 op, .agg (bu a), .agg (bu b)] s (.agg (bu (wD op a b))) s:=by
 refine aH.pure ?_ (by simp [D.bG,D.ok,kc]) (by simp [D.ok,kc]) s
 unfold S0
 refine aH.go Ab rfl fun B Q hB hQ=> ?_
 have⟨hD,hF,hJ,hP⟩:=cf
 repeat' (first
 | simp only [go_sem,hD,hF,hJ,hP,wD]
 | (with_reducible first | refine cq fun hc=> ?_ | refine cr fun hc=> ?_ | refine ct (fun hc=> ?_) fun hc=> ?_) <;> (try simp only [hc,bs, ↓reduceIte]at h) <;> try simp only [hc]
 | (with_reducible refine aL hQ ?_;(try cases h);simp only [aE,aF,dj,dk,go_sem,hD,hF,hJ,hP,wD];try exact la)
 | (cases h;done))
def source:ax:= [103,108,111,98,97,108,32,103,59,10,112,114,111,99,32,109,97,105,110,40,41,32,123,10,32,118,97,114,32,118,59,10,32,118,32,61,32,50,59,10,32,103,32,61,32,112,40,51,44,32,114,101,102,32,118,41,59,10,32,112,114,105,110,116,32,118,59,10,32,112,114,105,110,116,32,103,59,10,125,10,112,114,111,99,32,112,40,120,44,32,114,101,102,32,121,41,32,123,10,32,121,32,61,32,121,32,43,32,120,59,10,32,105,102,32,40,121,32,62,32,57,41,32,123,10,32,32,103,111,116,111,32,101,59,10,32,125,10,32,114,101,116,117,114,110,32,121,59,10,101,58,32,125,10]
def lz:Pg:=⟨[[103]],[
 ⟨[109,97,105,110],[],[[118]],[
  ⟨1,1,[],[118],[],tX 2,false,[],[],[]⟩,
  ⟨2,4,[],[103],[112],ma,false,[⟨false,[],tX 3⟩,⟨true,[118],ma⟩],[],[]⟩,
  ⟨3,3,[],[],[],mD [118],false,[],[],[]⟩,
  ⟨4,3,[],[],[],mD [103],false,[],[],[]⟩],[]⟩,
 ⟨[112],[⟨[120],false⟩,⟨[121],true⟩],[],[
  ⟨5,1,[],[121],[],wD 8 (mD [121]) (mD [120]),false,[],[],[]⟩,
  ⟨6,5,[],[],[],wD 12 (mD [121]) (tX 9),false,[],[⟨7,10,[],[101],[],ma,false,[],[],[]⟩],[]⟩,
  ⟨8,9,[],[],[],mD [121],true,[],[],[]⟩],[[101]]⟩]⟩
theorem Oh (s:St):aH Try.prog qs [] s (.agg (b7 lz)) s:=by
 refine aH.pure ?_ rfl (by simp [D.ok,lG]) s
 unfold S0
 refine aH.go yw rfl fun B Q hB hQ=> ?_
 have⟨hD,hF,hJ,hP⟩:=cf
 repeat' (first
 | simp only [go_sem,hD,hF,hJ,hP,lz]
 | (with_reducible refine CU (P8 _ _) ?_)
 | (with_reducible refine CU (Em _ _) ?_)
 | (with_reducible refine CU (GO _ _ _ _) ?_)
 | (with_reducible first | refine cq fun hc=> ?_ | refine cr fun hc=> ?_ | refine ct (fun hc=> ?_) fun hc=> ?_) <;> (try simp only [hc,bs, ↓reduceIte]at h) <;> try simp only [hc]
 | (with_reducible refine aL hQ ?_;(try cases h);simp only [aE,aF,dj,dk,go_sem,hD,hF,hJ,hP,lz];repeat' (first | exact Ok.out | with_reducible refine aV ?_ ?_ | (simp;done)))
 | (cases h;done))
 repeat' (first | exact Ok.out | with_reducible refine Wk.agg ?_ | with_reducible refine Wk.rows ?_ | with_reducible refine Wk.slice ?_ | with_reducible refine fv.cons ?_ ?_ | with_reducible refine jk.cons ?_ ?_)
end Go.Abs

/-! Prs3 -/

namespace Go.Abs
open Go.Proofs
end Go.Abs

/-! Prs4 -/

namespace Go.Abs
open Go.Proofs
end Go.Abs

/-! Prs5 -/

namespace Go.Abs
open Go.Proofs
end Go.Abs

/-! Prs6 -/

namespace Go.Abs
open Go.Proofs
end Go.Abs

/-! Lex3 -/

namespace Go.Abs
open Go.Proofs
end Go.Abs

/-! MirParse -/

namespace Go.Abs
def Q9 (l:List lb):Rd:=⟨l,0,0,0,0⟩
def Y2 (m:Nat) (text:ax):Option (Pg×Int×Int):=
 if(qW text).2.1 != 0 then some (MG,(qW text).2)
 else(Rd.program m (Q9 (qW text).1)).bind fun p=>if p.2.code != 0 then some (MG,p.2.code,p.2.zZ)else(p.1.Lj).bind fun q=>some (q,0,0)
def Zx (m:Nat) (text:ax):Option (Ex×Int×Int):=
 if(qW text).2.1 != 0 then some (ma,(qW text).2)
 else(Rd.whole m (Q9 (qW text).1)).bind fun x=>x.2.FX.bind fun b=>
  if b then(x.2.bad 3).bind fun r=>if !r.good then some (ma,r.code,r.zZ)else some (x.1,0,0)
  else if !x.2.good then some (ma,x.2.code,x.2.zZ)else some (x.1,0,0)
end Go.Abs

/-! Prs7 -/

namespace Go.Abs
open Go.Proofs
end Go.Abs

/-! Room1 -/

namespace Go.Abs
set_option maxRecDepth 8000
open Go.Proofs
def nk (n k:Int):Int:=if Int.tmod n k<0 then Int.tmod n k+k else Int.tmod n k
theorem xm (n:Int) {k:Int} (hk:1≤k):0≤nk n k∧nk n k<k:=by
 unfold nk
 have h1:=Int.tmod_lt_of_pos n (by omega:0<k)
 have h2:=Int.lt_tmod_of_pos n (by omega:0<k)
 split <;> omega
theorem Kt (n:Int) {k:Int} (hk:1≤k) (bY:k<1000000) (s:St):aH Try.prog oF [.int .i64 n, .int .i64 k] s (.int .i64 (nk n k)) s:=by
 refine aH.pure ?_ rfl rfl s
 have h1:=Int.tmod_lt_of_pos n (by omega:0<k)
 have h2:=Int.lt_tmod_of_pos n (by omega:0<k)
 have c1:decide (k<1)=false:=by simp;omega
 have w1:IntKind.wrap .i64 (Int.tmod n k)=Int.tmod n k:=dg (by omega) (by omega)
 have w2:IntKind.wrap .i64 (Int.tmod n k+k)=Int.tmod n k+k:=dg (by omega) (by omega)
 have k0:(k=0)=False:=by simp;omega
 unfold S0
 by_cases hm:Int.tmod n k<0
 ·have c2:decide (Int.tmod n k<0)=true:=by simp;omega
  rw [show nk n k=Int.tmod n k+k from if_pos hm]
  refine aH.go s8 rfl fun B Q hB hQ=> ?_
  have⟨hD,hF,hJ,hP⟩:=cf
  repeat' (first
 | simp only [go_sem,hD,hF,hJ,hP,c1,c2,w1,w2,k0]
 | (with_reducible first | refine cq fun hc=> ?_ | refine cr fun hc=> ?_ | refine ct (fun hc=> ?_) fun hc=> ?_) <;> (try simp only [hc,bs, ↓reduceIte]at h) <;> try simp only [hc]
 | (with_reducible refine aL hQ ?_;(try cases h);simp only [aE,aF,dj,dk,go_sem,hD,hF,hJ,hP,c1,c2,w1,w2,k0];try exact la)
 | (cases h;done))
 ·have c2:decide (Int.tmod n k<0)=false:=by simp;omega
  rw [show nk n k=Int.tmod n k from if_neg hm]
  refine aH.go s8 rfl fun B Q hB hQ=> ?_
  have⟨hD,hF,hJ,hP⟩:=cf
  repeat' (first
 | simp only [go_sem,hD,hF,hJ,hP,c1,c2,w1,w2,k0]
 | (with_reducible first | refine cq fun hc=> ?_ | refine cr fun hc=> ?_ | refine ct (fun hc=> ?_) fun hc=> ?_) <;> (try simp only [hc,bs, ↓reduceIte]at h) <;> try simp only [hc]
 | (with_reducible refine aL hQ ?_;(try cases h);simp only [aE,aF,dj,dk,go_sem,hD,hF,hJ,hP,c1,c2,w1,w2,k0];try exact la)
 | (cases h;done))
def P9 (t:ax):Nat→ax
 | 0=> []
 | n+1=>P9 t n++t
def two (i:Nat):ax:= [UInt8.ofNat (48+i / 10),UInt8.ofNat (48+i % 10)]
def Oi (ahead:ax):Nat→ax
 | 0=> []
 | n+1=>(if n=0 then Oi ahead n else Oi ahead n++ [44])++(ahead++ [97]++two n)
def Oj:Nat→ax
 | 0=> []
 | n+1=>Oj n++([112,114,111,99,32,112]++two n++ [40,41,123,125])
end Go.Abs

/-! LawTo1 -/

namespace Go.Abs
set_option maxRecDepth 8000
open Go.Proofs
theorem GQ:lz.may=true:=by decide +kernel
theorem xn:lz.my:=⟨Gw GQ (by decide +kernel),by decide +kernel⟩
theorem Jd:(lz.fp [109,97,105,110]).length=2:=by decide +kernel
theorem GR:(lz.iO [109,97,105,110]).length=1:=by decide +kernel
theorem En:(lz.lj [112]).length=0:=by decide +kernel
theorem Eo (s:St):aH Try.prog mb [] s (.bool true) s:=by
 refine aH.pure ?_ rfl rfl s
 have hS:=fun s=>Oh s
 have h1:=fun s=>nF xn [109,97,105,110] s
 have h2:=fun s=>tA xn [109,97,105,110] s
 have h3:=fun s=>sg xn [112] s
 have e1:=Jd
 have e2:=GR
 have e3:=En
 generalize lz.fp [109,97,105,110] = a1 at *
 generalize lz.iO [109,97,105,110] = a2 at *
 generalize lz.lj [112] = a3 at *
 generalize lz=P at *
 have e1:((a1.length:Int)==2)=true:=by rw [e1];rfl
 have e2:((a2.length:Int)==1)=true:=by rw [e2];rfl
 have e3:((a3.length:Int)==0)=true:=by rw [e3];rfl
 unfold S0
 refine aH.go uc rfl fun B Q hB hQ=> ?_
 have⟨hD,hF,hJ,hP⟩:=cf
 repeat' (first
 | simp only [go_sem,hD,hF,hJ,hP,e1,e2,e3]
 | (with_reducible refine CU (hS _) ?_)
 | (with_reducible refine CU (h1 _) ?_)
 | (with_reducible refine CU (h2 _) ?_)
 | (with_reducible refine CU (h3 _) ?_)
 | (with_reducible refine aL hQ ?_;simp only [aE,aF,Option.some.injEq,exists_eq_left',go_sem,hD,hF,hJ,hP];repeat' (first | exact Ok.out | with_reducible refine aV ?_ ?_ | (simp;done))))
def Pg.nY (p:Pg) (n:Int):ax:=match p.procs[(nk n p.procs.length).toNat]? with | some f=>f.name | none=> []
theorem Je {p:Pg} (hl:p.procs.length<1000000) (n:Int) (s:St):aH Try.prog oa [.agg (b7 p), .int .i64 n] s (.str (p.nY n)) s:=by
 refine aH.pure ?_ (by simp [D.bG,D.ok,lG]) rfl s
 unfold S0
 by_cases hz:p.procs.length=0
 ·have Y3:p.procs = []:=List.eq_nil_of_length_eq_zero hz
  have c1:((p.procs.length:Int)==0)=true:=by rw [hz];rfl
  have e:p.nY n = []:=by unfold Pg.nY;rw [Y3];rfl
  rw [e]
  refine aH.go pT rfl fun B Q hB hQ=> ?_
  have⟨hD,hF,hJ,hP⟩:=cf
  repeat' (first
 | simp only [go_sem,hD,hF,hJ,hP,c1]
 | (with_reducible refine aL hQ ?_;simp only [aE,aF,Option.some.injEq,exists_eq_left',go_sem,hD,hF,hJ,hP];repeat' (first | exact Ok.out | with_reducible refine aV ?_ ?_ | (simp;done))))
 ·have c1:((p.procs.length:Int)==0)=false:=by simp only [beq_eq_false_iff_ne,ne_eq];omega
  have hk:=xm n (k:=(p.procs.length:Int)) (by omega)
  have hm:=fun s=>Kt n (k:=(p.procs.length:Int)) (by omega) (by omega) s
  obtain⟨j,hj⟩ : ∃ j:Nat,nk n p.procs.length=(j:Int):=⟨(nk n p.procs.length).toNat,(Int.toNat_of_nonneg hk.1).symm⟩
  have vR:j<p.procs.length:=by have h2:=hk.2;rw [hj]at h2;omega
  obtain⟨f,hf⟩ : ∃ f,p.procs[j]? = some f:=⟨_,List.getElem?_eq_getElem vR⟩
  have e:p.nY n=f.name:=by unfold Pg.nY;rw [hj,Int.toNat_natCast,hf]
  rw [hj]at hm
  rw [e]
  have oU:decide ((j:Int)<(p.procs.length:Int))=true:=by simp;omega
  refine aH.go pT rfl fun B Q hB hQ=> ?_
  have⟨hD,hF,hJ,hP⟩:=cf
  repeat' (first
 | simp only [go_sem,hD,hF,hJ,hP,c1,hf,oU]
 | (with_reducible refine CU (hm _) ?_)
 | (with_reducible refine aL hQ ?_;simp only [aE,aF,Option.some.injEq,exists_eq_left',go_sem,hD,hF,hJ,hP];repeat' (first | exact Ok.out | with_reducible refine aV ?_ ?_ | (simp;done))))
theorem Jf (l:List ax):(gi l).length≤l.length:=qb _ _ (mA (fz l).1) fun x m=>((fz l).2 x).1 m
theorem Ep {p:Pg} (h:p.my) (nm:ax):(p.lj nm).length≤900000:=by
 unfold Pg.lj
 cases hs:p.jO nm with
 | none=>exact Nat.zero_le _
 | some f=>
  obtain⟨eK,hf⟩:=lS hs
  have h1:Good p f.calls:=⟨mA (fz _).1,fun y m=>nE eK (kG hf).1 m⟩
  have:=h1.len;have:=h.procs;dsimp only;omega
theorem tB {p:Pg} (h:p.my) (nm:ax):(p.fp nm).length≤900000:=by
 unfold Pg.fp
 cases hs:p.jO nm with
 | none=>exact Nat.zero_le _
 | some f=>
  obtain⟨eK,hf⟩:=lS hs
  have:=(vh eK hf).len;have:=h.procs;dsimp only;omega
theorem wE {p:Pg} (h:p.my) (nm:ax):(p.iO nm).length≤2000000000000:=by
 unfold Pg.iO
 cases hs:p.jO nm with
 | none=>exact Nat.zero_le _
 | some f=>
  obtain⟨eK,hf⟩:=lS hs
  have h1:=(vh eK hf).len
  have h2:=h.procs
  have h3:=(rI h (gi (p.work nm)) []).2
  have h4:(gi (p.work nm)).length*1800000≤900000*1800000:=Nat.mul_le_mul_right _ (by omega)
  have h5:=Jf (p.nj nm)
  dsimp only
  unfold Pg.nj at *
  simp only [List.length_nil]at h3
  omega
end Go.Abs

/-! LawTo3 -/

namespace Go.Abs
set_option maxRecDepth 8000
open Go.Proofs
theorem AH {p:Pg} (eK:(p.scope.1==0)=true) (n:Int) : ∃ f,p.find (p.nY n)=some f:=by
 have dC:p.procs.length≠0:=by
  intro e
  have hz:=List.eq_nil_of_length_eq_zero e
  have:=(Ay eK).2.2.1
  unfold Pg.ph Pg.find at this
  rw [hz]at this
  cases this
 have hk:=xm n (k:=(p.procs.length:Int)) (by omega)
 unfold Pg.nY
 obtain⟨j,hj⟩ : ∃ j:Nat,nk n p.procs.length=(j:Int):=⟨(nk n p.procs.length).toNat,(Int.toNat_of_nonneg hk.1).symm⟩
 have vR:j<p.procs.length:=by have h2:=hk.2;rw [hj]at h2;omega
 rw [hj,Int.toNat_natCast,List.getElem?_eq_getElem vR]
 exact tw (List.mem_map_of_mem (List.getElem_mem vR))
theorem BY {p:Pg} (eK:(p.scope.1==0)=true) {nm:ax} {f:Pc} (h:p.find nm=some f):p.jO nm=some f:=by
 unfold Pg.jO;rw [if_pos eK];exact h
theorem GU (p:Pg) (a:ax):a∈p.work a:=AB p _ _ _ (by simp)
theorem B0 {p:Pg} (eK:(p.scope.1==0)=true) {a:ax} {f:Pc} (h:p.find a=some f) : ∀ x∈p.work a,∀ y∈jZ p x,y∈p.work a:=
 uE eK _ _ _ (pj h) (by omega) (fun j x hj=>absurd hj (Nat.not_lt_zero _))
theorem B1 {p:Pg} (eK:(p.scope.1==0)=true) {a b:ax} {f:Pc} (h:p.find a=some f) (hb:b∈p.work a) : ∀ x∈p.work b,x∈p.work a:=
 wB (B0 eK h) _ _ _ fun x hx=>by
  have:x=b:=by simpa using hx
  subst this;exact hb
theorem Bq (p:Pg) (n k:Int) (s:St):aH Try.prog qT [.agg (b7 p), .int .i64 n, .int .i64 k] s (.bool true) s:=by
 refine aH.pure ?_ (by simp [D.bG,D.ok,lG]) rfl s
 have h1:=fun s=>Eo s
 have h2:=fun s=>Oc p s
 unfold S0
 rcases Bool.eq_false_or_eq_true (decide (p.tW≤20000))with hw | hw
 case inr=>
  simp only [hw]at h2
  refine aH.go lK rfl fun B Q hB hQ=> ?_
  have⟨hD,hF,hJ,hP⟩:=cf
  repeat' (first
 | simp only [go_sem,hD,hF,hJ,hP]
 | (with_reducible refine CU (h1 _) ?_)
 | (with_reducible refine CU (h2 _) ?_)
 | (with_reducible first | refine cq fun hc=> ?_ | refine cr fun hc=> ?_ | refine ct (fun hc=> ?_) fun hc=> ?_) <;> (try simp only [hc,bs, ↓reduceIte]at h) <;> try simp only [hc]
 | (with_reducible refine aL hQ ?_;exact im)
 | (cases h;done))
 simp only [hw]at h2
 obtain⟨dr,Qa⟩:=El (of_decide_eq_true hw)
 have ho:p.my:=⟨Qa,by omega⟩
 obtain⟨rS,q4,wi⟩:=ho.procs
 have h3:=fun s=>Je (p:=p) (by omega) n s
 have h4:=fun s=>Ap ho s
 have b0:(p.scope.1 != 0) = !(p.scope.1==0):=rfl
 rcases Bool.eq_false_or_eq_true (p.scope.1==0)with eK | eK
 case inr=>
  rw [eK]at b0
  have h5:=fun s=>nF ho [109,97,105,110] s
  have e:p.fp [109,97,105,110] = []:=by unfold Pg.fp Pg.jO;rw [eK];rfl
  rw [e]at h5
  have w:((0:Int)==0)=true:=rfl
  have w2:(([] : List ax).map encStr) = []:=rfl
  rw [w2]at h5
  have w3:((([] : List (List D)).length:Int)==0)=true:=rfl
  refine aH.go lK rfl fun B Q hB hQ=> ?_
  have⟨hD,hF,hJ,hP⟩:=cf
  repeat' (first
 | simp only [go_sem,hD,hF,hJ,hP,b0,Bool.not_false,w,w3]
 | (with_reducible refine CU (h1 _) ?_)
 | (with_reducible refine CU (h2 _) ?_)
 | (with_reducible refine CU (h4 _) ?_)
 | (with_reducible refine CU (h5 _) ?_)
 | (with_reducible first | refine cq fun hc=> ?_ | refine cr fun hc=> ?_ | refine ct (fun hc=> ?_) fun hc=> ?_) <;> (try simp only [hc,bs, ↓reduceIte]at h) <;> try simp only [hc]
 | (with_reducible refine aL hQ ?_;(try cases h);simp only [aE,aF,dj,dk,go_sem,hD,hF,hJ,hP,b0,Bool.not_false,w,w3];try exact la)
 | (cases h;done))
 rw [eK]at b0
 obtain⟨f,B2⟩:=AH eK n
 obtain⟨a,ha⟩ : ∃ a,p.nY n=a:=⟨_,rfl⟩
 rw [ha]at h3 B2
 have Gh:=BY eK B2
 have h5:=fun s=>nF ho a s
 have h6:=fun s=>tA ho a s
 have Y4:(p.fp a).length≤900000:=tB ho a
 have GV : ∀ x,x∈p.fp a↔x∈p.work a:=fun x=>BX Gh
 have Ra:=fun x=>yl (x:=x) Gh
 have hGl:=wE ho a
 have e3:=fun s=>vj (a:=p.iO a) (b:=p.globals) (by omega) (by omega) .shared s
 have Y5:((p.iO a).all fun x=>c7 p.globals x)=true:=by
  rw [List.all_eq_true];intro x m;rw [eH];exact((Ra x).1 m).2
 rw [Y5]at e3
 obtain⟨L,hL⟩ : ∃ L,p.fp a=L:=⟨_,rfl⟩
 rw [hL]at h5 Y4 GV
 have vH:c7 L a=true:=by rw [eH,GV];exact GU p a
 have tx:=fun x s=>NS (l:=L) (by omega) x .shared s
 have Ol:=fun s=>tx a s
 rw [vH]at Ol
 have Y6:L≠ []:=fun e=>by rw [e]at vH;simp [c7,jM]at vH
 have Z2:L.length≠0:=fun e=>Y6 (List.eq_nil_of_length_eq_zero e)
 have c1:((L.length:Int)==0)=false:=by simp only [beq_eq_false_iff_ne,ne_eq];omega
 have hk:=xm k (k:=(L.length:Int)) (by omega)
 have hm:=fun s=>Kt k (k:=(L.length:Int)) (by omega) (by omega) s
 obtain⟨j,hj⟩ : ∃ j:Nat,nk k L.length=(j:Int):=⟨(nk k L.length).toNat,(Int.toNat_of_nonneg hk.1).symm⟩
 have vR:j<L.length:=by have h2:=hk.2;rw [hj]at h2;omega
 obtain⟨b,hb⟩ : ∃ b,L[j]? = some b:=⟨_,List.getElem?_eq_getElem vR⟩
 rw [hj]at hm
 have oU:decide ((j:Int)<(L.length:Int))=true:=by simp;omega
 have xF:b∈p.work a:=(GV b).1 (List.mem_of_getElem? hb)
 obtain⟨g,Y7⟩:=(qc eK _ _ _ (pj B2)).2 b xF
 have JG:=BY eK Y7
 have h7:=fun s=>sg ho b s
 have h8:=fun s=>nF ho b s
 have h9:=fun s=>tA ho b s
 have qo : ∀ x∈p.lj b,c7 L x=true:=fun x m=>by
  rw [eH,GV]
  rw [Jc eK]at m
  exact B0 eK B2 b xF x m
 have e1:=fun s=>vj (a:=p.fp b) (b:=L) (by have:=tB ho b;omega) (by omega) .shared s
 have Y8:((p.fp b).all fun x=>c7 L x)=true:=by
  rw [List.all_eq_true];intro x m
  rw [eH,GV]
  exact B1 eK B2 xF x ((BX JG).1 m)
 rw [Y8]at e1
 have e2:=fun s=>vj (a:=p.iO b) (b:=p.iO a) (by have:=wE ho b;omega) (by omega) .shared s
 have Y9:((p.iO b).all fun x=>c7 (p.iO a) x)=true:=by
  rw [List.all_eq_true];intro x m
  rw [eH,Ra]
  obtain⟨⟨y,hy,hx⟩,hg⟩:=(yl JG).1 m
  exact⟨⟨y,B1 eK B2 xF y hy,hx⟩,hg⟩
 rw [Y9]at e2
 have vM:=Ep ho b
 obtain⟨C,hC⟩ : ∃ C,p.lj b=C:=⟨_,rfl⟩
 rw [hC]at h7 qo vM
 refine aH.go lK rfl fun B Q hB hQ=> ?_
 have⟨hD,hF,hJ,hP⟩:=cf
 repeat' (first
 | simp only [go_sem,hD,hF,hJ,hP,b0,Bool.not_true,c1,hb,oU]
 | (with_reducible refine CU (h1 _) ?_)
 | (with_reducible refine CU (h2 _) ?_)
 | (with_reducible refine CU (h3 _) ?_)
 | (with_reducible refine CU (h4 _) ?_)
 | (with_reducible refine CU (h5 _) ?_)
 | (with_reducible refine CU (Ol _) ?_)
 | (with_reducible refine CU (hm _) ?_)
 | (with_reducible refine CU (h7 _) ?_)
 | (with_reducible first | refine cq fun hc=> ?_ | refine cr fun hc=> ?_ | refine ct (fun hc=> ?_) fun hc=> ?_) <;> (try simp only [hc,bs, ↓reduceIte]at h) <;> try simp only [hc]
 | (with_reducible refine aL hQ ?_;(try cases h);simp only [aE,aF,dj,dk,go_sem,hD,hF,hJ,hP,b0,Bool.not_true,c1,hb,oU];try exact la)
 | (cases h;done))
 refine dM 1 0 (bx.ind (ι:=List ax×Nat) (fun i=>C.drop i.2=i.1) (fun i=>i.1.length)
  (fun i=> [(3, .ptr 0 0),(7, .str a),(8, .slice .shared 1 (L.map encStr)),(9, .str b),(49, .slice .shared 1 (C.map encStr)),(50, .int .i64 (C.length:Int)),(51, .int .i64 (i.2:Int))]) (fun i=>⟨[b7 p],[]⟩) ?_ (C,0) rfl)
 rintro⟨rest,k⟩ i1 IH
 dsimp only at i1
 cases rest with
 | nil=>
  have hD:=drop_nil i1
  repeat' (first
 | simp only [go_sem,hD,hF,hJ,hP]
 | (with_reducible refine CU (h5 _) ?_)
 | (with_reducible refine CU (h6 _) ?_)
 | (with_reducible refine CU (h8 _) ?_)
 | (with_reducible refine CU (h9 _) ?_)
 | (with_reducible refine CU (e1 _) ?_)
 | (with_reducible refine CU (e2 _) ?_)
 | (with_reducible refine CU (e3 _) ?_)
 | (with_reducible first | refine cq fun hc=> ?_ | refine cr fun hc=> ?_ | refine ct (fun hc=> ?_) fun hc=> ?_) <;> (try simp only [hc,bs, ↓reduceIte]at h) <;> try simp only [hc]
 | (with_reducible refine aL hQ ?_;exact im)
 | (cases h;done))
 | cons x rest=>
  obtain⟨hF,g2,hD,g4⟩:=drop_cons i1
  have bY:k<4611686018427387904:=by omega
  have Om:=fun s=>tx x s
  rw [qo x (List.mem_of_getElem? hF)]at Om
  repeat' (first
 | simp only [go_sem,hD,hF,hJ,hP]
 | (with_reducible refine CU (Om _) ?_)
 | (with_reducible first | refine cq fun hc=> ?_ | refine cr fun hc=> ?_ | refine ct (fun hc=> ?_) fun hc=> ?_) <;> (try simp only [hc,bs, ↓reduceIte]at h) <;> try simp only [hc]
 | (with_reducible refine aL hQ ?_;exact im)
 | (cases h;done))
  refine ep 1 0 ?_ ?_ (IH (rest,k+1) g2 (Nat.lt_succ_self _))
  ·(simp only [go_sem,hD,hF,hJ,hP,aQ bY];try exact bQ)
  ·(simp only [go_sem,hD,hF,hJ,hP,aQ bY];try exact bQ)
end Go.Abs

/-! Glue2 -/

namespace Go.Abs
def M0:Map:=⟨fun _ _=>none,fun _=>(0, .any),fun _=>none⟩
def Kept (w w':World):Prop:=w.keptBut w' (fun _=>False)∧∀ a:Addr,a.block<w.heap.size→w'.frozen? a=w.frozen? a
theorem Kept.frame {w w':World} (h:Kept w w') (may:MemPlace→Prop):w.keptBut w' may:=World.keptBut_mono (fun _ f=>f.elim) h.1
theorem Ext.On {M M':Map} {s':St} {w w':World} (e:Ext M S0 w M' s' w'):Kept w w':=by
 have hh : ∀ b,b<w.heap.size→w'.heap[b]? = w.heap[b]? :=fun b hb=>
  e.kept b hb (fun o ho=>by simp [S0]at ho) (fun t c z hl=>by obtain⟨n,hn⟩:=hl;simp [S0]at hn)
 refine⟨⟨e.os,e.output,fun i hi=> ?_⟩,fun a ha=> ?_⟩
 ·rw [hh i hi]
  exact(World.keptBut_refl w (fun _=>False)).2.2 i hi
 ·simp only [World.frozen?,hh _ ha]
theorem Sx (G:Nat→Nat→Option Value) (w:World) (h : ∀ b o v,G b o=some v→w.cell? ⟨b,o,none⟩=some v∧v.oneCell'=true):Rel ⟨G,fun _=>(0, .any),fun _=>none⟩ S0 w:=
 ⟨h,fun o ds e=>by simp [S0]at e,fun o ho=>by simp [S0]at ho,fun o o' ho=>by simp [S0]at ho,fun t n e=>by simp [S0]at e,
  fun t b c z o hl=>by obtain⟨n,hn⟩:=hl;simp [S0]at hn,fun t t' b c z c' z' hl=>by obtain⟨n,hn⟩:=hl;simp [S0]at hn⟩
def Er (w:World):Prop:=∀ g cs,LP g=some cs→∃ T fr,w.heap[g]? = some (.cells cs T fr)
theorem Qb (G:Nat→Nat→Option Value) {w:World} (h:Er w):Laid ⟨G,fun _=>(0, .any),fun _=>none⟩ S0 w:=
 fun g cs hg=>⟨h g cs hg,fun o ho=>by simp [S0]at ho,fun t c z hl=>by obtain⟨n,hn⟩:=hl;simp [S0]at hn⟩
theorem GX {P:Program} {f:FuncId} {args:List D} {eg:Array Value} {w:World} {G:Nat→Nat→Option Value} (h:cQ P f args S0 fun d _=>d = .bool true)
 (hG : ∀ b o v,G b o=some v→w.cell? ⟨b,o,none⟩=some v∧v.oneCell'=true) (hl:eg.size=args.length)
 (ha : ∀ (i:Nat) (d:D) (v:Value),args[i]? = some d→eg[i]? = some v→RD ⟨G,fun _=>(0, .any),fun _=>none⟩ S0 d v) (ib:Er w) :
 Calls P f eg w fun e w'=>e = .returned (.bool true)∧Kept w w':=by
 refine(h _ w eg (Sx G w hG) (Qb G ib) hl ha).mono fun e w' hw=> ?_
 obtain⟨M',d,v,s',rfl,rfl,he,_,hv⟩:=hw
 rw [hv.jH]
 exact⟨rfl,he.On⟩
section
variable {P:Program} {H:Type} {enc:TypeId×Value→H}
theorem AJ {f:Func} {s:ChangeSpec} {apart fresh handsOn again:Bool} {W W':World} {args:Array Value} {v:Value} {ds gs:List (DataW H)} {before pa pv:List MemPlace}
 (hW:DataW.Whole enc P f.params.toList s.vars apart W args.toList ds gs before)
 (Oo : ∀ (b:Nat) (sp:Nat→Bool) (hd:Bool),DataW.TrodAll enc P W' b sp hd f.resultTypes.toList (v.resultList f.resultTypes.size) (s.fn H (ds++gs)).results [])
 (yJ : ∀ sp:Nat→Bool,(∀ p∈before,sp p.block=true)→DataW.TrodAll enc P W' 0 sp true f.params.toList args.toList (s.fn H (ds++gs)).args pa)
 (wF : ∀ sp:Nat→Bool,(∀ p∈before,sp p.block=true)→DataW.TrodVars enc P W' sp s.vars (s.fn H (ds++gs)).vars pv)
 (q4:before=pa++pv) (hk:Kept W W')
 (xH : ∀ (j:Nat) (t:TypeId) (r:Value),f.resultTypes[j]? = some t→(v.resultList f.resultTypes.size)[j]? = some r→Value.okWide P W' .any 0 t r) :
 s.post enc P f apart fresh handsOn again W args v W':=by
 have hD : ∀ p∈before,p.block<W.heap.size:=fun p hp=>hW.lt p hp
 have hold : ∀ p∈before,(fun b=>decide (b<W.heap.size)) p.block=true:=fun p hp=>by simpa using hD p hp
 refine⟨ds,gs,before,[],pa,pv,hW,Oo _ _ _,yJ _ hold,wF _ hold,World.keptBut_mono (fun p hp=>⟨hp, ?_⟩) (hk.frame (· ∈before)),fun _=> ?_⟩
 ·rw [q4,List.mem_append]at hp
  exact Or.inr hp
 ·obtain⟨_,_,_,_,_,hz,hn⟩:=hW
  refine⟨xH,_,_,([]++pa)++pv,⟨[]++pa,pv,ChangeShapes.trodAll_append (yJ _ (fun _ _=>rfl)) (Oo _ _ _),wF _ (fun _ _=>rfl),rfl, ?_, ?_⟩, ?_⟩
  ·intro b off hp
   have ki:MemPlace.cell b off∈before:=by rw [q4];simpa using hp
   rw [hk.2 _ (hD _ ki)]
   exact hz b off ki
  ·intro ha
   have:=hn ha
   rw [q4]at this
   simpa using this
  ·intro p hp _
   rw [q4]
   simpa using hp
end
end Go.Abs

/-! Join -/

namespace Go.Abs
open Go.RowKit Go.ChangeShapes Go.WideShapes
def xp (w:World) (b o:Nat):Option Value:=
 match w.cell? ⟨b,o,none⟩with
 | some v=>if v.oneCell'=true then some v else none
 | none=>none
theorem B3 {w:World} (b o:Nat) (v:Value) (h:xp w b o=some v):w.cell? ⟨b,o,none⟩=some v∧v.oneCell'=true:=by
 unfold xp at h
 split at h
 ·split at h
  ·cases h;exact⟨‹_›, ‹_›⟩
  ·cases h
 ·cases h
def tC (w:World):Map:=⟨xp w,fun _=>(0, .any),fun _=>none⟩
theorem Kept.sameAt {w w':World} (h:Kept w w') {p:MemPlace} (hp:p.block<w.heap.size):w.sameAt w' p:=by
 have hk:=h.1.2.2 p.block hp
 cases p with
 | cell b off=>
  simp only [MemPlace.block]at hk hp
  simp only [World.sameAt,World.cell?]
  split at hk
  ·rename_i c t fr c' t' Za e e'
   rw [e,e']
   simp only [hk.2.2.2 off (fun f=>f)]
  ·rename_i es clock rU Oq e e'
   rw [e,e']
  ·rw [hk]
 | map b=>
  simp only [MemPlace.block]at hk hp
  simp only [World.sameAt]
  split at hk
  ·rename_i c t fr c' t' Za e e'
   rw [e,e']
   obtain⟨rfl,rfl,hs,hc⟩:=hk
   have:c'=c:=by
    apply Array.ext_getElem?
    intro i
    exact hc i (fun f=>f)
   rw [this]
  ·rename_i es clock rU Oq e e'
   rcases hk with f | ⟨rfl,rfl⟩
   ·exact f.elim
   ·rw [e,e']
  ·exact hk
section
variable {P:Program} {H:Type} {enc:TypeId×Value→H} {T:TypeId→Prop}
theorem wG (K:Kids P T) (hz : ∀ {t e:TypeId},T t→P.underlying t=some (.slice e)→0<P.cellsOf e) {W W':World} (hk:Kept W W') {sp:Nat→Bool} :
 ∀ {ts:List TypeId} {vs:List Value} {ds:List (DataW H)} {ps:List MemPlace},(∀ t∈ts,T t)→(∀ p∈ps,p.block<W.heap.size)→(∀ p∈ps,sp p.block=true)→
  DataW.TrodAll enc P W 0 (fun _=>true) true ts vs ds ps→DataW.TrodAll enc P W' 0 sp true ts vs ds ps
 | [],[],[],_,_,_,_,h=>h
 | t::ts,v::vs,d::ds,ps,hT,hD,hs,⟨p,q,⟨n,h1⟩,h2,e⟩=>by
  subst e
  refine⟨p,q,⟨n,DataW.trod_stays K hz (fun f=>by cases f) (hT t (List.mem_cons_self ..)) h1 (fun x hx=>hk.sameAt (hD x (List.mem_append_left _ hx))) (fun x hx=>hs x (List.mem_append_left _ hx))⟩, ?_,rfl⟩
  exact wG K hz hk (fun t ht=>hT t (List.mem_cons_of_mem _ ht)) (fun x hx=>hD x (List.mem_append_right _ hx)) (fun x hx=>hs x (List.mem_append_right _ hx)) h2
 | [],[],_::_,_,_,_,_,h=>h.elim
 | [],_::_,_,_,_,_,_,h=>h.elim
 | _::_,[],_,_,_,_,_,h=>h.elim
 | _::_,_::_,[],_,_,_,_,h=>h.elim
theorem Jg (K:Kids P T) (hz : ∀ {t e:TypeId},T t→P.underlying t=some (.slice e)→0<P.cellsOf e) {f:Func} {s:ChangeSpec} {apart fresh handsOn again:Bool} {tb:TypeId} {W W':World} {args:Array Value} {ds gs:List (DataW H)} {before:List MemPlace}
 (hT : ∀ t∈f.params.toList,T t) (hb:P.underlying tb=some .bool) (hr:f.resultTypes = #[tb]) (wF:s.vars = []) (hW:DataW.Whole enc P f.params.toList s.vars apart W args.toList ds gs before)
 (sf:s.fn H (ds++gs) = {results:= [.lit (.bool true)],args:=ds}) (hk:Kept W W'):s.post enc P f apart fresh handsOn again W args (.bool true) W':=by
 have Ot:=hW
 have hD : ∀ p∈before,p.block<W.heap.size:=fun p hp=>hW.lt p hp
 obtain⟨p,q,hA,hV,rfl,Zc,Zd⟩:=hW
 rw [wF]at hV
 obtain⟨rfl,rfl⟩:=trodVars_none hV
 simp only [List.append_nil]at hD sf
 refine AJ (pa:=p) (pv:= []) Ot (fun b sp hd=> ?_) (fun sp ux=> ?_) (fun sp ux=> ?_) rfl hk (ok_one hr rfl (okWide_bool_mk hb _))
 ·rw [List.append_nil,sf,hr]
  exact trodAll_cons_mk (shut_bool hb _) trodAll_mk0
 ·rw [List.append_nil,sf]
  simp only [List.append_nil]at ux
  exact wG K hz hk hT hD ux hA
 ·rw [List.append_nil,sf,wF]
  rfl
theorem LJ {f:FuncId} {args:List D} {eg:Array Value} {w:World} (h:cQ P f args S0 fun d _=>d = .bool true) (hl:eg.size=args.length)
 (ha : ∀ (i:Nat) (d:D) (v:Value),args[i]? = some d→eg[i]? = some v→RD (tC w) S0 d v) (ib:Er w):Calls P f eg w fun e w'=>e = .returned (.bool true)∧Kept w w':=
 GX (G:=xp w) h B3 hl ha ib
end
end Go.Abs

/-! Binds1 -/

namespace Go.Abs
open Go.Proofs
def wH (n:Int):List D:= [.int .i64 n]
theorem Qc (n:Int):D.bG 0 0 (wH n)=true:=rfl
theorem Ou (n m:Nat) (l:List Int):D.gB n m (l.map wH)=l.map wH:=jo Qc n m l
attribute [go_sem] wH Ou
def Qd (op:Int):ax:=
 if op=5 then [42]else if op=6 then [47]else if op=7 then [37]else if op=8 then [43]else if op=9 then [45]else if op=10 then [60]else if op=11 then [60,61]
 else if op=12 then [62]else if op=13 then [62,61]else if op=14 then [61,61]else if op=15 then [33,61]else if op=16 then [38,38]else [124,124]
def Zy (op:Int):Int:=(NA (Qd op)).1
def GY:Nat→List ax
 | 0=> []
 | n+1=>GY n++ [[UInt8.ofNat (97+n)]]
end Go.Abs

/-! Join2 -/

namespace Go.Abs
open Go.RowKit Go.ChangeShapes Go.WideShapes
end Go.Abs

/-! Join3 -/

namespace Go.Abs
open Go.RowKit Go.ChangeShapes Go.WideShapes
def dc (W:World) (ds:List D) (cs:List Value):Prop:=ds.length=cs.length∧(∀ (i:Nat) (d:D) (v:Value),ds[i]? = some d→cs[i]? = some v→RD (tC W) S0 d v)∧∀ v∈cs,v.oneCell'=true
theorem dc.one {W:World} {d:D} {v:Value} (h:RD (tC W) S0 d v) (hv:v.oneCell'=true):dc W [d] [v]:=by
 refine⟨rfl,fun i d' v' h1 h2=> ?_,fun u hu=>by simp at hu;subst hu;exact hv⟩
 cases i with
 | zero=>simp at h1 h2;subst h1 h2;exact h
 | succ i=>simp at h1
theorem dc.app {W:World} {ds ke:List D} {cs fM:List Value} (h:dc W ds cs) (h':dc W ke fM):dc W (ds++ke) (cs++fM):=by
 obtain⟨a1,a2,a3⟩:=h
 obtain⟨b1,b2,b3⟩:=h'
 refine⟨by simp [a1,b1],fun i d v h1 h2=> ?_,fun v hv=> ?_⟩
 ·by_cases hi:i<ds.length
  ·rw [List.getElem?_append_left hi]at h1
   rw [List.getElem?_append_left (by omega)]at h2
   exact a2 i d v h1 h2
  ·rw [List.getElem?_append_right (by omega)]at h1
   rw [List.getElem?_append_right (by omega), ← a1]at h2
   exact b2 _ d v h1 h2
 ·rcases List.mem_append.1 hv with hv | hv
  ·exact a3 v hv
  ·exact b3 v hv
theorem dc.at {W:World} {ds ke:List D} {cs:List Value} {o n:Nat} (h:dc W ds ((cs.drop o).take n)) (h':dc W ke (cs.drop (o+n))):dc W (ds++ke) (cs.drop o):=by
 have e:cs.drop o=(cs.drop o).take n++cs.drop (o+n):=by rw [← List.drop_drop,List.take_append_drop]
 rw [e]
 exact h.app h'
theorem dc.end {W:World} {cs:List Value} {o:Nat} (h:cs.length=o):dc W [] (cs.drop o):=by
 rw [← h,List.drop_length]
 exact⟨rfl,fun i d v h=>by simp at h,fun v hv=>by cases hv⟩
section
variable {H:Type} {enc:TypeId×Value→H} {P:Program} {W:World} {sp:Nat→Bool}
def structOf (P:Program) (t:TypeId):List (TypeId×Nat):=
 match P.underlying t with
 | some (.struct fs)=>fs.toList.map fun f=>(f.type,f.offset)
 | _=> []
theorem iC {t:TypeId} {l:List (TypeId×Nat)} {fuel:Nat} {cs:List Value} {x:DataW H×List MemPlace} (h:structOf P t=l) (dC:l≠ []) (ht:DataW.trod enc P W 0 sp true fuel t cs=some x) :
 ∃ n,fuel=n+1∧cs.length=P.cellsOf t∧∀ (i:Nat) (f:TypeId×Nat),l[i]? = some f→∃ y,DataW.trod enc P W 0 sp true n f.1 ((cs.drop f.2).take (P.cellsOf f.1))=some y:=by
 unfold structOf at h
 split at h
 ·rename_i fs hu
  obtain⟨xs,n,e,_,hl,hlen,hf⟩:=DataW.trod_struct hu ht
  refine⟨n,e,hl,fun i f hi=> ?_⟩
  subst h
  rw [List.getElem?_map,Option.map_eq_some_iff]at hi
  obtain⟨g,hg,rfl⟩:=hi
  have zH:fs[i]? = some g:=by simpa using hg
  have hi:i<xs.length:=by rw [hlen];exact(Array.getElem?_eq_some_iff.1 zH).1
  exact⟨xs[i],by rw [hf i g zH,List.getElem?_eq_getElem hi]⟩
 ·exact absurd h.symm dC
theorem yH {t:TypeId} {l:List (TypeId×Nat)} (h:structOf P t=l) (dC:l≠ []) : ∃ fs,P.underlying t=some (.struct fs):=by
 unfold structOf at h
 split at h
 ·exact⟨_, ‹_›⟩
 ·exact absurd h.symm dC
theorem uF {α:Type} {Q:Nat→α→Prop} : ∀ n,(∀ i,i<n→∃ y,Q i y)→∃ ys:List α,ys.length=n∧∀ i y,ys[i]? = some y→Q i y
 | 0,_=>⟨[],rfl,fun i y h=>by simp at h⟩
 | n+1,h=>by
  obtain⟨ys,h1,h2⟩:=uF n fun i hi=>h i (by omega)
  obtain⟨y,hy⟩:=h n (by omega)
  refine⟨ys++ [y],by simp [h1],fun i z hz=> ?_⟩
  by_cases hi:i<ys.length
  ·rw [List.getElem?_append_left hi]at hz;exact h2 i z hz
  ·rw [List.getElem?_append_right (by omega)]at hz
   have:i - ys.length=0:=by
    rcases Nat.eq_zero_or_pos (i - ys.length)with h | h
    ·exact h
    ·rw [List.getElem?_eq_none (by simp only [List.length_cons,List.length_nil];omega)]at hz;cases hz
   rw [this]at hz
   simp at hz
   subst hz
   have:i=n:=by omega
   subst this
   exact hy
theorem kH {α:Type} (en:α→List D) (good:α→Prop) {z:Nat} {t e:TypeId} {fuel:Nat} {cs:List Value} {x:DataW H×List MemPlace} (ht:P.underlying t=some (.slice e)) (hz:P.cellsOf e=z) (Ze:0<z) (Ov : ∀ y,(en y).length=z)
 (Zf : ∀ n<fuel,∀ cs x,DataW.trod enc P W 0 sp true n e cs=some x→∃ y,dc W (en y) cs∧good y) (h:DataW.trod enc P W 0 sp true fuel t cs=some x) :
 ∃ ys:List α,dc W [.slice .shared z (ys.map en)] cs∧∀ y∈ys,good y:=by
 rcases DataW.trod_slice ht h with ⟨rfl,_⟩ | ⟨a,len,cap,elems,rest,n,hn,rfl,_,hb,hl,hm,hlen,pE,_,_⟩
 ·exact⟨[],dc.one (.fX _ _ _ rfl trivial) rfl,fun y hy=>by cases hy⟩
 ·by_cases h0:len=0
  ·subst h0
   exact⟨[],dc.one (.jE _ _ _) rfl,fun y hy=>by cases hy⟩
  ·obtain⟨ys,Zg,qo⟩:=uF (Q:=fun i y=>good y∧∃ fM,W.cells? 0 (a.add (i*z)) z=some fM∧dc W (en y) fM) len fun i hi=>by
    have hc:=pE i hi
    rw [List.getElem?_eq_getElem (by omega),hz,Option.bind_eq_some_iff]at hc
    obtain⟨fM,h1,h2⟩:=hc
    obtain⟨y,h3,h4⟩:=Zf n (by omega) _ _ h2
    exact⟨y,h4,fM,h1,h3⟩
   have cell : ∀ i y,ys[i]? = some y→∀ (j:Nat) d,(en y)[j]? = some d→∃ v,W.cell? ((a.add (i*z)).add j)=some v∧RD (tC W) S0 d v∧v.oneCell'=true:=by
    intro i y hy j d hd
    obtain⟨_,fM,h1,h2,h3,h4⟩:=qo i y hy
    obtain⟨_,k1,k2⟩:=World.cells?_some h1
    have hj:j<z:=by rw [← Ov y];exact(List.getElem?_eq_some_iff.1 hd).1
    have hv:fM[j]? = some fM[j]:=List.getElem?_eq_getElem (by omega)
    exact⟨fM[j],by rw [k2 j hj,hv],h3 j d _ hd hv,h4 _ (List.getElem_mem _)⟩
   obtain⟨b,off,spot⟩:=a
   have Qe:spot=none:=by
    have hy:ys[0]? = some (ys[0]'(by omega)):=List.getElem?_eq_getElem (by omega)
    obtain⟨d,hd⟩ : ∃ d,(en (ys[0]'(by omega)))[0]? = some d:=⟨_,List.getElem?_eq_getElem (show 0<(en (ys[0]'(by omega))).length by rw [Ov];exact Ze)⟩
    obtain⟨v,hv,_⟩:=cell 0 _ hy 0 _ hd
    have:=World.cell?_spot hv
    simpa [Addr.add]using this
   subst Qe
   have e:(ys.map en).length=len:=by simp [Zg]
   have:=RD.slice (M:=tC W) (s:=S0) .shared z (ys.map en) b off cap (by omega) (fun row hr=>by obtain⟨y,_,rfl⟩:=List.mem_map.1 hr;exact Ov y)
    (fun i row j d h1 h2=>by
     rw [List.getElem?_map,Option.map_eq_some_iff]at h1
     obtain⟨y,h1,rfl⟩:=h1
     obtain⟨v,hv,_,h4⟩:=cell i y h1 j d h2
     rw [add_plain,add_plain]at hv
     refine⟨v, ?_⟩
     show xp W b (off+(i*z+j))=_
     unfold xp
     rw [show off+(i*z+j)=off+i*z+j by omega,hv]
     simp [h4])
    (fun i row j d u h1 h2 hu=>by
     rw [List.getElem?_map,Option.map_eq_some_iff]at h1
     obtain⟨y,h1,rfl⟩:=h1
     obtain⟨v,hv,h3,h4⟩:=cell i y h1 j d h2
     rw [add_plain,add_plain]at hv
     obtain⟨hu,_⟩:=B3 _ _ _ hu
     rw [show off+(i*z+j)=off+i*z+j by omega,hv]at hu
     cases hu
     exact h3) trivial
   rw [e]at this
   refine⟨ys,dc.one this rfl,fun y hy=> ?_⟩
   obtain⟨i,hi⟩:=List.getElem?_of_mem hy
   exact(qo i y hi).1
theorem wI {t:TypeId} {fuel:Nat} {cs:List Value} {x:DataW H×List MemPlace} (ht:P.underlying t=some (.int .i64)) (h:DataW.trod enc P W 0 sp true fuel t cs=some x) : ∃ n:Int,dc W [.int .i64 n] cs∧n≤9223372036854775807∧ -9223372036854775808≤n:=by
 obtain⟨n,rfl,_,hw⟩:=DataW.trod_int ht h
 simp [Lit.wf,IntKind.min,IntKind.max,IntKind.signed,IntKind.bits]at hw
 exact⟨n,dc.one (.int _ _) rfl,by omega,by omega⟩
theorem xq {t:TypeId} {fuel:Nat} {cs:List Value} {x:DataW H×List MemPlace} (ht:P.underlying t=some .bool) (h:DataW.trod enc P W 0 sp true fuel t cs=some x) : ∃ b:Bool,dc W [.bool b] cs:=by
 obtain⟨n,rfl,_⟩:=DataW.trod_bool ht h
 exact⟨n,dc.one (.bool _) rfl⟩
theorem px {t:TypeId} {fuel:Nat} {cs:List Value} {x:DataW H×List MemPlace} (ht:P.underlying t=some .string) (h:DataW.trod enc P W 0 sp true fuel t cs=some x) : ∃ s:ax,dc W (encStr s) cs∧s.length≤maxLen:=by
 obtain⟨s,rfl,_,hm⟩:=DataW.trod_string ht h
 obtain⟨⟨l⟩⟩:=s
 exact⟨l,dc.one (.str l) rfl,hm⟩
theorem Qf {tE tI tN tS tK:TypeId} (hE:structOf P tE = [(tI,0),(tN,1),(tS,2),(tK,3)]) (Rb:P.cellsOf tE=4) (hI:P.underlying tI=some (.int .i64)) (hN:P.underlying tN=some (.int .i64)) (hS:P.underlying tS=some .string) (hK:P.underlying tK=some (.slice tE))
 (cI:P.cellsOf tI=1) (cN:P.cellsOf tN=1) (cS:P.cellsOf tS=1) (cK:P.cellsOf tK=1) :
 ∀ (fuel:Nat) (cs:List Value) (x:DataW H×List MemPlace),DataW.trod enc P W 0 sp true fuel tE cs=some x→∃ y:Ex,dc W (bu y) cs∧y.mz:=by
 intro fuel
 induction fuel using Nat.strongRecOn with
 | _ fuel ih=>
  intro cs x h
  obtain⟨n,rfl,hl,hf⟩:=iC hE (by simp) h
  obtain⟨y0,h0⟩:=hf 0 _ rfl
  obtain⟨y1,h1⟩:=hf 1 _ rfl
  obtain⟨y2,h2⟩:=hf 2 _ rfl
  obtain⟨y3,h3⟩:=hf 3 _ rfl
  dsimp only at h0 h1 h2 h3
  rw [cI]at h0
  rw [cN]at h1
  rw [cS]at h2
  rw [cK]at h3
  obtain⟨op,r0,_⟩:=wI hI h0
  obtain⟨m,r1,hm,_⟩:=wI hN h1
  obtain⟨s,r2,_⟩:=px hS h2
  obtain⟨ks,r3,hg⟩:=kH (W:=W) bu Ex.mz hK Rb (by decide) JX (fun k hk cs x hx=>ih k (by omega) cs x hx) h3
  refine⟨⟨op,m,s,ks⟩, ?_,hm, ?_⟩
  ·have:=r0.at (r1.at (r2.at (r3.at (dc.end (by rw [hl,Rb])))))
   rw [fm]
   simpa [encStr]using this
  ·clear r3
   induction ks with
   | nil=>exact trivial
   | cons k ks Zi=>exact⟨hg k (by simp),Zi fun y hy=>hg y (by simp [hy])⟩
theorem dc.agg {ds:List D} {v:Value} (h:dc W ds v.cells.toList) (hv : ∃ vs,v = .agg vs):RD (tC W) S0 (.agg ds) v:=by
 obtain⟨vs,rfl⟩:=hv
 obtain⟨h1,h2,h3⟩:=h
 have e:(Value.agg vs).cells=vs:=rfl
 rw [e]at h1 h2 h3
 refine .agg ds vs (by simpa using h1) (fun v hv=>h3 v (by simpa using hv)) fun i d v hd hv=>h2 i d v hd (by simpa using hv)
end
end Go.Abs

/-! Join4 -/

namespace Go.Abs
open Go.Proofs Go.RowKit Go.ChangeShapes Go.WideShapes
section
variable {H:Type} {enc:TypeId×Value→H} {W:World} {sp:Nat→Bool}
theorem GZ (fuel:Nat) (cs:List Value) (x:DataW H×List MemPlace) (h:DataW.trod enc Try.prog W 0 sp true fuel 43 cs=some x) : ∃ y:Ex,dc W (bu y) cs∧y.mz:=
 Qf (tE:=43) (tI:=3) (tN:=2) (tS:=9) (tK:=41) (by kernel_rfl) (by kernel_rfl) (by kernel_rfl) (by kernel_rfl) (by kernel_rfl) (by kernel_rfl) (by kernel_rfl) (by kernel_rfl) (by kernel_rfl) (by kernel_rfl) _ _ _ h
theorem LK:Try.prog.underlying 22=some (.slice 9):=by kernel_rfl
theorem q9:Try.prog.underlying 9=some .string:=by kernel_rfl
theorem G0:Try.prog.underlying 3=some (.int .i64):=by kernel_rfl
theorem xr:Try.prog.underlying 4=some .bool:=by kernel_rfl
theorem tD:Try.prog.cellsOf 9=1:=by kernel_rfl
theorem Oz:Try.prog.cellsOf 3=1:=by kernel_rfl
theorem xu:Try.prog.cellsOf 4=1:=by kernel_rfl
theorem xv:Try.prog.cellsOf 22=1:=by kernel_rfl
theorem Ku:Try.prog.cellsOf 43=4:=by kernel_rfl
theorem rP {fuel:Nat} {cs:List Value} {x:DataW H×List MemPlace} (h:DataW.trod enc Try.prog W 0 sp true fuel 22 cs=some x) : ∃ l:List ax,dc W [.slice .shared 1 (l.map encStr)] cs:=by
 obtain⟨l,h,_⟩:=kH (W:=W) encStr (fun _=>True) LK tD (by decide) (fun _=>rfl) (fun k hk cs x hx=>by
  obtain⟨s,hs,_⟩:=px q9 hx
  exact⟨s,hs,trivial⟩) h
 exact⟨l,h⟩
theorem OA {fuel:Nat} {cs:List Value} {x:DataW H×List MemPlace} (h:DataW.trod enc Try.prog W 0 sp true fuel 64 cs=some x) : ∃ y:Pm,dc W (fR y) cs:=by
 obtain⟨n,rfl,hl,hf⟩:=iC (l:= [(9,0),(4,1)]) (by kernel_rfl) (by simp) h
 have hc:Try.prog.cellsOf 64=2:=by kernel_rfl
 obtain⟨y0,h0⟩:=hf 0 _ rfl
 obtain⟨y1,h1⟩:=hf 1 _ rfl
 dsimp only at h0 h1
 rw [tD]at h0
 rw [xu]at h1
 obtain⟨s,r0,_⟩:=px q9 h0
 obtain⟨b,r1⟩:=xq xr h1
 refine⟨⟨s,b⟩, ?_⟩
 have:=r0.at (r1.at (dc.end (by rw [hl,hc])))
 simpa [encStr,fR]using this
theorem OB {fuel:Nat} {cs:List Value} {x:DataW H×List MemPlace} (h:DataW.trod enc Try.prog W 0 sp true fuel 51 cs=some x) : ∃ y:Ar,dc W (dm y) cs∧y.x.mz:=by
 obtain⟨n,rfl,hl,hf⟩:=iC (l:= [(4,0),(9,1),(43,2)]) (by kernel_rfl) (by simp) h
 have hc:Try.prog.cellsOf 51=6:=by kernel_rfl
 obtain⟨y0,h0⟩:=hf 0 _ rfl
 obtain⟨y1,h1⟩:=hf 1 _ rfl
 obtain⟨y2,h2⟩:=hf 2 _ rfl
 dsimp only at h0 h1 h2
 rw [xu]at h0
 rw [tD]at h1
 rw [Ku]at h2
 obtain⟨b,r0⟩:=xq xr h0
 obtain⟨s,r1,_⟩:=px q9 h1
 obtain⟨e,r2,hr⟩:=GZ _ _ _ h2
 refine⟨⟨b,s,e⟩, ?_,hr⟩
 have:=r0.at (r1.at (r2.at (dc.end (by rw [hl,hc]))))
 rw [fm]at this
 simpa [encStr,dm]using this
theorem rQ : ∀ {l:List Sm},(∀ s∈l,s.mz)→Sm.qC l
 | [],_=>trivial
 | s::l,h=>⟨h s (List.mem_cons_self ..),rQ fun t m=>h t (List.mem_cons_of_mem _ m)⟩
theorem OC : ∀ (fuel:Nat) (cs:List Value) (x:DataW H×List MemPlace),DataW.trod enc Try.prog W 0 sp true fuel 47 cs=some x→∃ y:Sm,dc W (bl y) cs∧y.mz:=by
 intro fuel
 induction fuel using Nat.strongRecOn with
 | _ fuel ih=>
  intro cs x h
  obtain⟨n,rfl,hl,hf⟩:=iC (l:= [(3,0),(3,1),(22,2),(9,3),(9,4),(43,5),(4,9),(44,10),(45,11),(45,12)]) (by kernel_rfl) (by simp) h
  have hc:Try.prog.cellsOf 47=13:=by kernel_rfl
  have ca:Try.prog.cellsOf 44=1:=by kernel_rfl
  have fM:Try.prog.cellsOf 45=1:=by kernel_rfl
  have ua:Try.prog.underlying 44=some (.slice 51):=by kernel_rfl
  have us:Try.prog.underlying 45=some (.slice 47):=by kernel_rfl
  have Zj:Try.prog.cellsOf 51=6:=by kernel_rfl
  obtain⟨y0,h0⟩:=hf 0 _ rfl
  obtain⟨y1,h1⟩:=hf 1 _ rfl
  obtain⟨y2,h2⟩:=hf 2 _ rfl
  obtain⟨y3,h3⟩:=hf 3 _ rfl
  obtain⟨y4,h4⟩:=hf 4 _ rfl
  obtain⟨y5,h5⟩:=hf 5 _ rfl
  obtain⟨y6,h6⟩:=hf 6 _ rfl
  obtain⟨y7,h7⟩:=hf 7 _ rfl
  obtain⟨y8,h8⟩:=hf 8 _ rfl
  obtain⟨y9,h9⟩:=hf 9 _ rfl
  dsimp only at h0 h1 h2 h3 h4 h5 h6 h7 h8 h9
  rw [Oz]at h0 h1
  rw [xv]at h2
  rw [tD]at h3 h4
  rw [Ku]at h5
  rw [xu]at h6
  rw [ca]at h7
  rw [fM]at h8 h9
  obtain⟨id,r0,_⟩:=wI G0 h0
  obtain⟨kind,r1,_⟩:=wI G0 h1
  obtain⟨labels,r2⟩:=rP h2
  obtain⟨name,r3,_⟩:=px q9 h3
  obtain⟨proc,r4,_⟩:=px q9 h4
  obtain⟨e,r5,hr⟩:=GZ _ _ _ h5
  obtain⟨b,r6⟩:=xq xr h6
  obtain⟨args,r7,ha⟩:=kH (W:=W) dm (fun a=>a.x.mz) ua Zj (by decide) (fun _=>rfl) (fun k hk cs x hx=>OB hx) h7
  obtain⟨bf,r8,ht⟩:=kH (W:=W) bl Sm.mz us hc (by decide) yM (fun k hk cs x hx=>ih k (by omega) cs x hx) h8
  obtain⟨bb,r9,he⟩:=kH (W:=W) bl Sm.mz us hc (by decide) yM (fun k hk cs x hx=>ih k (by omega) cs x hx) h9
  refine⟨⟨id,kind,labels,name,proc,e,b,args,bf,bb⟩, ?_,hr,ha,rQ ht,rQ he⟩
  have:=r0.at (r1.at (r2.at (r3.at (r4.at (r5.at (r6.at (r7.at (r8.at (r9.at (dc.end (by rw [hl,hc])))))))))))
  rw [fm]at this
  rw [cR]
  simpa [encStr]using this
theorem OD {fuel:Nat} {cs:List Value} {x:DataW H×List MemPlace} (h:DataW.trod enc Try.prog W 0 sp true fuel 61 cs=some x) : ∃ y:Pc,dc W (bP y) cs∧Sm.qC y.body:=by
 obtain⟨n,rfl,hl,hf⟩:=iC (l:= [(9,0),(59,1),(22,2),(45,3),(22,4)]) (by kernel_rfl) (by simp) h
 have hc:Try.prog.cellsOf 61=5:=by kernel_rfl
 have cp:Try.prog.cellsOf 59=1:=by kernel_rfl
 have fM:Try.prog.cellsOf 45=1:=by kernel_rfl
 have up:Try.prog.underlying 59=some (.slice 64):=by kernel_rfl
 have us:Try.prog.underlying 45=some (.slice 47):=by kernel_rfl
 have Zk:Try.prog.cellsOf 64=2:=by kernel_rfl
 have SA:Try.prog.cellsOf 47=13:=by kernel_rfl
 obtain⟨y0,h0⟩:=hf 0 _ rfl
 obtain⟨y1,h1⟩:=hf 1 _ rfl
 obtain⟨y2,h2⟩:=hf 2 _ rfl
 obtain⟨y3,h3⟩:=hf 3 _ rfl
 obtain⟨y4,h4⟩:=hf 4 _ rfl
 dsimp only at h0 h1 h2 h3 h4
 rw [tD]at h0
 rw [cp]at h1
 rw [xv]at h2 h4
 rw [fM]at h3
 obtain⟨name,r0,_⟩:=px q9 h0
 obtain⟨ps,r1,_⟩:=kH (W:=W) fR (fun _=>True) up Zk (by decide) (fun _=>rfl) (fun k hk cs x hx=>by
  obtain⟨y,hy⟩:=OA hx
  exact⟨y,hy,trivial⟩) h1
 obtain⟨vars,r2⟩:=rP h2
 obtain⟨body,r3,hb⟩:=kH (W:=W) bl Sm.mz us SA (by decide) yM (fun k hk cs x hx=>OC k cs x hx) h3
 obtain⟨fin,r4⟩:=rP h4
 refine⟨⟨name,ps,vars,body,fin⟩, ?_,rQ hb⟩
 have:=r0.at (r1.at (r2.at (r3.at (r4.at (dc.end (by rw [hl,hc]))))))
 simpa [encStr,bP]using this
theorem OE {fuel:Nat} {cs:List Value} {x:DataW H×List MemPlace} (h:DataW.trod enc Try.prog W 0 sp true fuel 25 cs=some x) : ∃ y:Pg,dc W (b7 y) cs∧y.mz:=by
 obtain⟨n,rfl,hl,hf⟩:=iC (l:= [(22,0),(23,1)]) (by kernel_rfl) (by simp) h
 have hc:Try.prog.cellsOf 25=2:=by kernel_rfl
 have cp:Try.prog.cellsOf 23=1:=by kernel_rfl
 have up:Try.prog.underlying 23=some (.slice 61):=by kernel_rfl
 have Zl:Try.prog.cellsOf 61=5:=by kernel_rfl
 obtain⟨y0,h0⟩:=hf 0 _ rfl
 obtain⟨y1,h1⟩:=hf 1 _ rfl
 dsimp only at h0 h1
 rw [xv]at h0
 rw [cp]at h1
 obtain⟨globals,r0⟩:=rP h0
 obtain⟨procs,r1,hp⟩:=kH (W:=W) bP (fun f=>Sm.qC f.body) up Zl (by decide) (fun _=>rfl) (fun k hk cs x hx=>OD hx) h1
 refine⟨⟨globals,procs⟩, ?_,hp⟩
 have:=r0.at (r1.at (dc.end (by rw [hl,hc])))
 simpa [b7]using this
end
end Go.Abs

/-! Join5 -/

namespace Go.Abs
open Go.Proofs Go.ChangeShapes Go.WideShapes Go.ChangeAt Go.RowKit
theorem tF {H:Type} {enc:TypeId×Value→H} {P:Program} {W:World} {sp:Nat→Bool} {t:TypeId} {ts:List TypeId} {ps:List MemPlace} : ∀ {l:List Value} {ds:List (DataW H)},DataW.TrodAll enc P W 0 sp true (t::ts) l ds ps→
 ∃ v l' d ke p q,l=v::l'∧ds=d::ke∧DataW.Trod enc P W 0 sp true t v d p∧DataW.TrodAll enc P W 0 sp true ts l' ke q
 | v::l,d::ds,⟨p,q,h1,h2,e⟩=>⟨v,l,d,ds,p,q,rfl,rfl,h1,h2⟩
 | [],[],h=>h.elim
 | [],_::_,h=>h.elim
 | _::_,[],h=>h.elim
theorem Jh {H:Type} {enc:TypeId×Value→H} {P:Program} {W:World} {sp:Nat→Bool} {ps:List MemPlace} : ∀ {l:List Value} {ds:List (DataW H)},DataW.TrodAll enc P W 0 sp true [] l ds ps→l = []∧ds = []
 | [],[],_=>⟨rfl,rfl⟩
 | [],_::_,h=>h.elim
 | _::_,ds,h=>by cases ds <;> exact h.elim
end Go.Abs

/-! TouchOn -/

namespace Go.Proofs.Ythecipohmaannaa.touchOn
open Go.ChangeShapes Go.WideShapes Go.ChangeAt Go.RowKit Go.Abs
theorem own:ownKnob Try.prog.godebug=none:=by kernel_rfl
theorem kids:Kids Try.prog (· < Try.prog.types.size):=kids_rows (by kernel_rfl) (by kernel_rfl)
theorem full : ∀ {t e:TypeId},t<Try.prog.types.size→Try.prog.underlying t=some (.slice e)→0<Try.prog.cellsOf e:=fun {t e}=>slices_full_of Try.prog (by kernel_rfl) t e
theorem walk (w:World) (x0:Pg) (EO:x0.mz) (v0:Value) (OF:RD (tC w) S0 (.agg (b7 x0)) v0) (x1:Int) (x2:Int):Calls Try.prog 3 #[v0, .int .i64 x1, .int .i64 x2] w fun e w'=>e = .returned (.bool true)∧Kept w w':=by
 refine LJ (args:= [.agg (b7 x0), .int .i64 x1, .int .i64 x2]) ((Bq x0 x1 x2 S0).mono fun _ _ h=>h.1) rfl ?_ (fun _ _ h=>nomatch h)
 intro i d v h1 h2
 match i,h1,h2 with
 | 0,h1,h2=>simp at h1 h2;subst h1 h2;exact OF
 | 1,h1,h2=>simp at h1 h2;subst h1 h2;exact RD.int _ _
 | 2,h1,h2=>simp at h1 h2;subst h1 h2;exact RD.int _ _
set_option maxRecDepth 100000 in
theorem lifted (os : Os) (started : os.Started) (H : Type) (enc : TypeId × Value → H) :
   ReturnsInHanded {} Try.checked os 3 .any (Rows.touchOnSpec.pre6 enc Try.prog Try.f3 Rows.touchOnRow.domain false) (Rows.touchOnSpec.post enc Try.prog Try.f3 false true false false) := by
 refine returnsInHanded_of_change (C := Try.checked) own started (by kernel_rfl) Try.func3
   (ChangeSpec.witness6 (enc := enc) (C := Try.checked) false ⟨#[], #[.agg #[.slice none 0 0, .slice none 0 0], .int .i64 0, .int .i64 0], []⟩ 8 (by kernel_rfl) (by kernel_rfl) (by kernel_rfl) (by kernel_rfl)) ?_
 intro W base args ds gs before Qk hW iS _
 have l5 : ∀ (j : Nat) t v, Try.f3.params[j]? = some t → args[j]? = some v → Value.okWide Try.prog W .any base t v := Qk
 have Ot := hW
 obtain ⟨p, q, OG, hV, rfl, Zc, Zd⟩ := hW
 have hA : DataW.TrodAll enc Try.prog W 0 (fun _ => true) true Try.f3.params.toList args.toList ds p := OG
 rw [Try.params3] at hA l5
 obtain ⟨l⟩ := args
 obtain ⟨v0, l0, d0, Qv, p0, q0, e0, Rc, Kn, OG⟩ := tF hA
 obtain ⟨v1, l1, d1, ds1, p1, q1, e1, Zm, Ko, Zn⟩ := tF OG
 obtain ⟨v2, l2, d2, ds2, p2, q2, e2, Zo, Zp, Zq⟩ := tF Zn
 obtain ⟨en, end_⟩ := Jh Zq
 have el : l = [v0, v1, v2] := by rw [show l = _ from e0, e1, e2, en]
 subst el
 have ed : ds = [d0, d1, d2] := by rw [Rc, Zm, Zo, end_]
 clear Rc
 subst ed
 have Zr : ∀ (i : Nat) (v : Value), Try.f3.params[i]? = some 25 → (⟨[v0, v1, v2]⟩ : Array Value)[i]? = some v → ∀ {d ps}, DataW.Trod enc Try.prog W 0 (fun _ => true) true 25 v d ps → ∃ x : Pg, RD (tC W) S0 (.agg (b7 x)) v ∧ x.mz := by
   intro i v hp hv d ps ⟨fuel, hf⟩
   obtain ⟨y, h1, h2⟩ := OE hf
   obtain ⟨fs, vF⟩ := yH (P := Try.prog) (t := 25) (l := [(22, 0), (23, 1)]) (by kernel_rfl) (by simp)
   obtain ⟨cs, e, _⟩ := okWide_struct vF (l5 i 25 v (by rw [← Try.params3]; exact hp) hv)
   exact ⟨y, h1.agg ⟨cs, e⟩, h2⟩
 obtain ⟨x0, OF, EO⟩ := Zr 0 v0 (by rw [Try.params3]; rfl) rfl Kn
 obtain ⟨x1, rfl, rfl, rfl, hi1⟩ := open_int Try.underlying3 (l5 1 _ _ rfl rfl) Ko
 obtain ⟨x2, rfl, rfl, rfl, sQ⟩ := open_int Try.underlying3 (l5 2 _ _ rfl rfl) Zp
 obtain ⟨rfl, rfl⟩ := trodVars_none hV
 refine (walk W x0 EO v0 OF x1 x2).mono fun e W' ⟨he, hg⟩ => ?_
 subst he
 exact ⟨_, rfl, Jg kids full (by rw [Try.params3]; decide) Try.underlying4 (by kernel_rfl) rfl Ot rfl hg⟩
theorem over:Rows.touchOnRow.holds Try.pinned (OpenSpec.ofChange Rows.touchOnSpec):=
 OpenClaim.holds_of_wide 3 Try.f3 rfl rfl rfl rfl rfl rfl rfl ⟨rfl,rfl,rfl,rfl,rfl⟩ rfl rfl rfl rfl rfl (by kernel_rfl) Try.func3 (by kernel_rfl)
  (of_decide_eq_true (by kernel_rfl)) (by unfold Func.isWrapper;first | (rw [if_pos (by decide +kernel)];kernel_rfl) | (rw [if_neg (by decide +kernel)];exact⟨rfl,rfl⟩))
  (fun os started H enc _=>lifted os started H enc)
theorem proved:Rows.TouchOnSaid:=
 over
#print axioms proved
end Go.Proofs.Ythecipohmaannaa.touchOn
