/-
  What is proved here: the statement CheckAllSaid: whatever the arguments, the law, called, gives true, and of what was there nothing turns.
  No conditions.
-/
import Derived.Test.YtiopamakecmpkaaGreatCkA4
import Derived.Lib.ItoaMem
import Derived.Shelf.Strings.Builder1
import Derived.Lib.Join
import Derived.WalkKit
import Derived.ProofKit
import Derived.OpenShut
import Derived.ShutString
import Derived.ChangeMaps5
import Derived.ChangeStays
import Derived.KernelRfl
import Derived.Test.YtiopamakecmpkaaGreatRows

set_option linter.unusedSimpArgs false
set_option linter.unusedVariables false

/-! Sim -/

namespace Go.Abs
structure TEq (t t':cj):Prop where
 k:t'.kind=t.kind
 x:t'.text=t.text
 n:t'.n=t.n
def Quiet (t:cj):Prop:=t.kind=0∨t.kind=4∧t.text = [125]
def JN (t:cj):Prop:=t.kind=0∨t.kind=3∧t.text = [112,114,111,99]
structure Env (l l':List cj) (N:Nat) (A:Prop):Prop where
 low : ∀ (i:Nat) (t:cj),l[i]? = some t→(A∨i<N)→∃ t',l'[i]? = some t'∧TEq t t'
 at' : ¬ A→∃ t t',l[N]? = some t∧l'[N]? = some t'∧Quiet t∧JN t'
section
variable {l l':List cj} {N:Nat} {A:Prop}
structure UP (l l':List cj) (r r':Rd):Prop where
 el:r.l=l
 el':r'.l=l'
 ei:r'.i=r.i
 en:r'.n=r.n
 ec:r'.code=r.code
 ef:r.code=0∨(r.code=3∨r.code=4)∧∃ (j:Nat) (t t':cj),l[j]? = some t∧l'[j]? = some t'∧r.qM=t.pos∧r'.qM=t'.pos
def Cnd (N:Nat) (A:Prop) (r:Rd):Prop:=A∨r.good=true∧r.i≤N
def SR (l l':List cj) (N:Nat) (A:Prop) (r r':Rd):Prop:=Cnd N A r→UP l l' r r'
def Sim {α:Type} (l l':List cj) (N:Nat) (A:Prop) (r:Rd) (o o':Option (α×Rd)):Prop:=
 ∀ p,o=some p→r.i≤p.2.i∧(p.2.good=true→r.good=true)∧(Cnd N A p.2→∃ q',o'=some (p.1,q')∧UP l l' p.2 q')
def axE (l l':List cj) (N:Nat) (A:Prop) (r:Rd) (o o':Option Rd):Prop:=
 ∀ p,o=some p→r.i≤p.i∧(p.good=true→r.good=true)∧(Cnd N A p→∃ q',o'=some q'∧UP l l' p q')
end
end Go.Abs

/-! Sim2 -/

namespace Go.Abs
section
variable {l l':List cj} {N:Nat} {A:Prop}
def Next (N:Nat) (A:Prop) (r:Rd) (t t':cj):Prop:=TEq t t'∨(¬ A∧r.i=N∧Quiet t∧JN t')
structure axF (N:Nat) (A:Prop) (r r':Rd):Prop where
 g:r'.good=r.good
 i:r'.i=r.i
 n:r'.n=r.n
 pk : ∀ t,r.nD=some t→∃ t',r'.nD=some t'∧Next N A r t t'
 pk2 : ∀ t,r.nD=some t→t.kind=1→∀ u,Ep r.l (r.i+1)=some u→∃ u',Ep r'.l (r'.i+1)=some u'∧(TEq u u'∨Quiet u∧JN u')
end
end Go.Abs

/-! Sim3 -/

namespace Go.Abs
section
variable {l l':List cj} {N:Nat} {A:Prop}
end
end Go.Abs

/-! Sim4 -/

namespace Go.Abs
section
variable {l l':List cj} {N:Nat} {A:Prop}
end
end Go.Abs

/-! MayLaw4 -/

namespace Go.Abs
def FOk (L:List cj) (c qM:Int):Prop:=c=0∧qM=0∨(c=3∨c=4)∧∃ t∈L,t.pos=qM
end Go.Abs

/-! Full2 -/

namespace Go.Abs
set_option maxRecDepth 8000
open Go.Proofs
mutual
def Ex.nodes:Ex→Nat
 | ⟨_,_,_,kids⟩=>1+Ex.Rr kids
def Ex.Rr:List Ex→Nat
 | []=>0
 | x::l=>x.nodes+Ex.Rr l
end
mutual
def Oo:Ex→Int→Int
 | ⟨_,_,_,kids⟩,fJ=>WC kids fJ 1
def WC:List Ex→Int→Int→Int
 | [],_,n=>n
 | x::l,fJ,n=>if n≤fJ then WC l fJ (n+Oo x (fJ - n))else n
end
end Go.Abs

/-! Binds1 -/

namespace Go.Abs
set_option maxRecDepth 8000
open Go.Proofs
def D2 (n:Int):List D:= [.int .i64 n]
theorem aep (n:Int):D.bR 0 0 (D2 n)=true:=rfl
theorem abH (n m:Nat) (l:List Int):D.kr n m (l.map D2)=l.map D2:=mP aep n m l
attribute [go_sem] D2 abH
def uv (op:Int):aF:=
 if op=5 then [42]else if op=6 then [47]else if op=7 then [37]else if op=8 then [43]else if op=9 then [45]else if op=10 then [60]else if op=11 then [60,61]
 else if op=12 then [62]else if op=13 then [62,61]else if op=14 then [61,61]else if op=15 then [33,61]else if op=16 then [38,38]else [124,124]
def gS (op:Int):Int:=(aah (uv op)).1
theorem awY {op:Int} (h:(decide (5≤op) && decide (op≤17))=true):op=5∨op=6∨op=7∨op=8∨op=9∨op=10∨op=11∨op=12∨op=13∨op=14∨op=15∨op=16∨op=17:=by
 simp only [Bool.and_eq_true,decide_eq_true_eq]at h;omega
def Rs:Nat→List aF
 | 0=> []
 | n+1=>Rs n++ [[UInt8.ofNat (97+n)]]
end Go.Abs

/-! Full3 -/

namespace Go.Abs
set_option maxRecDepth 8000
open Go.Proofs
def UQ:Nat→Nat→aF
 | 0,_=> []
 | f+1,n=>if n<10 then [UInt8.ofNat (48+n)]else UQ f (n / 10)++ [UInt8.ofNat (48+n % 10)]
end Go.Abs

/-! Full4 -/

namespace Go.Abs
set_option maxRecDepth 8000
open Go.Proofs
inductive rr:Ex→Prop
 | num (n:Int) (h0:0≤n) (h1:n≤9223372036854775807):rr ⟨1,n,[],[]⟩
 | name (t:aF) (h:isName t=true):rr ⟨2,0,t,[]⟩
 | neg (y:Ex) (h:rr y):rr ⟨3,0,[],[y]⟩
 | no (y:Ex) (h:rr y):rr ⟨4,0,[],[y]⟩
 | two (op:Int) (a b:Ex) (ho:(decide (5≤op) && decide (op≤17))=true) (ha:rr a) (hb:rr b):rr ⟨op,0,[],[a,b]⟩
mutual
def Hz:Ex→aF
 | ⟨op,n,name,kids⟩=>aeq op n name kids
def aeq (op n:Int) (name:aF):List Ex→aF
 | []=>if op=2 then name else UQ 20 n.toNat
 | [a]=>if op=3 then [40,45]++Hz a++ [41]else [40,33]++Hz a++ [41]
 | a::b::_=> [40]++Hz a++uv op++Hz b++ [41]
end
end Go.Abs

/-! Prim -/

namespace Go.Abs
open Go.Proofs
end Go.Abs

/-! Prim2 -/

namespace Go.Abs
open Go.Proofs Go.RowKit
def HA (l:aF):List (List D):=l.map fun c=> [.int .u8 c.toNat]
end Go.Abs

/-! Pr1 -/

namespace Go.Abs
open Go.Proofs
mutual
def sY (least:Int):Ex→aF
 | ⟨op,n,name,kids⟩=>prK least op n name kids
def prK (least op n:Int) (name:aF):List Ex→aF
 | []=>if op=2 then name else UQ 20 n.toNat
 | [a]=>if op=3 then [45]++sY 7 a else [33]++sY 7 a
 | a::b::_=>if gS op<least then [40]++(sY (gS op) a++ [32]++uv op++ [32]++sY (gS op+1) b)++ [41]else sY (gS op) a++ [32]++uv op++ [32]++sY (gS op+1) b
end
def prT (op:Int) (a b:Ex):aF:=sY (gS op) a++ [32]++uv op++ [32]++sY (gS op+1) b
def awn (x:Ex):aF:=if x.may then sY 0 x else []
end Go.Abs

/-! Binds2 -/

namespace Go.Abs
open Go.Proofs
def apx (names:List aF) (ops:List Int):Nat→aF
 | 0=> []
 | i+1=>apx names ops i++(if i=0 then []else uv (ops.getD (i - 1) 0))++names.getD i []
structure awZ (names:List aF) (ops:List Int):Prop where
 len:names.length=ops.length+1
 fJ:ops.length≤20
 short : ∀ x∈names,x.length≤1
 op : ∀ o∈ops,(decide (5≤o) && decide (o≤17))=true
def aer (i:Nat) (op:Int) (al:Nat×Int):Nat×Int:=if gS op≤al.2 then(i,gS op)else al
def Lm:List Int→Nat→Nat×Int→Nat×Int
 | [],_,al=>al
 | op::r,i,al=>Lm r (i+1) (aer i op al)
def Rt:Nat→List aF→List Int→Ex
 | 0,_,_=>mw
 | n+1,names,ops=>if ops.length=0 then ko (names.getD 0 [])else
  sA (ops.getD (Lm ops 0 (0,9)).1 0) (Rt n (names.take ((Lm ops 0 (0,9)).1+1)) (ops.take (Lm ops 0 (0,9)).1)) (Rt n (names.drop ((Lm ops 0 (0,9)).1+1)) (ops.drop ((Lm ops 0 (0,9)).1+1)))
end Go.Abs

/-! BindsL -/

namespace Go.Abs
inductive vx:Ex→List (Int×aF)→Ex→Prop
 | nil (x:Ex):vx x [] x
 | cut (x:Ex) (p1:List (Int×aF)) (op:Int) (y:aF) (p2:List (Int×aF)) (t1 t2:Ex) (h1:vx x p1 t1) (h2:vx (ko y) p2 t2) (l1 : ∀ q∈p1,gS op≤gS q.1) (l2 : ∀ q∈p2,gS op<gS q.1) :
  vx x (p1++(op,y)::p2) (sA op t1 t2)
def D3:List (Int×aF)→List cj→Prop
 | [],l=>∃ t r,l=t::r∧t.kind=0
 | (op,y)::p,l=>∃ s u r,l=s::u::r∧s.kind=4∧s.text=uv op∧(decide (5≤op) && decide (op≤17))=true∧u.kind=1∧u.text=y∧D3 p r
def awo (n:Nat):Prop:=∀ (least:Int) (r:Rd) (t0:cj) (p:List (Int×aF)) (l:List cj) (x:Ex×Rd),r.l.drop r.i=t0::l→t0.kind=1→D3 p l→r.code=0→1≤least→Rd.two n least r=some x→
 ∃ p1 p2,p=p1++p2∧vx (ko t0.text) p1 x.1∧(∀ q∈p1,least≤gS q.1)∧(∀ q p',p2=q::p'→gS q.1<least)∧x.2 = {r with i:=r.i+1+2*p1.length}∧D3 p2 (l.drop (2*p1.length))
def apK (n:Nat):Prop:=∀ (least:Int) (x0:Ex) (A:List (Int×aF)) (x:Ex) (r:Rd) (p:List (Int×aF)) (l:List cj) (z:Ex×Rd),r.l.drop r.i=l→D3 p l→r.code=0→1≤least→vx x0 A x→
 (∀ q p',p=q::p'→∀ a∈A,gS q.1≤gS a.1)→Rd.Ak n least x r=some z→
 ∃ p1 p2,p=p1++p2∧vx x0 (A++p1) z.1∧(∀ q∈p1,least≤gS q.1)∧(∀ q p',p2=q::p'→gS q.1<least)∧z.2 = {r with i:=r.i+2*p1.length}∧D3 p2 (l.drop (2*p1.length))
end Go.Abs

/-! BindsL2 -/

namespace Go.Abs
def AtB (d:List Int) (al:Nat×Int):Prop:=(d = []∧al.2=9)∨∃ o1 op o2,d=o1++op::o2∧o1.length=al.1∧gS op=al.2∧(∀ o∈o1,gS op≤gS o)∧∀ o∈o2,gS op<gS o
def aes:List aF→List Int→aF
 | x::xs,op::ops=>uv op++(x++aes xs ops)
 | _,_=> []
def apy:aF→Prop
 | []=>True
 | c::_=>pY c=false∧oA c=false
end Go.Abs

/-! Full5 -/

namespace Go.Abs
def uw (t:cj) (k:Int) (s:aF) (n:Int):Prop:=t.kind=k∧t.text=s∧t.n=n
inductive ux:Ex→List cj→List cj→Prop
 | num (n:Int) (t:cj) (l:List cj) (h:t.kind=2) (h2:t.n=n):ux ⟨1,n,[],[]⟩ (t::l) l
 | name (s:aF) (t:cj) (l:List cj) (h:t.kind=1) (h2:t.text=s):ux ⟨2,0,s,[]⟩ (t::l) l
 | neg (y:Ex) (p m q:cj) (l r:List cj) (hp:uw p 4 [40] 0) (hm:uw m 4 [45] 0) (hy:ux y l (q::r)) (hq:uw q 4 [41] 0):ux ⟨3,0,[],[y]⟩ (p::m::l) r
 | no (y:Ex) (p m q:cj) (l r:List cj) (hp:uw p 4 [40] 0) (hm:uw m 4 [33] 0) (hy:ux y l (q::r)) (hq:uw q 4 [41] 0):ux ⟨4,0,[],[y]⟩ (p::m::l) r
 | two (op:Int) (a b:Ex) (p o q:cj) (l m r:List cj) (ho:(decide (5≤op) && decide (op≤17))=true) (hp:uw p 4 [40] 0) (ha:ux a l (o::m)) (hs:uw o 4 (uv op) 0) (hb:ux b m (q::r)) (hq:uw q 4 [41] 0) :
  ux ⟨op,0,[],[a,b]⟩ (p::l) r
end Go.Abs

/-! Full6 -/

namespace Go.Abs
end Go.Abs

/-! Full7 -/

namespace Go.Abs
def Okd:aF→Prop
 | []=>False
 | d::_=>d≠61∧d≠38∧d≠124
end Go.Abs

/-! Pe1 -/

namespace Go.Abs
def Rd.mv (r:Rd) (k:Nat):Rd:= {r with i:=r.i+k}
structure At (r:Rd) (l:List cj):Prop where
 d:r.l.drop r.i=l
 c:r.code=0
 s:r.l.length<1000000000
def Kd (t:cj):Prop:=0≤t.kind∧t.kind≤4
def Halt (c:Int) (m:List cj):Prop:=∃ t m',m=t::m'∧Kd t∧((nC t).1=0∨(nC t).2≤c)
def aw0 (x:Ex) (l:List cj):Prop:=∀ (r:Rd) (lr:List cj) (n:Nat),At r (l++lr)→3*l.length≤n+1→Rd.one n r=some (x,r.mv l.length)
def aw1 (c:Int) (x:Ex) (l:List cj):Prop:=∀ (r:Rd) (lr:List cj) (n:Nat) (k:Int),At r (l++lr)→Halt c lr→k≤c→3*l.length≤n→∃ n',n≤n'+3*l.length∧Rd.two n k r=Rd.Ak n' k x (r.mv l.length)
end Go.Abs

/-! Pe2 -/

namespace Go.Abs
def B4 (least:Int):Ex→Nat
 | ⟨op,_,_,kids⟩=>match kids with
  | []=>1
  | [a]=>1+B4 7 a
  | a::b::_=>B4 (gS op) a+1+B4 (gS op+1) b+(if gS op<least then 2 else 0)
def LxS (s:aF) (pos:Nat) (l:List cj):Prop:=∀ r lr,apy r→Lx (pos+s.length) r lr→Lx pos (s++r) (l++lr)
def abI (l:List cj):Prop:=(∃ t l',l=t::l'∧(t.kind=2∨(t.kind=4∧(t.text = [40]∨t.text = [45]∨t.text = [33]))))∨(∃ t,l = [t]∧t.kind=1)∨∃ t u l',l=t::u::l'∧t.kind=1∧(decide (5≤(nC u).1) && decide ((nC u).1≤17))=true
def Ends (m:List cj):Prop:=∃ t m',m=t::m'∧Kd t∧(nC t).1=0
def Yg (x:Ex) (l:List cj):Prop:=∀ (r:Rd) (lr:List cj) (n:Nat),At r (l++lr)→Ends lr→3*l.length<n→Rd.whole n r=some (x,r.mv l.length)
end Go.Abs

/-! Bld -/

namespace Go.Abs
open Go.Proofs
theorem aeu (n m:Nat) (l:aF):D.ji n m (HA l)=true:=by
 simp [HA,C4,Aa,D.ok]
theorem aev (n m:Nat) (l:aF):D.kr n m (HA l)=HA l:=C9 n m _ (aeu 0 0 l)
attribute [go_sem] aev
def sB (n:Nat) (m:aF):aF:=List.replicate n 32++m++ [10]
end Go.Abs

/-! Pr2 -/

namespace Go.Abs
open Go.Proofs
def A9:List aF→aF
 | []=> []
 | s::l=>s++ [58,32]++A9 l
def apz (a:Ar):aF:=if a.ref then [114,101,102,32]++a.name else sY 0 a.x
def aew (name proc:aF) (args:List Ar):aF:=(if name = []then []else name++ [32,61,32])++(proc++ [40]++Lib.join (args.map apz) [44,32]++ [41])
def Ru (kind:Int) (name proc:aF) (x:Ex) (has:Bool) (args:List Ar):aF:=
 if kind=1 then name++ [32,61,32]++sY 0 x else if kind=2 then [114,101,97,100,32]++name else if kind=3 then [112,114,105,110,116,32]++sY 0 x else if kind=7 then [98,114,101,97,107]else if kind=8 then [99,111,110,116,105,110,117,101]
 else if kind=10 then [103,111,116,111,32]++name else if kind=9 then(if has then [114,101,116,117,114,110,32]++sY 0 x else [114,101,116,117,114,110])else aew name proc args
structure Sm.PrO (s:Sm):Prop where
 x:s.vl=true→rr s.x
 Wf : ∀ t∈s.labels,t.length≤8
 name:s.name.length≤8
 proc:s.proc.length≤8
 args : ∀ a∈s.args,a.name.length≤8∧(a.ref=false→rr a.x)
 kind:1≤s.kind∧s.kind≤10
 aP:s.kind=6→s.aP = []
end Go.Abs

/-! Pr3 -/

namespace Go.Abs
open Go.Proofs
mutual
def apA (bo:Nat):Sm→aF
 | ⟨id,kind,labels,name,proc,x,has,args,aZ,aP⟩=>
  if kind=6 then sB bo (A9 labels++ [119,104,105,108,101,32,40]++sY 0 x++ [41,32,123])++za (bo+1) aZ++sB bo [125]
  else if kind=5 then sB bo (A9 labels++ [105,102,32,40]++sY 0 x++ [41,32,123])++za (bo+1) aZ++(if aP.length=0 then []else sB bo [125,32,101,108,115,101,32,123]++za (bo+1) aP)++sB bo [125]
  else sB bo (A9 labels++Ru kind name proc x has args++ [59])
def za (bo:Nat):List Sm→aF
 | []=> []
 | s::l=>apA bo s++za bo l
end
mutual
def Sm.PrR (bo:Nat):Sm→Prop
 | ⟨id,kind,labels,name,proc,x,has,args,aZ,aP⟩=>Sm.PrO ⟨id,kind,labels,name,proc,x,has,args,aZ,aP⟩∧bo≤12∧Sm.Oq (bo+1) aZ∧Sm.Oq (bo+1) aP
def Sm.Oq (bo:Nat):List Sm→Prop
 | []=>True
 | s::l=>s.PrR bo∧Sm.Oq bo l
end
def lB (l:aF):Nat:=l.length
end Go.Abs

/-! Own -/

namespace Go.Abs
end Go.Abs

/-! Pr4 -/

namespace Go.Abs
open Go.Proofs
def abJ (a:Pm):aF:=(if a.ref then [114,101,102,32]else [])++a.name
def aex (f:Pc):aF:=
 sB 0 ([112,114,111,99,32]++f.name++ [40]++Lib.join (f.params.map abJ) [44,32]++ [41,32,123])++(if f.vars.length=0 then []else sB 1 ([118,97,114,32]++Lib.join f.vars [44,32]++ [59]))++za 1 f.body++sB 0 (A9 f.fin++ [125])
def Rv:List Pc→aF
 | []=> []
 | f::l=>aex f++Rv l
def abK (l:List aF):aF:=if l.length=0 then []else sB 0 ([103,108,111,98,97,108,32]++Lib.join l [44,32]++ [59])
def aw2 (p:Pg):aF:=abK p.globals++Rv p.procs
structure Pc.PrP (f:Pc):Prop where
 name:f.name.length≤8
 params : ∀ a∈f.params,a.name.length≤8
 vars : ∀ t∈f.vars,t.length≤8
 fin : ∀ t∈f.fin,t.length≤8
 body:Sm.Oq 1 f.body
structure Pg.PrG (p:Pg):Prop where
 globals : ∀ t∈p.globals,t.length≤8
 procs : ∀ f∈p.procs,f.PrP
end Go.Abs

/-! Ps1 -/

namespace Go.Abs
def LxF (s:aF) (pos:Nat) (l:List cj):Prop:=∀ r lr,Lx (pos+s.length) r lr→Lx pos (s++r) (l++lr)
def tSg (c:UInt8) (pos:Nat):cj:=⟨4,[c],0,(pos:Nat)⟩
def tNm (t:aF) (pos:Nat):cj:=⟨1,t,0,(pos:Nat)⟩
def tWd (t:aF) (pos:Nat):cj:=⟨3,t,0,(pos:Nat)⟩
inductive Ot {α:Type} (G:α→List cj→Prop):List α→List cj→Prop
 | one (x:α) (l:List cj) (h:G x l):Ot G [x] l
 | cons (x:α) (l:List cj) (c:cj) (hc:c.kind=4∧c.text = [44]) (xs:List α) (m:List cj) (h:G x l) (k:Ot G xs m):Ot G (x::xs) (l++c::m)
end Go.Abs

/-! Ps2 -/

namespace Go.Abs
def WD (t:aF) (l:List cj):Prop:=∃ k:cj,l = [k]∧k.kind=1∧k.text=t
def aws (a:Pm) (l:List cj):Prop:=if a.ref then ∃ w k:cj,l = [w,k]∧w.kind=3∧w.text = [114,101,102]∧k.kind=1∧k.text=a.name else WD a.name l
def axG (a:Ar) (l:List cj):Prop:=if a.ref then ∃ w k:cj,l = [w,k]∧w.kind=3∧w.text = [114,101,102]∧k.kind=1∧k.text=a.name else Yg a.x l∧abI l∧l.length=B4 0 a.x
def arZ (a:Ar):Ar:=if a.ref then⟨true,a.name,mw⟩else⟨false,[],a.x⟩
inductive Ou:List aF→List cj→Prop
 | nil:Ou [] []
 | cons (t c:cj) (ls:List aF) (m:List cj) (ht:t.kind=1) (hc:c.kind=4) (U6:c.text = [58]) (h:Ou ls m):Ou (t.text::ls) (t::c::m)
def aw3 (l:List cj):Prop:=∃ t l',l=t::l'∧Kd t∧(t.kind≠1∨∃ u m,l'=u::m∧(u.kind≠4∨u.text≠ [58]))
end Go.Abs

/-! PrMay -/

namespace Go.Abs
end Go.Abs

/-! Pr5 -/

namespace Go.Abs
set_option maxRecDepth 8000
open Go.Proofs
def aw4 (x:Ex):Int:=if lT x.op<2 then 7 else gS x.op
def aey (sep:aF):Nat→List aF→aF
 | _,[]=> []
 | k,a::l=>(if k=0 then []else sep)++(a++aey sep (k+1) l)
end Go.Abs

/-! Pr6 -/

namespace Go.Abs
set_option maxRecDepth 8000
open Go.Proofs
def aez (s:Sm):aF:=if s.kind=6 then [119,104,105,108,101,32,40]++sY 0 s.x++ [41,32,123]else if s.kind=5 then [105,102,32,40]++sY 0 s.x++ [41,32,123]else Ru s.kind s.name s.proc s.x s.has s.args++ [59]
end Go.Abs

/-! Pr7 -/

namespace Go.Abs
set_option maxRecDepth 8000
open Go.Proofs
end Go.Abs

/-! Ps3 -/

namespace Go.Abs
mutual
def Sm.z:Sm→Sm
 | ⟨_,kind,labels,name,proc,x,has,args,aZ,aP⟩=>⟨0,kind,labels,name,proc,x,has,args,Sm.zs aZ,Sm.zs aP⟩
def Sm.zs:List Sm→List Sm
 | []=> []
 | s::l=>s.z::Sm.zs l
end
structure axH (s:Sm):Prop where
 Wf:dG s.labels=true
 x:s.vl=true→s.x.may=true
 x0:s.vl=false→s.x=mw
 has:s.has=true→s.kind=9
 nm:s.hasName=true→isName s.name=true
 nm0:s.hasName=false→s.name = []∨(s.o6=true∧isName s.name=true)
 proc:s.o6=true→isName s.proc=true
 call:s.o6=false→s.proc = []∧s.args = []
 args:Ar.dZ s.args=true
 aZ:s.aZ = []∨s.kind=5∨s.kind=6
 aP:s.aP = []∨s.kind=5
 kind:1≤s.kind∧s.kind≤10
def aw5 (bo:Nat) (s:Sm):aF:=aez s++([10]++(if s.kind=5∨s.kind=6 then
 za (bo+1) s.aZ++((if s.kind=5∧s.aP.length≠0 then List.replicate bo 32++ [125,32,101,108,115,101,32,123,10]++za (bo+1) s.aP else [])++(List.replicate bo 32++ [125,10]))else []))
def NoW (w:aF) (l:List cj):Prop:=∃ t l',l=t::l'∧Kd t∧((t.kind≠3∧t.kind≠4)∨t.text≠w)
abbrev abM (l:List cj):Prop:=NoW [101,108,115,101] l
def awt (nest:Int) (n0 n1:Nat) (s:Sm) (l:List cj):Prop:=∀ (r:Rd) (lr:List cj) (m n:Nat),At r (l++lr)→abM lr→r.n=n0→3*l.length<m→l.length≤n→
 Rd.stmt m n nest r=some ({s.z with labels:= []},{r.mv l.length with n:=n1})
end Go.Abs

/-! Ps4 -/

namespace Go.Abs
def argN (a:Ar):Nat:=if a.ref then 2 else B4 0 a.x
def Ov {α:Type} (f:α→Nat):List α→Nat
 | []=>0
 | [a]=>f a
 | a::b::l=>f a+1+Ov f (b::l)
def abN (kind:Int) (name:aF) (x:Ex) (has:Bool) (args:List Ar):Nat:=
 if kind=1 then B4 0 x+3 else if kind=2 then 3 else if kind=3 then B4 0 x+2 else if kind=7 then 2 else if kind=8 then 2 else if kind=10 then 3
 else if kind=9 then(if has then B4 0 x+2 else 2)else(if name = []then 0 else 2)+Ov argN args+4
def aw6 (l:List cj):Prop:=(∃ t u l',l=t::u::l'∧t.kind=1∧(u.kind≠4∨u.text≠ [58]))∨(∃ t l',l=t::l'∧t.kind=3∧t.text≠ [125]∧t.text≠ [101,108,115,101]∧t.text≠ [118,97,114])
end Go.Abs

/-! Ps5 -/

namespace Go.Abs
mutual
def aeA:Sm→Nat
 | ⟨_,kind,_,name,_,x,has,args,aZ,aP⟩=>if kind=6 then B4 0 x+5+D4 aZ else if kind=5 then B4 0 x+5+D4 aZ+(if aP.length=0 then 0 else D4 aP+3)else abN kind name x has args
def D4:List Sm→Nat
 | []=>0
 | s::l=>2*s.labels.length+aeA s+D4 l
end
def awu (nest:Int) (n0 n1:Nat) (l:List Sm) (L:List cj):Prop:=∀ (fin:List aF) (F:List cj) (q:cj) (body:Bool) (r:Rd) (lr:List cj) (m n:Nat) (out:List Sm),Ou fin F→q.kind=4→q.text = [125]→(body=true∨fin = [])→
 At r (L++(F++q::lr))→r.n=n0→3*(L.length+F.length+1)<m→L.length+F.length+1≤n→out.length+l.length≤1000000→fin.length≤1000000→
 Rd.tZ m n nest body out r=some ((out++Sm.zs l,fin),{r.mv (L.length+F.length+1)with n:=n1})
def awv (L:List cj):Prop:=∀ w,(w = [101,108,115,101]∨w = [118,97,114])→∀ lr,NoW w lr→NoW w (L++lr)
end Go.Abs

/-! Pr8 -/

namespace Go.Abs
set_option maxRecDepth 8000
open Go.Proofs
end Go.Abs

/-! Ps6 -/

namespace Go.Abs
def apB (a:Pm):Nat:=if a.ref then 2 else 1
def aww (w:aF) (l:List aF) (T:List cj):Prop:=(l = []∧T = [])∨∃ (t q:cj) (m:List cj),T=t::(m++ [q])∧t.kind=3∧t.text=w∧Ot WD l m∧q.kind=4∧q.text = [59]
def Rw (l:List aF):Nat:=if l.length=0 then 0 else Ov (fun _=>1) l+2
def awx (n0 n1:Nat) (f:Pc) (l:List cj):Prop:=∀ (r:Rd) (lr:List cj) (m:Nat),At r (l++lr)→r.n=n0→3*l.length+10<m→Rd.proc m r=some (⟨f.name,f.params,f.vars,Sm.zs f.body,f.fin⟩,{r.mv l.length with n:=n1})
def aeB (f:Pc):Nat:=6+Ov apB f.params+Rw f.vars+D4 f.body+2*f.fin.length
end Go.Abs

/-! Ps7 -/

namespace Go.Abs
def Pc.z (f:Pc):Pc:=⟨f.name,f.params,f.vars,Sm.zs f.body,f.fin⟩
def Pg.z (p:Pg):Pg:=⟨p.globals,p.procs.map Pc.z⟩
def apL (n0:Nat) (l:List Pc) (L:List cj):Prop:=∀ (r:Rd) (e:cj) (m n:Nat) (out:List Pc),At r (L++ [e])→e.kind=0→r.n=n0→out.length+l.length≤16→3*L.length+10<m→l.length<n→
 ∃ n1,Rd.procs m n out r=some (out++l.map Pc.z,{r.mv L.length with n:=n1})
def Rx:List Pc→Nat
 | []=>0
 | f::l=>aeB f+Rx l
def Pg.aH (p:Pg):Nat:=Rw p.globals+Rx p.procs
end Go.Abs

/-! Swap2 -/

namespace Go.Abs
end Go.Abs

/-! Swap1 -/

namespace Go.Abs
set_option maxRecDepth 8000
open Go.Proofs
end Go.Abs

/-! Swap3 -/

namespace Go.Abs
set_option maxRecDepth 8000
open Go.Proofs
abbrev awy (a b:aF) (N:Nat):Prop:=∀ l:List Sm,Sm.aS l<N→∀ s:St,aE Tryz.prog Cl [.slice .shared 13 (l.map bd), .str a, .str b] s (.slice .shared 13 ((Sm.wD a b l).map bd)) s
end Go.Abs

/-! BeqEq -/

namespace Go.Abs
end Go.Abs

/-! LawPr7 -/

namespace Go.Abs
set_option maxRecDepth 8000
open Go.Proofs
end Go.Abs

/-! PLen -/

namespace Go.Abs
end Go.Abs

/-! Some -/

namespace Go.Abs
open Go.Proofs
def prB:Pc:=⟨[112],[⟨[120],false⟩,⟨[121],true⟩],[],[
 ⟨5,1,[],[121],[],sA 8 (ko [121]) (ko [120]),false,[],[],[]⟩,
 ⟨6,5,[],[],[],sA 12 (ko [121]) (wG 9),false,[],[⟨7,10,[],[101],[],mw,false,[],[],[]⟩],[]⟩,
 ⟨8,9,[],[],[],ko [121],true,[],[],[]⟩],[[101]]⟩
def stB:Sm:=⟨6,5,[],[],[],sA 12 (ko [121]) (wG 9),false,[],[⟨7,10,[],[101],[],mw,false,[],[],[]⟩],[]⟩
end Go.Abs

/-! Toks -/

namespace Go.Abs
set_option maxRecDepth 8000
open Go.Proofs
def Ln:List Ar→Int
 | []=>0
 | a::l=>3+4*Oo a.x 2000+Ln l
def WE (s:Sm):Int:=8+2*(s.labels.length:Int)+4*Oo s.x 2000+Ln s.args
def JO:List It→Int
 | []=>0
 | i::l=>WE i.s+JO l
def WG:List Pm→Int
 | []=>0
 | a::l=>(if a.ref then 1 else 0)+WG l
def aeC (f:Pc):Int:=6+2*(f.params.length:Int)+2*(f.fin.length:Int)+WG f.params - (if f.params.length=0 then 0 else 1)+(if f.vars.length=0 then 0 else 1+2*(f.vars.length:Int))+JO f.flat
def Ry:List Pc→Int
 | []=>0
 | f::l=>aeC f+Ry l
def axI (p:Pg):Int:=(if p.globals.length=0 then 0 else 1+2*(p.globals.length:Int))+Ry p.procs
end Go.Abs

/-! Toks2 -/

namespace Go.Abs
mutual
def apC:Sm→Int
 | ⟨id,kind,labels,name,proc,x,has,args,aZ,aP⟩=>WE ⟨id,kind,labels,name,proc,x,has,args,aZ,aP⟩+JP aZ+JP aP
def JP:List Sm→Int
 | []=>0
 | s::l=>apC s+JP l
end
end Go.Abs

/-! LawTurn -/

namespace Go.Abs
open Go.Proofs
end Go.Abs

/-! LawCk1 -/

namespace Go.Abs
set_option maxRecDepth 8000
open Go.Proofs
theorem JQ (p:Pg) (s:St):aE Tryz.prog uR [.agg (bH p)] s (.bool true) s:=by
 refine aE.pure ?_ (by simp [D.bR,D.ok,fX]) rfl s
 have h1:=fun s=>Rq s
 have h2:=fun s=>abu p s
 unfold S0
 rcases Bool.eq_false_or_eq_true (decide (p.Bv≤20000))with hw | hw
 case inr=>
  simp only [hw]at h2
  refine aE.go sR rfl fun B Q hB hQ=> ?_
  have⟨hF,hP,hY,hZ⟩:=bq
  repeat' (first
 | simp only [go_sem,hF,hP,hY,hZ]
 | (with_reducible refine CU (h1 _) ?_)
 | (with_reducible refine CU (h2 _) ?_)
 | (with_reducible refine aC hQ ?_;simp only [au,aw,Option.some.injEq,exists_eq_left',go_sem,hF,hP,hY,hZ];repeat' (first | exact Ok.out | with_reducible refine aB ?_ ?_ | (simp;done))))
 simp only [hw]at h2
 obtain⟨e9,aeD⟩:=Og (of_decide_eq_true hw)
 have ho:p.iC:=⟨aeD,by omega⟩
 have h3:=fun s=>DZ ho s
 have h4:=fun s=>Rm ho s
 have h5:=fun s=>Rl ho s
 have h6:=fun s=>UO ho s
 have e1:(p.check.1==p.check.1)=true:=by simp
 have e2:(p.check.2==p.check.2)=true:=by simp
 have e3:((p.check.1==0)==(p.check.1==0))=true:=by simp
 refine aE.go sR rfl fun B Q hB hQ=> ?_
 have⟨hF,hP,hY,hZ⟩:=bq
 repeat' (first
 | simp only [go_sem,hF,hP,hY,hZ,e1,e2,e3]
 | (with_reducible refine CU (h1 _) ?_)
 | (with_reducible refine CU (h2 _) ?_)
 | (with_reducible refine CU (h3 _) ?_)
 | (with_reducible refine CU (h4 _) ?_)
 | (with_reducible refine CU (h5 _) ?_)
 | (with_reducible refine CU (h6 _) ?_)
 | (with_reducible refine aC hQ ?_;simp only [au,aw,Option.some.injEq,exists_eq_left',go_sem,hF,hP,hY,hZ];repeat' (first | exact Ok.out | with_reducible refine aB ?_ ?_ | (simp;done))))
end Go.Abs

/-! Join -/

namespace Go.Abs
open Go.RowKit Go.ChangeShapes Go.WideShapes
def Fk (w:World) (b o:Nat):Option Value:=
 match w.cell? ⟨b,o,none⟩with
 | some v=>if v.oneCell'=true then some v else none
 | none=>none
theorem Lo {w:World} (b o:Nat) (v:Value) (h:Fk w b o=some v):w.cell? ⟨b,o,none⟩=some v∧v.oneCell'=true:=by
 unfold Fk at h
 split at h
 ·split at h
  ·cases h;exact⟨‹_›, ‹_›⟩
  ·cases h
 ·cases h
def Ba (w:World):Map:=⟨Fk w,fun _=>(0, .any),fun _=>none⟩
theorem Kept.sameAt {w w':World} (h:Kept w w') {p:MemPlace} (hp:p.block<w.heap.size):w.sameAt w' p:=by
 have hk:=h.1.2.2 p.block hp
 cases p with
 | cell b off=>
  simp only [MemPlace.block]at hk hp
  simp only [World.sameAt,World.cell?]
  split at hk
  ·rename_i c t fr c' t' fr' e e'
   rw [e,e']
   simp only [hk.2.2.2 off (fun f=>f)]
  ·rename_i es clock zh abO e e'
   rw [e,e']
  ·rw [hk]
 | map b=>
  simp only [MemPlace.block]at hk hp
  simp only [World.sameAt]
  split at hk
  ·rename_i c t fr c' t' fr' e e'
   rw [e,e']
   obtain⟨rfl,rfl,hs,hc⟩:=hk
   have:c'=c:=by
    apply Array.ext_getElem?
    intro i
    exact hc i (fun f=>f)
   rw [this]
  ·rename_i es clock zh abO e e'
   rcases hk with f | ⟨rfl,rfl⟩
   ·exact f.elim
   ·rw [e,e']
  ·exact hk
section
variable {P:Program} {H:Type} {enc:TypeId×Value→H} {T:TypeId→Prop}
theorem D5 (K:Kids P T) (hz : ∀ {t e:TypeId},T t→P.underlying t=some (.slice e)→0<P.cellsOf e) {W W':World} (hk:Kept W W') {sp:Nat→Bool} :
 ∀ {ts:List TypeId} {vs:List Value} {ds:List (DataW H)} {ps:List MemPlace},(∀ t∈ts,T t)→(∀ p∈ps,p.block<W.heap.size)→(∀ p∈ps,sp p.block=true)→
  DataW.TrodAll enc P W 0 (fun _=>true) true ts vs ds ps→DataW.TrodAll enc P W' 0 sp true ts vs ds ps
 | [],[],[],_,_,_,_,h=>h
 | t::ts,v::vs,d::ds,ps,hT,hF,hs,⟨p,q,⟨n,h1⟩,h2,e⟩=>by
  subst e
  refine⟨p,q,⟨n,DataW.trod_stays K hz (fun f=>by cases f) (hT t (List.mem_cons_self ..)) h1 (fun x hx=>hk.sameAt (hF x (List.mem_append_left _ hx))) (fun x hx=>hs x (List.mem_append_left _ hx))⟩, ?_,rfl⟩
  exact D5 K hz hk (fun t ht=>hT t (List.mem_cons_of_mem _ ht)) (fun x hx=>hF x (List.mem_append_right _ hx)) (fun x hx=>hs x (List.mem_append_right _ hx)) h2
 | [],[],_::_,_,_,_,_,h=>h.elim
 | [],_::_,_,_,_,_,_,h=>h.elim
 | _::_,[],_,_,_,_,_,h=>h.elim
 | _::_,_::_,[],_,_,_,_,h=>h.elim
theorem UR (K:Kids P T) (hz : ∀ {t e:TypeId},T t→P.underlying t=some (.slice e)→0<P.cellsOf e) {f:Func} {s:ChangeSpec} {apart fresh handsOn again:Bool} {tb:TypeId} {W W':World} {args:Array Value} {ds gs:List (DataW H)} {before:List MemPlace}
 (hT : ∀ t∈f.params.toList,T t) (hb:P.underlying tb=some .bool) (hr:f.resultTypes = #[tb]) (D0:s.vars = []) (hW:DataW.Whole enc P f.params.toList s.vars apart W args.toList ds gs before)
 (we:s.fn H (ds++gs) = {results:= [.lit (.bool true)],args:=ds}) (hk:Kept W W'):s.post enc P f apart fresh handsOn again W args (.bool true) W':=by
 have hW':=hW
 have hF : ∀ p∈before,p.block<W.heap.size:=fun p hp=>hW.lt p hp
 obtain⟨p,q,hA,hV,rfl,hfz,hnd⟩:=hW
 rw [D0]at hV
 obtain⟨rfl,rfl⟩:=trodVars_none hV
 simp only [List.append_nil]at hF we
 refine JL (pa:=p) (pv:= []) hW' (fun b sp hd=> ?_) (fun sp oW=> ?_) (fun sp oW=> ?_) rfl hk (ok_one hr rfl (okWide_bool_mk hb _))
 ·rw [List.append_nil,we,hr]
  exact trodAll_cons_mk (shut_bool hb _) trodAll_mk0
 ·rw [List.append_nil,we]
  simp only [List.append_nil]at oW
  exact D5 K hz hk hT hF oW hA
 ·rw [List.append_nil,we,D0]
  rfl
theorem Yh {f:FuncId} {args:List D} {gw:Array Value} {w:World} (h:eU P f args S0 fun d _=>d = .bool true) (hl:gw.size=args.length)
 (ha : ∀ (i:Nat) (d:D) (v:Value),args[i]? = some d→gw[i]? = some v→RD (Ba w) S0 d v) (lk:Ol w):Calls P f gw w fun e w'=>e = .returned (.bool true)∧Kept w w':=
 Rn (G:=Fk w) h Lo hl ha lk
end
end Go.Abs

/-! Join2 -/

namespace Go.Abs
open Go.RowKit Go.ChangeShapes Go.WideShapes
end Go.Abs

/-! Join3 -/

namespace Go.Abs
open Go.RowKit Go.ChangeShapes Go.WideShapes
def fv (W:World) (ds:List D) (cs:List Value):Prop:=ds.length=cs.length∧(∀ (i:Nat) (d:D) (v:Value),ds[i]? = some d→cs[i]? = some v→RD (Ba W) S0 d v)∧∀ v∈cs,v.oneCell'=true
theorem fv.one {W:World} {d:D} {v:Value} (h:RD (Ba W) S0 d v) (hv:v.oneCell'=true):fv W [d] [v]:=by
 refine⟨rfl,fun i d' v' h1 h2=> ?_,fun u hu=>by simp at hu;subst hu;exact hv⟩
 cases i with
 | zero=>simp at h1 h2;subst h1 h2;exact h
 | succ i=>simp at h1
theorem fv.app {W:World} {ds om:List D} {cs jy:List Value} (h:fv W ds cs) (h':fv W om jy):fv W (ds++om) (cs++jy):=by
 obtain⟨a1,a2,a3⟩:=h
 obtain⟨b1,b2,b3⟩:=h'
 refine⟨by simp [a1,b1],fun i d v h1 h2=> ?_,fun v hv=> ?_⟩
 ·by_cases hi:i<ds.length
  ·rw [List.getElem?_append_left hi]at h1
   rw [List.getElem?_append_left (by omega)]at h2
   exact a2 i d v h1 h2
  ·rw [List.getElem?_append_right (by omega)]at h1
   rw [List.getElem?_append_right (by omega), ← a1]at h2
   exact b2 _ d v h1 h2
 ·rcases List.mem_append.1 hv with hv | hv
  ·exact a3 v hv
  ·exact b3 v hv
theorem fv.at {W:World} {ds om:List D} {cs:List Value} {o n:Nat} (h:fv W ds ((cs.drop o).take n)) (h':fv W om (cs.drop (o+n))):fv W (ds++om) (cs.drop o):=by
 have e:cs.drop o=(cs.drop o).take n++cs.drop (o+n):=by rw [← List.drop_drop,List.take_append_drop]
 rw [e]
 exact h.app h'
theorem fv.end {W:World} {cs:List Value} {o:Nat} (h:cs.length=o):fv W [] (cs.drop o):=by
 rw [← h,List.drop_length]
 exact⟨rfl,fun i d v h=>by simp at h,fun v hv=>by cases hv⟩
section
variable {H:Type} {enc:TypeId×Value→H} {P:Program} {W:World} {sp:Nat→Bool}
def structOf (P:Program) (t:TypeId):List (TypeId×Nat):=
 match P.underlying t with
 | some (.struct fs)=>fs.toList.map fun f=>(f.type,f.offset)
 | _=> []
theorem lJ {t:TypeId} {l:List (TypeId×Nat)} {fuel:Nat} {cs:List Value} {x:DataW H×List MemPlace} (h:structOf P t=l) (fE:l≠ []) (ht:DataW.trod enc P W 0 sp true fuel t cs=some x) :
 ∃ n,fuel=n+1∧cs.length=P.cellsOf t∧∀ (i:Nat) (f:TypeId×Nat),l[i]? = some f→∃ y,DataW.trod enc P W 0 sp true n f.1 ((cs.drop f.2).take (P.cellsOf f.1))=some y:=by
 unfold structOf at h
 split at h
 ·rename_i fs hu
  obtain⟨xs,n,e,_,hl,hlen,hf⟩:=DataW.trod_struct hu ht
  refine⟨n,e,hl,fun i f hi=> ?_⟩
  subst h
  rw [List.getElem?_map,Option.map_eq_some_iff]at hi
  obtain⟨g,hg,rfl⟩:=hi
  have Vt:fs[i]? = some g:=by simpa using hg
  have hi:i<xs.length:=by rw [hlen];exact(Array.getElem?_eq_some_iff.1 Vt).1
  exact⟨xs[i],by rw [hf i g Vt,List.getElem?_eq_getElem hi]⟩
 ·exact absurd h.symm fE
theorem G7 {t:TypeId} {l:List (TypeId×Nat)} (h:structOf P t=l) (fE:l≠ []) : ∃ fs,P.underlying t=some (.struct fs):=by
 unfold structOf at h
 split at h
 ·exact⟨_, ‹_›⟩
 ·exact absurd h.symm fE
theorem B5 {α:Type} {Q:Nat→α→Prop} : ∀ n,(∀ i,i<n→∃ y,Q i y)→∃ ys:List α,ys.length=n∧∀ i y,ys[i]? = some y→Q i y
 | 0,_=>⟨[],rfl,fun i y h=>by simp at h⟩
 | n+1,h=>by
  obtain⟨ys,h1,h2⟩:=B5 n fun i hi=>h i (by omega)
  obtain⟨y,hy⟩:=h n (by omega)
  refine⟨ys++ [y],by simp [h1],fun i z hz=> ?_⟩
  by_cases hi:i<ys.length
  ·rw [List.getElem?_append_left hi]at hz;exact h2 i z hz
  ·rw [List.getElem?_append_right (by omega)]at hz
   have:i - ys.length=0:=by
    rcases Nat.eq_zero_or_pos (i - ys.length)with h | h
    ·exact h
    ·rw [List.getElem?_eq_none (by simp only [List.length_cons,List.length_nil];omega)]at hz;cases hz
   rw [this]at hz
   simp at hz
   subst hz
   have:i=n:=by omega
   subst this
   exact hy
theorem ph {α:Type} (en:α→List D) (good:α→Prop) {z:Nat} {t e:TypeId} {fuel:Nat} {cs:List Value} {x:DataW H×List MemPlace} (ht:P.underlying t=some (.slice e)) (hz:P.cellsOf e=z) (hz0:0<z) (hen : ∀ y,(en y).length=z)
 (hel : ∀ n<fuel,∀ cs x,DataW.trod enc P W 0 sp true n e cs=some x→∃ y,fv W (en y) cs∧good y) (h:DataW.trod enc P W 0 sp true fuel t cs=some x) :
 ∃ ys:List α,fv W [.slice .shared z (ys.map en)] cs∧∀ y∈ys,good y:=by
 rcases DataW.trod_slice ht h with ⟨rfl,_⟩ | ⟨a,len,cap,elems,rest,n,hn,rfl,_,hb,hl,hm,hlen,vL,_,_⟩
 ·exact⟨[],fv.one (.jM _ _ _ rfl trivial) rfl,fun y hy=>by cases hy⟩
 ·by_cases h0:len=0
  ·subst h0
   exact⟨[],fv.one (.nw _ _ _) rfl,fun y hy=>by cases hy⟩
  ·obtain⟨ys,hys,wR⟩:=B5 (Q:=fun i y=>good y∧∃ jy,W.cells? 0 (a.add (i*z)) z=some jy∧fv W (en y) jy) len fun i hi=>by
    have hc:=vL i hi
    rw [List.getElem?_eq_getElem (by omega),hz,Option.bind_eq_some_iff]at hc
    obtain⟨jy,h1,h2⟩:=hc
    obtain⟨y,h3,h4⟩:=hel n (by omega) _ _ h2
    exact⟨y,h4,jy,h1,h3⟩
   have cell : ∀ i y,ys[i]? = some y→∀ (j:Nat) d,(en y)[j]? = some d→∃ v,W.cell? ((a.add (i*z)).add j)=some v∧RD (Ba W) S0 d v∧v.oneCell'=true:=by
    intro i y hy j d hd
    obtain⟨_,jy,h1,h2,h3,h4⟩:=wR i y hy
    obtain⟨_,k1,k2⟩:=World.cells?_some h1
    have hj:j<z:=by rw [← hen y];exact(List.getElem?_eq_some_iff.1 hd).1
    have hv:jy[j]? = some jy[j]:=List.getElem?_eq_getElem (by omega)
    exact⟨jy[j],by rw [k2 j hj,hv],h3 j d _ hd hv,h4 _ (List.getElem_mem _)⟩
   obtain⟨b,off,spot⟩:=a
   have aeE:spot=none:=by
    have hy:ys[0]? = some (ys[0]'(by omega)):=List.getElem?_eq_getElem (by omega)
    obtain⟨d,hd⟩ : ∃ d,(en (ys[0]'(by omega)))[0]? = some d:=⟨_,List.getElem?_eq_getElem (show 0<(en (ys[0]'(by omega))).length by rw [hen];exact hz0)⟩
    obtain⟨v,hv,_⟩:=cell 0 _ hy 0 _ hd
    have:=World.cell?_spot hv
    simpa [Addr.add]using this
   subst aeE
   have e:(ys.map en).length=len:=by simp [hys]
   have:=RD.slice (M:=Ba W) (s:=S0) .shared z (ys.map en) b off cap (by omega) (fun row hr=>by obtain⟨y,_,rfl⟩:=List.mem_map.1 hr;exact hen y)
    (fun i row j d h1 h2=>by
     rw [List.getElem?_map,Option.map_eq_some_iff]at h1
     obtain⟨y,h1,rfl⟩:=h1
     obtain⟨v,hv,_,h4⟩:=cell i y h1 j d h2
     rw [add_plain,add_plain]at hv
     refine⟨v, ?_⟩
     show Fk W b (off+(i*z+j))=_
     unfold Fk
     rw [show off+(i*z+j)=off+i*z+j by omega,hv]
     simp [h4])
    (fun i row j d u h1 h2 hu=>by
     rw [List.getElem?_map,Option.map_eq_some_iff]at h1
     obtain⟨y,h1,rfl⟩:=h1
     obtain⟨v,hv,h3,h4⟩:=cell i y h1 j d h2
     rw [add_plain,add_plain]at hv
     obtain⟨hu,_⟩:=Lo _ _ _ hu
     rw [show off+(i*z+j)=off+i*z+j by omega,hv]at hu
     cases hu
     exact h3) trivial
   rw [e]at this
   refine⟨ys,fv.one this rfl,fun y hy=> ?_⟩
   obtain⟨i,hi⟩:=List.getElem?_of_mem hy
   exact(wR i y hi).1
theorem D6 {t:TypeId} {fuel:Nat} {cs:List Value} {x:DataW H×List MemPlace} (ht:P.underlying t=some (.int .i64)) (h:DataW.trod enc P W 0 sp true fuel t cs=some x) : ∃ n:Int,fv W [.int .i64 n] cs∧n≤9223372036854775807∧ -9223372036854775808≤n:=by
 obtain⟨n,rfl,_,hw⟩:=DataW.trod_int ht h
 simp [Lit.wf,IntKind.min,IntKind.max,IntKind.signed,IntKind.bits]at hw
 exact⟨n,fv.one (.int _ _) rfl,by omega,by omega⟩
theorem Fl {t:TypeId} {fuel:Nat} {cs:List Value} {x:DataW H×List MemPlace} (ht:P.underlying t=some .bool) (h:DataW.trod enc P W 0 sp true fuel t cs=some x) : ∃ b:Bool,fv W [.bool b] cs:=by
 obtain⟨n,rfl,_⟩:=DataW.trod_bool ht h
 exact⟨n,fv.one (.bool _) rfl⟩
theorem vz {t:TypeId} {fuel:Nat} {cs:List Value} {x:DataW H×List MemPlace} (ht:P.underlying t=some .string) (h:DataW.trod enc P W 0 sp true fuel t cs=some x) : ∃ s:aF,fv W (encStr s) cs∧s.length≤maxLen:=by
 obtain⟨s,rfl,_,hm⟩:=DataW.trod_string ht h
 obtain⟨⟨l⟩⟩:=s
 exact⟨l,fv.one (.str l) rfl,hm⟩
theorem aeF {tE tI tN tS tK:TypeId} (hE:structOf P tE = [(tI,0),(tN,1),(tS,2),(tK,3)]) (hEc:P.cellsOf tE=4) (hI:P.underlying tI=some (.int .i64)) (hN:P.underlying tN=some (.int .i64)) (hS:P.underlying tS=some .string) (hK:P.underlying tK=some (.slice tE))
 (cI:P.cellsOf tI=1) (cN:P.cellsOf tN=1) (cS:P.cellsOf tS=1) (cK:P.cellsOf tK=1) :
 ∀ (fuel:Nat) (cs:List Value) (x:DataW H×List MemPlace),DataW.trod enc P W 0 sp true fuel tE cs=some x→∃ y:Ex,fv W (bE y) cs∧y.rh:=by
 intro fuel
 induction fuel using Nat.strongRecOn with
 | _ fuel ih=>
  intro cs x h
  obtain⟨n,rfl,hl,hf⟩:=lJ hE (by simp) h
  obtain⟨y0,h0⟩:=hf 0 _ rfl
  obtain⟨y1,h1⟩:=hf 1 _ rfl
  obtain⟨y2,h2⟩:=hf 2 _ rfl
  obtain⟨y3,h3⟩:=hf 3 _ rfl
  dsimp only at h0 h1 h2 h3
  rw [cI]at h0
  rw [cN]at h1
  rw [cS]at h2
  rw [cK]at h3
  obtain⟨op,r0,_⟩:=D6 hI h0
  obtain⟨m,r1,hm,_⟩:=D6 hN h1
  obtain⟨s,r2,_⟩:=vz hS h2
  obtain⟨ks,r3,hg⟩:=ph (W:=W) bE Ex.rh hK hEc (by decide) Vw (fun k hk cs x hx=>ih k (by omega) cs x hx) h3
  refine⟨⟨op,m,s,ks⟩, ?_,hm, ?_⟩
  ·have:=r0.at (r1.at (r2.at (r3.at (fv.end (by rw [hl,hEc])))))
   rw [gV]
   simpa [encStr]using this
  ·clear r3
   induction ks with
   | nil=>exact trivial
   | cons k ks ihk=>exact⟨hg k (by simp),ihk fun y hy=>hg y (by simp [hy])⟩
theorem fv.agg {ds:List D} {v:Value} (h:fv W ds v.cells.toList) (hv : ∃ vs,v = .agg vs):RD (Ba W) S0 (.agg ds) v:=by
 obtain⟨vs,rfl⟩:=hv
 obtain⟨h1,h2,h3⟩:=h
 have e:(Value.agg vs).cells=vs:=rfl
 rw [e]at h1 h2 h3
 refine .agg ds vs (by simpa using h1) (fun v hv=>h3 v (by simpa using hv)) fun i d v hd hv=>h2 i d v hd (by simpa using hv)
end
end Go.Abs

/-! Join4 -/

namespace Go.Abs
open Go.Proofs Go.RowKit Go.ChangeShapes Go.WideShapes
section
variable {H:Type} {enc:TypeId×Value→H} {W:World} {sp:Nat→Bool}
theorem Rz (fuel:Nat) (cs:List Value) (x:DataW H×List MemPlace) (h:DataW.trod enc Tryz.prog W 0 sp true fuel 50 cs=some x) : ∃ y:Ex,fv W (bE y) cs∧y.rh:=
 aeF (tE:=50) (tI:=3) (tN:=2) (tS:=9) (tK:=48) (by kernel_rfl) (by kernel_rfl) (by kernel_rfl) (by kernel_rfl) (by kernel_rfl) (by kernel_rfl) (by kernel_rfl) (by kernel_rfl) (by kernel_rfl) (by kernel_rfl) _ _ _ h
theorem Yi:Tryz.prog.underlying 22=some (.slice 9):=by kernel_rfl
theorem yd:Tryz.prog.underlying 9=some .string:=by kernel_rfl
theorem RA:Tryz.prog.underlying 3=some (.int .i64):=by kernel_rfl
theorem Fm:Tryz.prog.underlying 4=some .bool:=by kernel_rfl
theorem Bb:Tryz.prog.cellsOf 9=1:=by kernel_rfl
theorem abU:Tryz.prog.cellsOf 3=1:=by kernel_rfl
theorem Fo:Tryz.prog.cellsOf 4=1:=by kernel_rfl
theorem Fp:Tryz.prog.cellsOf 22=1:=by kernel_rfl
theorem WH:Tryz.prog.cellsOf 50=4:=by kernel_rfl
theorem zb {fuel:Nat} {cs:List Value} {x:DataW H×List MemPlace} (h:DataW.trod enc Tryz.prog W 0 sp true fuel 22 cs=some x) : ∃ l:List aF,fv W [.slice .shared 1 (l.map encStr)] cs:=by
 obtain⟨l,h,_⟩:=ph (W:=W) encStr (fun _=>True) Yi Bb (by decide) (fun _=>rfl) (fun k hk cs x hx=>by
  obtain⟨s,hs,_⟩:=vz yd hx
  exact⟨s,hs,trivial⟩) h
 exact⟨l,h⟩
theorem abV {fuel:Nat} {cs:List Value} {x:DataW H×List MemPlace} (h:DataW.trod enc Tryz.prog W 0 sp true fuel 42 cs=some x) : ∃ y:Pm,fv W (fQ y) cs:=by
 obtain⟨n,rfl,hl,hf⟩:=lJ (l:= [(9,0),(4,1)]) (by kernel_rfl) (by simp) h
 have hc:Tryz.prog.cellsOf 42=2:=by kernel_rfl
 obtain⟨y0,h0⟩:=hf 0 _ rfl
 obtain⟨y1,h1⟩:=hf 1 _ rfl
 dsimp only at h0 h1
 rw [Bb]at h0
 rw [Fo]at h1
 obtain⟨s,r0,_⟩:=vz yd h0
 obtain⟨b,r1⟩:=Fl Fm h1
 refine⟨⟨s,b⟩, ?_⟩
 have:=r0.at (r1.at (fv.end (by rw [hl,hc])))
 simpa [encStr,fQ]using this
theorem abW {fuel:Nat} {cs:List Value} {x:DataW H×List MemPlace} (h:DataW.trod enc Tryz.prog W 0 sp true fuel 123 cs=some x) : ∃ y:Ar,fv W (dT y) cs∧y.x.rh:=by
 obtain⟨n,rfl,hl,hf⟩:=lJ (l:= [(4,0),(9,1),(50,2)]) (by kernel_rfl) (by simp) h
 have hc:Tryz.prog.cellsOf 123=6:=by kernel_rfl
 obtain⟨y0,h0⟩:=hf 0 _ rfl
 obtain⟨y1,h1⟩:=hf 1 _ rfl
 obtain⟨y2,h2⟩:=hf 2 _ rfl
 dsimp only at h0 h1 h2
 rw [Fo]at h0
 rw [Bb]at h1
 rw [WH]at h2
 obtain⟨b,r0⟩:=Fl Fm h0
 obtain⟨s,r1,_⟩:=vz yd h1
 obtain⟨e,r2,hr⟩:=Rz _ _ _ h2
 refine⟨⟨b,s,e⟩, ?_,hr⟩
 have:=r0.at (r1.at (r2.at (fv.end (by rw [hl,hc]))))
 rw [gV]at this
 simpa [encStr,dT]using this
theorem zc : ∀ {l:List Sm},(∀ s∈l,s.rh)→Sm.xg l
 | [],_=>trivial
 | s::l,h=>⟨h s (List.mem_cons_self ..),zc fun t m=>h t (List.mem_cons_of_mem _ m)⟩
theorem abX : ∀ (fuel:Nat) (cs:List Value) (x:DataW H×List MemPlace),DataW.trod enc Tryz.prog W 0 sp true fuel 53 cs=some x→∃ y:Sm,fv W (bd y) cs∧y.rh:=by
 intro fuel
 induction fuel using Nat.strongRecOn with
 | _ fuel ih=>
  intro cs x h
  obtain⟨n,rfl,hl,hf⟩:=lJ (l:= [(3,0),(3,1),(22,2),(9,3),(9,4),(50,5),(4,9),(51,10),(44,11),(44,12)]) (by kernel_rfl) (by simp) h
  have hc:Tryz.prog.cellsOf 53=13:=by kernel_rfl
  have ca:Tryz.prog.cellsOf 51=1:=by kernel_rfl
  have jy:Tryz.prog.cellsOf 44=1:=by kernel_rfl
  have ua:Tryz.prog.underlying 51=some (.slice 123):=by kernel_rfl
  have us:Tryz.prog.underlying 44=some (.slice 53):=by kernel_rfl
  have ca6:Tryz.prog.cellsOf 123=6:=by kernel_rfl
  obtain⟨y0,h0⟩:=hf 0 _ rfl
  obtain⟨y1,h1⟩:=hf 1 _ rfl
  obtain⟨y2,h2⟩:=hf 2 _ rfl
  obtain⟨y3,h3⟩:=hf 3 _ rfl
  obtain⟨y4,h4⟩:=hf 4 _ rfl
  obtain⟨y5,h5⟩:=hf 5 _ rfl
  obtain⟨y6,h6⟩:=hf 6 _ rfl
  obtain⟨y7,h7⟩:=hf 7 _ rfl
  obtain⟨y8,h8⟩:=hf 8 _ rfl
  obtain⟨y9,h9⟩:=hf 9 _ rfl
  dsimp only at h0 h1 h2 h3 h4 h5 h6 h7 h8 h9
  rw [abU]at h0 h1
  rw [Fp]at h2
  rw [Bb]at h3 h4
  rw [WH]at h5
  rw [Fo]at h6
  rw [ca]at h7
  rw [jy]at h8 h9
  obtain⟨id,r0,_⟩:=D6 RA h0
  obtain⟨kind,r1,_⟩:=D6 RA h1
  obtain⟨labels,r2⟩:=zb h2
  obtain⟨name,r3,_⟩:=vz yd h3
  obtain⟨proc,r4,_⟩:=vz yd h4
  obtain⟨e,r5,hr⟩:=Rz _ _ _ h5
  obtain⟨b,r6⟩:=Fl Fm h6
  obtain⟨args,r7,ha⟩:=ph (W:=W) dT (fun a=>a.x.rh) ua ca6 (by decide) (fun _=>rfl) (fun k hk cs x hx=>abW hx) h7
  obtain⟨aZ,r8,ht⟩:=ph (W:=W) bd Sm.rh us hc (by decide) Hd (fun k hk cs x hx=>ih k (by omega) cs x hx) h8
  obtain⟨aP,r9,he⟩:=ph (W:=W) bd Sm.rh us hc (by decide) Hd (fun k hk cs x hx=>ih k (by omega) cs x hx) h9
  refine⟨⟨id,kind,labels,name,proc,e,b,args,aZ,aP⟩, ?_,hr,ha,zc ht,zc he⟩
  have:=r0.at (r1.at (r2.at (r3.at (r4.at (r5.at (r6.at (r7.at (r8.at (r9.at (fv.end (by rw [hl,hc])))))))))))
  rw [gV]at this
  rw [dm]
  simpa [encStr]using this
theorem abY {fuel:Nat} {cs:List Value} {x:DataW H×List MemPlace} (h:DataW.trod enc Tryz.prog W 0 sp true fuel 46 cs=some x) : ∃ y:Pc,fv W (cb y) cs∧Sm.xg y.body:=by
 obtain⟨n,rfl,hl,hf⟩:=lJ (l:= [(9,0),(43,1),(22,2),(44,3),(22,4)]) (by kernel_rfl) (by simp) h
 have hc:Tryz.prog.cellsOf 46=5:=by kernel_rfl
 have cp:Tryz.prog.cellsOf 43=1:=by kernel_rfl
 have jy:Tryz.prog.cellsOf 44=1:=by kernel_rfl
 have up:Tryz.prog.underlying 43=some (.slice 42):=by kernel_rfl
 have us:Tryz.prog.underlying 44=some (.slice 53):=by kernel_rfl
 have cp2:Tryz.prog.cellsOf 42=2:=by kernel_rfl
 have apG:Tryz.prog.cellsOf 53=13:=by kernel_rfl
 obtain⟨y0,h0⟩:=hf 0 _ rfl
 obtain⟨y1,h1⟩:=hf 1 _ rfl
 obtain⟨y2,h2⟩:=hf 2 _ rfl
 obtain⟨y3,h3⟩:=hf 3 _ rfl
 obtain⟨y4,h4⟩:=hf 4 _ rfl
 dsimp only at h0 h1 h2 h3 h4
 rw [Bb]at h0
 rw [cp]at h1
 rw [Fp]at h2 h4
 rw [jy]at h3
 obtain⟨name,r0,_⟩:=vz yd h0
 obtain⟨ps,r1,_⟩:=ph (W:=W) fQ (fun _=>True) up cp2 (by decide) (fun _=>rfl) (fun k hk cs x hx=>by
  obtain⟨y,hy⟩:=abV hx
  exact⟨y,hy,trivial⟩) h1
 obtain⟨vars,r2⟩:=zb h2
 obtain⟨body,r3,hb⟩:=ph (W:=W) bd Sm.rh us apG (by decide) Hd (fun k hk cs x hx=>abX k cs x hx) h3
 obtain⟨fin,r4⟩:=zb h4
 refine⟨⟨name,ps,vars,body,fin⟩, ?_,zc hb⟩
 have:=r0.at (r1.at (r2.at (r3.at (r4.at (fv.end (by rw [hl,hc]))))))
 simpa [encStr,cb]using this
theorem abZ {fuel:Nat} {cs:List Value} {x:DataW H×List MemPlace} (h:DataW.trod enc Tryz.prog W 0 sp true fuel 25 cs=some x) : ∃ y:Pg,fv W (bH y) cs∧y.rh:=by
 obtain⟨n,rfl,hl,hf⟩:=lJ (l:= [(22,0),(23,1)]) (by kernel_rfl) (by simp) h
 have hc:Tryz.prog.cellsOf 25=2:=by kernel_rfl
 have cp:Tryz.prog.cellsOf 23=1:=by kernel_rfl
 have up:Tryz.prog.underlying 23=some (.slice 46):=by kernel_rfl
 have cp5:Tryz.prog.cellsOf 46=5:=by kernel_rfl
 obtain⟨y0,h0⟩:=hf 0 _ rfl
 obtain⟨y1,h1⟩:=hf 1 _ rfl
 dsimp only at h0 h1
 rw [Fp]at h0
 rw [cp]at h1
 obtain⟨globals,r0⟩:=zb h0
 obtain⟨procs,r1,hp⟩:=ph (W:=W) cb (fun f=>Sm.xg f.body) up cp5 (by decide) (fun _=>rfl) (fun k hk cs x hx=>abY hx) h1
 refine⟨⟨globals,procs⟩, ?_,hp⟩
 have:=r0.at (r1.at (fv.end (by rw [hl,hc])))
 simpa [bH]using this
end
end Go.Abs

/-! Join5 -/

namespace Go.Abs
open Go.Proofs Go.ChangeShapes Go.WideShapes Go.ChangeAt Go.RowKit
theorem RB {H:Type} {enc:TypeId×Value→H} {P:Program} {W:World} {sp:Nat→Bool} {t:TypeId} {ts:List TypeId} {ps:List MemPlace} : ∀ {l:List Value} {ds:List (DataW H)},DataW.TrodAll enc P W 0 sp true (t::ts) l ds ps→
 ∃ v l' d om p q,l=v::l'∧ds=d::om∧DataW.Trod enc P W 0 sp true t v d p∧DataW.TrodAll enc P W 0 sp true ts l' om q
 | v::l,d::ds,⟨p,q,h1,h2,e⟩=>⟨v,l,d,ds,p,q,rfl,rfl,h1,h2⟩
 | [],[],h=>h.elim
 | [],_::_,h=>h.elim
 | _::_,[],h=>h.elim
theorem US {H:Type} {enc:TypeId×Value→H} {P:Program} {W:World} {sp:Nat→Bool} {ps:List MemPlace} : ∀ {l:List Value} {ds:List (DataW H)},DataW.TrodAll enc P W 0 sp true [] l ds ps→l = []∧ds = []
 | [],[],_=>⟨rfl,rfl⟩
 | [],_::_,h=>h.elim
 | _::_,ds,h=>by cases ds <;> exact h.elim
end Go.Abs

/-! CheckAll -/

namespace Go.Proofs.YtiopamakecmpkaaGreat.checkAll
open Go.ChangeShapes Go.WideShapes Go.ChangeAt Go.RowKit Go.Abs
theorem own:ownKnob Tryz.prog.godebug=none:=by kernel_rfl
theorem kids:Kids Tryz.prog (· < Tryz.prog.types.size):=kids_rows (by kernel_rfl) (by kernel_rfl)
theorem full : ∀ {t e:TypeId},t<Tryz.prog.types.size→Tryz.prog.underlying t=some (.slice e)→0<Tryz.prog.cellsOf e:=fun {t e}=>slices_full_of Tryz.prog (by kernel_rfl) t e
theorem walk (w:World) (x0:Pg) (OS:x0.rh) (v0:Value) (hv0:RD (Ba w) S0 (.agg (bH x0)) v0):Calls Tryz.prog 3 #[v0] w fun e w'=>e = .returned (.bool true)∧Kept w w':=by
 refine Yh (args:= [.agg (bH x0)]) ((JQ x0 S0).mono fun _ _ h=>h.1) rfl ?_ (fun _ _ h=>nomatch h)
 intro i d v h1 h2
 match i,h1,h2 with
 | 0,h1,h2=>simp at h1 h2;subst h1 h2;exact hv0
set_option maxRecDepth 100000 in
theorem lifted (os : Os) (started : os.Started) (H : Type) (enc : TypeId × Value → H) :
   ReturnsInHanded {} Tryz.checked os 3 .any (Rows.checkAllSpec.pre6 enc Tryz.prog Tryz.f3 Rows.checkAllRow.domain false) (Rows.checkAllSpec.post enc Tryz.prog Tryz.f3 false true false false) := by
 refine returnsInHanded_of_change (C := Tryz.checked) own started (by kernel_rfl) Tryz.func3
   (ChangeSpec.witness6 (enc := enc) (C := Tryz.checked) false ⟨#[], #[.agg #[.slice none 0 0, .slice none 0 0]], []⟩ 8 (by kernel_rfl) (by kernel_rfl) (by kernel_rfl) (by kernel_rfl)) ?_
 intro W base args ds gs before aeK hW l7 _
 have s6 : ∀ (j : Nat) t v, Tryz.f3.params[j]? = some t → args[j]? = some v → Value.okWide Tryz.prog W .any base t v := aeK
 have hW' := hW
 obtain ⟨p, q, hA0, hV, rfl, hfz, hnd⟩ := hW
 have hA : DataW.TrodAll enc Tryz.prog W 0 (fun _ => true) true Tryz.f3.params.toList args.toList ds p := hA0
 rw [Tryz.params3] at hA s6
 obtain ⟨l⟩ := args
 obtain ⟨v0, l0, d0, ds0, p0, q0, e0, e0d, FQ, hA0⟩ := RB hA
 obtain ⟨en, end_⟩ := US hA0
 have el : l = [v0] := by rw [show l = _ from e0, en]
 subst el
 have ed : ds = [d0] := by rw [e0d, end_]
 clear e0d
 subst ed
 have hpg : ∀ (i : Nat) (v : Value), Tryz.f3.params[i]? = some 25 → (⟨[v0]⟩ : Array Value)[i]? = some v → ∀ {d ps}, DataW.Trod enc Tryz.prog W 0 (fun _ => true) true 25 v d ps → ∃ x : Pg, RD (Ba W) S0 (.agg (bH x)) v ∧ x.rh := by
   intro i v hp hv d ps ⟨fuel, hf⟩
   obtain ⟨y, h1, h2⟩ := abZ hf
   obtain ⟨fs, uH⟩ := G7 (P := Tryz.prog) (t := 25) (l := [(22, 0), (23, 1)]) (by kernel_rfl) (by simp)
   obtain ⟨cs, e, _⟩ := okWide_struct uH (s6 i 25 v (by rw [← Tryz.params3]; exact hp) hv)
   exact ⟨y, h1.agg ⟨cs, e⟩, h2⟩
 obtain ⟨x0, hv0, OS⟩ := hpg 0 v0 (by rw [Tryz.params3]; rfl) rfl FQ
 obtain ⟨rfl, rfl⟩ := trodVars_none hV
 refine (walk W x0 OS v0 hv0).mono fun e W' ⟨he, hg⟩ => ?_
 subst he
 exact ⟨_, rfl, UR kids full (by rw [Tryz.params3]; decide) Tryz.underlying4 (by kernel_rfl) rfl hW' rfl hg⟩
theorem over:Rows.checkAllRow.holds Tryz.pinned (OpenSpec.ofChange Rows.checkAllSpec):=
 OpenClaim.holds_of_wide 3 Tryz.f3 rfl rfl rfl rfl rfl rfl rfl ⟨rfl,rfl,rfl,rfl,rfl⟩ rfl rfl rfl rfl rfl (by kernel_rfl) Tryz.func3 (by kernel_rfl)
  (of_decide_eq_true (by kernel_rfl)) (by unfold Func.isWrapper;first | (rw [if_pos (by decide +kernel)];kernel_rfl) | (rw [if_neg (by decide +kernel)];exact⟨rfl,rfl⟩))
  (fun os started H enc _=>lifted os started H enc)
theorem proved:Rows.CheckAllSaid:=
 over
#print axioms proved
end Go.Proofs.YtiopamakecmpkaaGreat.checkAll
