/-
  What is proved here: part 0 of the road to the claim (Globs, Abs, Lang, Rel, Sound, Sound2, Sound3, Sound4, Sound5, Sound6, Sound7, SoundM, Sound8, Code, Flow, Call, Frame, Frame2, Walk).
  No conditions.
-/
import GoSem.Core.Value
import Derived.Orders
import Derived.Calls
import Derived.Below
import Derived.Laws.AppendOwn
import Derived.Deep.AppendSrc
import Derived.Laws.StructEq
import Derived.Laws.Slices
import Derived.Laws.Strings
import Derived.Laws.IdiomStrings
import Derived.Laws.BytesString
import Derived.MapKept
import Derived.Scope

set_option linter.unusedSimpArgs false
set_option linter.unusedVariables false

/-! Globs -/

namespace Go.Abs
def Xg:Nat→Option (Array Value):=fun _=>none
def oa:TypeId:=1000000
end Go.Abs

/-! Abs -/

namespace Go.Abs
inductive Tag where
 | full
 | shared
 | tok (t:Nat) (byte:Bool:=false) -- 'byte': its row's block bears the bytes' type
inductive D where
 | junk
 | int (k:IntKind) (n:Int)
 | bool (b:Bool)
 | str (s:List UInt8)
 | e9
 | ptr (o off:Nat)
 | dI (row:List D) (off:Nat)
 | slice (g:Tag) (size:Nat) (rows:List (List D))
 | agg (cells:List D)
 | tuple (vs:List D)
 | val (v:Value)
 | fB (T:TypeId) (o:Nat)
 | gn (f:Nat) (mn:List D) -- a function value with what it captured
 | gk (o:Nat) -- a map, kept as an object: keys and values by turns
instance:Inhabited D:=⟨.junk⟩
inductive Ob where
 | any
 | ty (T:TypeId)
 | map
structure Map where
 G:Nat→Nat→Option Value
 loc:Nat→Nat×Ob
 be:Nat→Option (Nat×Nat×Nat)
def Map.mu (M:Map) (o:Nat):Nat:=(M.loc o).1
def Ob.ty? : Ob→Option TypeId
 | .ty T=>some T
 | _=>none
def Map.ob (M:Map) (o:Nat):Ob:=(M.loc o).2
def Map.ty (M:Map) (o:Nat):Option TypeId:=(M.loc o).2.ty?
structure St where
 aA:List (List D)
 aC:List (Option Nat)
def zs (z:Nat):Nat:=if z=0 then 1 else z
def bz (byte:Bool) (size:Nat):Nat:=match byte with | true=>0 | false=>size
def gW (M:Map) (s:St) (g:Tag) (size len:Nat) (base:Option (Nat×Nat)) (cap:Nat):Prop:=
 match g with
 | .full=>cap=len
 | .shared=>True
 | .tok t y=>t<s.aC.length∧∀ n,s.aC[t]? = some (some n)→len≤n∧
  (len=n→(M.be t=none∧cap=0∧(y=true→base=none))∨∃ b,base=some (b,0)∧M.be t=some (b,cap,bz y size))
inductive RD (M:Map) (s:St):D→Value→Prop where
 | junk (v:Value):RD M s .junk v
 | int (k:IntKind) (n:Int):RD M s (.int k n) (.int k n)
 | bool (b:Bool):RD M s (.bool b) (.bool b)
 | str (l:List UInt8):RD M s (.str l) (.string ⟨⟨l⟩⟩)
 | e9:RD M s .e9 (.pointer none)
 | ptr (o off:Nat) (h:o<s.aA.length) (hm:M.ob o≠ .map):RD M s (.ptr o off) (.pointer (some ⟨M.mu o,off,none⟩))
 | dI (row:List D) (off b k:Nat) (h1 : ∀ (i:Nat) (d:D),row[i]? = some d→∃ u,M.G b (k+i)=some u)
  (h2 : ∀ (i:Nat) (d:D) (u:Value),row[i]? = some d→M.G b (k+i)=some u→RD M s d u) :
  RD M s (.dI row off) (.pointer (some ⟨b,k+off,none⟩))
 | jc (g:Tag) (size cap:Nat) (hc:cap=0) (ht:gW M s g size 0 none cap):RD M s (.slice g size []) (.slice none 0 cap)
 | mq (size:Nat) (a:Addr) (cap:Nat):RD M s (.slice .shared size []) (.slice (some a) 0 cap)
 | slice (g:Tag) (size:Nat) (rows:List (List D)) (b k cap:Nat) (hl:rows.length≤cap)
  (hs : ∀ row∈rows,row.length=size)
  (h1 : ∀ (i:Nat) (row:List D) (j:Nat) (d:D),rows[i]? = some row→row[j]? = some d→∃ u,M.G b (k+(i*size+j))=some u)
  (h2 : ∀ (i:Nat) (row:List D) (j:Nat) (d:D) (u:Value),rows[i]? = some row→row[j]? = some d→M.G b (k+(i*size+j))=some u→RD M s d u)
  (ht:gW M s g size rows.length (some (b,k)) cap) :
  RD M s (.slice g size rows) (.slice (some ⟨b,k,none⟩) rows.length cap)
 | agg (cells:List D) (vs:Array Value) (hl:cells.length=vs.size) (h1 : ∀ v∈vs,v.oneCell'=true)
  (h : ∀ (i:Nat) (d:D) (v:Value),cells[i]? = some d→vs[i]? = some v→RD M s d v):RD M s (.agg cells) (.agg vs)
 | tuple (ds:List D) (vs:Array Value) (hl:ds.length=vs.size)
  (h : ∀ (i:Nat) (d:D) (v:Value),ds[i]? = some d→vs[i]? = some v→RD M s d v):RD M s (.tuple ds) (.tuple vs)
 | val (v:Value) (h:v.oneCell'=true):RD M s (.val v) v
 | fB (T:TypeId) (o:Nat) (v:Value) (h:o<s.aA.length) (ht:M.ty o=some T) (hv:v = .pointer none∨v = .pointer (some ⟨M.mu o,0,none⟩)):RD M s (.fB T o) v
 | gn (f:Nat) (ds:List D) (vs:Array Value) (hl:ds.length=vs.size)
  (h : ∀ (i:Nat) (d:D) (v:Value),ds[i]? = some d→vs[i]? = some v→RD M s d v):RD M s (.gn f ds) (.func (.func f) #[] vs)
 | gk (o:Nat) (h:o<s.aA.length) (hm:M.ob o = .map):RD M s (.gk o) (.map (some (M.mu o)))
structure Le (M:Map) (s:St) (M':Map) (s':St):Prop where
 G : ∀ b o v,M.G b o=some v→M'.G b o=some v
 n:s.aA.length≤s'.aA.length
 loc : ∀ o,o<s.aA.length→M'.loc o=M.loc o
 t:s.aC.length≤s'.aC.length
 tk : ∀ t n',t<s.aC.length→s'.aC[t]? = some (some n')→∃ n,s.aC[t]? = some (some n)∧n≤n'∧(n'=n→M'.be t=M.be t)
theorem Le.mu {M:Map} {s:St} {M':Map} {s':St} (h:Le M s M' s') : ∀ o,o<s.aA.length→M'.mu o=M.mu o:=fun o ho=>congrArg Prod.fst (h.loc o ho)
theorem Le.ob {M:Map} {s:St} {M':Map} {s':St} (h:Le M s M' s') : ∀ o,o<s.aA.length→M'.ob o=M.ob o:=fun o ho=>congrArg Prod.snd (h.loc o ho)
theorem Le.ty {M:Map} {s:St} {M':Map} {s':St} (h:Le M s M' s') : ∀ o,o<s.aA.length→M'.ty o=M.ty o:=fun o ho=>congrArg (fun x=>x.2.ty?) (h.loc o ho)
theorem Le.refl (M:Map) (s:St):Le M s M s:=⟨fun _ _ _ h=>h,Nat.le_refl _,fun _ _=>rfl,Nat.le_refl _,fun _ n _ h=>⟨n,h,Nat.le_refl _,fun _=>rfl⟩⟩
theorem Le.trans {M M' I6:Map} {s s' Mw:St} (h:Le M s M' s') (k:Le M' s' I6 Mw):Le M s I6 Mw:=
 ⟨fun b o v e=>k.G b o v (h.G b o v e),Nat.le_trans h.n k.n,fun o ho=>(k.loc o (Nat.lt_of_lt_of_le ho h.n)).trans (h.loc o ho),Nat.le_trans h.t k.t,
  fun t n'' ht e=>by
   obtain⟨n',e',l,b⟩:=k.tk t n'' (Nat.lt_of_lt_of_le ht h.t) e
   obtain⟨n,Mx,l',b'⟩:=h.tk t n' ht e'
   refine⟨n,Mx,Nat.le_trans l' l,fun eq=> ?_⟩
   have h1:n'=n:=by omega
   have h2:n''=n':=by omega
   rw [b h2,b' h1]⟩
theorem gW.mono {M M':Map} {s s':St} (h:Le M s M' s') {g:Tag} {size len cap:Nat} {base:Option (Nat×Nat)} (ht:gW M s g size len base cap) :
 gW M' s' g size len base cap:=by
 cases g with
 | full=>exact ht
 | shared=>trivial
 | tok t y=>
  obtain⟨hP,ht⟩:=ht
  refine⟨Nat.lt_of_lt_of_le hP h.t,fun n' e'=> ?_⟩
  obtain⟨n,e,l,b⟩:=h.tk t n' hP e'
  obtain⟨l',b'⟩:=ht n e
  refine⟨Nat.le_trans l' l,fun eq=> ?_⟩
  have h1:n'=n:=by omega
  have h2:len=n:=by omega
  rw [b h1]
  exact b' h2
theorem RD.mono {M M':Map} {s s':St} (h:Le M s M' s') {d:D} {v:Value} (r:RD M s d v):RD M' s' d v:=by
 induction r with
 | junk v=>exact .junk v
 | int k n=>exact .int k n
 | bool b=>exact .bool b
 | str l=>exact .str l
 | e9=>exact .e9
 | ptr o off ho hm=>rw [← h.mu o ho];exact .ptr o off (Nat.lt_of_lt_of_le ho h.n) (by rw [h.ob o ho];exact hm)
 | dI row off b k h1 h2 ih=>
  refine .dI row off b k (fun i d e=> ?_) (fun i d u e eu=> ?_)
  ·obtain⟨u,hu⟩:=h1 i d e;exact⟨u,h.G _ _ _ hu⟩
  ·obtain⟨u',hu⟩:=h1 i d e
   have:=h.G _ _ _ hu
   rw [eu]at this
   cases this
   exact ih i d u e hu
 | jc g size cap hc ht=>exact .jc g size cap hc (ht.mono h)
 | mq size a cap=>exact .mq size a cap
 | slice g size rows b k cap hl hs h1 h2 ht ih=>
  refine .slice g size rows b k cap hl hs (fun i row j d e e2=> ?_) (fun i row j d u e e2 eu=> ?_) (ht.mono h)
  ·obtain⟨u,hu⟩:=h1 i row j d e e2;exact⟨u,h.G _ _ _ hu⟩
  ·obtain⟨u',hu⟩:=h1 i row j d e e2
   have:=h.G _ _ _ hu
   rw [eu]at this
   cases this
   exact ih i row j d u e e2 hu
 | agg cells vs hl h1 _ ih=>exact .agg cells vs hl h1 ih
 | tuple ds vs hl _ ih=>exact .tuple ds vs hl ih
 | val v hv=>exact .val v hv
 | fB T o v ho ht hv=>exact .fB T o v (Nat.lt_of_lt_of_le ho h.n) (by rw [h.ty o ho];exact ht) (by rw [h.mu o ho];exact hv)
 | gn f ds vs hl _ ih=>exact .gn f ds vs hl ih
 | gk o ho hm=>rw [← h.mu o ho];exact .gk o (Nat.lt_of_lt_of_le ho h.n) (by rw [h.ob o ho];exact hm)
def St.live (s:St) (t:Nat):Prop:=∃ n,s.aC[t]? = some (some n)
def gC:List MapEntry→List Value
 | []=> []
 | e::l=>e.key::e.val::gC l
def lJ (x:Option Obj) (k:Ob) (vs:Array Value) (T:TypeId):Prop:=
 match k with
 | .map=>∃ es ck,x=some (.map es ck)∧vs.toList=gC es.toList
 | _=>x=some (.cells vs T (0,0))
theorem lJ.cells {x:Option Obj} {k:Ob} {vs:Array Value} {T:TypeId} (h:lJ x k vs T) (hk:k≠ .map):x=some (.cells vs T (0,0)):=by
 cases k with
 | map=>exact absurd rfl hk
 | any=>exact h
 | ty _=>exact h
theorem lJ.of {x:Option Obj} {k:Ob} {vs:Array Value} {T:TypeId} (h:x=some (.cells vs T (0,0))) (hk:k≠ .map):lJ x k vs T:=by
 cases k with
 | map=>exact absurd rfl hk
 | any=>exact h
 | ty _=>exact h
theorem lJ.some {x:Option Obj} {k:Ob} {vs:Array Value} {T:TypeId} (h:lJ x k vs T) : ∃ o,x=some o:=by
 cases k with
 | map=>obtain⟨es,ck,h,_⟩:=h;exact⟨_,h⟩
 | any=>exact⟨_,h⟩
 | ty _=>exact⟨_,h⟩
theorem lJ.lt {w:World} {b:Nat} {k:Ob} {vs:Array Value} {T:TypeId} (h:lJ w.heap[b]? k vs T):b<w.heap.size:=by
 obtain⟨o,h⟩:=h.some
 exact(Array.getElem?_eq_some_iff.1 h).1
structure Rel (M:Map) (s:St) (w:World):Prop where
 comm : ∀ b o v,M.G b o=some v→w.cell? ⟨b,o,none⟩=some v∧v.oneCell'=true
 obj : ∀ (o:Nat) (ds:List D),s.aA[o]? = some ds→∃ (vs:Array Value) (T:TypeId),lJ w.heap[M.mu o]? (M.ob o) vs T∧vs.size=ds.length∧
  ((∀ v∈vs,v.oneCell'=true)∧∀ T',M.ty o=some T'→T'=T)∧∀ (i:Nat) (d:D) (v:Value),ds[i]? = some d→vs[i]? = some v→RD M s d v
 kz : ∀ o,o<s.aA.length→∀ off,M.G (M.mu o) off=none
 inj : ∀ o o',o<s.aA.length→o'<s.aA.length→M.mu o=M.mu o'→o=o'
 tok : ∀ t n,s.aC[t]? = some (some n)→(M.be t=none∧n=0)∨∃ (b cap z:Nat) (vs:Array Value) (T:TypeId),M.be t=some (b,cap,z)∧
  w.heap[b]? = some (.cells vs T (0,0))∧vs.size=cap*zs z∧n≤cap∧(∀ off,n*zs z≤off→M.G b off=none)∧(z=0→T=oa)
 fm : ∀ t b c z o,s.live t→M.be t=some (b,c,z)→o<s.aA.length→M.mu o≠b
 fS : ∀ t t' b c z c' z',s.live t→s.live t'→M.be t=some (b,c,z)→M.be t'=some (b,c',z')→t=t'
structure Ext (M:Map) (s:St) (w:World) (M':Map) (s':St) (w':World):Prop where
 le:Le M s M' s'
 kept : ∀ b,b<w.heap.size→(∀ o,o<s.aA.length→M.mu o≠b)→(∀ t c z,s.live t→M.be t≠some (b,c,z))→w'.heap[b]? = w.heap[b]?
 pL : ∀ o,s.aA.length≤o→o<s'.aA.length→w.heap.size≤M'.mu o
 pM : ∀ t b c z,s'.live t→M'.be t=some (b,c,z)→(s.live t∧∃ c' z',M.be t=some (b,c',z'))∨w.heap.size≤b
 rP : ∀ b o,M'.G b o≠M.G b o→w.heap.size≤b∨∃ t c z,s.live t∧M.be t=some (b,c,z)
 size:w.heap.size≤w'.heap.size
 os:w'.os=w.os
 tape:w'.tape=w.tape
 output:w'.output=w.output
theorem Ext.refl (M:Map) (s:St) (w:World):Ext M s w M s w:=
 ⟨Le.refl M s,fun _ _ _ _=>rfl,fun o h h'=>by omega,fun t b c z h e=> .inl ⟨h,c,z,e⟩,fun _ _ h=>(h rfl).elim,Nat.le_refl _,rfl,rfl,rfl⟩
theorem Ext.trans {M M' I6:Map} {s s' Mw:St} {w w' w'':World} (h:Ext M s w M' s' w') (k:Ext M' s' w' I6 Mw w''):Ext M s w I6 Mw w'':=by
 refine⟨h.le.trans k.le,fun b hb ho ht=> ?_,fun o h1 h2=> ?_,fun t b c z h1 e=> ?_,fun b o fp=> ?_,Nat.le_trans h.size k.size,
  k.os.trans h.os,k.tape.trans h.tape,k.output.trans h.output⟩
 ·rw [k.kept b (Nat.lt_of_lt_of_le hb h.size) (fun o hP e=> ?_) (fun t c z hP e=> ?_),h.kept b hb ho ht]
  ·rcases Nat.lt_or_ge o s.aA.length with h1 | h1
   ·exact ho o h1 ((h.le.mu o h1).symm.trans e)
   ·have:=h.pL o h1 hP;omega
  ·rcases h.pM t b c z hP e with ⟨h1,c',z',e'⟩ | h1
   ·exact ht t c' z' h1 e'
   ·omega
 ·rcases Nat.lt_or_ge o s'.aA.length with h3 | h3
  ·rw [k.le.mu o h3];exact h.pL o h1 h3
  ·exact Nat.le_trans h.size (k.pL o h3 h2)
 ·rcases k.pM t b c z h1 e with ⟨h2,c',z',e'⟩ | h2
  ·exact h.pM t b c' z' h2 e'
  ·exact .inr (Nat.le_trans h.size h2)
 ·by_cases e:M'.G b o=M.G b o
  ·have:I6.G b o≠M'.G b o:=fun e'=>fp (e'.trans e)
   rcases k.rP b o this with h1 | ⟨t,c,z,h1,h2⟩
   ·exact .inl (Nat.le_trans h.size h1)
   ·rcases h.pM t b c z h1 h2 with ⟨h3,c',z',e'⟩ | h3
    ·exact .inr ⟨t,c',z',h3,e'⟩
    ·exact .inl h3
  ·exact h.rP b o e
def Laid (M:Map) (s:St) (w:World):Prop:=∀ g cs,Xg g=some cs→
 (∃ T fr,w.heap[g]? = some (.cells cs T fr))∧(∀ o,o<s.aA.length→M.mu o≠g)∧∀ t c z,s.live t→M.be t≠some (g,c,z)
theorem Laid.ext {M M':Map} {s s':St} {w w':World} (h:Laid M s w) (e:Ext M s w M' s' w'):Laid M' s' w':=by
 intro g cs hg
 obtain⟨⟨T,fr,h1⟩,h2,h3⟩:=h g cs hg
 have hP:g<w.heap.size:=(Array.getElem?_eq_some_iff.1 h1).1
 refine⟨⟨T,fr,by rw [e.kept g hP h2 h3];exact h1⟩,fun o ho=> ?_,fun t c z hl hb=> ?_⟩
 ·rcases Nat.lt_or_ge o s.aA.length with h4 | h4
  ·rw [e.le.mu o h4];exact h2 o h4
  ·have:=e.pL o h4 ho;omega
 ·rcases e.pM t g c z hl hb with ⟨h4,c',z',h5⟩ | h4
  ·exact h3 t c' z' h4 h5
  ·omega
end Go.Abs

/-! Lang -/

namespace Go.Abs
abbrev Tm:=List (Nat×D)
def Tm.get:Tm→Nat→D
 | [],_=> .junk
 | (k,d)::r,t=>if k=t then d else Tm.get r t
def Tm.set:Tm→Nat→D→Tm
 | [],t,d=> [(t,d)]
 | (k,e)::r,t,d=>if k=t then(k,d)::r else(k,e)::Tm.set r t d
def Tm.put (tm:Tm) (dst:Option Nat) (d:D):Tm:=
 match dst with
 | some t=>tm.set t d
 | none=>tm
inductive X where
 | s (t:Nat)
 | k (d:D)
def X.ev (tm:Tm):X→D
 | .s t=>tm.get t
 | .k d=>d
inductive AO where
 | mv (x:X)
 | pick (c a b:X)
 | alloc (zero:List D)
 | box (x:X)
 | build (zero:List D) (parts:List (Nat×Nat×X))
 | cG (zero:List D) (size n:Nat) (parts:List (Nat×X))
 | s6 (zero:List D) (size n:Nat) (parts:List (Nat×X))
 | yh (x:X)
 | load (x:X) (agg:Bool) (size:Nat)
 | store (p x:X) (size:Nat)
 | di (x:X)
 | bin (op:BinOp) (x y:X)
 | As (neg:Bool) (x y:X)
 | eqs (neg:Bool) (ks:List Nat) (x y:X) -- the fields' kinds: 0 an integer, 1 a bool, 2 a text
 | DJ (neg:Bool) (x y:X)
 | un (op:UnOp) (x:X)
 | conv (k:IntKind) (x:X)
 | Bs (x:X)
 | vS (x:X)
 | FJ (size:Nat) (x:X) (lo hi:Option X)
 | wR (x:X) (lo hi:Option X)
 | au (x:X) (off:Nat)
 | rj (x:X) (off:Nat) (agg:Bool) (size:Nat)
 | cu (x i:X) (size:Nat)
 | nJ (x i:X)
 | ext (x:X) (i:Nat)
 | len (x:X)
 | kR (x:X)
 | app (size bytes:Nat) (x y:X)
 | mm (isMax:Bool) (x y:X)
 | rk (zero:List D) (T:TypeId) -- a new object whose first cell is to hold its own address
 | yi (x:X) (T:TypeId)
 | yj (x y:X) -- bytes behind others
 | apps (x y:X) -- a text's bytes behind others
 | sA (f:Nat) (xs:List X) -- a function value
 | sB
 | wS (m k v:X) -- a text's slice in a map
 | um (m k:X) (zero:D)
inductive AI where
 | iA (dst:Option Nat) (g:Option (Nat×Bool)) (t:Nat) (xs:List X) -- what a slot holds is called
 | nil (dst:Option Nat) (g:Option (Nat×Bool)) (neg:Bool) (x:X) -- is a slice nil? (of an empty one nothing is known)
 | op (dst:Option Nat) (g:Option (Nat×Bool)) (o:AO)
 | call (dst:Option Nat) (g:Option (Nat×Bool)) (f:Nat) (xs:List X)
inductive AC where
 | skip
 | run (is:List AI)
 | par (is:List AI) (kS:List (Nat×Nat))
 | seq (a b:AC)
 | cond (x:X) (a b:AC)
 | block (id:Nat) (a:AC)
 | loop (a:AC)
 | exit (id:Nat)
 | scope (a:AC)
 | label (l:Nat)
 | goto (l:Nat)
 | ret
structure AF where
 ntmps:Nat
 results:List (Nat×Option (Bool×Nat)) -- a slot; or a slot that holds the address, whether an aggregate, how many cells
 body:AC
inductive AK where
 | pure
 | load
 | alloc
 | core
 deriving DecidableEq
def AO.kind:AO→AK
 | .alloc _=> .core
 | .box _=> .core
 | .s6 .. => .core
 | .yh _=> .core
 | .store .. => .core
 | .app .. => .core
 | .rk .. => .core
 | .yi .. => .core
 | .yj .. => .core
 | .apps .. => .core
 | .sB=> .core
 | .wS .. => .core
 | .um .. => .load
 | .load .. => .load
 | _=> .pure
def AI.kind:AI→AK
 | .op (some _) none (.alloc _)=> .alloc
 | .op _ _ o=>o.kind
 | _=> .core
def AI.dst:AI→Option Nat
 | .op d _ _=>d
 | .call d _ _ _=>d
 | .nil d _ _ _=>d
 | .iA d _ _ _=>d
def X.reads:X→List Nat
 | .s t=> [t]
 | .k _=> []
def mK:List X→List Nat
 | []=> []
 | x::r=>x.reads++mK r
def yk:Option X→List Nat
 | none=> []
 | some x=>x.reads
def AO.reads:AO→List Nat
 | .mv x=>x.reads
 | .pick c a b=>c.reads++(a.reads++b.reads)
 | .alloc _=> []
 | .box x=>x.reads
 | .build _ ps=>mK (ps.map (·.2.2))
 | .cG _ _ _ ps=>mK (ps.map (·.2))
 | .s6 _ _ _ ps=>mK (ps.map (·.2))
 | .yh x=>x.reads
 | .load x _ _=>x.reads
 | .store p x _=>p.reads++x.reads
 | .di x=>x.reads
 | .bin _ x y=>x.reads++y.reads
 | .As _ x y=>x.reads++y.reads
 | .eqs _ _ x y=>x.reads++y.reads
 | .DJ _ x y=>x.reads++y.reads
 | .un _ x=>x.reads
 | .conv _ x=>x.reads
 | .Bs x=>x.reads
 | .vS x=>x.reads
 | .FJ _ x lo hi=>x.reads++(yk lo++yk hi)
 | .wR x lo hi=>x.reads++(yk lo++yk hi)
 | .au x _=>x.reads
 | .rj x _ _ _=>x.reads
 | .cu x i _=>x.reads++i.reads
 | .nJ x i=>x.reads++i.reads
 | .ext x _=>x.reads
 | .len x=>x.reads
 | .kR x=>x.reads
 | .app _ _ x y=>x.reads++y.reads
 | .mm _ x y=>x.reads++y.reads
 | .rk _ _=> []
 | .yi x _=>x.reads
 | .yj x y=>x.reads++y.reads
 | .apps x y=>x.reads++y.reads
 | .sA _ xs=>mK xs
 | .sB=> []
 | .wS m k v=>m.reads++(k.reads++v.reads)
 | .um m k _=>m.reads++k.reads
def s7:Option (Nat×Bool)→List Nat
 | none=> []
 | some (t,_)=> [t]
def AI.reads:AI→List Nat
 | .op _ g o=>s7 g++o.reads
 | .call _ g _ xs=>s7 g++mK xs
 | .nil _ g _ x=>s7 g++x.reads
 | .iA _ g t xs=>s7 g++(t::mK xs)
def Bu (d:Option Nat) (l:List Nat):Bool:=
 match d with
 | none=>true
 | some t=> !l.contains t
def AI.apart (a q:AI):Bool:=
 Bu a.dst q.reads && Bu q.dst a.reads && (match a.dst,q.dst with | some x,some y=>x != y | _,_=>true)
def gw (l:List (List Nat)) (i:Nat):List Nat:=l.getD i []
def iB (is:List AI) (i:Nat):AK:=
 match is[i]? with
 | some a=>a.kind
 | none=> .core
def kq (is:List AI) (i j:Nat):Bool:=
 match is[i]?,is[j]? with
 | some a,some b=>a.apart b
 | _,_=>false
def gd:AK→Bool
 | .core=>true
 | .alloc=>true
 | _=>false
def iK (is:List AI) (l:List Nat):Nat:=(l.filter fun i=>gd (iB is i)).length
def ki (is:List AI) (pq:List Nat):List Nat→Bool
 | []=>true
 | a::r=>(!(iB is a == .alloc && pq.contains a) || r.all pq.contains) && ki is pq r
def nK (is:List AI) (pt:List (List Nat)) (pre:List Nat) (q b:Nat):Bool:=
 match iB is q with
 | .core=>pre.all (gw pt q).contains
 | .alloc=>pre.all fun a=>kq is a q
 | .pure=>(pre.all fun a=>(gw pt q).contains a || kq is a q) && ki is (gw pt q) pre
 | .load=>(pre.all fun a=>(gw pt q).contains a || kq is a q) && ki is (gw pt q) pre &&
  decide (iK is (pre.filter fun a=> !(gw pt q).contains a)≤b)
def sj (is:List AI) (af pt:List (List Nat)):List Nat→List (Nat×Nat)→Bool
 | _,[]=>true
 | pre,(q,b)::r=>nK is pt pre q b && !pre.contains q && ((gw af q).all fun j=>j != q && !(r.map (·.1)).contains j) && sj is af pt (q::pre) r
def vT (af pt:List (List Nat)):Nat→Bool
 | 0=>true
 | i+1=>((gw pt i).all fun j=>(gw af i).contains j || (gw af i).any fun k=>(gw pt k).contains j) && vT af pt i
def FK (is:List AI) (af pt:List (List Nat)) (kS:List (Nat×Nat)):Bool:=
 vT af pt is.length && sj is af pt [] kS && (List.range is.length).all (kS.map (·.1)).contains && kS.all (fun p=>decide (p.1<is.length)) &&
  (List.range is.length).all fun i=>(gw af i).all fun j=>decide (j<is.length)
def lQ (o:Oper):List Nat:=(o.after.toList.filter (Region.binds .any)).map (·.on)
def FL:List (List Nat)→List (List Nat)→List (List Nat)
 | done,[]=>done
 | done,es::r=>FL (done++ [(es.flatMap fun k=>gw done k).foldl (fun l j=>if l.contains j then l else l++ [j]) es]) r
def SQ (is:List AI) (pt:List (List Nat)):List Nat→List Nat→List Nat→List Nat
 | [],rest,out=>out++((rest.filter fun j=>iB is j == .alloc)++rest.filter fun j=> !(iB is j == .alloc))
 | c::cs,rest,out=>
  let P2:=rest.filter fun j=>(gw pt c).contains j
  SQ is pt cs (rest.filter fun j=> !(P2.contains j) && j != c) (out++((P2.filter fun j=>iB is j == .alloc)++(P2.filter fun j=> !(iB is j == .alloc))++ [c]))
def SS (is:List AI) (pt:List (List Nat)):List Nat→List Nat→List (Nat×Nat)
 | _,[]=> []
 | pre,q::r=>(q,if iB is q == .load then iK is (pre.filter fun a=> !(gw pt q).contains a)else 0)::SS is pt (q::pre) r
def Mz (is:List AI) (af:List (List Nat)):List (Nat×Nat):=
 let pt:=FL [] af
 let all:=List.range is.length
 SS is pt [] (SQ is pt (all.filter fun i=>iB is i == .core) all [])
def D.row:D→Option (List D)
 | .agg cs=>some cs
 | .junk=>none
 | .tuple _=>none
 | d=>some [d]
def part (cs:List D) (off:Nat) (agg:Bool) (size:Nat):Option D:=
 match agg with
 | true=>if off+size≤cs.length then some (.agg ((cs.drop off).take size))else none
 | false=>cs[off]?
def iY (cs:List D) (off:Nat) (r:List D):List D:=cs.take off++r++cs.drop (off+r.length)
def pN (cells:List D):List (Nat×Nat×D)→Option (List D)
 | []=>some cells
 | (off,size,d)::rest=>
  match d.row with
  | none=>none
  | some r=>if r.length=size∧off+size≤cells.length then pN (iY cells off r) rest else none
def ic (zero:List D):Nat→List (List D)
 | 0=> []
 | n+1=>zero::ic zero n
def je (size:Nat) (rows:List (List D)):List (Nat×D)→Option (List (List D))
 | []=>some rows
 | (i,d)::rest=>
  match d.row with
  | none=>none
  | some r=>if r.length=size∧i<rows.length then je size (rows.set i r) rest else none
def bytesLess:List UInt8→List UInt8→Bool:=Op.bytesLess
def bx:Nat:=1099511627776
def fJ (op:BinOp) (k:IntKind) (a b:Int):Option D:=
 match op with
 | .add=>some (.int k (k.wrap (a+b)))
 | .sub=>some (.int k (k.wrap (a - b)))
 | .mul=>some (.int k (k.wrap (a*b)))
 | .quo=>if b=0 then none else some (.int k (k.wrap (a.tdiv b)))
 | .rem=>if b=0 then none else some (.int k (a.tmod b))
 | .eql=>some (.bool (a==b))
 | .neq=>some (.bool (a != b))
 | .lss=>some (.bool (decide (a<b)))
 | .leq=>some (.bool (decide (a≤b)))
 | .gtr=>some (.bool (decide (a > b)))
 | .geq=>some (.bool (decide (a≥b)))
 | _=>none
def mL (op:BinOp) (a b:List UInt8):Option D:=
 match op with
 | .add=>if a.length+b.length≤bx then some (.str (a++b))else none
 | .eql=>some (.bool (a==b))
 | .neq=>some (.bool (!(a==b)))
 | .lss=>some (.bool (bytesLess a b))
 | _=>none
def vi (op:BinOp) (x y:D):Option D:=
 match x,y with
 | .int k a, .int k' b=>if k=k' then fJ op k a b else none
 | .str a, .str b=>mL op a b
 | _,_=>none
def lR:Nat→D→D→Option Bool
 | 0, .int k a, .int k' b=>if k=k' then some (a==b)else none
 | 1, .bool a, .bool b=>some (a==b)
 | 2, .str a, .str b=>some (a==b)
 | _,_,_=>none
def kr:List Nat→List D→List D→Option Bool
 | [],[],[]=>some true
 | k::ks,x::xs,y::ys=>
  match lR k x y with
  | none=>none
  | some true=>kr ks xs ys
  | some false=>some false
 | _,_,_=>none
def FM (op:UnOp) (x:D):Option D:=
 match op,x with
 | .neg, .int k n=>some (.int k (k.wrap (0 - n)))
 | .not, .bool b=>some (.bool (!b))
 | _,_=>none
def DK:List D→Option UInt8
 | [.int .u8 n]=>some (UInt8.ofNat n.toNat)
 | _=>none
def mY:List (List D)→Option (List UInt8)
 | []=>some []
 | r::rs=>
  match DK r,mY rs with
  | some b,some bs=>some (b::bs)
  | _,_=>none
def Tag.cut (g:Tag) (whole:Bool):Tag:=
 match g with
 | .full=>if whole then .full else .shared
 | g=>g
def yl (lo:Option D):Option Int:=
 match lo with
 | none=>some 0
 | some (.int _ n)=>some n
 | _=>none
def ym (hi:Option D) (len:Nat):Option Int:=
 match hi with
 | none=>some len
 | some (.int _ n)=>some n
 | _=>none
def kA (size bytes:Nat) (x y:D) (s:St):Option (D×St):=
 match x,y with
 | .slice g z rows, .slice _ z' new=>
  if(rows = []∨z=size)∧(new = []∨z'=size)∧(rows.length+new.length)*(bytes+1)≤bx then
   match new with
   | []=>some (.slice g z rows,s)
   | _::_=>
    match g with
    | .full=>some (.slice (.tok s.aC.length) size (rows++new),{s with aC:=s.aC++ [some (rows.length+new.length)]})
    | .shared=>none
    | .tok _ true=>none
    | .tok t false=>if z=size∧s.aC[t]? = some (some rows.length)then some (.slice (.tok t) size (rows++new),{s with aC:=s.aC.set t (some (rows.length+new.length))})else none
  else none
 | _,_=>none
def yn (x y:D) (s:St):Option (D×St):=
 match x,y with
 | .slice g z rows, .slice _ z' new=>
  if(rows = []∨z=1)∧(new = []∨z'=1)∧(rows.length+new.length)*2≤bx then
   match new with
   | []=>some (.slice g z rows,s)
   | _::_=>
    match g with
    | .full=>some (.slice (.tok s.aC.length true) 1 (rows++new),{s with aC:=s.aC++ [some (rows.length+new.length)]})
    | .shared=>none
    | .tok t y=>if z=1∧s.aC[t]? = some (some rows.length)then some (.slice (.tok t y) 1 (rows++new),{s with aC:=s.aC.set t (some (rows.length+new.length))})else none
  else none
 | _,_=>none
def wT (key:List UInt8) (zero:D):List D→Option D
 | []=>some zero
 | .str k::d::r=>if k==key then some d else wT key zero r
 | _=>none
def vj (key:List UInt8) (v:D):List D→Option (List D)
 | []=>some [.str key,v]
 | .str k::d::r=>if k==key then some (.str k::v::r)else match vj key v r with | some r'=>some (.str k::d::r') | none=>none
 | _=>none
def aS (o:AO) (tm:Tm) (s:St):Option (D×St):=
 match o with
 | .mv x=>some (x.ev tm,s)
 | .pick c a b=>
  match c.ev tm with
  | .bool t=>some (if t then a.ev tm else b.ev tm,s)
  | _=>none
 | .alloc zero=>some (.ptr s.aA.length 0,{s with aA:=s.aA++ [zero]})
 | .box x=>
  match (x.ev tm).row with
  | some r=>some (.ptr s.aA.length 0,{s with aA:=s.aA++ [r]})
  | none=>none
 | .build zero parts=>
  match pN zero (parts.map fun p=>(p.1,p.2.1,p.2.2.ev tm))with
  | some cs=>some (.agg cs,s)
  | none=>none
 | .cG zero size n parts=>
  match je size (ic zero n) (parts.map fun p=>(p.1,p.2.ev tm))with
  | some rows=>some (.slice .full size rows,s)
  | none=>none
 | .s6 zero size n parts=>
  match je size (ic zero n) (parts.map fun p=>(p.1,p.2.ev tm))with
  | some rows=>some (.slice (.tok s.aC.length) size rows,{s with aC:=s.aC++ [some rows.length]})
  | none=>none
 | .yh x=>
  match x.ev tm with
  | .slice (.tok t _) z rows=>if rows≠ []∧s.aC[t]? = some (some rows.length)then some (.slice .shared z rows,{s with aC:=s.aC.set t none})else none
  | _=>none
 | .load x agg size=>
  match x.ev tm with
  | .ptr o off=>
   match s.aA[o]? with
   | some cs=>match part cs off agg size with | some d=>some (d,s) | none=>none
   | none=>none
  | .dI row off=>match part row off agg size with | some d=>some (d,s) | none=>none
  | _=>none
 | .store p x size=>
  match p.ev tm,(x.ev tm).row with
  | .ptr o off,some r=>
   match s.aA[o]? with
   | some cs=>if r.length=size∧off+size≤cs.length then some (.tuple [],{s with aA:=s.aA.set o (iY cs off r)})else none
   | none=>none
  | _,_=>none
 | .di x=>
  match x.ev tm with
  | .ptr o off=>some (.ptr o off,s)
  | .dI row off=>some (.dI row off,s)
  | _=>none
 | .bin op x y=>match vi op (x.ev tm) (y.ev tm)with | some d=>some (d,s) | none=>none
 | .As neg x y=>
  match x.ev tm,y.ev tm with
  | .bool a, .bool b=>some (.bool (if neg then !(a==b)else a==b),s)
  | _,_=>none
 | .eqs neg ks x y=>
  match x.ev tm,y.ev tm with
  | .agg a, .agg b=>match kr ks a b with | some e=>some (.bool (if neg then !e else e),s) | none=>none
  | _,_=>none
 | .DJ neg x y=>
  match x.ev tm,y.ev tm with
  | .e9, .e9=>some (.bool (!neg),s)
  | .ptr _ _, .e9=>some (.bool neg,s)
  | .dI _ _, .e9=>some (.bool neg,s)
  | _,_=>none
 | .un op x=>match FM op (x.ev tm)with | some d=>some (d,s) | none=>none
 | .conv k x=>match x.ev tm with | .int _ n=>some (.int k (k.wrap n),s) | _=>none
 | .Bs x=>
  match x.ev tm with
  | .slice _ _ rows=>match mY rows with | some b=>some (.str b,s) | none=>none
  | _=>none
 | .vS x=>
  match x.ev tm with
  | .str l=>some (.slice .shared 1 (l.map fun c=> [.int .u8 c.toNat]),s)
  | _=>none
 | .FJ size x lo hi=>
  match x.ev tm with
  | .slice g z rows=>
   match yl (lo.map (·.ev tm)),ym (hi.map (·.ev tm)) rows.length with
   | some l,some h=>
    if(rows = []∨z=size)∧0≤l∧l≤h∧h≤rows.length then
     some (.slice (if l=0 then g.cut (h=rows.length)else .shared) z ((rows.take h.toNat).drop l.toNat),s)else none
   | _,_=>none
  | _=>none
 | .wR x lo hi=>
  match x.ev tm with
  | .str t=>
   match yl (lo.map (·.ev tm)),ym (hi.map (·.ev tm)) t.length with
   | some l,some h=>if 0≤l∧l≤h∧h≤t.length then some (.str ((t.take h.toNat).drop l.toNat),s)else none
   | _,_=>none
  | _=>none
 | .au x off=>
  match x.ev tm with
  | .ptr o k=>some (.ptr o (k+off),s)
  | .dI row k=>some (.dI row (k+off),s)
  | _=>none
 | .rj x off agg size=>
  match x.ev tm with
  | .agg cs=>match part cs off agg size with | some d=>some (d,s) | none=>none
  | _=>none
 | .cu x i size=>
  match x.ev tm,i.ev tm with
  | .slice _ z rows, .int _ n=>
   if 0≤n∧z=size then
    match rows[n.toNat]? with
    | some row=>some (.dI row 0,s)
    | none=>none
   else none
  | _,_=>none
 | .nJ x i=>
  match x.ev tm,i.ev tm with
  | .str t, .int _ n=>
   if 0≤n then
    match t[n.toNat]? with
    | some c=>some (.int .u8 c.toNat,s)
    | none=>none
   else none
  | _,_=>none
 | .ext x i=>
  match x.ev tm with
  | .tuple ds=>match ds[i]? with | some d=>some (d,s) | none=>none
  | _=>none
 | .kR x=>
  match x.ev tm with
  | .str t=>some (.int .i64 t.length,s)
  | _=>none
 | .len x=>
  match x.ev tm with
  | .slice _ _ rows=>some (.int .i64 rows.length,s)
  | _=>none
 | .app size bytes x y=>kA size bytes (x.ev tm) (y.ev tm) s
 | .mm isMax x y=>
  match x.ev tm,y.ev tm with
  | .int k a, .int k' b=>if k=k' then some (.int k (if isMax then(if b > a then b else a)else(if b<a then b else a)),s)else none
  | _,_=>none
 | .rk zero T=>
  match zero with
  | .e9::r=>some (.ptr s.aA.length 0,{s with aA:=s.aA++ [.fB T s.aA.length::r]})
  | _=>none
 | .yi x T=>
  match (x.ev tm).row with
  | some (.e9::r)=>some (.ptr s.aA.length 0,{s with aA:=s.aA++ [.fB T s.aA.length::r]})
  | _=>none
 | .yj x y=>yn (x.ev tm) (y.ev tm) s
 | .apps x y=>
  match y.ev tm with
  | .str l=>yn (x.ev tm) (.slice .shared 1 (l.map fun c=> [.int .u8 c.toNat])) s
  | _=>none
 | .sA f xs=>some (.gn f (xs.map (·.ev tm)),s)
 | .sB=>some (.gk s.aA.length,{s with aA:=s.aA++ [[]]})
 | .wS m k v=>
  match m.ev tm,k.ev tm,v.ev tm with
  | .gk o, .str key, .slice g z rows=>
   match s.aA[o]? with
   | some cs=>match vj key (.slice g z rows) cs with | some iO=>some (.tuple [],{s with aA:=s.aA.set o iO}) | none=>none
   | none=>none
  | _,_,_=>none
 | .um m k zero=>
  match m.ev tm,k.ev tm with
  | .gk o, .str key=>
   match s.aA[o]? with
   | some cs=>match wT key zero cs with | some d=>some (d,s) | none=>none
   | none=>none
  | _,_=>none
def P3 (b:ByteArray):List UInt8:=b.data.toList
def qE:Value→Option D
 | .int k n=>some (.int k n)
 | .bool b=>some (.bool b)
 | .string b=>some (.str (P3 b))
 | .pointer none=>some .e9
 | .slice none 0 0=>some (.slice .full 0 [])
 | .nilIface=>some (.val .nilIface)
 | _=>none
def mr:List Value→Option (List D)
 | []=>some []
 | v::r=>match qE v,mr r with | some d,some ds=>some (d::ds) | _,_=>none
def A0:Value→Option D
 | .slice none 0 0=>some (.val (.slice none 0 0))
 | v=>qE v
def uq:List Value→Option (List D)
 | []=>some []
 | v::r=>match A0 v,uq r with | some d,some ds=>some (d::ds) | _,_=>none
def JR:Value→Option D
 | .agg cs=>(mr cs.toList).map .agg
 | .tuple ⟨[]⟩=>some (.tuple [])
 | v=>qE v
def cX:Operand→Option X
 | .tmp t=>some (.s t)
 | .const v=>(JR v).map .k
 | .func f=>some (.k (.gn f []))
 | _=>none
def vU:List Operand→Option (List X)
 | []=>some []
 | x::r=>match cX x,vU r with | some d,some ds=>some (d::ds) | _,_=>none
def SU:Option Operand→Option (Option X)
 | none=>some none
 | some x=>(cX x).map some
section
variable (P:Program)
def rl (t:TypeId):Option Bool:=
 match P.underlying t with
 | some (.struct _) | some (.array _ _)=>some true
 | some _=>some false
 | none=>none
def zeroOf (t:TypeId):Option (List D):=
 match P.info? t with
 | some i=>match i.zero with | some z=>if z.cells.size=i.size then mr z.cells.toList else none | none=>none
 | none=>none
def lq (t:TypeId) (f:Nat):Option (Nat×Nat×Bool):=
 match P.underlying t with
 | some (.struct fs)=>
  match fs[f]? with
  | some fd=>match P.info? fd.type,rl P fd.type with
   | some i,some a=>if i.size=0 then none else some (fd.offset,i.size,a)
   | _,_=>none
  | none=>none
 | _=>none
def MA (t u:TypeId):Bool:=
 match P.underlying u with
 | some (.pointer e)=>e==t
 | _=>false
def Xi (t:TypeId):Bool:=
 match P.underlying t with
 | some (.struct fs)=>
  match fs[0]? with
  | some f=>MA P t f.type
  | none=>false
 | _=>false
def JS (t:TypeId):Bool:=
 match P.underlying t with
 | some (.struct fs)=>
  match fs[0]? with
  | some f=>MA P t f.type || Xi P f.type
  | none=>false
 | _=>false
def JT (self:Bool) (l:List Value):Option (List D):=if self then uq l else mr l
def wU (t:TypeId):Option (List D):=
 match P.info? t with
 | some i=>match i.zero with | some z=>if z.cells.size=i.size then JT (JS P t) z.cells.toList else none | none=>none
 | none=>none
def yo (t:TypeId):List (Nat×Operand)→Option (List (Nat×Nat×X))
 | []=>some []
 | (i,x)::r=>match lq P t i,cX x,yo t r with
  | some (off,size,_),some x',some r'=>some ((off,size,x')::r')
  | _,_,_=>none
def FN:List (Nat×Operand)→Option (List (Nat×X))
 | []=>some []
 | (i,x)::r=>match cX x,FN r with
  | some x',some r'=>some ((i,x')::r')
  | _,_=>none
def jS (t:TypeId):Option Nat:=
 match P.underlying t with
 | some (.int _)=>some 0
 | some .bool=>some 1
 | some .string=>some 2
 | _=>none
def zP:Nat→List Field→Option (List Nat)
 | _,[]=>some []
 | n,f::fs=>
  if f.offset=n∧f.name≠ "_" then
   match jS P f.type,zP (n+1) fs with
   | some k,some ks=>some (k::ks)
   | _,_=>none
  else none
def oI (t:TypeId):Option (List Nat):=
 match P.underlying t with
 | some (.struct fs)=>if P.eqGuardType P.depth t=false∧P.stoodInHeld t=false then zP P 0 fs.toList else none
 | _=>none
def Bv (o:Oper):Option AO:=
 match o.op with
 | .move x | .assign x=>(cX x).map .mv
 | .pick c a b=>match cX c,cX a,cX b with | some c,some a,some b=>some (.pick c a b) | _,_,_=>none
 | .alloc t=>if JS P t then(wU P t).map (.rk · t)else(zeroOf P t).map .alloc
 | .box t x=>if JS P t then(cX x).map (.yi · t)else(cX x).map .box
 | .build t parts=>
  match P.underlying t,wU P t,yo P t parts.toList with
  | some (.struct fs),some z,some ps=>if fs.toList.all fun f=>(P.info? f.type).isSome then some (.build z ps)else none
  | _,_,_=>none
 | .buildSlice t n parts=>
  match P.underlying t with
  | some (.slice e)=>
   match P.info? e,zeroOf P e,FN parts.toList with
   | some i,some z,some ps=>if 0<i.size∧n*i.size≤65536 then some (.cG z i.size n ps)else none
   | _,_,_=>none
  | _=>none
 | .load t x=>
  match cX x,rl P t,P.info? t with
  | some x,some a,some i=>some (.load x a i.size)
  | _,_,_=>none
 | .store t a x=>
  match cX a,cX x,P.info? t with
  | some a,some x,some i=>some (.store a x i.size)
  | _,_,_=>none
 | .nilCheck x=>(cX x).map .di
 | .binOp op t x y _=>
  match cX x,cX y with
  | some x,some y=>
   match P.underlying t,op with
   | some (.int _),_=>some (.bin op x y)
   | some .string,_=>some (.bin op x y)
   | some .bool, .eql=>some (.As false x y)
   | some .bool, .neq=>some (.As true x y)
   | some (.pointer _), .eql=>some (.DJ false x y)
   | some (.pointer _), .neq=>some (.DJ true x y)
   | some (.struct _), .eql=>(oI P t).map (.eqs false · x y)
   | some (.struct _), .neq=>(oI P t).map (.eqs true · x y)
   | _,_=>none
  | _,_=>none
 | .unOp op _ x=>(cX x).map (.un op)
 | .convert src dst x=>
  match cX x,P.underlying src,P.underlying dst with
  | some x,some (.int _),some (.int k)=>some (.conv k x)
  | some x,some (.slice e),some .string=>match P.underlying e with | some (.int .u8)=>some (.Bs x) | _=>none
  | some x,some (.slice e),some (.slice _)=>match P.underlying e with | some (.int .u8)=>if src=dst then some (.yh x)else none | _=>none
  | some x,some .string,some (.slice e)=>match P.underlying e,P.info? e with | some (.int .u8),some i=>if i.size=1 then some (.vS x)else none | _,_=>none
  | _,_,_=>none
 | .slice t x lo hi none=>
  match cX x,SU lo,SU hi,P.underlying t with
  | some x,some lo,some hi,some .string=>some (.wR x lo hi)
  | some x,some lo,some hi,some (.slice e)=>match P.info? e with | some i=>some (.FJ i.size x lo hi) | none=>none
  | _,_,_,_=>none
 | .fieldAddr t x f=>match cX x,lq P t f with | some x,some (off,_,_)=>some (.au x off) | _,_=>none
 | .field t x f=>match cX x,lq P t f with | some x,some (off,size,a)=>some (.rj x off a size) | _,_=>none
 | .indexAddr t x i=>
  match cX x,cX i,P.underlying t with
  | some x,some i,some (.slice e)=>match P.info? e with | some j=>if 0<j.size then some (.cu x i j.size)else none | none=>none
  | _,_,_=>none
 | .index t x i=>match cX x,cX i,P.underlying t with | some x,some i,some .string=>some (.nJ x i) | _,_,_=>none
 | .extract x i=>(cX x).map (.ext · i)
 | .call {callee:= .builtin .len,args,argTypes}=>
  match args.toList,argTypes.toList with
  | [x],[t]=>match P.underlying t with
   | some .string=>(cX x).map .kR
   | some (.slice _)=>(cX x).map .len
   | _=>none
  | _,_=>none
 | .call {callee:= .builtin .append,args,argTypes}=>
  match args.toList,argTypes.toList with
  | [x,y],[t,u]=>match P.underlying t,P.underlying u,cX x,cX y with
   | some (.slice e),some (.slice _),some x,some y=>match P.info? e,zeroOf P e with
    | some i,some _=>if 0<i.size then some (if e=oa∧i.size=1∧i.bytes=1 then .yj x y else .app i.size i.bytes x y)else none
    | _,_=>none
   | some (.slice e),some .string,some x,some y=>match P.info? e,zeroOf P e with
    | some i,some _=>if e=oa∧i.size=1∧i.bytes=1 then some (.apps x y)else none
    | _,_=>none
   | _,_,_,_=>none
  | _,_=>none
 | .call {callee:= .builtin .max,args, ..}=>
  match args.toList with
  | [x,y]=>match cX x,cX y with | some x,some y=>some (.mm true x y) | _,_=>none
  | _=>none
 | .call {callee:= .builtin .min,args, ..}=>
  match args.toList with
  | [x,y]=>match cX x,cX y with | some x,some y=>some (.mm false x y) | _,_=>none
  | _=>none
 | .makeFunc (.func f) first captured=>if first.size=0 then(vU captured.toList).map (.sA f)else none
 | .makeMap t none=>match P.underlying t with | some (.map _ _)=>some .sB | _=>none
 | .mapUpdate t m k v=>
  match P.underlying t,cX m,cX k,cX v with
  | some (.map kt _),some m,some k,some v=>match P.underlying kt with | some .string=>some (.wS m k v) | _=>none
  | _,_,_,_=>none
 | .lookup t m k false=>
  match P.underlying t,cX m,cX k with
  | some (.map kt e),some m,some k=>
   match P.underlying kt,P.info? e with
   | some .string,some i=>match i.zero with | some z=>(qE z).map (.um m k) | none=>none
   | _,_=>none
  | _,_,_=>none
 | _=>none
def s8 (ops:Array Oper):Option (Nat×Bool)→Option (Option (Nat×Bool))
 | none=>some none
 | some (j,b)=>
  match (ops[j]?).bind (·.dst)with
  | some t=>some (some (t,b))
  | none=>none
def enters (f:FuncId):Bool:=
 match P.funcs[f]? with
 | some fn=>fn.body.isSome && !(fn.name == "runtime.NumGoroutine")
 | none=>false
def frozenIn (ops:Array Oper) (dst:Option Nat):Bool:=
 ops.toList.any fun o=>match o.op,dst with
  | .convert s d (.tmp t),some t'=>t==t' && s==d
  | _,_=>false
def CO (o:Oper):Option (Bool×X):=
 match o.op with
 | .binOp op t x (.const (.slice none 0 0)) _=>
  match P.underlying t,op,cX x with
  | some (.slice _), .eql,some x=>some (false,x)
  | some (.slice _), .neq,some x=>some (true,x)
  | _,_,_=>none
 | _=>none
def SV (nt:Nat) (dst:Option Nat):Bool:=
 match dst with
 | some d=>decide (d<nt)
 | none=>true
def qT (ops:Array Oper) (o:Oper) (g:Option (Nat×Bool)):Option AI:=
 match o.op with
 | .call {callee:= .value (.func f),args, ..}=>if enters P f then(vU args.toList).map (.call o.dst g f)else none
 | .call {callee:= .value (.tmp t),args, ..}=>(vU args.toList).map (.iA o.dst g t)
 | _=>
  match CO P o with
  | some (neg,x)=>some (.nil o.dst g neg x)
  | none=>
   match Bv P o with
   | some (.cG z k n ps)=>some (.op o.dst g (if frozenIn ops o.dst then .s6 z k n ps else .cG z k n ps))
   | some ao=>some (.op o.dst g ao)
   | none=>none
def cI (nt:Nat) (ops:Array Oper) (o:Oper):Option AI:=
 match s8 ops o.guard with
 | none=>none
 | some g=>if SV nt o.dst=true then qT P ops o g else none
def pO (nt:Nat) (ops:Array Oper):List Oper→Option (List AI)
 | []=>some []
 | o::r=>match cI P nt ops o,pO nt ops r with | some i,some is=>some (i::is) | _,_=>none
def SW (is:List AI) (af:List (List Nat)):Option AC:=
 if FK is af (FL [] af) (Mz is af)then some (.par is (Mz is af))else none
def cC (nt:Nat):Code→Option AC
 | .skip=>some .skip
 | .region _ ops false=>(pO P nt ops ops.toList).map .run
 | .region _ ops true=>if P.follows .mixedOrders then(pO P nt ops ops.toList).bind (SW · (ops.toList.map lQ))else none
 | .seq a b=>match cC nt a,cC nt b with | some a,some b=>some (.seq a b) | _,_=>none
 | .cond x a b=>match cX x,cC nt a,cC nt b with | some x,some a,some b=>some (.cond x a b) | _,_,_=>none
 | .block id a=>(cC nt a).map (.block id)
 | .loop a=>(cC nt a).map .loop
 | .exit id=>some (.exit id)
 | .scope a=>(cC nt a).map .scope
 | .label l=>some (.label l)
 | .goto l=>some (.goto l)
 | .ret=>some .ret
 | _=>none
def A1:List ResultVar→Option (List (Nat×Option (Bool×Nat)))
 | []=>some []
 | .tmp t::r=>(A1 r).map ((t,none):: ·)
 | .cell a t::r=>match rl P t,P.info? t,A1 r with
  | some g,some i,some r'=>some ((a,some (g,i.size))::r')
  | _,_,_=>none
def cF (fn:Func):Option AF:=
 match fn.body with
 | some c=>match cC P fn.ntmps c,A1 P fn.results.toList with
  | some b,some r=>some ⟨fn.ntmps,r,b⟩
  | _,_=>none
 | none=>none
end
end Go.Abs

/-! Rel -/

namespace Go.Abs
theorem kj {w:World} {b:Nat} {vs:Array Value} {T:TypeId} {fr:Nat×Nat} (h:w.heap[b]? = some (.cells vs T fr)) (o:Nat):w.cell? ⟨b,o,none⟩=vs[o]? :=by
 simp [World.cell?,h]
theorem kZ {w:World} {b:Nat} {o:Obj} (h:w.heap[b]? = some o):b<w.heap.size:=(Array.getElem?_eq_some_iff.1 h).1
section
variable {M:Map} {s:St} {w:World}
theorem Rel.CP (r:Rel M s w) {b o:Nat} {v:Value} (h:M.G b o=some v):b<w.heap.size:=World.block_lt_of_cell? w _ (r.comm b o v h).1
theorem Rel.SX (r:Rel M s w) {b:Nat} (h:w.heap.size≤b) (o:Nat):M.G b o=none:=by
 cases e:M.G b o with
 | none=>rfl
 | some v=>have:=r.CP e;omega
theorem Rel.pP (r:Rel M s w) {o:Nat} (h:o<s.aA.length):M.mu o<w.heap.size:=by
 obtain⟨vs,T,hh,_⟩:=r.obj o _ (List.getElem?_eq_getElem h)
 exact hh.lt
theorem Rel.sC (r:Rel M s w) {t b c z:Nat} (h:s.live t) (e:M.be t=some (b,c,z)):b<w.heap.size:=by
 obtain⟨n,hn⟩:=h
 rcases r.tok t n hn with ⟨h1,_⟩ | ⟨b',cap,size,vs,T,h1,h2,_⟩
 ·rw [e]at h1;cases h1
 ·rw [e]at h1;cases h1;exact kZ h2
theorem Rel.of_heap (r:Rel M s w) {w':World} (h:w'.heap=w.heap):Rel M s w':=by
 refine⟨fun b o v e=> ?_,fun o ds e=> ?_,r.kz,r.inj,fun t n e=> ?_,r.fm,r.fS⟩
 ·obtain⟨h1,h2⟩:=r.comm b o v e
  refine⟨?_,h2⟩
  rw [← h1];simp [World.cell?,h]
 ·rw [h];exact r.obj o ds e
 ·rw [h];exact r.tok t n e
theorem Ext.of_heap {w':World} (h:w'.heap=w.heap) (h1:w'.os=w.os) (h2:w'.tape=w.tape) (h3:w'.output=w.output):Ext M s w M s w':=
 ⟨Le.refl M s,fun _ _ _ _=>by rw [h],fun o h h'=>by omega,fun t b c z h e=> .inl ⟨h,c,z,e⟩,fun _ _ h=>(h rfl).elim,by rw [h];exact Nat.le_refl _,h1,h2,h3⟩
def Map.dQ (M:Map) (n b:Nat) (x:Ob:= .any):Map:= {M with loc:=fun o=>if o=n then(b,x)else M.loc o}
theorem s9 (s:St) (b:Nat) (ds:List D) (x:Ob:= .any):Le M s (M.dQ s.aA.length b x) {s with aA:=s.aA++ [ds]}:=
 ⟨fun _ _ _ h=>h,by simp,fun o ho=>by simp [Map.dQ];omega,Nat.le_refl _,fun t n _ h=>⟨n,h,Nat.le_refl _,fun _=>rfl⟩⟩
theorem Rel.MB (r:Rel M s w) (ds:List D) (ob:Obj) (vs:Array Value) (T:TypeId) (x:Ob) (vV:lJ (some ob) x vs T) (hx : ∀ T',x.ty? = some T'→T'=T) (hl:vs.size=ds.length) (h1 : ∀ v∈vs,v.oneCell'=true)
 (h2 : ∀ (i:Nat) (d:D) (v:Value),ds[i]? = some d→vs[i]? = some v→RD (M.dQ s.aA.length w.heap.size x) {s with aA:=s.aA++ [ds]} d v) :
 Rel (M.dQ s.aA.length w.heap.size x) {s with aA:=s.aA++ [ds]} (w.alloc ob)∧
 Ext M s w (M.dQ s.aA.length w.heap.size x) {s with aA:=s.aA++ [ds]} (w.alloc ob):=by
 have le:=s9 (M:=M) s w.heap.size ds x
 have py : ∀ o,o<s.aA.length→(M.dQ s.aA.length w.heap.size x).mu o=M.mu o:=le.mu
 have dV:(M.dQ s.aA.length w.heap.size x).mu s.aA.length=w.heap.size:=by simp [Map.dQ,Map.mu]
 have abh:(M.dQ s.aA.length w.heap.size x).ty s.aA.length=x.ty? :=by simp [Map.dQ,Map.ty]
 have abi:(M.dQ s.aA.length w.heap.size x).ob s.aA.length=x:=by simp [Map.dQ,Map.ob]
 refine⟨⟨fun b o v e=> ?_,fun o nn e=> ?_,fun o ho off=> ?_,fun o o' ho ml e=> ?_,fun t n e=> ?_,fun t b c z o hl e ho=> ?_,fun t t' b c z c' z' h h' e e'=>r.fS t t' b c z c' z' h h' e e'⟩, ?_⟩
 ·obtain⟨h3,h4⟩:=r.comm b o v e
  refine⟨?_,h4⟩
  rw [World.cell?_alloc_lt]
  ·exact h3
  ·exact r.CP e
 ·rcases Nat.lt_or_ge o s.aA.length with ho | ho
  ·rw [List.getElem?_append_left ho]at e
   obtain⟨fD,T',h3,h4,h5,h6⟩:=r.obj o nn e
   refine⟨fD,T', ?_,h4,⟨h5.1,by rw [le.ty o ho];exact h5.2⟩,fun i d v e1 e2=>(h6 i d v e1 e2).mono le⟩
   rw [py o ho,le.ob o ho,heap_alloc_old w _ _ h3.lt];exact h3
  ·rw [List.getElem?_append_right ho]at e
   have:o=s.aA.length:=by
    have:=(List.getElem?_eq_some_iff.1 e).1
    simp at this;omega
   subst this
   simp at e;subst e
   refine⟨vs,T, ?_,hl,⟨h1,by rw [abh];exact hx⟩,fun i d v e1 e2=>h2 i d v e1 e2⟩
   rw [dV,abi,heap_alloc_new];exact vV
 ·simp at ho
  rcases Nat.lt_or_ge o s.aA.length with h3 | h3
  ·rw [py o h3];exact r.kz o h3 off
  ·have:o=s.aA.length:=by omega
   subst this
   rw [dV];exact r.SX (Nat.le_refl _) off
 ·simp at ho ml
  rcases Nat.lt_or_ge o s.aA.length with h3 | h3 <;> rcases Nat.lt_or_ge o' s.aA.length with h4 | h4
  ·rw [py o h3,py o' h4]at e;exact r.inj o o' h3 h4 e
  ·have:o'=s.aA.length:=by omega
   subst this
   rw [py o h3,dV]at e
   have:=r.pP h3;omega
  ·have:o=s.aA.length:=by omega
   subst this
   rw [py o' h4,dV]at e
   have:=r.pP h4;omega
  ·omega
 ·rcases r.tok t n e with h3 | ⟨b,cap,size,fD,T',h3,h4,h5⟩
  ·exact .inl h3
  ·exact .inr ⟨b,cap,size,fD,T',h3,by rw [heap_alloc_old w _ _ (kZ h4)];exact h4,h5⟩
 ·simp at ho
  rcases Nat.lt_or_ge o s.aA.length with h3 | h3
  ·rw [py o h3];exact r.fm t b c z o hl e h3
  ·have:o=s.aA.length:=by omega
   subst this
   rw [dV]
   have:=r.sC hl e;omega
 ·refine⟨le,fun b hb _ _=>heap_alloc_old w _ b hb,fun o h3 h4=> ?_,fun t b c z h e=> .inl ⟨h,c,z,e⟩,fun _ _ h=>(h rfl).elim,by simp,rfl,rfl,rfl⟩
  simp at h4
  have:o=s.aA.length:=by omega
  subst this
  rw [dV];exact Nat.le_refl _
theorem Rel.FO (r:Rel M s w) (ds:List D) (vs:Array Value) (T:TypeId) (x:Ob) (hk:x≠ .map) (hx : ∀ T',x.ty? = some T'→T'=T) (hl:vs.size=ds.length) (h1 : ∀ v∈vs,v.oneCell'=true)
 (h2 : ∀ (i:Nat) (d:D) (v:Value),ds[i]? = some d→vs[i]? = some v→RD (M.dQ s.aA.length w.heap.size x) {s with aA:=s.aA++ [ds]} d v) :
 Rel (M.dQ s.aA.length w.heap.size x) {s with aA:=s.aA++ [ds]} (w.alloc (.cells vs T))∧
 Ext M s w (M.dQ s.aA.length w.heap.size x) {s with aA:=s.aA++ [ds]} (w.alloc (.cells vs T)):=
 r.MB ds _ vs T x (lJ.of rfl hk) hx hl h1 h2
theorem Rel.dQ (r:Rel M s w) (ds:List D) (vs:Array Value) (T:TypeId) (hl:vs.size=ds.length) (h1 : ∀ v∈vs,v.oneCell'=true)
 (h2 : ∀ (i:Nat) (d:D) (v:Value),ds[i]? = some d→vs[i]? = some v→RD M s d v) :
 Rel (M.dQ s.aA.length w.heap.size) {s with aA:=s.aA++ [ds]} (w.alloc (.cells vs T))∧
 Ext M s w (M.dQ s.aA.length w.heap.size) {s with aA:=s.aA++ [ds]} (w.alloc (.cells vs T)):=
 r.FO ds vs T .any (by simp) (fun _ h=>by cases h) hl h1 fun i d v e1 e2=>(h2 i d v e1 e2).mono (s9 s w.heap.size ds)
theorem ur (cs:List D) (off:Nat) (r:List D) (h:off+r.length≤cs.length) (i:Nat) :
 (iY cs off r)[i]? = if i<off then cs[i]? else if i<off+r.length then r[i - off]? else cs[i]? :=by
 unfold iY
 have hl:(cs.take off).length=off:=by simp;omega
 split
 ·rename_i h1
  rw [List.append_assoc,List.getElem?_append_left (by omega),List.getElem?_take_of_lt h1]
 ·rename_i h1
  rw [List.append_assoc,List.getElem?_append_right (by omega),hl]
  split
  ·rename_i h2
   rw [List.getElem?_append_left (by omega)]
  ·rename_i h2
   rw [List.getElem?_append_right (by omega),List.getElem?_drop]
   congr 1;omega
theorem xL (cs:List D) (off:Nat) (r:List D) (h:off+r.length≤cs.length):(iY cs off r).length=cs.length:=by
 unfold iY;simp;omega
theorem Rel.aey (P:Program) (r:Rel M s w) {o off:Nat} {cs:List D} (he:s.aA[o]? = some cs) (hk:M.ob o≠ .map) (row:List D) (us:List Value) (hu:us.length=row.length) (kB:off+row.length≤cs.length)
 (h1 : ∀ u∈us,u.oneCell'=true) (h2 : ∀ (i:Nat) (d:D) (v:Value),row[i]? = some d→us[i]? = some v→RD M s d v) :
 ∃ w',(storeCells (⟨M.mu o,off,none⟩:Addr) us).run P w = .ok () w'∧Rel M {s with aA:=s.aA.set o (iY cs off row)} w'∧Ext M s w M {s with aA:=s.aA.set o (iY cs off row)} w':=by
 obtain⟨vs,T,hh,hs,⟨mw,SY⟩,oJ⟩:=r.obj o cs he
 replace hh:=hh.cells hk
 have ho:o<s.aA.length:=(List.getElem?_eq_some_iff.1 he).1
 have Au:=run_storeCells_at P (M.mu o) off T us 0 vs w hh (by omega) h1
 simp only [Nat.add_zero]at Au
 have le:Le M s M {s with aA:=s.aA.set o (iY cs off row)}:=
  ⟨fun _ _ _ h=>h,by simp,fun _ _=>rfl,Nat.le_refl _,fun t n _ h=>⟨n,h,Nat.le_refl _,fun _=>rfl⟩⟩
 generalize dV:(vs.toList.take off++us++vs.toList.drop (off+us.length)).toArray=uu at Au
 have P4:uu.size=vs.size:=by rw [← dV];simp;omega
 have hY : ∀ i,uu[i]? = if i<off then vs[i]? else if i<off+row.length then us[i - off]? else vs[i]? :=by
  intro i
  rw [← dV]
  simp only [List.getElem?_toArray]
  have hl:(vs.toList.take off).length=off:=by simp;omega
  split
  ·rename_i h3
   rw [List.append_assoc,List.getElem?_append_left (by omega),List.getElem?_take_of_lt h3];simp
  ·rename_i h3
   rw [List.append_assoc,List.getElem?_append_right (by omega),hl]
   split
   ·rename_i h4
    rw [List.getElem?_append_left (by omega)]
   ·rename_i h4
    rw [List.getElem?_append_right (by omega),List.getElem?_drop]
    rw [show off+us.length+(i - off - us.length)=i by omega];simp
 have k6 : ∀ b,b≠M.mu o→(w.setRow (M.mu o) uu).heap[b]? = w.heap[b]? :=fun b hb=>setRow_other w (M.mu o) b _ hb
 refine⟨_,Au,⟨fun b q v e=> ?_,fun o' ds e=> ?_,fun q hq vk=>r.kz q (by simpa using hq) vk,fun q q' hq qz e=>r.inj q q' (by simpa using hq) (by simpa using qz) e,fun t n e=> ?_,
  fun t b c z q hl e hq=>r.fm t b c z q hl e (by simpa using hq),fun t t' b c z c' z' h h' e e'=>r.fS t t' b c z c' z' h h' e e'⟩, ?_⟩
 ·obtain⟨h3,h4⟩:=r.comm b q v e
  refine⟨?_,h4⟩
  have hb:b≠M.mu o:=fun eq=>by subst eq;rw [r.kz o ho q]at e;cases e
  rw [← h3]
  simp [World.cell?,k6 b hb]
 ·rw [List.getElem?_set]at e
  split at e
  ·rename_i heq
   subst heq
   simp at e
   obtain⟨_,rfl⟩:=e
   refine⟨uu,T,lJ.of (setRow_heap w (M.mu o) vs uu T (0,0) hh) hk,by rw [P4,hs,xL cs off row kB],⟨fun v hv=> ?_,SY⟩,fun i d v e1 e2=> ?_⟩
   ·rw [← dV]at hv
    simp at hv
    rcases hv with hv | hv | hv
    ·exact mw v (Array.mem_toList_iff.1 (List.mem_of_mem_take hv))
    ·exact h1 v hv
    ·exact mw v (Array.mem_toList_iff.1 (List.mem_of_mem_drop hv))
   ·rw [ur cs off row kB]at e1
    rw [hY]at e2
    split at e1
    ·rename_i h3;simp only [h3,if_true]at e2;exact(oJ i d v e1 e2).mono le
    ·rename_i h3
     simp only [h3,if_false]at e2
     split at e1
     ·rename_i h4;simp only [h4,if_true]at e2;exact(h2 _ d v e1 e2).mono le
     ·rename_i h4;simp only [h4,if_false]at e2;exact(oJ i d v e1 e2).mono le
  ·rename_i fp
   obtain⟨fD,T',h3,h4,h5,h6⟩:=r.obj o' ds e
   have ml:o'<s.aA.length:=(List.getElem?_eq_some_iff.1 e).1
   refine⟨fD,T', ?_,h4,h5,fun i d v e1 e2=>(h6 i d v e1 e2).mono le⟩
   rw [k6 _ (fun eq=>fp (r.inj o o' ho ml eq.symm))];exact h3
 ·rcases r.tok t n e with h3 | ⟨b,cap,size,fD,T',h3,h4,h5⟩
  ·exact .inl h3
  ·refine .inr ⟨b,cap,size,fD,T',h3, ?_,h5⟩
   rw [k6 b (fun eq=>r.fm t b cap size o ⟨n,e⟩ h3 ho eq.symm)];exact h4
 ·refine⟨le,fun b hb h3 _=>k6 b (fun eq=>h3 o ho eq.symm),fun q h3 h4=> ?_,fun t b c z h e=> .inl ⟨h,c,z,e⟩,fun _ _ h=>(h rfl).elim,by simp,rfl,rfl,rfl⟩
  simp at h4;omega
def Map.fu (M:Map) (b n:Nat) (vs:Array Value):Map:= {M with G:=fun b' o=>if b'=b then(if o<n then vs[o]? else none)else M.G b' o}
theorem MC (r:Rel M s w) (n:Nat) (vs:Array Value):Le M s (M.fu w.heap.size n vs) s:=
 ⟨fun b o v h=>by
  have hb:b≠w.heap.size:=fun e=>by have:=r.CP h;omega
  simp [Map.fu,hb,h],Nat.le_refl _,fun _ _=>rfl,Nat.le_refl _,fun t n _ h=>⟨n,h,Nat.le_refl _,fun _=>rfl⟩⟩
theorem Rel.fu (r:Rel M s w) (n:Nat) (vs:Array Value) (T:TypeId) (fr:Nat×Nat) (h1 : ∀ v∈vs,v.oneCell'=true) :
 Rel (M.fu w.heap.size n vs) s (w.alloc (.cells vs T fr))∧Ext M s w (M.fu w.heap.size n vs) s (w.alloc (.cells vs T fr)):=by
 have le:=MC r n vs
 have hold : ∀ b,b<w.heap.size→∀ o,(M.fu w.heap.size n vs).G b o=M.G b o:=fun b hb o=>by
  have:b≠w.heap.size:=by omega
  simp [Map.fu,this]
 refine⟨⟨fun b o v e=> ?_,fun o ds e=> ?_,fun o ho off=> ?_,r.inj,fun t k e=> ?_,r.fm,r.fS⟩, ?_⟩
 ·by_cases hb:b=w.heap.size
  ·subst hb
   simp [Map.fu]at e
   obtain⟨_,e⟩:=e
   refine⟨by rw [kj (heap_alloc_new w _)];exact e,h1 v (Array.mem_of_getElem? e)⟩
  ·simp [Map.fu,hb]at e
   obtain⟨h3,h4⟩:=r.comm b o v e
   refine⟨?_,h4⟩
   rw [World.cell?_alloc_lt]
   ·exact h3
   ·exact r.CP e
 ·obtain⟨fD,T',h3,h4,h5,h6⟩:=r.obj o ds e
  exact⟨fD,T',by show lJ (w.alloc _).heap[M.mu o]? (M.ob o) _ _;rw [heap_alloc_old w _ _ h3.lt];exact h3,h4,h5,fun i d v e1 e2=>(h6 i d v e1 e2).mono le⟩
 ·rw [hold]
  ·exact r.kz o ho off
  ·exact r.pP ho
 ·rcases r.tok t k e with h3 | ⟨b,cap,size,fD,T',h3,h4,h5,h6,h7⟩
  ·exact .inl h3
  ·exact .inr ⟨b,cap,size,fD,T',h3,by rw [heap_alloc_old w _ _ (kZ h4)];exact h4,h5,h6,fun off ho=>by rw [hold b (kZ h4)];exact h7.1 off ho,h7.2⟩
 ·refine⟨le,fun b hb _ _=>heap_alloc_old w _ b hb,fun o h3 h4=>by omega,fun t b c z h e=> .inl ⟨h,c,z,e⟩,fun b o h=> ?_,by simp,rfl,rfl,rfl⟩
  rcases Nat.lt_or_ge b w.heap.size with hb | hb
  ·exact(h (hold b hb o)).elim
  ·exact .inl hb
def Map.ey (M:Map) (t:Nat) (x:Option (Nat×Nat×Nat)):Map:= {M with be:=fun t'=>if t'=t then x else M.be t'}
theorem Rel.SZ (r:Rel M s w) (n b cap size:Nat) (vs:Array Value) (T:TypeId) (hb:w.heap[b]? = some (.cells vs T (0,0))) (ew:vs.size=cap*zs size) (hn:n≤cap) (hy:size=0→T=oa)
 (hG : ∀ off,n*zs size≤off→M.G b off=none) (ho : ∀ o,o<s.aA.length→M.mu o≠b) (ht : ∀ t c z,s.live t→M.be t≠some (b,c,z)) :
 Rel (M.ey s.aC.length (some (b,cap,size))) {s with aC:=s.aC++ [some n]} w∧Le M s (M.ey s.aC.length (some (b,cap,size))) {s with aC:=s.aC++ [some n]}:=by
 have gM : ∀ t,St.live {s with aC:=s.aC++ [some n]} t→s.live t∨t=s.aC.length:=by
  rintro t ⟨k,hk⟩
  rcases Nat.lt_or_ge t s.aC.length with h | h
  ·rw [List.getElem?_append_left h]at hk;exact .inl ⟨k,hk⟩
  ·have:=(List.getElem?_eq_some_iff.1 hk).1
   simp at this;exact .inr (by omega)
 have hP : ∀ t,s.live t→t<s.aC.length:=fun t ⟨k,hk⟩=>(List.getElem?_eq_some_iff.1 hk).1
 have hold : ∀ t,t<s.aC.length→(M.ey s.aC.length (some (b,cap,size))).be t=M.be t:=fun t h=>by simp [Map.ey];omega
 have dV:(M.ey s.aC.length (some (b,cap,size))).be s.aC.length=some (b,cap,size):=by simp [Map.ey]
 have le:Le M s (M.ey s.aC.length (some (b,cap,size))) {s with aC:=s.aC++ [some n]}:=
  ⟨fun _ _ _ h=>h,Nat.le_refl _,fun _ _=>rfl,by simp,fun t k h e=>by
   rw [List.getElem?_append_left h]at e
   exact⟨k,e,Nat.le_refl _,fun _=>hold t h⟩⟩
 refine⟨⟨r.comm,fun o ds e=> ?_,r.kz,r.inj,fun t k e=> ?_,fun t b' c z o hl e ml=> ?_,fun t t' b' c z c' z' h h' e e'=> ?_⟩,le⟩
 ·obtain⟨fD,T',h3,h4,h5,h6⟩:=r.obj o ds e
  exact⟨fD,T',h3,h4,h5,fun i d v e1 e2=>(h6 i d v e1 e2).mono le⟩
 ·rcases Nat.lt_or_ge t s.aC.length with h | h
  ·rw [List.getElem?_append_left h]at e
   rw [hold t h];exact r.tok t k e
  ·have:=(List.getElem?_eq_some_iff.1 e).1
   simp at this
   have:t=s.aC.length:=by omega
   subst this
   simp at e;subst e
   exact .inr ⟨b,cap,size,vs,T,dV,hb,ew,hn,hG,hy⟩
 ·rcases gM t hl with h | h
  ·rw [hold t (hP t h)]at e;exact r.fm t b' c z o h e ml
  ·subst h;rw [dV]at e;cases e;exact ho o ml
 ·rcases gM t h with h | h <;> rcases gM t' h' with h' | h'
  ·rw [hold t (hP t h)]at e;rw [hold t' (hP t' h')]at e';exact r.fS t t' b' c z c' z' h h' e e'
  ·subst h';rw [dV]at e';cases e';rw [hold t (hP t h)]at e;exact(ht t c z h e).elim
  ·subst h;rw [dV]at e;cases e;rw [hold t' (hP t' h')]at e';exact(ht t' c' z' h' e').elim
  ·omega
theorem Rel.abj (r:Rel M s w) (t n n' b cap size:Nat) (vs:Array Value) (T:TypeId) (Bx:s.aC[t]? = some (some n)) (hnn:n<n') (hb:w.heap[b]? = some (.cells vs T (0,0))) (ew:vs.size=cap*zs size) (hn:n'≤cap) (hy:size=0→T=oa)
 (hG : ∀ off,n'*zs size≤off→M.G b off=none) (ho : ∀ o,o<s.aA.length→M.mu o≠b) (ht : ∀ t c z,s.live t→M.be t≠some (b,c,z)) :
 Rel (M.ey t (some (b,cap,size))) {s with aC:=s.aC.set t (some n')} w∧Le M s (M.ey t (some (b,cap,size))) {s with aC:=s.aC.set t (some n')}:=by
 have MD:t<s.aC.length:=(List.getElem?_eq_some_iff.1 Bx).1
 have gM : ∀ q,St.live {s with aC:=s.aC.set t (some n')} q→s.live q:=by
  rintro q ⟨k,hk⟩
  rw [List.getElem?_set]at hk
  split at hk
  ·rename_i h;subst h;exact⟨n,Bx⟩
  ·exact⟨k,hk⟩
 have hold : ∀ q,q≠t→(M.ey t (some (b,cap,size))).be q=M.be q:=fun q h=>by simp [Map.ey,h]
 have dV:(M.ey t (some (b,cap,size))).be t=some (b,cap,size):=by simp [Map.ey]
 have le:Le M s (M.ey t (some (b,cap,size))) {s with aC:=s.aC.set t (some n')}:=
  ⟨fun _ _ _ h=>h,Nat.le_refl _,fun _ _=>rfl,by simp,fun q k h e=>by
   rw [List.getElem?_set]at e
   split at e
   ·rename_i h2;subst h2
    simp at e;subst e
    exact⟨n,Bx,by omega,fun h=>by omega⟩
   ·rename_i h2
    exact⟨k,e,Nat.le_refl _,fun _=>hold q (fun h=>h2 h.symm)⟩⟩
 refine⟨⟨r.comm,fun o ds e=> ?_,r.kz,r.inj,fun q k e=> ?_,fun q b' c z o hl e ml=> ?_,fun q q' b' c z c' z' h h' e e'=> ?_⟩,le⟩
 ·obtain⟨fD,T',h3,h4,h5,h6⟩:=r.obj o ds e
  exact⟨fD,T',h3,h4,h5,fun i d v e1 e2=>(h6 i d v e1 e2).mono le⟩
 ·rw [List.getElem?_set]at e
  split at e
  ·rename_i h2;subst h2
   simp at e;subst e
   exact .inr ⟨b,cap,size,vs,T,dV,hb,ew,hn,hG,hy⟩
  ·rename_i h2
   rw [hold q (fun h=>h2 h.symm)];exact r.tok q k e
 ·by_cases h:q=t
  ·subst h;rw [dV]at e;cases e;exact ho o ml
  ·rw [hold q h]at e;exact r.fm q b' c z o (gM q hl) e ml
 ·by_cases h1:q=t <;> by_cases h2:q'=t
  ·omega
  ·subst h1;rw [dV]at e;cases e;rw [hold q' h2]at e';exact(ht q' c' z' (gM q' h') e').elim
  ·subst h2;rw [dV]at e';cases e';rw [hold q h1]at e;exact(ht q c z (gM q h) e).elim
  ·rw [hold q h1]at e;rw [hold q' h2]at e';exact r.fS q q' b' c z c' z' (gM q h) (gM q' h') e e'
def Map.fix (M:Map) (b lo:Nat) (us:List Value):Map:=
 {M with G:=fun b' o=>if b'=b∧lo≤o∧o<lo+us.length then us[o - lo]? else M.G b' o}
theorem Rel.abk (r:Rel M s w) (t n m b cap z size:Nat) (us:List Value) (hz:zs z=size) (Bx:s.aC[t]? = some (some n)) (jT:M.be t=some (b,cap,z)) (Av:us.length=m*size) (eU:n+m≤cap) (hm:0<m)
 (h1 : ∀ u∈us,u.oneCell'=true) (vs:Array Value) (T:TypeId) (hh:w.heap[b]? = some (.cells vs T (0,0))) (ew:vs.size=cap*size) (hy:z=0→T=oa) :
 Rel (M.fix b (n*size) us) {s with aC:=s.aC.set t (some (n+m))} (w.setRow b (vs.toList.take (n*size)++us++vs.toList.drop (n*size+us.length)).toArray)∧
 Ext M s w (M.fix b (n*size) us) {s with aC:=s.aC.set t (some (n+m))} (w.setRow b (vs.toList.take (n*size)++us++vs.toList.drop (n*size+us.length)).toArray):=by
 have MD:t<s.aC.length:=(List.getElem?_eq_some_iff.1 Bx).1
 have vW:s.live t:=⟨n,Bx⟩
 have JU : ∀ off,n*size≤off→M.G b off=none:=by
  rcases r.tok t n Bx with ⟨h3,_⟩ | ⟨b',FP,wV,fD,T',h3,h4,h5,h6,h7⟩
  ·rw [jT]at h3;cases h3
  ·rw [jT]at h3;cases h3;rw [← hz];exact h7.1
 have kB:n*size+us.length≤vs.size:=by rw [Av,ew, ← Nat.add_mul];exact Nat.mul_le_mul_right _ eU
 have gM : ∀ q,St.live {s with aC:=s.aC.set t (some (n+m))} q→s.live q:=by
  rintro q ⟨k,hk⟩
  rw [List.getElem?_set]at hk
  split at hk
  ·rename_i h;subst h;exact vW
  ·exact⟨k,hk⟩
 generalize dV:(vs.toList.take (n*size)++us++vs.toList.drop (n*size+us.length)).toArray=uu
 have P4:uu.size=vs.size:=by rw [← dV];simp;omega
 have hY : ∀ i,uu[i]? = if i<n*size then vs[i]? else if i<n*size+us.length then us[i - n*size]? else vs[i]? :=by
  intro i
  rw [← dV]
  simp only [List.getElem?_toArray]
  have hl:(vs.toList.take (n*size)).length=n*size:=by simp;omega
  split
  ·rename_i h3
   rw [List.append_assoc,List.getElem?_append_left (by omega),List.getElem?_take_of_lt h3];simp
  ·rename_i h3
   rw [List.append_assoc,List.getElem?_append_right (by omega),hl]
   split
   ·rename_i h4
    rw [List.getElem?_append_left (by omega)]
   ·rename_i h4
    rw [List.getElem?_append_right (by omega),List.getElem?_drop]
    rw [show n*size+us.length+(i - n*size - us.length)=i by omega];simp
 have ep:(w.setRow b uu).heap[b]? = some (.cells uu T (0,0)):=setRow_heap w b vs uu T (0,0) hh
 have k6 : ∀ q,q≠b→(w.setRow b uu).heap[q]? = w.heap[q]? :=fun q hq=>setRow_other w b q _ hq
 have le:Le M s (M.fix b (n*size) us) {s with aC:=s.aC.set t (some (n+m))}:=by
  refine⟨fun b' o v h=> ?_,Nat.le_refl _,fun _ _=>rfl,by simp,fun q k h e=> ?_⟩
  ·show(if b'=b∧n*size≤o∧o<n*size+us.length then us[o - n*size]? else M.G b' o)=some v
   rw [if_neg]
   ·exact h
   ·rintro⟨rfl,h3,_⟩;rw [JU o h3]at h;cases h
  ·rw [List.getElem?_set]at e
   split at e
   ·rename_i h2;subst h2
    simp at e;subst e
    exact⟨n,Bx,by omega,fun h=>by omega⟩
   ·exact⟨k,e,Nat.le_refl _,fun _=>rfl⟩
 have rm : ∀ b' o,b'≠b→(M.fix b (n*size) us).G b' o=M.G b' o:=fun b' o h=>by simp [Map.fix,h]
 refine⟨⟨fun b' o v e=> ?_,fun o ds e=> ?_,fun o ho off=> ?_,r.inj,fun q k e=> ?_,fun q b' c z o hl e ml=>r.fm q b' c z o (gM q hl) e ml,
  fun q q' b' c z c' z' h h' e e'=>r.fS q q' b' c z c' z' (gM q h) (gM q' h') e e'⟩, ?_⟩
 ·by_cases hb:b'=b
  ·subst hb
   rw [kj ep,hY]
   have e':(if b'=b'∧n*size≤o∧o<n*size+us.length then us[o - n*size]? else M.G b' o)=some v:=e
   by_cases h3:n*size≤o
   ·by_cases h4:o<n*size+us.length
    ·rw [if_pos ⟨rfl,h3,h4⟩]at e'
     rw [if_neg (by omega),if_pos h4]
     exact⟨e',h1 v (List.mem_of_getElem? e')⟩
    ·rw [if_neg (fun h=>h4 h.2.2),JU o h3]at e';cases e'
   ·rw [if_neg (fun h=>h3 h.2.1)]at e'
    obtain⟨h5,h6⟩:=r.comm b' o v e'
    rw [kj hh]at h5
    rw [if_pos (by omega)]
    exact⟨h5,h6⟩
  ·rw [rm b' o hb]at e
   obtain⟨h5,h6⟩:=r.comm b' o v e
   refine⟨?_,h6⟩
   rw [← h5]
   simp [World.cell?,k6 b' hb]
 ·obtain⟨fD,T',h3,h4,h5,h6⟩:=r.obj o ds e
  have ho:o<s.aA.length:=(List.getElem?_eq_some_iff.1 e).1
  refine⟨fD,T', ?_,h4,h5,fun i d v e1 e2=>(h6 i d v e1 e2).mono le⟩
  show lJ (w.setRow b uu).heap[M.mu o]? (M.ob o) _ _
  rw [k6 _ (r.fm t b cap z o vW jT ho)];exact h3
 ·show(M.fix b (n*size) us).G (M.mu o) off=none
  rw [rm _ _ (r.fm t b cap z o vW jT ho)];exact r.kz o ho off
 ·rw [List.getElem?_set]at e
  split at e
  ·rename_i h2;subst h2
   simp at e;subst e
   refine .inr ⟨b,cap,z,uu,T,jT,ep,by rw [P4,ew,hz],eU,fun off ho=> ?_,hy⟩
   rw [hz]at ho
   show(if b=b∧n*size≤off∧off<n*size+us.length then us[off - n*size]? else M.G b off)=none
   rw [Nat.add_mul]at ho
   rw [if_neg (by rintro⟨_,_,h⟩;omega)]
   exact JU off (by omega)
  ·rename_i h2
   rcases r.tok q k e with h3 | ⟨b',FP,wV,fD,T',h3,h4,h5,h6,h7⟩
   ·exact .inl h3
   ·have fp:b'≠b:=fun h=>h2 (r.fS t q b cap z FP wV vW ⟨k,e⟩ jT (by rw [h3,h]))
    exact .inr ⟨b',FP,wV,fD,T',h3,by rw [k6 b' fp];exact h4,h5,h6,fun off ho=>by rw [rm b' off fp];exact h7.1 off ho,h7.2⟩
 ·refine⟨le,fun q _ _ h4=>k6 q (fun h=>h4 t cap z vW (by rw [jT,h])),fun o h3 h4=>by simp at h4;omega,fun q b' c z h e=> .inl ⟨gM q h,c,z,e⟩,fun b' o h=> ?_,by simp,rfl,rfl,rfl⟩
  by_cases hb:b'=b
  ·exact .inr ⟨t,cap,z,vW,by rw [jT,hb]⟩
  ·exact(h (rm b' o hb)).elim
theorem Rel.freeze (r:Rel M s w) {b:Nat} (off n:Nat) (ho : ∀ o,o<s.aA.length→M.mu o≠b) (ht : ∀ t c z,s.live t→M.be t≠some (b,c,z)) :
 Rel M s (w.freeze ⟨b,off,none⟩ n)∧(∀ q,q≠b→(w.freeze ⟨b,off,none⟩ n).heap[q]? = w.heap[q]?)∧(w.freeze ⟨b,off,none⟩ n).heap.size=w.heap.size∧
 (w.freeze ⟨b,off,none⟩ n).os=w.os∧(w.freeze ⟨b,off,none⟩ n).tape=w.tape∧(w.freeze ⟨b,off,none⟩ n).output=w.output:=by
 by_cases hn:n=0
 ·simp [World.freeze,hn,r]
 ·have hh : ∀ q,q≠b→(w.freeze ⟨b,off,none⟩ n).heap[q]? = w.heap[q]? :=fun q hq=>by
   simp [World.freeze,hn,Array.getElem?_modify,Ne.symm hq]
  have uv : ∀ q o,(w.freeze ⟨b,off,none⟩ n).cell? ⟨q,o,none⟩=w.cell? ⟨q,o,none⟩:=by
   intro q o
   by_cases hq:q=b
   ·subst hq
    unfold World.cell?
    simp only [World.freeze,hn,if_false,Array.getElem?_modify,if_true]
    cases h:w.heap[q]? with
    | none=>rfl
    | some x=>cases x <;> rfl
   ·simp [World.cell?,hh q hq]
  refine⟨⟨fun q o v e=> ?_,fun o ds e=> ?_,r.kz,r.inj,fun t k e=> ?_,r.fm,r.fS⟩,hh,by simp [World.freeze,hn],by simp [World.freeze,hn],by simp [World.freeze,hn],by simp [World.freeze,hn]⟩
  ·rw [uv];exact r.comm q o v e
  ·rw [hh _ (ho o (List.getElem?_eq_some_iff.1 e).1)];exact r.obj o ds e
  ·rcases r.tok t k e with h3 | ⟨b',cap,size,vs,T,h3,h4,h5⟩
   ·exact .inl h3
   ·refine .inr ⟨b',cap,size,vs,T,h3, ?_,h5⟩
    rw [hh]
    ·exact h4
    ·rintro rfl;exact ht t cap size ⟨k,e⟩ h3
theorem Rel.abl (r:Rel M s w) (t:Nat):Rel M {s with aC:=s.aC.set t none} w∧Le M s M {s with aC:=s.aC.set t none}:=by
 have gM : ∀ q,St.live {s with aC:=s.aC.set t none} q→s.live q:=by
  rintro q ⟨k,hk⟩
  rw [List.getElem?_set]at hk
  split at hk
  ·split at hk <;> simp at hk
  ·exact⟨k,hk⟩
 have rQ : ∀ (q k:Nat),(s.aC.set t none)[q]? = some (some k)→s.aC[q]? = some (some k):=by
  intro q k e
  rw [List.getElem?_set]at e
  split at e
  ·split at e <;> simp at e
  ·exact e
 have le:Le M s M {s with aC:=s.aC.set t none}:=
  ⟨fun _ _ _ h=>h,Nat.le_refl _,fun _ _=>rfl,by simp,fun q k _ e=>⟨k,rQ q k e,Nat.le_refl _,fun _=>rfl⟩⟩
 refine⟨⟨r.comm,fun o ds e=> ?_,r.kz,r.inj,fun q k e=>r.tok q k (rQ q k e),fun q b' c z o hl e ml=>r.fm q b' c z o (gM q hl) e ml,
  fun q q' b' c z c' z' h h' e e'=>r.fS q q' b' c z c' z' (gM q h) (gM q' h') e e'⟩,le⟩
 obtain⟨fD,T',h3,h4,h5,h6⟩:=r.obj o ds e
 exact⟨fD,T',h3,h4,h5,fun i d v e1 e2=>(h6 i d v e1 e2).mono le⟩
end
end Go.Abs

/-! Sound -/

namespace Go.Abs
section
variable {M:Map} {s:St} {w:World}
theorem RD.jf {k:IntKind} {n:Int} {v:Value} (h:RD M s (.int k n) v):v = .int k n:=by cases h;rfl
theorem RD.my {b:Bool} {v:Value} (h:RD M s (.bool b) v):v = .bool b:=by cases h;rfl
theorem RD.ku {l:List UInt8} {v:Value} (h:RD M s (.str l) v):v = .string ⟨⟨l⟩⟩:=by cases h;rfl
theorem RD.qF {v:Value} (h:RD M s .e9 v):v = .pointer none:=by cases h;rfl
theorem RD.qG {o off:Nat} {v:Value} (h:RD M s (.ptr o off) v):v = .pointer (some ⟨M.mu o,off,none⟩)∧o<s.aA.length:=by
 cases h with | ptr _ _ h hm=>exact⟨rfl,h⟩
theorem RD.yp {o off:Nat} {v:Value} (h:RD M s (.ptr o off) v):M.ob o≠ .map:=by cases h with | ptr _ _ h hm=>exact hm
theorem RD.FQ {o:Nat} {v:Value} (h:RD M s (.gk o) v):v = .map (some (M.mu o))∧o<s.aA.length∧M.ob o = .map:=by cases h with | gk _ h hm=>exact⟨rfl,h,hm⟩
theorem RD.I7 {f:Nat} {ds:List D} {v:Value} (h:RD M s (.gn f ds) v) : ∃ vs:Array Value,v = .func (.func f) #[] vs∧ds.length=vs.size∧
 ∀ (i:Nat) (d:D) (v:Value),ds[i]? = some d→vs[i]? = some v→RD M s d v:=by
 cases h with | gn _ _ vs h1 h2=>exact⟨vs,rfl,h1,h2⟩
theorem RD.wW {row:List D} {off:Nat} {v:Value} (h:RD M s (.dI row off) v) : ∃ b k,v = .pointer (some ⟨b,k+off,none⟩)∧
 (∀ (i:Nat) (d:D),row[i]? = some d→∃ u,M.G b (k+i)=some u)∧(∀ (i:Nat) (d:D) (u:Value),row[i]? = some d→M.G b (k+i)=some u→RD M s d u):=by
 cases h with | dI _ _ b k h1 h2=>exact⟨b,k,rfl,h1,h2⟩
theorem RD.CQ {ds:List D} {v:Value} (h:RD M s (.agg ds) v) : ∃ vs:Array Value,v = .agg vs∧ds.length=vs.size∧(∀ v∈vs,v.oneCell'=true)∧
 ∀ (i:Nat) (d:D) (v:Value),ds[i]? = some d→vs[i]? = some v→RD M s d v:=by
 cases h with | agg _ vs h1 h2 h3=>exact⟨vs,rfl,h1,h2,h3⟩
theorem RD.DL {ds:List D} {v:Value} (h:RD M s (.tuple ds) v) : ∃ vs:Array Value,v = .tuple vs∧ds.length=vs.size∧
 ∀ (i:Nat) (d:D) (v:Value),ds[i]? = some d→vs[i]? = some v→RD M s d v:=by
 cases h with | tuple _ vs h1 h2=>exact⟨vs,rfl,h1,h2⟩
theorem RD.undef:RD M s (.tuple []) Go.undef:= .tuple [] #[] rfl (fun i d v h=>by simp at h)
theorem RD.il {g:Tag} {z:Nat} {rows:List (List D)} {v:Value} (h:RD M s (.slice g z rows) v) :
 (rows = []∧v = .slice none 0 0∧gW M s g z 0 none 0)∨(rows = []∧g = .shared∧∃ a cap,v = .slice (some a) 0 cap)∨
 ∃ b k cap,v = .slice (some ⟨b,k,none⟩) rows.length cap∧rows.length≤cap∧(∀ row∈rows,row.length=z)∧
  (∀ (i:Nat) (row:List D) (j:Nat) (d:D),rows[i]? = some row→row[j]? = some d→∃ u,M.G b (k+(i*z+j))=some u)∧
  (∀ (i:Nat) (row:List D) (j:Nat) (d:D) (u:Value),rows[i]? = some row→row[j]? = some d→M.G b (k+(i*z+j))=some u→RD M s d u)∧
  gW M s g z rows.length (some (b,k)) cap:=by
 cases h with
 | jc _ _ cap hc ht=>subst hc;exact .inl ⟨rfl,rfl,ht⟩
 | mq _ a cap=>exact .inr (.inl ⟨rfl,rfl,a,cap,rfl⟩)
 | slice _ _ _ b k cap hl hs h1 h2 ht=>exact .inr (.inr ⟨b,k,cap,rfl,hl,hs,h1,h2,ht⟩)
theorem RD.row {d:D} {v:Value} (h:RD M s d v) {r:List D} (hr:d.row=some r):v.cells.size=r.length∧(∀ u∈v.cells,u.oneCell'=true)∧
 ∀ (i:Nat) (d':D) (u:Value),r[i]? = some d'→v.cells[i]? = some u→RD M s d' u:=by
 have one : ∀ (x:Value),x.oneCell'=true→x.cells = #[x]:=by intro x hx;cases x <;> first | rfl | (simp [Value.oneCell']at hx)
 have go : ∀ (x:Value),x.oneCell'=true→RD M s d x→d.row=some [d]→x.cells.size=r.length∧(∀ u∈x.cells,u.oneCell'=true)∧
  ∀ (i:Nat) (d':D) (u:Value),r[i]? = some d'→x.cells[i]? = some u→RD M s d' u:=by
  intro x hx hd h1
  rw [h1]at hr;cases hr
  rw [one x hx]
  refine⟨rfl,by simp [hx],fun i d' u e1 e2=> ?_⟩
  cases i with
  | zero=>simp at e1 e2;subst e1;subst e2;exact hd
  | succ i=>simp at e1
 cases h with
 | junk v=>cases hr
 | int k n=>exact go _ rfl (.int k n) rfl
 | bool b=>exact go _ rfl (.bool b) rfl
 | str l=>exact go _ rfl (.str l) rfl
 | e9=>exact go _ rfl .e9 rfl
 | val v hv=>exact go _ hv (.val v hv) rfl
 | fB T o v h ht hv=>exact go _ (by rcases hv with rfl | rfl <;> rfl) (.fB T o v h ht hv) rfl
 | ptr o off h hm=>exact go _ rfl (.ptr o off h hm) rfl
 | gn f ds vs hl h=>exact go _ rfl (.gn f ds vs hl h) rfl
 | gk o h hm=>exact go _ rfl (.gk o h hm) rfl
 | dI row off b k h1 h2=>exact go _ rfl (.dI row off b k h1 h2) rfl
 | jc g z cap hc ht=>exact go _ rfl (.jc g z cap hc ht) rfl
 | mq z a cap=>exact go _ rfl (.mq z a cap) rfl
 | slice g z rows b k cap hl hs h1 h2 ht=>exact go _ rfl (.slice g z rows b k cap hl hs h1 h2 ht) rfl
 | agg cells vs hl h1 h2=>cases hr;exact⟨hl.symm,h1,h2⟩
 | tuple ds vs hl h1=>cases hr
theorem oX {v:Value} {d:D} (h:qE v=some d):RD M s d v∧v.oneCell'=true:=by
 unfold qE at h
 split at h <;> first | (cases h;done) | skip
 ·cases h;exact⟨.int _ _,rfl⟩
 ·cases h;exact⟨.bool _,rfl⟩
 ·cases h;exact⟨.str _,rfl⟩
 ·cases h;exact⟨.e9,rfl⟩
 ·cases h;exact⟨.jc _ _ 0 rfl rfl,rfl⟩
 ·cases h;exact⟨.val _ rfl,rfl⟩
theorem kv : ∀ {vs:List Value} {ds:List D},mr vs=some ds→ds.length=vs.length∧(∀ v∈vs,v.oneCell'=true)∧
 ∀ (i:Nat) (d:D) (v:Value),ds[i]? = some d→vs[i]? = some v→RD M s d v
 | [],ds,h=>by cases h;exact⟨rfl,by simp,by simp⟩
 | v::r,ds,h=>by
  unfold mr at h
  split at h
  ·rename_i d nn h1 h2
   cases h
   obtain⟨a,b⟩:=oX (M:=M) (s:=s) h1
   obtain⟨i1,i2,i3⟩:=kv h2
   refine⟨by simp [i1],fun u hu=> ?_,fun i d' u e1 e2=> ?_⟩
   ·rcases List.mem_cons.1 hu with rfl | hu
    ·exact b
    ·exact i2 u hu
   ·cases i with
    | zero=>simp at e1 e2;subst e1;subst e2;exact a
    | succ i=>simp at e1 e2;exact i3 i d' u e1 e2
  ·cases h
theorem CR {v:Value} {d:D} (h:A0 v=some d):RD M s d v∧v.oneCell'=true:=by
 unfold A0 at h
 split at h
 ·cases h;exact⟨.val _ rfl,rfl⟩
 ·exact oX h
theorem uw : ∀ {vs:List Value} {ds:List D},uq vs=some ds→ds.length=vs.length∧(∀ v∈vs,v.oneCell'=true)∧
 ∀ (i:Nat) (d:D) (v:Value),ds[i]? = some d→vs[i]? = some v→RD M s d v
 | [],ds,h=>by cases h;exact⟨rfl,by simp,by simp⟩
 | v::r,ds,h=>by
  unfold uq at h
  split at h
  ·rename_i d nn h1 h2
   cases h
   obtain⟨g1,g2⟩:=CR (M:=M) (s:=s) h1
   obtain⟨k1,k2,k3⟩:=uw h2
   refine⟨by simp [k1],fun u hu=> ?_,fun i d' u e1 e2=> ?_⟩
   ·rcases List.mem_cons.1 hu with rfl | hu
    ·exact g2
    ·exact k2 u hu
   ·cases i with
    | zero=>simp at e1 e2;subst e1;subst e2;exact g1
    | succ i=>exact k3 i d' u (by simpa using e1) (by simpa using e2)
  ·cases h
theorem Aw {b:Bool} {vs:List Value} {ds:List D} (h:JT b vs=some ds):ds.length=vs.length∧(∀ v∈vs,v.oneCell'=true)∧
 ∀ (i:Nat) (d:D) (v:Value),ds[i]? = some d→vs[i]? = some v→RD M s d v:=by
 unfold JT at h
 split at h
 ·exact uw h
 ·exact kv h
theorem JV {v:Value} {d:D} (h:JR v=some d):RD M s d v:=by
 unfold JR at h
 split at h
 ·rename_i cs
  cases hc:mr cs.toList with
  | none=>rw [hc]at h;cases h
  | some ds=>
   rw [hc]at h;cases h
   obtain⟨h1,h2,h3⟩:=kv (M:=M) (s:=s) hc
   exact .agg ds cs (by simpa using h1) (fun v hv=>h2 v (by simpa using hv)) (fun i d v e1 e2=>h3 i d v e1 (by simpa using e2))
 ·cases h;exact .undef
 ·exact(oX h).1
def k7 (M:Map) (s:St) (tm:Tm) (tmps:Array Value):Prop:=∀ t,RD M s (tm.get t) (tmps.getD t Go.undef)
theorem k7.mono {M':Map} {s':St} {tm:Tm} {tmps:Array Value} (h:k7 M s tm tmps) (le:Le M s M' s'):k7 M' s' tm tmps:=fun t=>(h t).mono le
theorem cj {x:Operand} {y:X} (h:cX x=some y) {tm:Tm} {act:Act} (hr:k7 M s tm act.tmps):RD M s (y.ev tm) (act.eval x):=by
 unfold cX at h
 split at h
 ·cases h;exact hr _
 ·rename_i v
  cases hv:JR v with
  | none=>rw [hv]at h;cases h
  | some d=>rw [hv]at h;cases h;exact JV hv
 ·cases h;exact .gn _ [] #[] rfl (by simp)
 ·cases h
theorem Tm.zQ (tm:Tm) (t:Nat) (d:D) (u:Nat):(tm.set t d).get u=if u=t then d else tm.get u:=by
 induction tm with
 | nil=>
  simp only [Tm.set,Tm.get]
  by_cases h:t=u
  ·simp [h]
  ·rw [if_neg h,if_neg (fun e=>h e.symm)]
 | cons p r ih=>
  obtain⟨k,e⟩:=p
  simp only [Tm.set]
  split
  ·rename_i h
   subst h
   simp only [Tm.get]
   by_cases h:k=u
   ·simp [h]
   ·rw [if_neg h,if_neg (fun e=>h e.symm),if_neg h]
  ·rename_i h
   simp only [Tm.get,ih]
   by_cases h1:k=u
   ·subst h1;simp [h]
   ·simp [h1]
theorem k7.put {tm:Tm} {act:Act} (h:k7 M s tm act.tmps) {dst:Option Nat} (hd : ∀ t,dst=some t→t<act.tmps.size) {d:D} {v:Value} (hv:RD M s d v) :
 k7 M s (tm.put dst d) (act.put dst v).tmps:=by
 intro u
 cases dst with
 | none=>exact h u
 | some t=>
  simp only [Tm.put,Act.put,Tm.zQ]
  have ht:=hd t rfl
  by_cases hu:u=t
  ·subst hu
   simp [ht];exact hv
  ·rw [if_neg hu]
   have:=h u
   simpa [Array.getElem?_setIfInBounds_ne (fun e=>hu e.symm)]using this
theorem gH (P:Program) {t:TypeId} {i:TypeInfo} (h:P.info? t=some i) (w:World):(typeInfo t).run P w = .ok i w:=by
 simp [typeInfo,h]
theorem qH (b o n:Nat):Addr.add ⟨b,o,none⟩ n = ⟨b,o+n,none⟩:=Addr.add_lit b o n
theorem A2 (P:Program) {t:TypeId} {i:TypeInfo} {agg:Bool} (hi:P.info? t=some i) (ha:rl P t=some agg) (b k:Nat) (us:List Value)
 (hl:us.length=if agg then i.size else 1) (h : ∀ (j:Nat) (u:Value),us[j]? = some u→w.cell? ⟨b,k+j,none⟩=some u) :
 (loadVar t ⟨b,k,none⟩).run P w = .ok (if agg then .agg us.toArray else us.getD 0 Go.undef) w:=by
 have yq:(isAgg t).run P w = .ok agg w:=by
  unfold rl at ha
  unfold isAgg
  cases hu:P.underlying t with
  | none=>rw [hu]at ha;cases ha
  | some d=>
   rw [hu]at ha
   simp only [Sem.run_bind,run_underlying hu,Result.andThen_ok]
   cases d <;> simp_all
 cases agg with
 | true=>
  simp only [if_true]at hl ⊢
  have hc:=run_loadCells_list (P:=P) w ⟨b,k,none⟩ us (fun j v e=>by rw [qH];exact h j v e)
  simp [loadVar,yq,sizeOf,gH P hi, ← hl,hc]
 | false=>
  simp only [Bool.false_eq_true,if_false]at hl ⊢
  match us,hl with
  | [u],_=>
   have:=h 0 u rfl
   simp only [Nat.add_zero]at this
   simp [loadVar,yq,this]
theorem rn {cs:List D} {off:Nat} {agg:Bool} {size:Nat} {d:D} (h:part cs off agg size=some d) :
 (agg=true∧off+size≤cs.length∧d = .agg ((cs.drop off).take size))∨(agg=false∧cs[off]? = some d):=by
 unfold part at h
 split at h
 ·split at h
  ·cases h;exact .inl ⟨rfl, ‹_›,rfl⟩
  ·cases h
 ·exact .inr ⟨rfl,h⟩
theorem sD {cs:List D} {off size:Nat} {agg:Bool} {d:D} (h:part cs off agg size=some d) (us:List Value) (hl:us.length=if agg then size else 1)
 (mw:agg=true→∀ u∈us,u.oneCell'=true)
 (hr : ∀ (j:Nat) (d:D) (u:Value),cs[off+j]? = some d→us[j]? = some u→RD M s d u):RD M s d (if agg then .agg us.toArray else us.getD 0 Go.undef):=by
 rcases rn h with ⟨rfl,h1,rfl⟩ | ⟨rfl,h1⟩
 ·simp only [if_true]at hl ⊢
  refine .agg _ _ (by simp [hl];omega) (fun v hv=>mw rfl v (by simpa using hv)) (fun i d v e1 e2=> ?_)
  rw [List.getElem?_take]at e1
  split at e1
  ·rw [List.getElem?_drop]at e1
   exact hr i d v e1 (by simpa using e2)
  ·cases e1
 ·simp only [Bool.false_eq_true,if_false]at hl ⊢
  match us,hl with
  | [u],_=>exact hr 0 d u (by simpa using h1) rfl
end
end Go.Abs

/-! Sound2 -/

namespace Go.Abs
def dw (P:Program) (M:Map) (s:St) (w:World) (x:Sem Next) (d:D) (s':St):Prop:=
 ∃ v w' M',(x.run P w = .ok (.value v) w'∨(x.run P w = .ok .skip w'∧v=Go.undef))∧Rel M' s' w'∧RD M' s' d v∧Ext M s w M' s' w'
section
variable {P:Program} {M:Map} {s:St} {w:World}
theorem dw.pure {x:Sem Next} {d:D} {v:Value} (r:Rel M s w) (h:x.run P w = .ok (.value v) w) (hd:RD M s d v):dw P M s w x d s:=
 ⟨v,w,M, .inl h,r,hd,Ext.refl M s w⟩
theorem JW (r:Rel M s w) {t:TypeId} {z:List D} (hz:zeroOf P t=some z) :
 dw P M s w (do pure (.value (← Instr.alloc t true (.tuple #[])))) (.ptr s.aA.length 0) {s with aA:=s.aA++ [z]}:=by
 unfold zeroOf at hz
 split at hz
 ·rename_i i hi
  split at hz
  ·rename_i v hv
   split at hz
   ·rename_i ew
    obtain⟨h1,h2,h3⟩:=kv (M:=M) (s:=s) hz
    obtain⟨r',e'⟩:=r.dQ z v.cells t (by rw [h1];simp) (fun u hu=>h2 u (by simpa using hu)) (fun i d u e1 e2=>h3 i d u e1 (by simpa using e2))
    refine⟨_,_,_, .inl ?_,r', .ptr _ _ (by simp) (by simp [Map.dQ,Map.ob]),e'⟩
    simp [Instr.alloc,zeroValue,gH P hi,hv,newVar,newRow,Map.dQ,Map.mu]
   ·cases hz
  ·cases hz
 ·cases hz
theorem Ih (r:Rel M s w) {t:TypeId} {z:List D} (hz:wU P t=some (.e9::z)) :
 dw P M s w (do pure (.value (← Instr.alloc t true (.tuple #[])))) (.ptr s.aA.length 0) {s with aA:=s.aA++ [.fB t s.aA.length::z]}:=by
 unfold wU at hz
 split at hz
 ·rename_i i hi
  split at hz
  ·rename_i v hv
   split at hz
   ·rename_i ew
    obtain⟨h1,h2,h3⟩:=Aw (M:=M) (s:=s) hz
    obtain⟨r',e'⟩:=r.FO (.fB t s.aA.length::z) v.cells t (.ty t) (by simp) (fun _ h=>by cases h;rfl) (by simp at h1 ⊢;omega) (fun u hu=>h2 u (by simpa using hu)) (fun i d u e1 e2=>by
     cases i with
     | zero=>
      simp at e1;subst e1
      have:=(h3 0 .e9 u rfl (by simpa using e2)).qF
      exact .fB t _ u (by simp) (by simp [Map.dQ,Map.ty,Ob.ty?]) (.inl this)
     | succ i=>exact(h3 (i+1) d u (by simpa using e1) (by simpa using e2)).mono (s9 s w.heap.size _ _))
    refine⟨_,_,_, .inl ?_,r', .ptr _ _ (by simp) (by simp [Map.dQ,Map.ob]),e'⟩
    simp [Instr.alloc,zeroValue,gH P hi,hv,newVar,newRow,Map.dQ,Map.mu]
   ·cases hz
  ·cases hz
 ·cases hz
theorem P5 (r:Rel M s w) {t:TypeId} {d:D} {v:Value} {row:List D} (hd:RD M s d v) (hr:d.row=some row) :
 dw P M s w (do pure (.value (← Instr.box t v))) (.ptr s.aA.length 0) {s with aA:=s.aA++ [row]}:=by
 obtain⟨h1,h2,h3⟩:=hd.row hr
 obtain⟨r',e'⟩:=r.dQ row v.cells t h1 h2 h3
 refine⟨_,_,_, .inl ?_,r', .ptr _ _ (by simp) (by simp [Map.dQ,Map.ob]),e'⟩
 simp [Instr.box,newVar,newRow,Map.dQ,Map.mu]
theorem ME (r:Rel M s w) {t:TypeId} {d:D} {v:Value} {row:List D} (hd:RD M s d v) (hr:d.row=some (.e9::row)) :
 dw P M s w (do pure (.value (← Instr.box t v))) (.ptr s.aA.length 0) {s with aA:=s.aA++ [.fB t s.aA.length::row]}:=by
 obtain⟨h1,h2,h3⟩:=hd.row hr
 obtain⟨r',e'⟩:=r.FO (.fB t s.aA.length::row) v.cells t (.ty t) (by simp) (fun _ h=>by cases h;rfl) (by simp at h1 ⊢;omega) h2 (fun i d u e1 e2=>by
  cases i with
  | zero=>
   simp at e1;subst e1
   have:=(h3 0 .e9 u rfl e2).qF
   exact .fB t _ u (by simp) (by simp [Map.dQ,Map.ty,Ob.ty?]) (.inl this)
  | succ i=>exact(h3 (i+1) d u (by simpa using e1) e2).mono (s9 s w.heap.size _ _))
 refine⟨_,_,_, .inl ?_,r', .ptr _ _ (by simp) (by simp [Map.dQ,Map.ob]),e'⟩
 simp [Instr.box,newVar,newRow,Map.dQ,Map.mu]
theorem ET (r:Rel M s w) {t:TypeId} {i:TypeInfo} {agg:Bool} (hi:P.info? t=some i) (ha:rl P t=some agg) {o off:Nat} {cs:List D} {d:D}
 (ho:s.aA[o]? = some cs) (hk:M.ob o≠ .map) (hp:part cs off agg i.size=some d) :
 dw P M s w (do pure (.value (← Instr.loadAt t (.pointer (some ⟨M.mu o,off,none⟩))))) d s:=by
 obtain⟨vs,T,hh,ew,⟨mw,_⟩,oJ⟩:=r.obj o cs ho
 replace hh:=hh.cells hk
 let n:=if agg then i.size else 1
 have kB:off+n≤vs.size:=by
  rcases rn hp with ⟨rfl,h1,_⟩ | ⟨rfl,h1⟩
  ·simp [n];omega
  ·have:=(List.getElem?_eq_some_iff.1 h1).1;simp [n];omega
 have hlen:((vs.toList.drop off).take n).length=n:=by simp;omega
 have hY : ∀ (j:Nat) (u:Value),((vs.toList.drop off).take n)[j]? = some u→vs[off+j]? = some u:=by
  intro j u h
  rw [List.getElem?_take]at h
  split at h
  ·rw [List.getElem?_drop]at h;simpa using h
  ·cases h
 have dF:=A2 (w:=w) P hi ha (M.mu o) off ((vs.toList.drop off).take n) hlen (fun j u h=>by rw [kj hh];exact hY j u h)
 refine dw.pure (v:=if agg then .agg ((vs.toList.drop off).take n).toArray else((vs.toList.drop off).take n).getD 0 Go.undef) r (by simp [Instr.loadAt,Instr.sureAddr,dF]) ?_
 refine sD hp _ hlen (fun _ u hu=>mw u ?_) (fun j d u e1 e2=>oJ _ d u e1 (hY j u e2))
 exact Array.mem_toList_iff.1 (List.mem_of_mem_drop (List.mem_of_mem_take hu))
theorem wX {b:Nat} : ∀ (n k:Nat),(∀ j,j<n→∃ u,M.G b (k+j)=some u)→∃ us:List Value,us.length=n∧∀ (j:Nat) (u:Value),us[j]? = some u→M.G b (k+j)=some u
 | 0,_,_=>⟨[],rfl,fun j u h=>by simp at h⟩
 | n+1,k,h=>by
  obtain⟨u0,h0⟩:=h 0 (by omega)
  obtain⟨us,h1,h2⟩:=wX n (k+1) (fun j hj=>by obtain⟨u,hu⟩:=h (j+1) (by omega);exact⟨u,by rw [show k+1+j=k+(j+1) by omega];exact hu⟩)
  refine⟨u0::us,by simp [h1],fun j u hj=> ?_⟩
  cases j with
  | zero=>simp at hj;subst hj;exact h0
  | succ j=>simp at hj;have:=h2 j u hj;rw [show k+(j+1)=k+1+j by omega];exact this
theorem EU (r:Rel M s w) {t:TypeId} {i:TypeInfo} {agg:Bool} (hi:P.info? t=some i) (ha:rl P t=some agg) {row:List D} {off b k:Nat} {d:D}
 (h1 : ∀ (i:Nat) (d:D),row[i]? = some d→∃ u,M.G b (k+i)=some u) (h2 : ∀ (i:Nat) (d:D) (u:Value),row[i]? = some d→M.G b (k+i)=some u→RD M s d u)
 (hp:part row off agg i.size=some d) :
 dw P M s w (do pure (.value (← Instr.loadAt t (.pointer (some ⟨b,k+off,none⟩))))) d s:=by
 let n:=if agg then i.size else 1
 have kB:off+n≤row.length:=by
  rcases rn hp with ⟨rfl,h1,_⟩ | ⟨rfl,h1⟩
  ·simp [n];omega
  ·have:=(List.getElem?_eq_some_iff.1 h1).1;simp [n];omega
 obtain⟨us,hl,Av⟩:=wX (M:=M) (b:=b) n (k+off) (fun j hj=>by
  obtain⟨d,hd⟩ : ∃ d,row[off+j]? = some d:=⟨_,List.getElem?_eq_getElem (by omega)⟩
  obtain⟨u,hu⟩:=h1 _ d hd
  exact⟨u,by rw [show k+off+j=k+(off+j) by omega];exact hu⟩)
 have dF:=A2 (w:=w) P hi ha b (k+off) us hl (fun j u h=>(r.comm _ _ _ (Av j u h)).1)
 refine dw.pure (v:=if agg then .agg us.toArray else us.getD 0 Go.undef) r (by simp [Instr.loadAt,Instr.sureAddr,dF]) ?_
 refine sD hp us hl (fun _ u hu=> ?_) (fun j d u e1 e2=>h2 _ d u e1 (by rw [show k+(off+j)=k+off+j by omega];exact Av j u e2))
 obtain⟨j,hj⟩:=List.mem_iff_getElem?.1 hu
 exact(r.comm _ _ _ (Av j u hj)).2
theorem JX (r:Rel M s w) {t:TypeId} {i:TypeInfo} (hi:P.info? t=some i) {o off:Nat} {cs row:List D} {d:D} {v:Value} (ho:s.aA[o]? = some cs) (hk:M.ob o≠ .map)
 (hd:RD M s d v) (hr:d.row=some row) (hl:row.length=i.size) (kB:off+i.size≤cs.length) :
 dw P M s w (do Instr.storeAt t (.pointer (some ⟨M.mu o,off,none⟩)) v;pure .skip) (.tuple []) {s with aA:=s.aA.set o (iY cs off row)}:=by
 obtain⟨h1,h2,h3⟩:=hd.row hr
 obtain⟨w',dF,r',e'⟩:=r.aey P ho hk row v.cells.toList (by simpa using h1) (by rw [hl];exact kB) (fun u hu=>h2 u (by simpa using hu)) (fun i d u e1 e2=>h3 i d u e1 (by simpa using e2))
 refine⟨Go.undef,w',M, .inr ⟨?_,rfl⟩,r', .undef,e'⟩
 have ew:v.cells.size=i.size:=by omega
 simp [Instr.storeAt,Instr.sureAddr,storeVar,sizeOf,gH P hi,ew,dF]
theorem By (r:Rel M s w) {d:D} {a:Addr} (hd:RD M s d (.pointer (some a))) :
 dw P M s w (pure (.value (.pointer (some a)))) d s:=dw.pure r rfl hd
theorem DM {t:TypeId} {f off size:Nat} {agg:Bool} (h:lq P t f=some (off,size,agg)) (b k:Nat) :
 (Instr.fieldAt t (.pointer (some ⟨b,k,none⟩)) f).run P w = .ok (.pointer (some ⟨b,k+off,none⟩)) w:=by
 unfold lq at h
 split at h
 ·rename_i fs hu
  split at h
  ·rename_i fd hf
   split at h
   ·rename_i i a hi ha
    split at h
    ·cases h
    ·rename_i fp
     cases h
     simp [Instr.fieldAt,run_underlying hu,hf,Instr.sureAddr,fieldPlace,sizeOf,gH P hi,fp,qH]
   ·cases h
  ·cases h
 ·cases h
theorem MF {t:TypeId} {f off size:Nat} {agg:Bool} (h:lq P t f=some (off,size,agg)) (vs:Array Value) (us:List Value) (hl:us.length=if agg then size else 1)
 (hg : ∀ j,j<us.length→vs[off+j]? = us[j]?) :
 (Instr.field t (.agg vs) f).run P w = .ok (if agg then .agg us.toArray else us.getD 0 Go.undef) w:=by
 unfold lq at h
 split at h
 ·rename_i fs hu
  split at h
  ·rename_i fd hf
   split at h
   ·rename_i i a hi ha
    split at h
    ·cases h
    ·rename_i fp
     cases h
     have yq:(isAgg fd.type).run P w = .ok agg w:=by
      unfold rl at ha
      unfold isAgg
      cases hu:P.underlying fd.type with
      | none=>rw [hu]at ha;cases ha
      | some d=>
       rw [hu]at ha
       simp only [Sem.run_bind,run_underlying hu,Result.andThen_ok]
       cases d <;> simp_all
     cases agg with
     | true=>
      simp only [if_true]at hl ⊢
      have:vs.extract fd.offset (fd.offset+i.size)=us.toArray:=by
       apply Array.ext_getElem?
       intro j
       rw [Array.getElem?_extract]
       by_cases hj:j<us.length
       ·rw [← hl,if_pos (by
         have h1:=hg j hj
         rw [List.getElem?_eq_getElem hj]at h1
         have:=(Array.getElem?_eq_some_iff.1 h1).1
         have h2:=hg (us.length - 1) (by omega)
         rw [List.getElem?_eq_getElem (by omega)]at h2
         have:=(Array.getElem?_eq_some_iff.1 h2).1
         omega),hg j hj]
        simp
       ·have hn:us.toArray[j]? = none:=by simp;omega
        rw [hn,if_neg (by omega)]
      simp [Instr.field,run_underlying hu,hf,asAgg,Go.part,yq,sizeOf,gH P hi,this]
     | false=>
      simp only [Bool.false_eq_true,if_false]at hl ⊢
      match us,hl with
      | [u],_=>
       have:=hg 0 (by simp)
       simp at this
       simp [Instr.field,run_underlying hu,hf,asAgg,Go.part,yq,this]
   ·cases h
  ·cases h
 ·cases h
end
end Go.Abs

/-! Sound3 -/

namespace Go.Abs
section
variable {P:Program} {M:Map} {s:St} {w:World}
theorem JY {op : BinOp} {t : TypeId} {k : IntKind} {a b : Int} {d : D} (h : fJ op k a b = some d) :
   ∃ v, (binOp op t (.int k a) (.int k b)).run P w = .ok v w ∧ RD M s d v := by
 cases op <;> simp only [fJ] at h <;> first
   | (cases h; done)
   | (split at h
      · cases h
      · cases h
        exact ⟨_, by simp [binOp, Op.intDiv, *], .int _ _⟩)
   | (cases h; exact ⟨_, by simp [binOp, Op.intArith], .int _ _⟩)
   | (cases h; exact ⟨_, by simp [binOp, Op.intCmp], .bool _⟩)
theorem JZ {op:BinOp} {t:TypeId} {a b:List UInt8} {d:D} (h:mL op a b=some d) :
 ∃ v,(binOp op t (.string ⟨⟨a⟩⟩) (.string ⟨⟨b⟩⟩)).run P w = .ok v w∧RD M s d v:=by
 have sz : ∀ l:List UInt8,(⟨⟨l⟩⟩:ByteArray).size=l.length:=fun _=>rfl
 cases op <;> simp only [mL]at h <;> first
  | (cases h;done)
  | skip
 case add=>
  split at h
  ·rename_i hl
   cases h
   refine⟨.string ⟨⟨a++b⟩⟩, ?_, .str _⟩
   have h1 : ¬ ((((⟨⟨a⟩⟩:ByteArray).size+(⟨⟨b⟩⟩:ByteArray).size:Nat):Int) > IntKind.i64.max):=by
    rw [sz,sz,IntKind.max_i64];simp only [bx]at hl;omega
   simp only [binOp,Op.stringOp,h1,if_false]
   simp only [Sem.run_pure]
   congr 2
  ·cases h
 case eql=>cases h;exact⟨_,by simp [binOp,Op.stringOp], .bool _⟩
 case neq=>cases h;exact⟨_,by simp [binOp,Op.stringOp], .bool _⟩
 case lss=>cases h;exact⟨_,by simp [binOp,Op.stringOp,bytesLess], .bool _⟩
theorem mM {op:BinOp} {t:TypeId} {x y:Operand} {a b:Value} (h:(∀ vs,a≠ .agg vs)∧a≠ .nilIface):(eqGuard op t x y a b).run P w = .ok () w:=by
 obtain⟨h1,h2⟩:=h
 cases a <;> first
  | exact(h2 rfl).elim
  | exact(h1 _ rfl).elim
  | (cases op <;> simp [eqGuard])
theorem P6 (r:Rel M s w) {op:BinOp} {t:TypeId} {x y:Operand} {dx dy d:D} {a b:Value} (ha:RD M s dx a) (hb:RD M s dy b) (h:vi op dx dy=some d) :
 dw P M s w (do pure (.value (← (do eqGuard op t x y a b;binOp op t a b)))) d s:=by
 unfold vi at h
 split at h
 ·rename_i k n k' m
  split at h
  ·rename_i hk;subst hk
   rw [ha.jf,hb.jf]
   obtain⟨v,hv,hd⟩:=JY (P:=P) (M:=M) (s:=s) (w:=w) (t:=t) h
   exact dw.pure r (by simp [mM (P:=P) (w:=w) (op:=op) (t:=t) (x:=x) (y:=y) (a:= .int k n) (b:= .int k m) ⟨by simp,by simp⟩,hv]) hd
  ·cases h
 ·rename_i l m
  rw [ha.ku,hb.ku]
  obtain⟨v,hv,hd⟩:=JZ (P:=P) (M:=M) (s:=s) (w:=w) (t:=t) h
  exact dw.pure r (by simp [mM (P:=P) (w:=w) (op:=op) (t:=t) (x:=x) (y:=y) (a:= .string ⟨⟨l⟩⟩) (b:= .string ⟨⟨m⟩⟩) ⟨by simp,by simp⟩,hv]) hd
 ·cases h
theorem P7 (r:Rel M s w) {neg:Bool} {t:TypeId} {x y:Operand} {p q:Bool} (ht:P.underlying t=some .bool) :
 dw P M s w (do pure (.value (← (do eqGuard (if neg then .neq else .eql) t x y (.bool p) (.bool q);binOp (if neg then .neq else .eql) t (.bool p) (.bool q))))) (.bool (if neg then !(p==q)else p==q)) s:=by
 refine dw.pure (v:= .bool (if neg then !(p==q)else p==q)) r ?_ (.bool _)
 have hg:=mM (P:=P) (w:=w) (op:=if neg then .neq else .eql) (t:=t) (x:=x) (y:=y) (a:= .bool p) (b:= .bool q) ⟨by simp,by simp⟩
 have he:(Op.equal t (.bool p) (.bool q)).run P w = .ok (p==q) w:=by
  exact run_equalIn_bool w 9999 t p q ht
 cases neg
 ·simp only [Bool.false_eq_true,if_false]at hg ⊢
  simp [hg,binOp,he]
 ·simp only [if_true]at hg ⊢
  simp [hg,binOp,he]
theorem Ii (n:Nat) {t e:TypeId} {a:Option Addr} (ht:P.underlying t=some (.pointer e)):(Op.equalIn (n+1) t (.pointer a) (.pointer none)).run P w = .ok a.isNone w:=by
 cases a <;> simp [Op.equalIn,run_underlying ht]
theorem A3 (r:Rel M s w) {neg:Bool} {t e:TypeId} {x y:Operand} {a:Option Addr} (ht:P.underlying t=some (.pointer e)) :
 dw P M s w (do pure (.value (← (do eqGuard (if neg then .neq else .eql) t x y (.pointer a) (.pointer none);binOp (if neg then .neq else .eql) t (.pointer a) (.pointer none))))) (.bool (if neg then !a.isNone else a.isNone)) s:=by
 refine dw.pure (v:= .bool (if neg then !a.isNone else a.isNone)) r ?_ (.bool _)
 have hg:=mM (P:=P) (w:=w) (op:=if neg then .neq else .eql) (t:=t) (x:=x) (y:=y) (a:= .pointer a) (b:= .pointer none) ⟨by simp,by simp⟩
 have he:(Op.equal t (.pointer a) (.pointer none)).run P w = .ok a.isNone w:=by
  exact Ii 9999 ht
 cases neg
 ·simp only [Bool.false_eq_true,if_false]at hg ⊢
  simp [hg,binOp,he]
 ·simp only [if_true]at hg ⊢
  simp [hg,binOp,he]
theorem J1 (n:Nat) {t:TypeId} {k:Nat} (hk:jS P t=some k) {x y:D} {v u:Value} (rv:RD M s x v) (ru:RD M s y u) {b:Bool} (h:lR k x y=some b) :
 (Op.equalIn (n+1) t v u).run P w = .ok b w:=by
 unfold jS at hk
 split at hk <;> first | (cases hk;done) | skip
 ·rename_i kk hu
  cases hk
  cases x <;> cases y <;> simp [lR]at h
  obtain⟨rfl,rfl⟩:=h
  rw [rv.jf,ru.jf]
  exact run_equalIn_int w n t _ _ _ _ hu
 ·rename_i hu
  cases hk
  cases x <;> cases y <;> simp [lR]at h
  subst h
  rw [rv.my,ru.my]
  exact run_equalIn_bool w n t _ _ hu
 ·rename_i hu
  cases hk
  cases x <;> cases y <;> simp [lR]at h
  subst h
  rw [rv.ku,ru.ku]
  rw [run_equalIn_string w n t _ _ hu]
  simp
theorem yr (n:Nat) : ∀ (fs:List Field) (off:Nat) (ks:List Nat) (xs ys:List D) (vs us:Array Value) (e:Bool),
 zP P off fs=some ks→(∀ (i:Nat) (d:D) (v:Value),xs[i]? = some d→vs[off+i]? = some v→RD M s d v)→(∀ i,i<xs.length→(vs[off+i]?).isSome)→
 (∀ (i:Nat) (d:D) (v:Value),ys[i]? = some d→us[off+i]? = some v→RD M s d v)→(∀ i,i<ys.length→(us[off+i]?).isSome)→
 kr ks xs ys=some e→(Op.eqFields (n+1) vs us fs).run P w = .ok e w
 | [],off,ks,xs,ys,vs,us,e,hk,_,_,_,_,h=>by
  cases hk
  cases xs <;> cases ys <;> simp [kr]at h
  subst h;rfl
 | f::fs,off,ks,xs,ys,vs,us,e,hk,h1,h2,h3,h4,h=>by
  unfold zP at hk
  split at hk
  ·rename_i hf
   obtain⟨ho,J2⟩:=hf
   split at hk
   ·rename_i k ks' ta cz
    cases hk
    match xs,ys with
    | [],[]=>cases h
    | [],_::_=>cases h
    | _::_,[]=>cases h
    | x::xs,y::ys=>
     obtain⟨v,hv⟩:=Option.isSome_iff_exists.1 (h2 0 (by simp))
     obtain⟨u,hu⟩:=Option.isSome_iff_exists.1 (h4 0 (by simp))
     simp only [Nat.add_zero]at hv hu
     have rv:=h1 0 x v rfl hv
     have ru:=h3 0 y u rfl hu
     have yq:(isAgg f.type).run P w = .ok false w:=by
      unfold isAgg
      unfold jS at ta
      cases hu:P.underlying f.type with
      | none=>rw [hu]at ta;simp at ta
      | some d=>simp only [Sem.run_bind,run_underlying hu,Result.andThen_ok];rw [hu]at ta;cases d <;> simp_all
     have pv:(Go.part f.type vs f.offset).run P w = .ok v w:=by simp [Go.part,yq,ho,hv]
     have pu:(Go.part f.type us f.offset).run P w = .ok u w:=by simp [Go.part,yq,ho,hu]
     cases hc:lR k x y with
     | none=>simp [kr,hc]at h
     | some b=>
      have hb:=J1 (w:=w) n ta rv ru hc
      simp only [kr,hc]at h
      simp only [Op.eqFields,if_pos J2,Sem.run_bind,pv,pu,hb,Result.andThen_ok,Sem.run_ite,Sem.run_pure]
      cases b with
      | false=>cases h;rfl
      | true=>
       have:=yr n fs (off+1) ks' xs ys vs us e cz
        (fun i d v e1 e2=>h1 (i+1) d v (by simpa using e1) (by rw [show off+(i+1)=off+1+i by omega];exact e2))
        (fun i hi=>by have:=h2 (i+1) (by simpa using hi);rwa [show off+(i+1)=off+1+i by omega]at this)
        (fun i d v e1 e2=>h3 (i+1) d v (by simpa using e1) (by rw [show off+(i+1)=off+1+i by omega];exact e2))
        (fun i hi=>by have:=h4 (i+1) (by simpa using hi);rwa [show off+(i+1)=off+1+i by omega]at this) h
       simp [this]
   ·cases hk
  ·cases hk
theorem P9 (r:Rel M s w) {neg:Bool} {t:TypeId} {x y:Operand} {ks:List Nat} {xs ys:List D} {a b:Value} {e:Bool} (ht:oI P t=some ks) (ha:RD M s (.agg xs) a) (hb:RD M s (.agg ys) b) (he:kr ks xs ys=some e) :
 dw P M s w (do pure (.value (← (do eqGuard (if neg then .neq else .eql) t x y a b;binOp (if neg then .neq else .eql) t a b)))) (.bool (if neg then !e else e)) s:=by
 obtain⟨vs,rfl,hl,_,h1⟩:=ha.CQ
 obtain⟨us,rfl,mN,_,h2⟩:=hb.CQ
 unfold oI at ht
 split at ht
 ·rename_i fs hu
  split at ht
  ·rename_i hg
   obtain⟨Xk,hg2⟩:=hg
   have hf:P.fieldsOf t=fs:=by simp [Program.fieldsOf,hu]
   have dF:(Op.equalIn 10000 t (.agg vs) (.agg us)).run P w = .ok e w:=by
    rw [run_equalIn_struct w 9999 t vs us (by rw [hf];exact hu) hg2,hf]
    exact yr 9998 fs.toList 0 ks xs ys vs us e ht (fun i d v e1 e2=>h1 i d v e1 (by simpa using e2)) (fun i hi=>by simp;omega)
     (fun i d v e1 e2=>h2 i d v e1 (by simpa using e2)) (fun i hi=>by simp;omega) he
   have DN:=run_eqGuard_agg (P:=P) w (if neg then .neq else .eql) t x y vs us Xk
   refine dw.pure (v:= .bool (if neg then !e else e)) r ?_ (.bool _)
   cases neg
   ·simp only [Bool.false_eq_true,if_false]at DN ⊢
    simp only [Sem.run_bind,DN,Result.andThen_ok,run_eql_struct,dF,Sem.run_pure]
   ·simp only [if_true]at DN ⊢
    simp only [Sem.run_bind,DN,Result.andThen_ok,run_neq_struct,dF,Sem.run_pure]
  ·cases ht
 ·cases ht
end
end Go.Abs

/-! Sound4 -/

namespace Go.Abs
section
variable {P:Program} {M:Map} {s:St} {w:World}
theorem zR (l:List UInt8):(⟨⟨l⟩⟩:ByteArray).size=l.length:=rfl
theorem extract_mk (l:List UInt8) (a b:Nat):(⟨⟨l⟩⟩:ByteArray).extract a b = ⟨⟨(l.take b).drop a⟩⟩:=by
 apply ByteArray.ext
 rw [ByteArray.data_extract]
 apply Array.ext'
 simp [List.drop_take]
theorem getElem?_mk (l:List UInt8) (n:Nat):(⟨⟨l⟩⟩:ByteArray)[n]? = l[n]? :=by
 by_cases h:n<l.length
 ·rw [getElem?_pos (⟨⟨l⟩⟩:ByteArray) n h,List.getElem?_eq_getElem h];rfl
 ·rw [List.getElem?_eq_none (by omega)]
  rw [getElem?_neg (c:=(⟨⟨l⟩⟩:ByteArray)) (i:=n)]
  show ¬ n<(⟨⟨l⟩⟩:ByteArray).size
  rw [zR];omega
theorem MH (r:Rel M s w) {t:TypeId} {l:List UInt8} {k:IntKind} {n:Int} {c:UInt8} (ht:P.underlying t=some .string) (h0:0≤n) (hc:l[n.toNat]? = some c) :
 dw P M s w (do pure (.value (← Instr.index t (.string ⟨⟨l⟩⟩) (.int k n)))) (.int .u8 c.toNat) s:=by
 refine dw.pure (v:= .int .u8 c.toNat) r ?_ (.int _ _)
 simp [Instr.index,asIntOf,run_underlying ht,h0,getElem?_mk,hc]
theorem FR (r:Rel M s w) {t ty:TypeId} {l:List UInt8} (ht:P.underlying t=some .string) :
 dw P M s w (do pure (.value (← Builtin.len_ #[t] ty #[.string ⟨⟨l⟩⟩]))) (.int .i64 l.length) s:=by
 refine dw.pure (v:= .int .i64 l.length) r ?_ (.int _ _)
 simp [Builtin.len_,run_underlying ht,goInt,zR]
theorem qI (r:Rel M s w) {t ty e:TypeId} {a:Option Addr} {n c:Nat} (ht:P.underlying t=some (.slice e)) :
 dw P M s w (do pure (.value (← Builtin.len_ #[t] ty #[.slice a n c]))) (.int .i64 n) s:=by
 refine dw.pure (v:= .int .i64 n) r ?_ (.int _ _)
 simp [Builtin.len_,run_underlying ht,goInt]
theorem J3 (r:Rel M s w) {t e:TypeId} {i:TypeInfo} {g:Tag} {rows:List (List D)} {row:List D} {v:Value} {k:IntKind} {n:Int} (ht:P.underlying t=some (.slice e)) (hi:P.info? e=some i)
 (hd:RD M s (.slice g i.size rows) v) (h0:0≤n) (hr:rows[n.toNat]? = some row) :
 dw P M s w (do pure (.value (← Instr.indexAt t v (.int k n)))) (.dI row 0) s:=by
 have hP:=(List.getElem?_eq_some_iff.1 hr).1
 rcases hd.il with ⟨rfl,_,_⟩ | ⟨rfl,_,_⟩ | ⟨b,q,cap,rfl,hl,hs,h1,h2,_⟩
 ·simp at hr
 ·simp at hr
 ·refine dw.pure (v:= .pointer (some ⟨b,q+n.toNat*i.size+0,none⟩)) r ?_ ?_
  ·have:n<(rows.length:Int):=by omega
   simp [Instr.indexAt,asIntOf,run_underlying ht,h0,this,sizeOf,gH P hi,qH]
  ·refine .dI row 0 b (q+n.toNat*i.size) (fun j d hj=> ?_) (fun j d u hj hu=> ?_)
   ·obtain⟨u,hu⟩:=h1 n.toNat row j d hr hj
    exact⟨u,by rw [Nat.add_assoc];exact hu⟩
   ·exact h2 n.toNat row j d u hr hj (by rw [← Nat.add_assoc];exact hu)
def S1 (lv:Option Value) (l:Int):Prop:=(lv=none∧l=0)∨∃ k,lv=some (.int k l)
def S2 (hv:Option Value) (len:Nat) (h:Int):Prop:=(hv=none∧h=len)∨∃ k,hv=some (.int k h)
theorem sE {isSlice:Bool} {lv hv:Option Value} {len cap:Nat} {l h:Int} (h1:S1 lv l) (h2:S2 hv len h) (a:0≤l) (b:l≤h) (c:h≤len) (d:len≤cap) :
 (Instr.sliceBounds isSlice len cap lv hv none).run P w = .ok (l.toNat,h.toNat,cap) w:=by
 have h0:0≤h:=by omega
 have hc:h≤cap:=by omega
 rcases h1 with ⟨rfl,rfl⟩ | ⟨k,rfl⟩ <;> rcases h2 with ⟨rfl,rfl⟩ | ⟨k',rfl⟩
 ·simp [Instr.sliceBounds]
 ·simp [Instr.sliceBounds,run_sliceBound w _ _ _ _ h0 hc]
 ·simp [Instr.sliceBounds,run_sliceBound w _ _ _ _ a b]
 ·have e:(h.toNat:Int)=h:=Int.toNat_of_nonneg h0
  simp [Instr.sliceBounds,run_sliceBound w _ _ _ _ h0 hc,run_sliceBound w _ _ _ _ a (show l≤(h.toNat:Int) by omega)]
theorem MI (r:Rel M s w) {t:TypeId} {lv hv:Option Value} {x:List UInt8} {l h:Int} (ht:P.underlying t=some .string) (h1:S1 lv l) (h2:S2 hv x.length h) (a:0≤l) (b:l≤h) (c:h≤x.length) :
 dw P M s w (do pure (.value (← Instr.sliceAt t (.string ⟨⟨x⟩⟩) lv hv none))) (.str ((x.take h.toNat).drop l.toNat)) s:=by
 have hb:=sE (P:=P) (w:=w) (isSlice:=false) (cap:=x.length) h1 h2 a b c (Nat.le_refl _)
 refine dw.pure (v:= .string ⟨⟨(x.take h.toNat).drop l.toNat⟩⟩) r ?_ (.str _)
 simp [Instr.sliceAt,run_underlying ht,Instr.slice,zR,hb,extract_mk]
theorem gW.cut {g:Tag} {z len Qa cap:Nat} {base:Option (Nat×Nat)} (h:gW M s g z len base cap) (hl:Qa≤len) (whole:Bool) (hw:whole=true→Qa=len):gW M s (g.cut whole) z Qa base cap:=by
 cases g with
 | full=>
  cases whole with
  | true=>rw [hw rfl];exact h
  | false=>trivial
 | shared=>trivial
 | tok t y=>
  obtain⟨x1,x2⟩:=h
  refine⟨x1,fun n hn=>⟨Nat.le_trans hl (x2 n hn).1,fun e=> ?_⟩⟩
  have:len=n:=by have:=(x2 n hn).1;omega
  exact(x2 n hn).2 this
theorem Qb (r:Rel M s w) {t e:TypeId} {i:TypeInfo} {g:Tag} {z:Nat} {lv hv:Option Value} {rows:List (List D)} {v:Value} {l h:Int} (ht:P.underlying t=some (.slice e)) (MJ:P.info? e=some i) (hz:rows = []∨z=i.size)
 (hd:RD M s (.slice g z rows) v) (h1:S1 lv l) (h2:S2 hv rows.length h) (a:0≤l) (b:l≤h) (c:h≤rows.length) :
 dw P M s w (do pure (.value (← Instr.sliceAt t v lv hv none))) (.slice (if l=0 then g.cut (h=rows.length)else .shared) z ((rows.take h.toNat).drop l.toNat)) s:=by
 have hlen:((rows.take h.toNat).drop l.toNat).length=h.toNat - l.toNat:=by simp;omega
 have tag : ∀ base cap,gW M s g z rows.length base cap→gW M s (if l=0 then g.cut (h=rows.length)else .shared) z ((rows.take h.toNat).drop l.toNat).length base cap:=by
  intro base cap na
  split
  ·exact na.cut (by omega) _ (fun hh=>by simp at hh;omega)
  ·trivial
 rcases hd.il with ⟨rfl,rfl,na⟩ | ⟨rfl,rfl,a',cap,rfl⟩ | ⟨b',q,cap,rfl,hl,hs,g1,g2,na⟩
 ·have hb:=sE (P:=P) (w:=w) (isSlice:=true) (cap:=0) h1 h2 a b c (Nat.le_refl _)
  have I8:l=0:=by simp at c;omega
  have Xl:h=0:=by simp at c;omega
  subst I8;subst Xl
  refine dw.pure (v:= .slice none 0 0) r ?_ ?_
  ·simp at hb
   simp [Instr.sliceAt,run_underlying ht,Instr.slice,hb,sizeOf,gH P MJ]
  ·have:=tag _ _ na
   simp only [Int.toNat_zero,List.take_nil,List.drop_nil,List.length_nil]at this ⊢
   exact .jc _ _ 0 rfl this
 ·have hb:=sE (P:=P) (w:=w) (isSlice:=true) (cap:=cap) h1 h2 a b c (Nat.zero_le _)
  have I8:l=0:=by simp at c;omega
  have Xl:h=0:=by simp at c;omega
  subst I8;subst Xl
  simp only [List.length_nil]at hb
  have dF : ∃ a2:Addr,(Instr.sliceAt t (.slice (some a') 0 cap) lv hv none).run P w = .ok (.slice (some a2) 0 cap) w:=by
   refine⟨if cap=(0:Int).toNat then a' else a'.add ((0:Int).toNat*i.size), ?_⟩
   simp only [Instr.sliceAt,Sem.run_bind,run_underlying ht,Result.andThen_ok,Instr.slice,hb,sizeOf,gH P MJ,Sem.run_pure]
   split <;> simp
  obtain⟨a2,dF⟩:=dF
  refine dw.pure (v:= .slice (some a2) 0 cap) r (by simp [dF]) ?_
  simp only [↓reduceIte,Int.toNat_zero,List.take_nil,List.drop_nil]
  have:Tag.cut .shared (decide ((0:Int)=(([] : List (List D)).length:Int))) = .shared:=rfl
  rw [this]
  exact .mq _ a2 cap
 ·have hb:=sE (P:=P) (w:=w) (isSlice:=true) (cap:=cap) h1 h2 a b c hl
  have dF:(Instr.sliceAt t (.slice (some ⟨b',q,none⟩) rows.length cap) lv hv none).run P w = .ok (.slice (some (if cap=l.toNat then⟨b',q,none⟩else⟨b',q+l.toNat*i.size,none⟩)) (h.toNat - l.toNat) (cap - l.toNat)) w:=by
   simp only [Instr.sliceAt,Sem.run_bind,run_underlying ht,Result.andThen_ok,Instr.slice,hb,sizeOf,gH P MJ,Sem.run_pure]
   split <;> simp [qH]
  by_cases I8:l=0
  ·subst I8
   have e:(if cap=(0:Int).toNat then(⟨b',q,none⟩:Addr)else⟨b',q+(0:Int).toNat*i.size,none⟩) = ⟨b',q,none⟩:=by simp
   rw [e]at dF
   refine dw.pure (v:= .slice (some ⟨b',q,none⟩) ((rows.take h.toNat).drop (0:Int).toNat).length cap) r (by simp [dF];omega) ?_
   refine .slice _ z _ b' q cap (by omega) (fun row hr=>hs row ?_) (fun i row j d e1 e2=> ?_) (fun i row j d u e1 e2 eu=> ?_) (tag _ _ na)
   ·simp at hr;exact List.mem_of_mem_take hr
   ·simp [List.getElem?_take]at e1;exact g1 i row j d e1.2 e2
   ·simp [List.getElem?_take]at e1;exact g2 i row j d u e1.2 e2 eu
  ·rw [if_neg I8]
   by_cases rR:cap=l.toNat
   ·have:(rows.take h.toNat).drop l.toNat = []:=List.eq_nil_of_length_eq_zero (by omega)
    rw [this]
    rw [if_pos rR]at dF
    refine dw.pure (v:= .slice (some ⟨b',q,none⟩) ([] : List (List D)).length (cap - l.toNat)) r (by simp [dF];omega) ?_
    exact .slice _ z [] b' q _ (by simp) (by simp) (by simp) (by simp) trivial
   ·rw [if_neg rR]at dF
    refine dw.pure (v:= .slice (some ⟨b',q+l.toNat*i.size,none⟩) ((rows.take h.toNat).drop l.toNat).length (cap - l.toNat)) r (by simp [dF];omega) ?_
    have ep : ∀ (k:Nat) (row:List D),((rows.take h.toNat).drop l.toNat)[k]? = some row→rows[l.toNat+k]? = some row:=by
     intro k row e
     rw [List.getElem?_drop,List.getElem?_take]at e
     split at e
     ·exact e
     ·cases e
    have hzz : ∀ (k:Nat) (row:List D),((rows.take h.toNat).drop l.toNat)[k]? = some row→z=i.size:=by
     intro k row e
     rcases hz with rfl | hz
     ·simp at e
     ·exact hz
    refine .slice _ z _ b' _ _ (by omega) (fun row hr=>hs row (List.mem_of_mem_take (List.mem_of_mem_drop hr))) (fun k row j d e1 e2=> ?_) (fun k row j d u e1 e2 eu=> ?_) trivial
    ·obtain⟨u,hu⟩:=g1 _ row j d (ep k row e1) e2
     refine⟨u, ?_⟩
     rw [← hu, ← hzz k row e1]
     congr 1
     rw [Nat.add_mul];omega
    ·refine g2 _ row j d u (ep k row e1) e2 ?_
     rw [← eu, ← hzz k row e1]
     congr 1
     rw [Nat.add_mul];omega
theorem ux (off:Nat) : ∀ (l:List Value) (k:Nat) (cells:Array Value) (i:Nat),
 ((l.zipIdx k).foldl (fun cs p=>cs.setIfInBounds (off+p.2) p.1) cells).size=cells.size∧
 (off+k+l.length≤cells.size→((l.zipIdx k).foldl (fun cs p=>cs.setIfInBounds (off+p.2) p.1) cells)[i]? = if off+k≤i∧i<off+k+l.length then l[i - (off+k)]? else cells[i]?)
 | [],k,cells,i=>by simp;intro _ h1 h2;omega
 | v::l,k,cells,i=>by
  obtain⟨h1,h2⟩:=ux off l (k+1) (cells.setIfInBounds (off+k) v) i
  simp only [List.zipIdx_cons,List.foldl_cons]
  refine⟨by rw [h1];simp,fun kB=> ?_⟩
  simp only [List.length_cons]at kB
  rw [h2 (by simp;omega)]
  rw [Array.getElem?_setIfInBounds]
  by_cases hi:off+k=i
  ·subst hi
   rw [if_neg (by omega),if_pos rfl,if_pos (by omega),if_pos (by simp)]
   simp
  ·rw [if_neg hi]
   by_cases hr:off+(k+1)≤i∧i<off+(k+1)+l.length
   ·rw [if_pos hr,if_pos (by simp;omega)]
    rw [show i - (off+k)=(i - (off+(k+1)))+1 by omega]
    simp
   ·rw [if_neg hr,if_neg (by simp;omega)]
def rp (M:Map) (s:St) (ds:List D) (vs:Array Value):Prop:=vs.size=ds.length∧(∀ v∈vs,v.oneCell'=true)∧∀ (i:Nat) (d:D) (v:Value),ds[i]? = some d→vs[i]? = some v→RD M s d v
theorem rp.iY {ds:List D} {vs:Array Value} (h:rp M s ds vs) {d:D} {v:Value} {row:List D} (hd:RD M s d v) (hr:d.row=some row) {off:Nat} (kB:off+row.length≤ds.length) :
 rp M s (iY ds off row) (v.cells.zipIdx.foldl (fun cs (p:Value×Nat)=>cs.setIfInBounds (off+p.2) p.1) vs):=by
 obtain⟨h1,h2,h3⟩:=hd.row hr
 obtain⟨g1,g2,g3⟩:=h
 have e:v.cells.zipIdx.foldl (fun cs (p:Value×Nat)=>cs.setIfInBounds (off+p.2) p.1) vs=(v.cells.toList.zipIdx 0).foldl (fun cs p=>cs.setIfInBounds (off+p.2) p.1) vs:=by
  rw [← Array.foldl_toList];simp
 rw [e]
 have hl:v.cells.toList.length=row.length:=by simpa using h1
 have fs:=fun i=>ux off v.cells.toList 0 vs i
 have get : ∀ i,((v.cells.toList.zipIdx 0).foldl (fun cs p=>cs.setIfInBounds (off+p.2) p.1) vs)[i]? = if off≤i∧i<off+row.length then v.cells.toList[i - off]? else vs[i]? :=by
  intro i
  have:=(fs i).2 (by omega)
  rw [hl]at this
  simpa using this
 refine⟨by rw [(fs 0).1,g1,xL ds off row kB],fun u hu=> ?_,fun i d' u e1 e2=> ?_⟩
 ·obtain⟨i,hi⟩:=Array.mem_iff_getElem?.1 hu
  rw [get]at hi
  split at hi
  ·exact h2 u (Array.mem_toList_iff.1 (List.mem_of_getElem? hi))
  ·exact g2 u (Array.mem_of_getElem? hi)
 ·rw [ur ds off row kB]at e1
  rw [get]at e2
  by_cases h5:off≤i
  ·by_cases h6:i<off+row.length
   ·rw [if_pos ⟨h5,h6⟩]at e2
    rw [if_neg (by omega),if_pos h6]at e1
    exact h3 _ d' u e1 (by simpa using e2)
   ·rw [if_neg (fun h=>h6 h.2)]at e2
    rw [if_neg (by omega),if_neg h6]at e1
    exact g3 i d' u e1 e2
  ·rw [if_neg (fun h=>h5 h.1)]at e2
   rw [if_pos (by omega)]at e1
   exact g3 i d' u e1 e2
theorem FU {place:Nat→Option (Nat×Nat)} : ∀ (vp:List (Nat×Value)) (dp:List (Nat×Nat×D)) (ds:List D) (vs:Array Value) (nn:List D),rp M s ds vs→
 dp.length=vp.length→(∀ (j:Nat) (i:Nat) (v:Value) (off size:Nat) (d:D),vp[j]? = some (i,v)→dp[j]? = some (off,size,d)→place i=some (off,size)∧RD M s d v)→
 pN ds dp=some nn→∃ fD,Instr.fill place vs vp=some fD∧rp M s nn fD
 | [],[],ds,vs,nn,h,_,_,e=>by cases e;exact⟨vs,rfl,h⟩
 | [],_::_,_,_,_,_,hl,_,_=>by simp at hl
 | _::_,[],_,_,_,_,hl,_,_=>by simp at hl
 | (i,v)::vp,(off,size,d)::dp,ds,vs,nn,h,hl,hp,e=>by
  obtain⟨h1,h2⟩:=hp 0 i v off size d rfl rfl
  unfold pN at e
  split at e
  ·cases e
  ·rename_i row hr
   split at e
   ·rename_i hc
    obtain⟨c1,c2⟩:=hc
    have ew:=(h2.row hr).1
    obtain⟨fD,f1,f2⟩:=FU vp dp (iY ds off row) _ nn (h.iY h2 hr (by omega)) (by simpa using hl)
     (fun j i v off size d e1 e2=>hp (j+1) i v off size d (by simpa using e1) (by simpa using e2)) e
    refine⟨fD, ?_,f2⟩
    unfold Instr.fill
    simp only [h1]
    rw [if_neg]
    ·exact f1
    ·simp;exact⟨by omega,by have:=h.1;omega⟩
   ·cases e
end
end Go.Abs

/-! Sound5 -/

namespace Go.Abs
section
variable {P:Program} {M:Map} {s:St} {w:World}
def lK (M:Map) (s:St) (size:Nat) (rows:List (List D)) (vs:Array Value):Prop:=
 rows.length*size≤vs.size∧(∀ row∈rows,row.length=size)∧(∀ v∈vs,v.oneCell'=true)∧
 ∀ (i:Nat) (row:List D) (j:Nat) (d:D) (v:Value),rows[i]? = some row→row[j]? = some d→vs[i*size+j]? = some v→RD M s d v
theorem yu {size:Nat} {rows:List (List D)} (hs : ∀ row∈rows,row.length=size) {i:Nat} {row:List D} {j:Nat} {d:D} (h1:rows[i]? = some row) (h2:row[j]? = some d):i*size+j<rows.length*size:=by
 have hi:=(List.getElem?_eq_some_iff.1 h1).1
 have hj:=(List.getElem?_eq_some_iff.1 h2).1
 have:=hs row (List.mem_of_getElem? h1)
 have:i*size+size≤rows.length*size:=by rw [← Nat.succ_mul];exact Nat.mul_le_mul_right _ hi
 omega
theorem lK.fixed {size:Nat} {rows:List (List D)} {vs:Array Value} (h:lK M s size rows vs) {M':Map} {s':St} (le:Le M s M' s') {b:Nat}
 (hG : ∀ o,o<rows.length*size→M'.G b o=vs[o]?) :
 (∀ (i:Nat) (row:List D) (j:Nat) (d:D),rows[i]? = some row→row[j]? = some d→∃ u,M'.G b (0+(i*size+j))=some u)∧
 (∀ (i:Nat) (row:List D) (j:Nat) (d:D) (u:Value),rows[i]? = some row→row[j]? = some d→M'.G b (0+(i*size+j))=some u→RD M' s' d u):=by
 obtain⟨h1,h2,h3,h4⟩:=h
 refine⟨fun i row j d e1 e2=> ?_,fun i row j d u e1 e2 eu=> ?_⟩
 ·have hP:=yu h2 e1 e2
  rw [Nat.zero_add,hG _ hP]
  exact⟨_,Array.getElem?_eq_getElem (by omega)⟩
 ·have hP:=yu h2 e1 e2
  rw [Nat.zero_add,hG _ hP]at eu
  exact(h4 i row j d u e1 e2 eu).mono le
theorem np (z:List D) : ∀ n,(ic z n).length=n
 | 0=>rfl
 | n+1=>by simp [ic,np z n]
theorem pQ (z:List D) : ∀ n,∀ row∈ic z n,row=z
 | 0,_,h=>by cases h
 | n+1,row,h=>by
  rcases List.mem_cons.1 h with rfl | h
  ·rfl
  ·exact pQ z n row h
theorem lK.zero {z:List D} {zs:Array Value} (h:rp M s z zs) (hp:0<z.length) (n:Nat):lK M s z.length (ic z n) ((Array.range (n*z.length)).map (zs[· % zs.size]!)):=by
 obtain⟨h1,h2,h3⟩:=h
 have get : ∀ q,q<n*z.length→((Array.range (n*z.length)).map (zs[· % zs.size]!))[q]? = zs[q % z.length]? :=by
  intro q hq
  have:q % z.length<zs.size:=by rw [h1];exact Nat.mod_lt _ hp
  simp only [Array.getElem?_map,Array.getElem?_range,hq,if_true,Option.map_some]
  rw [h1,getElem!_pos zs (q % z.length) this,Array.getElem?_eq_getElem this]
 refine⟨by simp [np],fun row hr=>by rw [pQ z n row hr],fun v hv=> ?_,fun i row j d v e1 e2 e3=> ?_⟩
 ·obtain⟨q,hq⟩:=Array.mem_iff_getElem?.1 hv
  have hP:q<n*z.length:=by have:=(Array.getElem?_eq_some_iff.1 hq).1;simpa using this
  rw [get q hP]at hq
  exact h2 v (Array.mem_of_getElem? hq)
 ·have ep:=pQ z n row (List.mem_of_getElem? e1)
  subst ep
  have hP:=yu (size:=row.length) (fun r hr=>by rw [pQ row n r hr]) e1 e2
  rw [np]at hP
  rw [get _ hP]at e3
  have hj:=(List.getElem?_eq_some_iff.1 e2).1
  rw [Nat.mul_comm,Nat.mul_add_mod,Nat.mod_eq_of_lt hj]at e3
  exact h3 j d v e2 e3
theorem lK.set {size:Nat} {rows:List (List D)} {vs:Array Value} (h:lK M s size rows vs) {d:D} {v:Value} {row:List D} (hd:RD M s d v) (hr:d.row=some row) (hl:row.length=size) {i:Nat} (hi:i<rows.length) :
 lK M s size (rows.set i row) (v.cells.zipIdx.foldl (fun cs (p:Value×Nat)=>cs.setIfInBounds (i*size+p.2) p.1) vs):=by
 obtain⟨h1,h2,h3⟩:=hd.row hr
 obtain⟨g1,g2,g3,g4⟩:=h
 have e:v.cells.zipIdx.foldl (fun cs (p:Value×Nat)=>cs.setIfInBounds (i*size+p.2) p.1) vs=(v.cells.toList.zipIdx 0).foldl (fun cs p=>cs.setIfInBounds (i*size+p.2) p.1) vs:=by
  rw [← Array.foldl_toList];simp
 rw [e]
 have tc:v.cells.toList.length=size:=by simp [h1,hl]
 have kB:i*size+size≤vs.size:=by
  have:(i+1)*size≤rows.length*size:=Nat.mul_le_mul_right _ hi
  rw [Nat.succ_mul]at this;omega
 have fs:=fun q=>ux (i*size) v.cells.toList 0 vs q
 have get : ∀ q,((v.cells.toList.zipIdx 0).foldl (fun cs p=>cs.setIfInBounds (i*size+p.2) p.1) vs)[q]? = if i*size≤q∧q<i*size+size then v.cells.toList[q - i*size]? else vs[q]? :=by
  intro q
  have:=(fs q).2 (by omega)
  rw [tc]at this
  simpa using this
 refine⟨by rw [(fs 0).1];simpa using g1,fun r FW=> ?_,fun u hu=> ?_,fun i' kT j d' u e1 e2 e3=> ?_⟩
 ·rcases List.mem_or_eq_of_mem_set FW with h | rfl
  ·exact g2 r h
  ·exact hl
 ·obtain⟨q,hq⟩:=Array.mem_iff_getElem?.1 hu
  rw [get]at hq
  split at hq
  ·exact h2 u (Array.mem_toList_iff.1 (List.mem_of_getElem? hq))
  ·exact g3 u (Array.mem_of_getElem? hq)
 ·rw [List.getElem?_set]at e1
  rw [get]at e3
  split at e1
  ·rename_i heq;subst heq
   simp at e1
   obtain⟨_,rfl⟩:=e1
   have hj:=(List.getElem?_eq_some_iff.1 e2).1
   rw [if_pos (by omega)]at e3
   rw [show i*size+j - i*size=j by omega]at e3
   exact h3 j d' u e2 (by simpa using e3)
  ·rename_i fp
   have hj:=(List.getElem?_eq_some_iff.1 e2).1
   have I9:=g2 kT (List.mem_of_getElem? e1)
   rw [if_neg]at e3
   ·exact g4 i' kT j d' u e1 e2 e3
   ·rintro⟨a,b⟩
    rcases Nat.lt_or_gt_of_ne fp with h | h
    ·have:(i+1)*size≤i'*size:=Nat.mul_le_mul_right _ h
     rw [Nat.succ_mul]at this;omega
    ·have:(i'+1)*size≤i*size:=Nat.mul_le_mul_right _ h
     rw [Nat.succ_mul]at this;omega
theorem yv {size:Nat} : ∀ (vp:List (Nat×Value)) (dp:List (Nat×D)) (rows:List (List D)) (vs:Array Value) (kI:List (List D)),lK M s size rows vs→
 dp.length=vp.length→(∀ (j:Nat) (i:Nat) (v:Value) (i':Nat) (d:D),vp[j]? = some (i,v)→dp[j]? = some (i',d)→i'=i∧RD M s d v)→
 je size rows dp=some kI→∃ fD,Instr.fill (fun i=>some (i*size,size)) vs vp=some fD∧lK M s size kI fD∧kI.length=rows.length∧fD.size=vs.size
 | [],[],rows,vs,kI,h,_,_,e=>by cases e;exact⟨vs,rfl,h,rfl,rfl⟩
 | [],_::_,_,_,_,_,hl,_,_=>by simp at hl
 | _::_,[],_,_,_,_,hl,_,_=>by simp at hl
 | (i,v)::vp,(i',d)::dp,rows,vs,kI,h,hl,hp,e=>by
  obtain⟨h1,h2⟩:=hp 0 i v i' d rfl rfl
  subst h1
  unfold je at e
  split at e
  ·cases e
  ·rename_i row hr
   split at e
   ·rename_i hc
    obtain⟨c1,c2⟩:=hc
    have ew:=(h2.row hr).1
    have abm:=h.set h2 hr c1 c2
    obtain⟨fD,f1,f2,f3,f4⟩:=yv vp dp (rows.set i' row) _ kI abm (by simpa using hl)
     (fun j i v i' d e1 e2=>hp (j+1) i v i' d (by simpa using e1) (by simpa using e2)) e
    have kB:i'*size+size≤vs.size:=by
     have:(i'+1)*size≤rows.length*size:=Nat.mul_le_mul_right _ c2
     have:=h.1
     rw [Nat.succ_mul]at *;omega
    refine⟨fD, ?_,f2,by rw [f3];simp, ?_⟩
    ·unfold Instr.fill
     simp only
     rw [if_neg]
     ·exact f1
     ·simp;exact⟨by omega,by omega⟩
    ·rw [f4]
     have:=(ux (i'*size) v.cells.toList 0 vs 0).1
     rw [← this, ← Array.foldl_toList];simp
   ·cases e
theorem J4 (r:Rel M s w) {size:Nat} {rows:List (List D)} {vs:Array Value} (T:TypeId) (h:lK M s size rows vs) :
 RD (M.fu w.heap.size vs.size vs) s (.slice .full size rows) (.slice (some ⟨w.heap.size,0,none⟩) rows.length rows.length)∧
 Rel (M.fu w.heap.size vs.size vs) s (w.alloc (.cells vs T))∧Ext M s w (M.fu w.heap.size vs.size vs) s (w.alloc (.cells vs T)):=by
 obtain⟨r',e'⟩:=r.fu vs.size vs T (0,0) h.2.2.1
 obtain⟨g1,g2⟩:=h.fixed e'.le (b:=w.heap.size) (fun o ho=>by
  have:o<vs.size:=Nat.lt_of_lt_of_le ho h.1
  simp [Map.fu,this])
 exact⟨.slice .full size rows w.heap.size 0 rows.length (Nat.le_refl _) h.2.1 g1 g2 rfl,r',e'⟩
theorem o7 {t u ty e:TypeId} {i:TypeInfo} (ht:P.underlying t=some (.slice e)) (hi:P.info? e=some i) {base:Option Addr} {len cap:Nat} {y:Value} (hs:Src P i.size u y 0 [] w) (hc:len≤cap) :
 (Builtin.append_ #[t,u] ty #[.slice base len cap,y]).run P w = .ok (.slice base len cap) w:=by
 have k8:=hs.cells
 rcases hs.kind with ⟨e',hk⟩ | hk <;> cases base <;> simp [Builtin.append_,run_underlying ht,run_underlying hk,sizeOf,typeInfo,hi,hs.len,hc,k8,storeCells]
theorem DO (r:Rel M s w) {u e':TypeId} (hu:P.underlying u=some (.slice e')) {g:Tag} {size:Nat} {rows:List (List D)} {y:Value} (hy:RD M s (.slice g size rows) y) :
 ∃ news:List Value,Src P size u y rows.length news w∧
  (∀ (i:Nat) (row:List D) (j:Nat) (d:D) (v:Value),rows[i]? = some row→row[j]? = some d→news[i*size+j]? = some v→RD M s d v)∧
  ∀ (b q n c:Nat),y = .slice (some ⟨b,q,none⟩) n c→∀ o,o<rows.length*size→M.G b (q+o)=news[o]? :=by
 rcases hy.il with ⟨rfl,rfl,_⟩ | ⟨rfl,_,a,cap,rfl⟩ | ⟨b,q,cap,rfl,hl,hs,g1,g2,_⟩
 ·exact⟨[],Src.ofNil w hu 0,by simp,by simp⟩
 ·exact⟨[],Src.ofSlice w hu a 0 cap [] (by simp) (by simp) (by simp),by simp,by simp⟩
 ·obtain⟨us,hlen,Av⟩:=wX (M:=M) (b:=b) (rows.length*size) q (fun k hk=>by
   have hz:0<size:=by
    rcases Nat.eq_zero_or_pos size with h | h
    ·subst h;simp at hk
    ·exact h
   have hi:k / size<rows.length:=by rw [Nat.div_lt_iff_lt_mul hz];exact hk
   obtain⟨row,ep⟩ : ∃ row,rows[k / size]? = some row:=⟨_,List.getElem?_eq_getElem hi⟩
   have I9:=hs row (List.mem_of_getElem? ep)
   have hj:k % size<row.length:=by rw [I9];exact Nat.mod_lt _ hz
   obtain⟨u,hu⟩:=g1 _ row _ _ ep (List.getElem?_eq_getElem hj)
   refine⟨u, ?_⟩
   rw [← hu,Nat.mul_comm (k / size) size,Nat.div_add_mod])
  refine⟨us,Src.ofSlice w hu ⟨b,q,none⟩ rows.length cap us hlen (fun j u h=>by rw [qH];exact(r.comm _ _ _ (Av j u h)).1) (fun u hu=> ?_),fun i row j d v e1 e2 e3=>g2 i row j d v e1 e2 (Av _ v e3),
   fun b' q' n c heq o ho=>by
    cases heq
    rw [Av o _ (List.getElem?_eq_getElem (by omega)),List.getElem?_eq_getElem (by omega)]⟩
  obtain⟨j,hj⟩:=List.mem_iff_getElem?.1 hu
  exact(r.comm _ _ _ (Av j u hj)).2
theorem BB {size:Nat} {rows new:List (List D)} {oB news:List Value} (Ja : ∀ row∈rows,row.length=size) (Jb : ∀ row∈new,row.length=size)
 (l1:oB.length=rows.length*size) (l2:news.length=new.length*size) (o1 : ∀ u∈oB,u.oneCell'=true) (o2 : ∀ u∈news,u.oneCell'=true)
 (h1 : ∀ (i:Nat) (row:List D) (j:Nat) (d:D) (v:Value),rows[i]? = some row→row[j]? = some d→oB[i*size+j]? = some v→RD M s d v)
 (h2 : ∀ (i:Nat) (row:List D) (j:Nat) (d:D) (v:Value),new[i]? = some row→row[j]? = some d→news[i*size+j]? = some v→RD M s d v)
 (z:Array Value) (hz : ∀ v∈z,v.oneCell'=true):lK M s size (rows++new) ((oB++news).toArray++z):=by
 have hs : ∀ row∈rows++new,row.length=size:=fun row h=>(List.mem_append.1 h).elim (Ja row) (Jb row)
 refine⟨by simp [l1,l2,Nat.add_mul],hs,fun v hv=> ?_,fun i row j d v e1 e2 e3=> ?_⟩
 ·simp at hv
  rcases hv with (h | h) | h
  ·exact o1 v h
  ·exact o2 v h
  ·exact hz v h
 ·have hP:=yu hs e1 e2
  rw [List.length_append,Nat.add_mul]at hP
  rw [Array.getElem?_append_left (by simp [l1,l2];omega),List.getElem?_toArray]at e3
  by_cases hi:i<rows.length
  ·rw [List.getElem?_append_left hi]at e1
   have:=yu Ja e1 e2
   rw [List.getElem?_append_left (by omega)]at e3
   exact h1 i row j d v e1 e2 e3
  ·rw [List.getElem?_append_right (by omega)]at e1
   have eB:rows.length*size≤i*size:=Nat.mul_le_mul_right _ (by omega)
   rw [List.getElem?_append_right (by omega),l1]at e3
   refine h2 (i - rows.length) row j d v e1 e2 ?_
   rw [← e3]
   congr 1
   rw [Nat.sub_mul];omega
theorem EV {z:Array Value} (h : ∀ v∈z,v.oneCell'=true) (n:Nat) : ∀ v∈Builtin.zeroCells z n,v.oneCell'=true:=by
 intro v hv
 unfold Builtin.zeroCells at hv
 obtain⟨q,hq,rfl⟩:=Array.mem_map.1 hv
 have hP:q<n*z.size:=by simpa using hq
 have hz:0<z.size:=by
  rcases Nat.eq_zero_or_pos z.size with h | h
  ·rw [h]at hP;simp at hP
  ·exact h
 have:=Nat.mod_lt q hz
 rw [getElem!_pos z (q % z.size) this]
 exact h _ (Array.getElem_mem this)
def CW (eb:Bool) (size bytes:Nat) (x y:D) (s:St):Option (D×St):=
 match x,y with
 | .slice g z rows, .slice _ z' new=>
  if(rows = []∨z=size)∧(new = []∨z'=size)∧(rows.length+new.length)*(bytes+1)≤bx then
   match new with
   | []=>some (.slice g z rows,s)
   | _::_=>
    match g with
    | .full=>some (.slice (.tok s.aC.length eb) size (rows++new),{s with aC:=s.aC++ [some (rows.length+new.length)]})
    | .shared=>none
    | .tok t y=>if(y=true→eb=true)∧z=size∧s.aC[t]? = some (some rows.length)then some (.slice (.tok t y) size (rows++new),{s with aC:=s.aC.set t (some (rows.length+new.length))})else none
  else none
 | _,_=>none
theorem Xm {size bytes:Nat} {x y d:D} {s s':St} (h:kA size bytes x y s=some (d,s')):CW false size bytes x y s=some (d,s'):=by
 unfold kA at h
 unfold CW
 split at h
 ·split at h
  ·rename_i hc
   simp only [hc,and_self,if_true]
   split at h
   ·exact h
   ·split at h
    ·exact h
    ·exact h
    ·cases h
    ·split at h
     ·rename_i hq
      simp only [hq,and_self,Bool.false_eq_true,false_imp_iff,if_true]
      exact h
     ·cases h
  ·cases h
 ·cases h
theorem MK {x y d:D} {s s':St} (h:yn x y s=some (d,s')):CW true 1 1 x y s=some (d,s'):=by
 unfold yn at h
 unfold CW
 split at h
 ·split at h
  ·rename_i hc
   simp only [hc,and_self,if_true]
   split at h
   ·exact h
   ·split at h
    ·exact h
    ·exact h
    ·split at h
     ·rename_i hq
      simp only [hq,and_self,imp_true_iff,if_true]
      exact h
     ·cases h
  ·cases h
 ·cases h
theorem S3 {b:Bool} {n:Nat} (h:b=true→n=1) (hn:0<n):zs (bz b n)=n:=by
 cases b
 ·show(if n=0 then 1 else n)=n
  rw [if_neg (by omega)]
 ·simp [zs,bz,h rfl]
theorem A4 (eb:Bool) (r:Rel M s w) {t u ty e:TypeId} {i:TypeInfo} {z:Value} (ht:P.underlying t=some (.slice e)) (hi:P.info? e=some i) (hz:i.zero=some z)
 (Ax:z.cells.size=i.size) (FX : ∀ v∈z.cells,v.oneCell'=true) {dx dy d:D} {x y:Value} {s':St} (hx:RD M s dx x) (S4:eb=true→e=oa∧i.size=1) (yw:0<i.size) (he:CW eb i.size i.bytes dx dy s=some (d,s'))
 (src : ∀ (g:Tag) (size:Nat) (rows:List (List D)),dy = .slice g size rows→(rows = []→Src P i.size u y 0 [] w)∧(rows≠ []→size=i.size→(∀ row∈rows,row.length=i.size)∧∃ news:List Value,Src P i.size u y rows.length news w∧
  (∀ (k:Nat) (row:List D) (j:Nat) (d:D) (v:Value),rows[k]? = some row→row[j]? = some d→news[k*i.size+j]? = some v→RD M s d v))) :
 ∃ v w' M',(Builtin.append_ #[t,u] ty #[x,y]).run P w = .ok v w'∧Rel M' s' w'∧RD M' s' d v∧Ext M s w M' s' w':=by
 unfold CW at he
 split at he
 case h_2=>cases he
 rename_i g zx rows g' zy new
 split at he
 case isFalse=>cases he
 rename_i hc
 obtain⟨sk,S5,S6⟩:=hc
 cases new with
 | nil=>
  simp only at he
  cases he
  have MM:Src P i.size u y 0 [] w:=(src _ _ _ rfl).1 rfl
  rcases hx.il with ⟨_,hv,_⟩ | ⟨_,_,a,cap,hv⟩ | ⟨b,q,cap,hv,hl,_⟩
  ·refine⟨x,w,M, ?_,r,hx,Ext.refl M s w⟩
   rw [hv]
   exact o7 ht hi MM (Nat.le_refl _)
  ·refine⟨x,w,M, ?_,r,hx,Ext.refl M s w⟩
   rw [hv]
   exact o7 ht hi MM (Nat.zero_le _)
  ·refine⟨x,w,M, ?_,r,hx,Ext.refl M s w⟩
   rw [hv]
   exact o7 ht hi MM hl
 | cons n0 new=>
  have fp:(n0::new)≠ []:=by simp
  generalize dV:n0::new=gS at *
  have hzy:zy=i.size:=S5.resolve_left fp
  subst hzy
  obtain⟨MN,news,hs,S7⟩:=(src _ _ _ rfl).2 fp rfl
  have hm:0<gS.length:=List.length_pos_iff.2 fp
  have BD:(rows.length+gS.length)*i.bytes≤140737488355328:=by rw [Nat.mul_succ]at S6;simp only [bx]at S6;omega
  have al9:rows.length+gS.length≤1099511627776:=by rw [Nat.mul_succ]at S6;simp only [bx]at S6;omega
  -- what the first argument reads as
  obtain⟨base,cap,oB,hxv,hle,oL,hod,S8,Xo,hsx,hoG,na⟩ : ∃ (base:Option Addr) (cap:Nat) (oB:List Value),x = .slice base rows.length cap∧rows.length≤cap∧oB.length=rows.length*i.size∧
   (Builtin.firstCells i.size rows.length (.slice base rows.length cap)).run P w.drew = .ok oB.toArray w.drew∧(∀ u∈oB,u.oneCell'=true)∧
   (∀ (k:Nat) (row:List D) (j:Nat) (d:D) (v:Value),rows[k]? = some row→row[j]? = some d→oB[k*i.size+j]? = some v→RD M s d v)∧(∀ row∈rows,row.length=i.size)∧
   (∀ b q,base=some ⟨b,q,none⟩→∀ o,o<rows.length*i.size→M.G b (q+o)=oB[o]?)∧
   ((base=none∧rows = []∧gW M s g zx 0 none cap)∨∃ b q,base=some ⟨b,q,none⟩∧gW M s g zx rows.length (some (b,q)) cap):=by
   rcases sk with h0 | h0
   ·subst h0
    rcases hx.il with ⟨_,hv,na⟩ | ⟨_,rfl,_⟩ | ⟨b,q,cap,hv,hl,_,_,_,na⟩
    ·exact⟨none,0,[],hv,Nat.le_refl _,by simp,by simp [Builtin.firstCells],by simp,by simp,by simp,by simp, .inl ⟨rfl,rfl,na⟩⟩
    ·exfalso;simp only [← dV]at he;cases he
    ·exact⟨some ⟨b,q,none⟩,cap,[],hv,hl,by simp,by simp [Builtin.firstCells,loadCells,loadCellsFrom],by simp,by simp,by simp,by simp, .inr ⟨b,q,rfl,na⟩⟩
   ·subst h0
    obtain⟨oB,Jc,qA,jC⟩:=DO r ht hx
    rcases hx.il with ⟨h0,hv,na⟩ | ⟨_,rfl,_⟩ | ⟨b,q,cap,hv,hl,nM,_,_,na⟩
    ·subst h0
     refine⟨none,0,oB,hv,Nat.le_refl _,Jc.newsLen, ?_,Jc.one,qA,by simp,by simp, .inl ⟨rfl,rfl,na⟩⟩
     have:=Jc.cellsD;rw [hv]at this;exact this
    ·exfalso;simp only [← dV]at he;cases he
    ·refine⟨some ⟨b,q,none⟩,cap,oB,hv,hl,Jc.newsLen, ?_,Jc.one,qA,nM,fun b' q' heq o ho=> ?_, .inr ⟨b,q,rfl,na⟩⟩
     ·have:=Jc.cellsD;rw [hv]at this;exact this
     ·cases heq;exact jC b q _ cap hv o ho
  subst hxv
  -- the way that makes a new row
  have grow : ∀ (hg:cap<rows.length+gS.length),∃ (w':World) (M1:Map) (vs:Array Value) (nN:Nat),
   (Builtin.append_ #[t,u] ty #[.slice base rows.length cap,y]).run P w = .ok (.slice (some ⟨w.heap.size,0,none⟩) (rows.length+gS.length) nN) w'∧
   w'.heap[w.heap.size]? = some (.cells vs e (0,0))∧vs.size=nN*i.size∧rows.length+gS.length≤nN∧M1=M.fu w.heap.size ((rows.length+gS.length)*i.size) vs∧
   lK M s i.size (rows++gS) vs∧Rel M1 s w'∧Ext M s w M1 s w':=by
   intro hg
   have eB:=grownCap_ge w (rows.length+gS.length) cap e
   have dF:=run_append_grow_src (P:=P) w t u ty e i z ht hi hz base rows.length cap oB hod y gS.length news hs hg (by omega) (growslice_fits hg BD)
   have ep:=BB (M:=M) (s:=s) hsx MN oL hs.newsLen S8 hs.one Xo S7 (Builtin.zeroCells z.cells (grownCap w (rows.length+gS.length) cap e - (rows.length+gS.length))) (EV FX _)
   obtain⟨r1,e1⟩:=(r.of_heap (w':=w.drew) rfl).fu ((rows.length+gS.length)*i.size) _ e (0,0) ep.2.2.1
   refine⟨_,_,_,_,dF,heap_alloc_new w.drew _, ?_,eB,rfl,ep,r1,(Ext.of_heap (M:=M) (s:=s) (w:=w) (w':=w.drew) rfl rfl rfl rfl).trans e1⟩
   simp only [Array.size_append,List.size_toArray,List.length_append,size_zeroCells,Ax,oL,hs.newsLen, ← Nat.add_mul]
   congr 1;omega
  have hlen:(rows++gS).length=rows.length+gS.length:=by simp
  cases g with
  | shared=>simp only [← dV]at he;cases he
  | full=>
   have rR:cap=rows.length:=by
    rcases na with ⟨_,h0,h1⟩ | ⟨_,_,_,h1⟩
    ·subst h0;exact h1
    ·exact h1
   obtain⟨w',M1,vs,nN,dF,hh,ew,hn,BE,ep,r1,e1⟩:=grow (by omega)
   simp only [← dV]at he
   simp only [dV]at he
   cases he
   have FY:zs (bz eb i.size)=i.size:=S3 (fun h=>(S4 h).2) yw
   have S9:bz eb i.size=0→e=oa:=fun h0=>by
    cases eb with
    | true=>exact(S4 rfl).1
    | false=>simp [bz]at h0;omega
   obtain⟨r2,l2⟩:=r1.SZ (rows.length+gS.length) w.heap.size nN (bz eb i.size) vs e hh (by rw [FY];exact ew) hn S9
    (fun off ho=>by rw [FY]at ho;rw [BE];simp [Map.fu];omega)
    (fun o ho=>by have:=r.pP ho;rw [BE];show M.mu o≠_;omega) (fun q c z' hl heq=>by
     have:M.be q=some (w.heap.size,c,z'):=by rw [BE]at heq;exact heq
     have:=r.sC hl this;omega)
   refine⟨_,w',_,dF,r2, ?_, ?_⟩
   ·obtain⟨f1,f2⟩:=ep.fixed (e1.le.trans l2) (b:=w.heap.size) (fun o ho=>by
     rw [BE,hlen]at *
     simp [Map.ey,Map.fu,ho])
    have key:=RD.slice (M:=M1.ey s.aC.length (some (w.heap.size,nN,bz eb i.size))) (s:= {s with aC:=s.aC++ [some (rows.length+gS.length)]}) (.tok s.aC.length eb) i.size (rows++gS) w.heap.size 0 nN (by rw [hlen];exact hn) ep.2.1 f1 f2
     ⟨by simp,fun n oM=>by
      simp at oM
      subst oM
      exact⟨by rw [hlen];exact Nat.le_refl _,fun _=> .inr ⟨_,rfl,by simp [Map.ey]⟩⟩⟩
    rw [hlen]at key
    exact key
   ·refine⟨e1.le.trans l2,e1.kept,e1.pL,fun q b c z' hl heq=> ?_,e1.rP,e1.size,e1.os,e1.tape,e1.output⟩
    obtain⟨k,hk⟩:=hl
    rcases Nat.lt_or_ge q s.aC.length with h | h
    ·have FZ:M1.be q=some (b,c,z'):=by
      have:(M1.ey s.aC.length (some (w.heap.size,nN,bz eb i.size))).be q=M1.be q:=by simp [Map.ey];omega
      rw [this]at heq;exact heq
     simp only [List.getElem?_append_left h]at hk
     exact e1.pM q b c z' ⟨k,hk⟩ FZ
    ·have:=(List.getElem?_eq_some_iff.1 hk).1
     simp at this
     have:q=s.aC.length:=by omega
     subst this
     have:(M1.ey s.aC.length (some (w.heap.size,nN,bz eb i.size))).be s.aC.length=some (w.heap.size,nN,bz eb i.size):=by simp [Map.ey]
     rw [this]at heq;cases heq
     exact .inr (Nat.le_refl _)
  | tok q yb=>
   simp only [← dV]at he
   simp only [dV]at he
   split at he
   case isFalse=>cases he
   rename_i hq
   obtain⟨S9,hzx,hq⟩:=hq
   cases he
   have FY:zs (bz yb i.size)=i.size:=S3 (fun h=>(S4 (S9 h)).2) yw
   have aez:bz yb i.size=0→e=oa:=fun h0=>by
    cases yb with
    | true=>exact(S4 (S9 rfl)).1
    | false=>simp [bz]at h0;omega
   have J5 : ∀ (hg:cap<rows.length+gS.length),∃ v w' M',(Builtin.append_ #[t,u] ty #[.slice base rows.length cap,y]).run P w = .ok v w'∧Rel M' {s with aC:=s.aC.set q (some (rows.length+gS.length))} w'∧
    RD M' {s with aC:=s.aC.set q (some (rows.length+gS.length))} (.slice (.tok q yb) i.size (rows++gS)) v∧Ext M s w M' {s with aC:=s.aC.set q (some (rows.length+gS.length))} w':=by
    intro hg
    obtain⟨w',M1,vs,nN,dF,hh,ew,hn,BE,ep,r1,e1⟩:=grow hg
    have MO:q<s.aC.length:=(List.getElem?_eq_some_iff.1 hq).1
    obtain⟨r2,l2⟩:=r1.abj q rows.length (rows.length+gS.length) w.heap.size nN (bz yb i.size) vs e hq (by omega) hh (by rw [FY];exact ew) hn aez
     (fun off ho=>by rw [FY]at ho;rw [BE];simp [Map.fu];omega)
     (fun o ho=>by have:=r.pP ho;rw [BE];show M.mu o≠_;omega) (fun q c z' hl heq=>by
      have:M.be q=some (w.heap.size,c,z'):=by rw [BE]at heq;exact heq
      have:=r.sC hl this;omega)
    refine⟨_,w',_,dF,r2, ?_, ?_⟩
    ·obtain⟨f1,f2⟩:=ep.fixed (e1.le.trans l2) (b:=w.heap.size) (fun o ho=>by
      rw [BE,hlen]at *
      simp [Map.ey,Map.fu,ho])
     have key:=RD.slice (M:=M1.ey q (some (w.heap.size,nN,bz yb i.size))) (s:= {s with aC:=s.aC.set q (some (rows.length+gS.length))}) (.tok q yb) i.size (rows++gS) w.heap.size 0 nN (by rw [hlen];exact hn) ep.2.1 f1 f2
      ⟨by simp [MO],fun n oM=>by
       simp [MO]at oM
       subst oM
       exact⟨by rw [hlen];exact Nat.le_refl _,fun _=> .inr ⟨_,rfl,by simp [Map.ey]⟩⟩⟩
     rw [hlen]at key
     exact key
    ·refine⟨e1.le.trans l2,e1.kept,e1.pL,fun q' b c z' hl heq=> ?_,e1.rP,e1.size,e1.os,e1.tape,e1.output⟩
     obtain⟨k,hk⟩:=hl
     by_cases h:q'=q
     ·subst h
      have:(M1.ey q' (some (w.heap.size,nN,bz yb i.size))).be q'=some (w.heap.size,nN,bz yb i.size):=by simp [Map.ey]
      rw [this]at heq;cases heq
      exact .inr (Nat.le_refl _)
     ·have FZ:M1.be q'=some (b,c,z'):=by
       have:(M1.ey q (some (w.heap.size,nN,bz yb i.size))).be q'=M1.be q':=by simp [Map.ey,h]
       rw [this]at heq;exact heq
      simp only [List.getElem?_set_ne (Ne.symm h)]at hk
      exact e1.pM q' b c z' ⟨k,hk⟩ FZ
   rcases na with ⟨rfl,rfl,h1⟩ | ⟨b,k,rfl,h1⟩
   ·obtain⟨_,h2⟩:=h1
    obtain⟨_,h3⟩:=h2 _ hq
    rcases h3 rfl with ⟨_,h4⟩ | ⟨b,h4,_⟩
    ·exact J5 (by simp;omega)
    ·cases h4
   ·obtain⟨_,h2⟩:=h1
    obtain⟨_,h3⟩:=h2 _ hq
    rcases h3 rfl with ⟨_,h4⟩ | ⟨b2,h4,jT⟩
    ·exact J5 (by omega)
    cases h4
    subst hzx
    by_cases eU:rows.length+gS.length≤cap
    ·rcases r.tok q rows.length hq with ⟨h4,_⟩ | ⟨b',FP,wV,vs,T,h4,h5,h6,h7,h8⟩
     ·rw [jT]at h4;cases h4
     ·rw [jT]at h4;cases h4
      rw [FY]at h6
      obtain⟨r2,e2⟩:=r.abk q rows.length gS.length b cap (bz yb i.size) i.size news FY hq jT hs.newsLen eU hm hs.one vs T h5 h6 h8.2
      have kB:rows.length*i.size+news.length≤vs.size:=by rw [hs.newsLen,h6, ← Nat.add_mul];exact Nat.mul_le_mul_right _ eU
      have Au:=run_storeCells_at P b (rows.length*i.size) T news 0 vs w h5 (by simpa using kB) hs.one
      simp only [Nat.add_zero]at Au
      have dF:(Builtin.append_ #[t,u] ty #[.slice (some ⟨b,0,none⟩) rows.length cap,y]).run P w = .ok (.slice (some ⟨b,0,none⟩) (rows.length+gS.length) cap) (w.setRow b (vs.toList.take (rows.length*i.size)++news++vs.toList.drop (rows.length*i.size+news.length)).toArray):=by
       rcases hs.kind with ⟨Mx,hk⟩ | hk <;> simp [Builtin.append_,run_underlying ht,run_underlying hk,sizeOf,typeInfo,hi,hs.len,eU,hs.cells,Addr.add_lit,Au]
      refine⟨_,_,_,dF,r2, ?_,e2⟩
      have hG : ∀ o,o<(rows++gS).length*i.size→(M.fix b (rows.length*i.size) news).G b o=(oB++news).toArray[o]? :=by
       intro o ho
       rw [hlen,Nat.add_mul]at ho
       rw [List.getElem?_toArray]
       by_cases h9:o<rows.length*i.size
       ·rw [List.getElem?_append_left (by omega)]
        have:(M.fix b (rows.length*i.size) news).G b o=M.G b o:=by simp [Map.fix];omega
        rw [this]
        have:=hoG b 0 rfl o h9
        rwa [Nat.zero_add]at this
       ·rw [List.getElem?_append_right (by omega),oL]
        have:(M.fix b (rows.length*i.size) news).G b o=news[o - rows.length*i.size]? :=by
         simp only [Map.fix];rw [if_pos ⟨trivial,by omega,by rw [hs.newsLen];omega⟩]
        rw [this]
      have ep:=BB (M:=M) (s:=s) hsx MN oL hs.newsLen S8 hs.one Xo S7 #[] (by simp)
      rw [Array.append_empty]at ep
      obtain⟨f1,f2⟩:=ep.fixed e2.le (b:=b) hG
      have MO:q<s.aC.length:=(List.getElem?_eq_some_iff.1 hq).1
      have key:=RD.slice (M:=M.fix b (rows.length*i.size) news) (s:= {s with aC:=s.aC.set q (some (rows.length+gS.length))}) (.tok q yb) i.size (rows++gS) b 0 cap (by rw [hlen];exact eU) ep.2.1 f1 f2
       ⟨by simp [MO],fun n oM=>by
        simp [MO]at oM
        subst oM
        exact⟨by rw [hlen];exact Nat.le_refl _,fun _=> .inr ⟨_,rfl,jT⟩⟩⟩
      rw [hlen]at key
      exact key
    ·exact J5 (by omega)
theorem Jd (r:Rel M s w) {u e':TypeId} {i:TypeInfo} (hu:P.underlying u=some (.slice e')) {y:Value} {dy:D} (hy:RD M s dy y) (g:Tag) (size:Nat) (rows:List (List D)) (Xp:dy = .slice g size rows) :
 (rows = []→Src P i.size u y 0 [] w)∧(rows≠ []→size=i.size→(∀ row∈rows,row.length=i.size)∧∃ news:List Value,Src P i.size u y rows.length news w∧
  (∀ (k:Nat) (row:List D) (j:Nat) (d:D) (v:Value),rows[k]? = some row→row[j]? = some d→news[k*i.size+j]? = some v→RD M s d v)):=by
 subst Xp
 refine⟨fun h0=> ?_,fun fp ew=> ?_⟩
 ·subst h0
  rcases hy.il with ⟨_,rfl,_⟩ | ⟨_,_,a,cap,rfl⟩ | ⟨b,q,cap,rfl,_⟩
  ·exact Src.ofNil w hu 0
  ·exact Src.ofSlice w hu a 0 cap [] (by simp) (by simp) (by simp)
  ·exact Src.ofSlice w hu ⟨b,q,none⟩ 0 cap [] (by simp) (by simp) (by simp)
 ·subst ew
  obtain⟨news,h1,h2,_⟩:=DO r hu hy
  refine⟨?_,news,h1,h2⟩
  rcases hy.il with ⟨h0,_⟩ | ⟨h0,_⟩ | ⟨_,_,_,_,_,h,_⟩
  ·exact(fp h0).elim
  ·exact(fp h0).elim
  ·exact h
theorem MP (r:Rel M s w) {t u ty e e':TypeId} {i:TypeInfo} {z:Value} (ht:P.underlying t=some (.slice e)) (hu:P.underlying u=some (.slice e')) (hi:P.info? e=some i) (hz:i.zero=some z)
 (Ax:z.cells.size=i.size) (FX : ∀ v∈z.cells,v.oneCell'=true) {dx dy d:D} {x y:Value} {s':St} (hx:RD M s dx x) (hy:RD M s dy y) (yw:0<i.size) (he:kA i.size i.bytes dx dy s=some (d,s')) :
 ∃ v w' M',(Builtin.append_ #[t,u] ty #[x,y]).run P w = .ok v w'∧Rel M' s' w'∧RD M' s' d v∧Ext M s w M' s' w':=
 A4 false r ht hi hz Ax FX hx (fun h=>by cases h) yw (Xm he) (Jd r hu hy)
theorem J6 (r:Rel M s w) {t u ty e':TypeId} {i:TypeInfo} {z:Value} (ht:P.underlying t=some (.slice oa)) (hu:P.underlying u=some (.slice e')) (hi:P.info? oa=some i) (hz:i.zero=some z) (h1:i.size=1) (h2:i.bytes=1)
 (Ax:z.cells.size=i.size) (FX : ∀ v∈z.cells,v.oneCell'=true) {dx dy d:D} {x y:Value} {s':St} (hx:RD M s dx x) (hy:RD M s dy y) (he:yn dx dy s=some (d,s')) :
 ∃ v w' M',(Builtin.append_ #[t,u] ty #[x,y]).run P w = .ok v w'∧Rel M' s' w'∧RD M' s' d v∧Ext M s w M' s' w':=
 A4 true r ht hi hz Ax FX hx (fun _=>⟨rfl,h1⟩) (by omega) (by rw [h1,h2];exact MK he) (Jd r hu hy)
theorem J7 (r:Rel M s w) {t u ty:TypeId} {i:TypeInfo} {z:Value} (ht:P.underlying t=some (.slice oa)) (hu:P.underlying u=some .string) (hi:P.info? oa=some i) (hz:i.zero=some z) (h1:i.size=1) (h2:i.bytes=1)
 (Ax:z.cells.size=i.size) (FX : ∀ v∈z.cells,v.oneCell'=true) {dx d:D} {x:Value} {l:List UInt8} {s':St} (hx:RD M s dx x) (he:yn dx (.slice .shared 1 (l.map fun c=> [.int .u8 c.toNat])) s=some (d,s')) :
 ∃ v w' M',(Builtin.append_ #[t,u] ty #[x, .string ⟨⟨l⟩⟩]).run P w = .ok v w'∧Rel M' s' w'∧RD M' s' d v∧Ext M s w M' s' w':=by
 have hs:Src P i.size u (.string ⟨⟨l⟩⟩) l.length (l.map fun c=> .int .u8 c.toNat) w:=by
  rw [h1]
  exact Src.ofString w hu ⟨⟨l⟩⟩
 refine A4 true r ht hi hz Ax FX hx (fun _=>⟨rfl,h1⟩) (by omega) (by rw [h1,h2];exact MK he) fun g size rows Xp=> ?_
 cases Xp
 refine⟨fun h0=> ?_,fun fp ew=> ?_⟩
 ·have:l = []:=by simpa using h0
  subst this
  exact hs
 ·refine⟨fun row hr=> ?_,_,by simpa using hs,fun k row j d v e1 e2 e3=> ?_⟩
  ·obtain⟨c,_,rfl⟩:=List.mem_map.1 hr
   rw [h1];rfl
  ·rw [List.getElem?_map,Option.map_eq_some_iff]at e1
   obtain⟨c,e1,rfl⟩:=e1
   cases j with
   | zero=>
    simp at e2
    subst e2
    simp [h1,e1]at e3
    subst e3
    exact .int _ _
   | succ j=>simp at e2
end
end Go.Abs

/-! Sound6 -/

namespace Go.Abs
section
variable {P:Program} {M:Map} {s:St} {w:World}
theorem map_some {α β:Type} {f:α→β} {x:Option α} {y:β} (h:x.map f=some y) : ∃ a,x=some a∧y=f a:=by
 cases x with
 | none=>cases h
 | some a=>cases h;exact⟨a,rfl,rfl⟩
theorem vm {t:TypeId} {z:List D} (h:zeroOf P t=some z) : ∃ i v,P.info? t=some i∧i.zero=some v∧v.cells.size=i.size∧mr v.cells.toList=some z:=by
 unfold zeroOf at h
 split at h
 ·rename_i i hi
  split at h
  ·rename_i v hv
   split at h
   ·exact⟨i,v,hi,hv, ‹_›,h⟩
   ·cases h
  ·cases h
 ·cases h
theorem td {z:List D} {v:Value} (h:mr v.cells.toList=some z):rp M s z v.cells:=by
 obtain⟨h1,h2,h3⟩:=kv (M:=M) (s:=s) h
 exact⟨by simpa using h1.symm,fun u hu=>h2 u (by simpa using hu),fun i d u e1 e2=>h3 i d u e1 (by simpa using e2)⟩
theorem J8 {t:TypeId} {z:List D} (h:wU P t=some z) : ∃ i v,P.info? t=some i∧i.zero=some v∧v.cells.size=i.size∧rp M s z v.cells:=by
 unfold wU at h
 split at h
 ·rename_i i hi
  split at h
  ·rename_i v hv
   split at h
   ·refine⟨i,v,hi,hv, ‹_›, ?_⟩
    obtain⟨h1,h2,h3⟩:=Aw (M:=M) (s:=s) h
    exact⟨by simpa using h1.symm,fun u hu=>h2 u (by simpa using hu),fun i d u e1 e2=>h3 i d u e1 (by simpa using e2)⟩
   ·cases h
  ·cases h
 ·cases h
theorem yx {t:TypeId} {tm:Tm} {act:Act} (hr:k7 M s tm act.tmps) : ∀ {l:List (Nat×Operand)} {ps:List (Nat×Nat×X)},yo P t l=some ps→
 (ps.map fun p=>(p.1,p.2.1,p.2.2.ev tm)).length=(l.map fun p=>(p.1,act.eval p.2)).length∧
 ∀ (j:Nat) (i:Nat) (v:Value) (off size:Nat) (d:D),(l.map fun p=>(p.1,act.eval p.2))[j]? = some (i,v)→(ps.map fun p=>(p.1,p.2.1,p.2.2.ev tm))[j]? = some (off,size,d)→
  (∃ a,lq P t i=some (off,size,a))∧RD M s d v
 | [],ps,h=>by cases h;exact⟨rfl,by simp⟩
 | (i0,x)::l,ps,h=>by
  unfold yo at h
  split at h
  ·rename_i off size a x' r' h1 h2 h3
   cases h
   obtain⟨g1,g2⟩:=yx hr h3
   refine⟨by simpa using g1,fun j i v vk wV d e1 e2=> ?_⟩
   cases j with
   | zero=>
    simp at e1 e2
    obtain⟨rfl,rfl⟩:=e1
    obtain⟨rfl,rfl,rfl⟩:=e2
    exact⟨⟨a,h1⟩,cj h2 hr⟩
   | succ j=>exact g2 j i v vk wV d (by simpa using e1) (by simpa using e2)
  ·cases h
theorem BF {tm:Tm} {act:Act} (hr:k7 M s tm act.tmps) : ∀ {l:List (Nat×Operand)} {ps:List (Nat×X)},FN l=some ps→
 (ps.map fun p=>(p.1,p.2.ev tm)).length=(l.map fun p=>(p.1,act.eval p.2)).length∧
 ∀ (j:Nat) (i:Nat) (v:Value) (i':Nat) (d:D),(l.map fun p=>(p.1,act.eval p.2))[j]? = some (i,v)→(ps.map fun p=>(p.1,p.2.ev tm))[j]? = some (i',d)→i'=i∧RD M s d v
 | [],ps,h=>by cases h;exact⟨rfl,by simp⟩
 | (i0,x)::l,ps,h=>by
  unfold FN at h
  split at h
  ·rename_i x' r' h1 h2
   cases h
   obtain⟨g1,g2⟩:=BF hr h2
   refine⟨by simpa using g1,fun j i v i' d e1 e2=> ?_⟩
   cases j with
   | zero=>
    simp at e1 e2
    obtain⟨rfl,rfl⟩:=e1
    obtain⟨rfl,rfl⟩:=e2
    exact⟨rfl,cj h1 hr⟩
   | succ j=>exact g2 j i v i' d (by simpa using e1) (by simpa using e2)
  ·cases h
theorem BG : ∀ (l:List Field),(∀ f∈l,(P.info? f.type).isSome)→
 ∃ ps:List (Nat×Nat),(l.mapM fun f=>do pure (f.offset, ← sizeOf f.type):Sem (List (Nat×Nat))).run P w = .ok ps w∧
  ∀ (j:Nat) (f:Field) (i:TypeInfo),l[j]? = some f→P.info? f.type=some i→ps[j]? = some (f.offset,i.size)
 | [],_=>⟨[],rfl,by simp⟩
 | f::l,h=>by
  obtain⟨i,hi⟩:=Option.isSome_iff_exists.1 (h f (by simp))
  obtain⟨ps,h1,h2⟩:=BG l (fun g hg=>h g (by simp [hg]))
  refine⟨(f.offset,i.size)::ps, ?_,fun j g i' e1 e2=> ?_⟩
  ·rw [List.mapM_cons]
   simp only [Sem.run_bind,sizeOf,gH P hi,Result.andThen_ok,Sem.run_pure]at h1 ⊢
   simp only [h1,Result.andThen_ok]
  ·cases j with
   | zero=>simp at e1;subst e1;rw [hi]at e2;cases e2;rfl
   | succ j=>exact h2 j g i' (by simpa using e1) e2
theorem J9 (r:Rel M s w) {t:TypeId} {fs:Array Field} {z:List D} {l:List (Nat×Operand)} {ps:List (Nat×Nat×X)} {tm:Tm} {act:Act} {cs:List D} (hr:k7 M s tm act.tmps)
 (ht:P.underlying t=some (.struct fs)) (BH:(fs.toList.all fun f=>(P.info? f.type).isSome)=true) (hz:wU P t=some z) (hp:yo P t l=some ps) (hf:pN z (ps.map fun p=>(p.1,p.2.1,p.2.2.ev tm))=some cs) :
 dw P M s w (do pure (.value (← Instr.build t (l.toArray.map fun(i,x)=>(i,act.eval x))))) (.agg cs) s:=by
 obtain⟨i,v,h1,h2,h3,hc⟩:=J8 (M:=M) (s:=s) hz
 obtain⟨g1,g2⟩:=yx hr hp
 obtain⟨pl,p1,p2⟩:=BG (P:=P) (w:=w) fs.toList (fun f hf'=>by simpa using List.all_eq_true.1 BH f hf')
 have Vm:(fs.mapM fun f=>do pure (f.offset, ← sizeOf f.type):Sem (Array (Nat×Nat))).run P w = .ok pl.toArray w:=by
  rw [Array.mapM_eq_mapM_toList,Sem.run_map,p1];rfl
 obtain⟨vs,f1,f2⟩:=FU (place:=(pl.toArray[·]?)) (l.map fun p=>(p.1,act.eval p.2)) _ z v.cells cs hc g1 (fun j i v off size d e1 e2=>by
  obtain⟨⟨a,ha⟩,hd⟩:=g2 j i v off size d e1 e2
  refine⟨?_,hd⟩
  unfold lq at ha
  rw [ht]at ha
  simp only at ha
  split at ha
  ·rename_i fd hfd
   split at ha
   ·rename_i i' a' gF _
    split at ha
    ·cases ha
    ·cases ha
     simpa using p2 i fd i' (by simpa using hfd) gF
   ·cases ha
  ·cases ha) hf
 refine dw.pure (v:= .agg vs) r ?_ (.agg _ _ f2.1.symm f2.2.1 f2.2.2)
 have tf:(l.toArray.map fun(i,x)=>(i,act.eval x)).toList=l.map fun p=>(p.1,act.eval p.2):=by simp
 unfold Instr.build
 simp only [Sem.run_bind,zeroValue,gH P h1,h2,Result.andThen_ok,Sem.run_pure,run_underlying ht,Vm,tf,f1]
theorem Ay (r:Rel M s w) {t e:TypeId} {i:TypeInfo} {z:List D} {n:Nat} {l:List (Nat×Operand)} {ps:List (Nat×X)} {tm:Tm} {act:Act} {rows:List (List D)} (hr:k7 M s tm act.tmps)
 (ht:P.underlying t=some (.slice e)) (hi:P.info? e=some i) (hz:zeroOf P e=some z) (yw:0<i.size) (hn:n*i.size≤65536) (hp:FN l=some ps)
 (hf:je i.size (ic z n) (ps.map fun p=>(p.1,p.2.ev tm))=some rows) :
 ∃ (vs:Array Value) (T:TypeId),lK M s i.size rows vs∧rows.length=n∧vs.size=n*i.size∧
  (Instr.buildSlice t n (l.toArray.map fun(i,x)=>(i,act.eval x))).run P w = .ok (.slice (some ⟨w.heap.size,0,none⟩) n n) (w.alloc (.cells vs T)):=by
 obtain⟨i',v,h1,h2,h3,h4⟩:=vm hz
 rw [hi]at h1;cases h1
 have hc:=td (M:=M) (s:=s) h4
 have hzl:z.length=i.size:=by rw [← hc.1,h3]
 have MQ:=lK.zero hc (by omega) n
 rw [hzl]at MQ
 obtain⟨g1,g2⟩:=BF hr hp
 obtain⟨vs,f1,f2,f3,f4⟩:=yv (l.map fun p=>(p.1,act.eval p.2)) _ _ _ rows MQ g1 g2 hf
 have hzr:=np z n
 refine⟨vs,e,f2,by rw [f3,hzr],by rw [f4];simp, ?_⟩
 have BD : ¬ (n*i.size > 2 ^ 24):=by omega
 have tf:(l.toArray.map fun(i,x)=>(i,act.eval x)).toList=l.map fun p=>(p.1,act.eval p.2):=by simp
 by_cases h0:n*i.size=0
 ·have k8:(Array.range (n*i.size)).map ((#[] : Array Value)[· % (#[] : Array Value).size]!)=(Array.range (n*i.size)).map (v.cells[· % v.cells.size]!):=by rw [h0];simp
  unfold Instr.buildSlice
  simp only [Sem.run_bind,run_underlying ht,Result.andThen_ok,sizeOf,gH P hi,Sem.run_pure,if_neg BD,if_pos h0,k8,tf,f1,newRow,run_newObj]
  rfl
 ·unfold Instr.buildSlice
  simp only [Sem.run_bind,run_underlying ht,Result.andThen_ok,sizeOf,gH P hi,Sem.run_pure,if_neg BD,if_neg h0,zeroValue,h2,tf,f1,newRow,run_newObj]
  rfl
end
end Go.Abs

/-! Sound7 -/

namespace Go.Abs
section
variable {P:Program} {M:Map} {s:St} {w:World}
theorem foldl_push (ns:List Int) : ∀ r:ByteArray,ns.foldl (fun r n=>r.push (UInt8.ofNat n.toNat)) r = ⟨r.data++(ns.map fun n=>UInt8.ofNat n.toNat).toArray⟩:=by
 induction ns with
 | nil=>intro r;simp
 | cons n ns ih=>intro r;simp only [List.foldl_cons];rw [ih];simp [ByteArray.push]
theorem tg : ∀ {rows:List (List D)} {l:List UInt8},mY rows=some l→∃ ns:List Int,rows=ns.map (fun n=> [.int .u8 n])∧l=ns.map fun n=>UInt8.ofNat n.toNat
 | [],l,h=>by cases h;exact⟨[],rfl,rfl⟩
 | r::rs,l,h=>by
  unfold mY at h
  split at h
  ·rename_i b bs h1 h2
   cases h
   obtain⟨ns,g1,g2⟩:=tg h2
   unfold DK at h1
   split at h1
   ·rename_i n
    cases h1
    exact⟨n::ns,by rw [g1];rfl,by rw [g2];rfl⟩
   ·cases h1
  ·cases h
theorem Ka (r:Rel M s w) {src dst e:TypeId} {g:Tag} {z:Nat} {rows:List (List D)} {v:Value} {l:List UInt8} (hs:P.underlying src=some (.slice e)) (he:P.underlying e=some (.int .u8)) (hd:P.underlying dst=some .string)
 (hv:RD M s (.slice g z rows) v) (hb:mY rows=some l):dw P M s w (do pure (.value (← convert src dst v))) (.str l) s:=by
 obtain⟨ns,rfl,rfl⟩:=tg hb
 refine dw.pure (v:= .string ⟨⟨ns.map fun n=>UInt8.ofNat n.toNat⟩⟩) r ?_ (.str _)
 rcases hv.il with ⟨h0,rfl,_⟩ | ⟨h0,_,a,cap,rfl⟩ | ⟨b,q,cap,rfl,hl,ew,g1,g2,_⟩
 ·have:ns = []:=by simpa using h0
  subst this
  have:=run_convert_bytes_string w src dst e none 0 0 hs he hd
  simp only [Sem.run_bind,this,Conv.bytesToString,Sem.run_pure,Result.andThen_ok]
  rfl
 ·have:ns = []:=by simpa using h0
  subst this
  have h2:=run_convert_bytes_string w src dst e (some a) 0 cap hs he hd
  simp only [Sem.run_bind,h2,Conv.bytesToString,Sem.run_pure,Result.andThen_ok]
  rfl
 ·have k8:=run_loadCells_list (P:=P) w ⟨b,q,none⟩ (ns.map (Value.int .u8)) (fun j v hj=>by
   rw [qH]
   simp only [List.getElem?_map,Option.map_eq_some_iff]at hj
   obtain⟨n,hn,rfl⟩:=hj
   have ep:(ns.map (fun n=> [D.int .u8 n]))[j]? = some [.int .u8 n]:=by simp [hn]
   have hz:z=1:=by have:=ew [.int .u8 n] (List.mem_of_getElem? ep);simpa using this.symm
   subst hz
   obtain⟨u,hu⟩:=g1 j _ 0 _ ep rfl
   have:=g2 j _ 0 _ u ep rfl hu
   rw [this.jf]at hu
   have:=(r.comm _ _ _ hu).1
   simpa using this)
  simp only [List.length_map]at k8 ⊢
  have h1:=run_bytesToString (P:=P) w ⟨b,q,none⟩ ns.length cap ns k8
  have h2:=run_convert_bytes_string w src dst e (some ⟨b,q,none⟩) ns.length cap hs he hd
  simp only [Sem.run_bind,h2,h1,Sem.run_pure,Result.andThen_ok,foldl_push]
  congr 3
  simp [ByteArray.empty,ByteArray.emptyWithCapacity]
  rfl
theorem F0 (r:Rel M s w) {src dst e:TypeId} {l:List UInt8} (hs:P.underlying src=some .string) (hd:P.underlying dst=some (.slice e)) (he:P.underlying e=some (.int .u8)) :
 dw P M s w (do pure (.value (← convert src dst (.string ⟨⟨l⟩⟩)))) (.slice .shared 1 (l.map fun c=> [.int .u8 c.toNat])) s:=by
 have dF:=run_bytes_of_string (P:=P) w src dst e ⟨⟨l⟩⟩ hs hd he
 generalize rR:grownCap w (ByteArray.size ⟨⟨l⟩⟩) 0 e=cap at dF
 have eB:l.length≤cap:=by rw [← rR];exact grownCap_ge w l.length 0 e
 have ep : ∀ j,j<l.length→(bytesRow ⟨⟨l⟩⟩ cap)[j]? = some (.int .u8 ((l[j]?.getD 0).toNat:Int)):=by
  intro j hj
  unfold bytesRow
  rw [Array.getElem?_append_left (by simpa using hj)]
  simp [hj]
 have ew:(bytesRow ⟨⟨l⟩⟩ cap).size=cap:=by simp [bytesRow,zR];omega
 have mw : ∀ v∈bytesRow ⟨⟨l⟩⟩ cap,v.oneCell'=true:=by
  intro v hv
  unfold bytesRow at hv
  simp at hv
  rcases hv with ⟨a,_,rfl⟩ | ⟨_,rfl⟩ <;> rfl
 have hR:lK M s 1 (l.map fun c=> [D.int .u8 c.toNat]) (bytesRow ⟨⟨l⟩⟩ cap):=by
  refine⟨by simp [ew];omega,by simp,mw,fun i row j d v e1 e2 e3=> ?_⟩
  simp only [List.getElem?_map,Option.map_eq_some_iff]at e1
  obtain⟨c,hc,rfl⟩:=e1
  cases j with
  | zero=>
   simp at e2;subst e2
   have hi:=(List.getElem?_eq_some_iff.1 hc).1
   rw [show i*1+0=i by omega,ep i hi,hc]at e3
   cases e3
   exact .int _ _
  | succ j=>simp at e2
 obtain⟨r1,e1⟩:=(r.of_heap (w':=w.drew) rfl).fu l.length (bytesRow ⟨⟨l⟩⟩ cap) e ((bytesRow ⟨⟨l⟩⟩ cap).size,(bytesRow ⟨⟨l⟩⟩ cap).size+1) mw
 obtain⟨f1,f2⟩:=hR.fixed e1.le (b:=w.heap.size) (fun o ho=>by simp at ho;simp [Map.fu,ho])
 refine⟨.slice (some ⟨w.heap.size,0,none⟩) l.length cap,_,_, .inl (by simp only [Sem.run_bind,dF,Result.andThen_ok,Sem.run_pure];rfl),r1, ?_,(Ext.of_heap (M:=M) (s:=s) (w:=w) (w':=w.drew) rfl rfl rfl rfl).trans e1⟩
 have key:=RD.slice (M:=M.fu w.heap.size l.length (bytesRow ⟨⟨l⟩⟩ cap)) (s:=s) .shared 1 (l.map fun c=> [D.int .u8 c.toNat]) w.heap.size 0 cap (by simpa using eB) hR.2.1 f1 f2 trivial
 simp only [List.length_map]at key
 exact key
theorem Qd (r:Rel M s w) {t e:TypeId} {q z:Nat} {yb:Bool} {rows:List (List D)} {v:Value} (ht:P.underlying t=some (.slice e)) (he:P.underlying e=some (.int .u8)) (hv:RD M s (.slice (.tok q yb) z rows) v) (fp:rows≠ []) (hq:s.aC[q]? = some (some rows.length)) :
 dw P M s w (do pure (.value (← convert t t v))) (.slice .shared z rows) {s with aC:=s.aC.set q none}:=by
 rcases hv.il with ⟨h0,_,_⟩ | ⟨h0,_,_⟩ | ⟨b,k,cap,rfl,hl,ew,g1,g2,na⟩
 ·exact(fp h0).elim
 ·exact(fp h0).elim
 ·obtain⟨_,h2⟩:=na
  obtain⟨_,h3⟩:=h2 _ hq
  rcases h3 rfl with ⟨_,h4,_⟩ | ⟨b2,h4,jT⟩
  ·subst h4
   exact(fp (List.eq_nil_of_length_eq_zero (Nat.le_zero.1 hl))).elim
  cases h4
  obtain⟨r1,l1⟩:=r.abl q
  rcases r.tok q rows.length hq with ⟨h4,_⟩ | ⟨b',FP,wV,vs,T,h4,h5,h6,h7,h8⟩
  ·rw [jT]at h4;cases h4
  ·rw [jT]at h4;cases h4
   have gM : ∀ p,St.live {s with aC:=s.aC.set q none} p→p≠q∧s.live p:=by
    rintro p ⟨n,hn⟩
    rw [List.getElem?_set]at hn
    split at hn
    ·simp at hn
    ·rename_i fp;exact⟨fun h=>fp h.symm,n,hn⟩
   obtain⟨r2,hh,nM,ho,BI,Qe⟩:=r1.freeze (b:=b) vs.size 1 (fun o ho=>r.fm q b cap _ o ⟨_,hq⟩ jT ho)
    (fun p c y hp heq=>(gM p hp).1 (r.fS p q b c y cap _ (gM p hp).2 ⟨_,hq⟩ heq jT))
   have Xq:w.shape? b=some (T,vs.size):=by simp [World.shape?,h5]
   refine⟨.slice (some ⟨b,0,none⟩) rows.length cap,_,M, .inl ?_,r2, ?_, ?_⟩
   ·simp [convert,run_underlying ht,run_underlying he,markStringish,Xq]
   ·have h9:=(RD.slice (M:=M) (s:=s) .shared z rows b 0 cap hl ew g1 g2 trivial).mono l1
    exact h9
   ·refine⟨l1,fun p _ _ h4=>hh p (fun e=>h4 q cap (bz yb z) ⟨_,hq⟩ (by rw [jT,e])),fun o h3 h4=> ?_,fun p b' c y hp heq=> .inl ⟨(gM p hp).2,c,y,heq⟩,fun _ _ h=>(h rfl).elim,by rw [nM];exact Nat.le_refl _,ho,BI,Qe⟩
    simp at h4;omega
theorem MR (r:Rel M s w) {size:Nat} {rows:List (List D)} {vs:Array Value} (T:TypeId) (h:lK M s size rows vs) (ew:vs.size=rows.length*size) (yw:0<size) :
 ∃ M',RD M' {s with aC:=s.aC++ [some rows.length]} (.slice (.tok s.aC.length) size rows) (.slice (some ⟨w.heap.size,0,none⟩) rows.length rows.length)∧
 Rel M' {s with aC:=s.aC++ [some rows.length]} (w.alloc (.cells vs T))∧Ext M s w M' {s with aC:=s.aC++ [some rows.length]} (w.alloc (.cells vs T)):=by
 obtain⟨r1,e1⟩:=r.fu vs.size vs T (0,0) h.2.2.1
 have Ax:zs size=size:=by show(if size=0 then 1 else size)=size;rw [if_neg (by omega)]
 obtain⟨r2,l2⟩:=r1.SZ rows.length w.heap.size rows.length size vs T (heap_alloc_new w _) (by rw [Ax];exact ew) (Nat.le_refl _) (fun h=>by omega)
  (fun off ho=>by rw [Ax]at ho;simp [Map.fu];omega) (fun o ho=>by have:=r.pP ho;show M.mu o≠_;omega)
  (fun q c z' hl heq=>by have:=r.sC hl (show M.be q=some (w.heap.size,c,z')from heq);omega)
 obtain⟨f1,f2⟩:=h.fixed (e1.le.trans l2) (b:=w.heap.size) (fun o ho=>by
  have:o<vs.size:=Nat.lt_of_lt_of_le ho h.1
  simp [Map.ey,Map.fu,this])
 refine⟨_, ?_,r2, ?_⟩
 ·exact .slice _ size rows w.heap.size 0 rows.length (Nat.le_refl _) h.2.1 f1 f2 ⟨by simp,fun n hn=>by
   simp at hn;subst hn
   exact⟨Nat.le_refl _,fun _=> .inr ⟨_,rfl,by simp [Map.ey,bz]⟩⟩⟩
 ·refine⟨e1.le.trans l2,e1.kept,e1.pL,fun q b c z' hl heq=> ?_,e1.rP,e1.size,e1.os,e1.tape,e1.output⟩
  obtain⟨k,hk⟩:=hl
  rcases Nat.lt_or_ge q s.aC.length with h' | h'
  ·have FZ:M.be q=some (b,c,z'):=by
    have:((M.fu w.heap.size vs.size vs).ey s.aC.length (some (w.heap.size,rows.length,size))).be q=M.be q:=by simp [Map.ey,Map.fu];omega
    rw [this]at heq;exact heq
   simp only [List.getElem?_append_left h']at hk
   exact .inl ⟨⟨k,hk⟩,c,z',FZ⟩
  ·have:=(List.getElem?_eq_some_iff.1 hk).1
   simp at this
   have:q=s.aC.length:=by omega
   subst this
   have:((M.fu w.heap.size vs.size vs).ey s.aC.length (some (w.heap.size,rows.length,size))).be s.aC.length=some (w.heap.size,rows.length,size):=by simp [Map.ey]
   rw [this]at heq;cases heq
   exact .inr (Nat.le_refl _)
end
end Go.Abs

/-! SoundM -/

namespace Go.Abs
open Go.MapKept
section
variable {P:Program} {M:Map} {s:St} {w:World}
theorem uy : ∀ (a b:List MapEntry),gC (a++b)=gC a++gC b
 | [],b=>rfl
 | e::a,b=>by simp only [List.cons_append,gC,uy a b]
theorem DP : ∀ (a:List MapEntry) (j:Nat) (e:MapEntry) (k v:Value),a[j]? = some e→e.key=k→gC (a.set j {e with key:=k,val:=v})=(gC a).set (2*j+1) v
 | [],j,e,k,v,h,_=>by simp at h
 | x::a,0,e,k,v,h,hk=>by
  simp at h;subst h;subst hk
  simp [gC]
 | x::a,j+1,e,k,v,h,hk=>by
  have:=DP a j e k v (by simpa using h) hk
  simp only [List.set_cons_succ,gC,this]
  rw [show 2*(j+1)=(2*j+1)+1 by omega,List.set_cons_succ]
theorem Qf (a b:List UInt8):((⟨⟨a⟩⟩:ByteArray) == ⟨⟨b⟩⟩)=(a==b):=by
 show((⟨a⟩:Array UInt8) == ⟨b⟩)=(a==b)
 simp
theorem find_spec {key:List UInt8} : ∀ (es:List MapEntry) (cs:List D) (i:Nat),(gC es).length=cs.length→(∀ (i:Nat) (d:D) (v:Value),cs[i]? = some d→(gC es)[i]? = some v→RD M s d v)→
 (∀ z d,wT key z cs=some d→(Instr.findNow .string (.string ⟨⟨key⟩⟩) es i=some none∧d=z)∨∃ (j:Nat) (e:MapEntry),Instr.findNow .string (.string ⟨⟨key⟩⟩) es i=some (some (i+j,e.val))∧RD M s d e.val)∧
 (∀ d iO,vj key d cs=some iO→(Instr.findNow .string (.string ⟨⟨key⟩⟩) es i=some none∧iO=cs++ [.str key,d])∨
  ∃ (j:Nat) (e:MapEntry),Instr.findNow .string (.string ⟨⟨key⟩⟩) es i=some (some (i+j,e.val))∧es[j]? = some e∧e.key = .string ⟨⟨key⟩⟩∧iO=cs.set (2*j+1) d)
 | [],cs,i,hl,hr=>by
  have:cs = []:=by cases cs <;> simp [gC]at hl;rfl
  subst this
  refine⟨fun z d h=> .inl ⟨rfl,by simp [wT]at h;exact h.symm⟩,fun d iO h=> .inl ⟨rfl,by simp [vj]at h;simp [← h]⟩⟩
 | x::es,cs,i,hl,hr=>by
  match cs,hl with
  | [],hl=>simp [gC]at hl
  | [_],hl=>simp [gC]at hl
  | c0::c1::r,hl=>
   simp only [gC,List.length_cons]at hl hr
   have h0:=hr 0 c0 x.key rfl rfl
   have h1:=hr 1 c1 x.val rfl rfl
   obtain⟨ih1,ih2⟩:=find_spec es r (i+1) (by omega) (fun j d v e1 e2=>hr (j+2) d v (by simpa using e1) (by simpa using e2))
   have hky : ∀ k,c0 = .str k→x.key = .string ⟨⟨k⟩⟩∧Instr.findNow .string (.string ⟨⟨key⟩⟩) (x::es) i=if key==k then some (some (i,x.val))else Instr.findNow .string (.string ⟨⟨key⟩⟩) es (i+1):=by
    intro k hk
    subst hk
    have hx:=h0.ku
    refine⟨hx, ?_⟩
    simp only [Instr.findNow,hx,Instr.sameNow,Qf]
    cases hb:key==k <;> simp
   refine⟨fun z d h=> ?_,fun d iO h=> ?_⟩
   ·cases c0 <;> simp only [wT]at h <;> try (cases h;done)
    rename_i k
    obtain⟨k1,k2⟩:=hky k rfl
    rw [k2]
    by_cases xM:k=key
    ·subst xM
     simp at h
     subst h
     exact .inr ⟨0,x,by simp,h1⟩
    ·have e1:(k==key)=false:=by simpa using xM
     have e2:(key==k)=false:=by simpa using fun e:key=k=>xM (Eq.symm e)
     rw [e1]at h
     rw [e2]
     simp only [Bool.false_eq_true, ↓reduceIte]at h ⊢
     rcases ih1 z d h with h2 | ⟨j,e,h2,h3⟩
     ·exact .inl h2
     ·exact .inr ⟨j+1,e,by rw [h2];congr 3;omega,h3⟩
   ·cases c0 <;> simp only [vj]at h <;> try (cases h;done)
    rename_i k
    obtain⟨k1,k2⟩:=hky k rfl
    rw [k2]
    by_cases xM:k=key
    ·subst xM
     simp at h
     subst h
     exact .inr ⟨0,x,by simp,rfl,k1,by simp⟩
    ·have e1:(k==key)=false:=by simpa using xM
     have e2:(key==k)=false:=by simpa using fun e:key=k=>xM (Eq.symm e)
     rw [e1]at h
     rw [e2]
     simp only [Bool.false_eq_true, ↓reduceIte]at h ⊢
     split at h
     ·rename_i r' FW
      cases h
      rcases ih2 d r' FW with ⟨h2,h3⟩ | ⟨j,e,h2,h3,h4,h5⟩
      ·exact .inl ⟨h2,by rw [h3];rfl⟩
      ·refine .inr ⟨j+1,e,by rw [h2];congr 3;omega,by simpa using h3,h4, ?_⟩
       rw [h5,show 2*(j+1)+1=(2*j+1)+1+1 by omega]
       simp only [List.set_cons_succ]
     ·cases h
theorem Rel.Xr (r:Rel M s w) {o:Nat} {cs iO:List D} (he:s.aA[o]? = some cs) (hk:M.ob o = .map) (xN:Array MapEntry) (ck:Nat) (hl:(gC xN.toList).length=iO.length)
 (h1 : ∀ v∈gC xN.toList,v.oneCell'=true) (h2 : ∀ (i:Nat) (d:D) (v:Value),iO[i]? = some d→(gC xN.toList)[i]? = some v→RD M s d v) :
 Rel M {s with aA:=s.aA.set o iO} {w with heap:=w.heap.setIfInBounds (M.mu o) (.map xN ck)}∧Ext M s w M {s with aA:=s.aA.set o iO} {w with heap:=w.heap.setIfInBounds (M.mu o) (.map xN ck)}:=by
 obtain⟨vs,T,hh,hs,⟨mw,SY⟩,oJ⟩:=r.obj o cs he
 rw [hk]at hh
 obtain⟨es,ck0,hh,rr⟩:=hh
 have ho:o<s.aA.length:=(List.getElem?_eq_some_iff.1 he).1
 obtain⟨abo,k6⟩:=heap_set (w:=w) (o':= .map xN ck) hh
 have le:Le M s M {s with aA:=s.aA.set o iO}:=
  ⟨fun _ _ _ h=>h,by simp,fun _ _=>rfl,Nat.le_refl _,fun t n _ h=>⟨n,h,Nat.le_refl _,fun _=>rfl⟩⟩
 refine⟨⟨fun b q v e=> ?_,fun o' ds e=> ?_,fun q hq vk=>r.kz q (by simpa using hq) vk,fun q q' hq qz e=>r.inj q q' (by simpa using hq) (by simpa using qz) e,fun t n e=> ?_,
  fun t b c z q hl e hq=>r.fm t b c z q hl e (by simpa using hq),fun t t' b c z c' z' h h' e e'=>r.fS t t' b c z c' z' h h' e e'⟩, ?_⟩
 ·obtain⟨h3,h4⟩:=r.comm b q v e
  refine⟨?_,h4⟩
  have hb:b≠M.mu o:=fun eq=>by subst eq;rw [r.kz o ho q]at e;cases e
  rw [← h3]
  simp [World.cell?,k6 b hb]
 ·rw [List.getElem?_set]at e
  split at e
  ·rename_i heq
   subst heq
   simp at e
   obtain⟨_,rfl⟩:=e
   refine⟨⟨gC xN.toList⟩,0, ?_,by simpa using hl,⟨fun v hv=>h1 v (by simpa using hv),fun T' h=> ?_⟩,fun i d v e1 e2=>(h2 i d v e1 (by simpa using e2)).mono le⟩
   ·rw [hk];exact⟨xN,ck,abo,rfl⟩
   ·have:M.ty o=none:=by
     have:(M.loc o).2 = .map:=hk
     simp [Map.ty,this,Ob.ty?]
    rw [this]at h;cases h
  ·rename_i fp
   obtain⟨fD,T',h3,h4,h5,h6⟩:=r.obj o' ds e
   have ml:o'<s.aA.length:=(List.getElem?_eq_some_iff.1 e).1
   refine⟨fD,T', ?_,h4,h5,fun i d v e1 e2=>(h6 i d v e1 e2).mono le⟩
   show lJ (w.heap.setIfInBounds (M.mu o) (.map xN ck))[M.mu o']? (M.ob o') _ _
   rw [k6 _ (fun eq=>fp (r.inj o o' ho ml eq.symm))];exact h3
 ·rcases r.tok t n e with h3 | ⟨b,cap,size,fD,T',h3,h4,h5⟩
  ·exact .inl h3
  ·refine .inr ⟨b,cap,size,fD,T',h3, ?_,h5⟩
   show(w.heap.setIfInBounds (M.mu o) (.map xN ck))[b]? = _
   rw [k6 b (fun eq=>r.fm t b cap size o ⟨n,e⟩ h3 ho eq.symm)];exact h4
 ·refine⟨le,fun b hb h3 _=>k6 b (fun eq=>h3 o ho eq.symm),fun q h3 h4=> ?_,fun t b c z h e=> .inl ⟨h,c,z,e⟩,fun _ _ h=>(h rfl).elim,by simp,rfl,rfl,rfl⟩
  simp at h4;omega
theorem ry (l:List UInt8):IsKey .string (.string ⟨⟨l⟩⟩):=by simp [IsKey]
theorem Kb (r:Rel M s w) {t kt e:TypeId} (ht:P.underlying t=some (.map kt e)):dw P M s w (do pure (.value (← Instr.makeMap t none))) (.gk s.aA.length) {s with aA:=s.aA++ [[]]}:=by
 obtain⟨r',e'⟩:=r.MB [] (.map #[] 0) #[] 0 .map ⟨#[],0,rfl,rfl⟩ (fun _ h=>by cases h) rfl (by simp) (by simp)
 have hm:(M.dQ s.aA.length w.heap.size .map).mu s.aA.length=w.heap.size:=by simp [Map.dQ,Map.mu]
 have hv:=RD.gk (M:=M.dQ s.aA.length w.heap.size .map) (s:= {s with aA:=s.aA++ [[]]}) s.aA.length (by simp) (by simp [Map.dQ,Map.ob])
 rw [hm]at hv
 refine⟨_,_,_, .inl ?_,r',hv,e'⟩
 simp only [Instr.makeMap,newObj,Sem.run_bind,Sem.run_pure,Sem.run,Result.andThen_ok]
 rfl
theorem Kc (r:Rel M s w) {t kt e:TypeId} {i:TypeInfo} {z:Value} {zd:D} (ht:P.underlying t=some (.map kt e)) (hk:P.underlying kt=some .string) (hi:P.info? e=some i) (hz:i.zero=some z) (Xs:qE z=some zd)
 {o:Nat} {key:List UInt8} {cs:List D} {d:D} (vV:M.ob o = .map) (ho:s.aA[o]? = some cs) (hg:wT key zd cs=some d) :
 dw P M s w (do pure (.value (← Instr.lookup t (.map (some (M.mu o))) (.string ⟨⟨key⟩⟩) false))) d s:=by
 obtain⟨vs,T,hh,hs,⟨mw,SY⟩,oJ⟩:=r.obj o cs ho
 rw [vV]at hh
 obtain⟨es,ck,hh,rr⟩:=hh
 have A6 : ∀ (i:Nat) (d:D) (v:Value),cs[i]? = some d→(gC es.toList)[i]? = some v→RD M s d v:=fun i d v e1 e2=>oJ i d v e1 (by rw [← rr]at e2;simpa using e2)
 have hzv:(zeroValue e).run P w = .ok z w:=by simp [zeroValue,gH P hi,hz]
 rcases(find_spec es.toList cs 0 (by rw [← rr];simpa using hs) A6).1 zd d hg with ⟨h1,rfl⟩ | ⟨j,en,h1,h2⟩
 ·refine dw.pure (v:=z) r ?_ (oX Xs).1
  simp [Instr.lookup,run_underlying ht,MapKept.run_getObj_map hh,run_checkKey hk (ry key),run_findKey hk h1,hzv]
 ·refine dw.pure (v:=en.val) r ?_ h2
  simp [Instr.lookup,run_underlying ht,MapKept.run_getObj_map hh,run_checkKey hk (ry key),run_findKey hk h1]
theorem MS (r:Rel M s w) {t kt e:TypeId} (ht:P.underlying t=some (.map kt e)) (hk:P.underlying kt=some .string)
 {o:Nat} {key:List UInt8} {cs iO:List D} {d:D} {v:Value} (vV:M.ob o = .map) (ho:s.aA[o]? = some cs) (hv:RD M s d v) (BJ:v.oneCell'=true) (hg:vj key d cs=some iO) :
 dw P M s w (do Instr.mapUpdate t (.map (some (M.mu o))) (.string ⟨⟨key⟩⟩) v;pure .skip) (.tuple []) {s with aA:=s.aA.set o iO}:=by
 obtain⟨vs,T,hh,hs,⟨mw,SY⟩,oJ⟩:=r.obj o cs ho
 rw [vV]at hh
 obtain⟨es,ck,hh,rr⟩:=hh
 have A6 : ∀ (i:Nat) (d:D) (v:Value),cs[i]? = some d→(gC es.toList)[i]? = some v→RD M s d v:=fun i d v e1 e2=>oJ i d v e1 (by rw [← rr]at e2;simpa using e2)
 have hl:(gC es.toList).length=cs.length:=by rw [← rr];simpa using hs
 have Ta : ∀ v∈gC es.toList,v.oneCell'=true:=fun v hv=>mw v (by rw [← rr]at hv;simpa using hv)
 rcases(find_spec es.toList cs 0 hl A6).2 d iO hg with ⟨h1,rfl⟩ | ⟨j,en,h1,h2,h3,rfl⟩
 ·obtain⟨r',e'⟩:=r.Xr (iO:=cs++ [.str key,d]) ho vV (es.push {key:= .string ⟨⟨key⟩⟩,val:=v,born:=ck}) (ck+1) (by simp [uy,gC,hl]) (fun u hu=>by
   simp only [Array.toList_push,uy,gC,List.mem_append,List.mem_cons,List.not_mem_nil,or_false]at hu
   rcases hu with hu | rfl | rfl
   ·exact Ta u hu
   ·rfl
   ·exact BJ) (fun i d' u e1 e2=>by
   simp only [Array.toList_push,uy,gC]at e2
   rcases Nat.lt_or_ge i cs.length with hi | hi
   ·rw [List.getElem?_append_left hi]at e1
    rw [List.getElem?_append_left (by omega)]at e2
    exact A6 i d' u e1 e2
   ·rw [List.getElem?_append_right hi]at e1
    rw [List.getElem?_append_right (by omega),hl]at e2
    match i - cs.length,e1,e2 with
    | 0,e1,e2=>simp at e1 e2;subst e1 e2;exact .str _
    | 1,e1,e2=>simp at e1 e2;subst e1 e2;exact hv
    | k+2,e1,e2=>simp at e1)
  refine⟨Go.undef,_,M, .inr ⟨?_,rfl⟩,r', .undef,e'⟩
  simp [Instr.mapUpdate,run_underlying ht,MapKept.run_getObj_map hh,run_checkKey hk (ry key),run_findKey hk h1,MapKept.run_setObj_map _ hh]
 ·simp only [Nat.zero_add]at h1
  have hj:es[j]? = some en:=by simpa using h2
  have Qg:(es.modify j fun e=> {e with key:= .string ⟨⟨key⟩⟩,val:=v}).toList=es.toList.set j {en with key:= .string ⟨⟨key⟩⟩,val:=v}:=by
   apply List.ext_getElem?
   intro i
   rw [Array.getElem?_toList,Array.getElem?_modify,List.getElem?_set]
   by_cases Tb:j=i
   ·subst Tb
    have:j<es.size:=by have:=(List.getElem?_eq_some_iff.1 h2).1;simpa using this
    simp [hj,this]
    have:=(Array.getElem?_eq_some_iff.1 hj).2
    rw [this]
   ·simp [Tb]
  have qB:=DP es.toList j en (.string ⟨⟨key⟩⟩) v h2 h3
  obtain⟨r',e'⟩:=r.Xr (iO:=cs.set (2*j+1) d) ho vV (es.modify j fun e=> {e with key:= .string ⟨⟨key⟩⟩,val:=v}) ck (by rw [Qg,qB];simp [hl]) (fun u hu=>by
   rw [Qg,qB]at hu
   rcases List.mem_or_eq_of_mem_set hu with hu | rfl
   ·exact Ta u hu
   ·exact BJ) (fun i d' u e1 e2=>by
   rw [Qg,qB,List.getElem?_set]at e2
   rw [List.getElem?_set]at e1
   by_cases hi:2*j+1=i
   ·rw [if_pos hi]at e1 e2
    split at e1
    ·split at e2
     ·cases e1;cases e2;exact hv
     ·cases e2
    ·cases e1
   ·rw [if_neg hi]at e1 e2
    exact A6 i d' u e1 e2)
  refine⟨Go.undef,_,M, .inr ⟨?_,rfl⟩,r', .undef,e'⟩
  simp [Instr.mapUpdate,run_underlying ht,MapKept.run_getObj_map hh,run_checkKey hk (ry key),run_findKey hk h1,hj,h3,run_keyThatStays (ry key),MapKept.run_setObj_map _ hh]
end
end Go.Abs

/-! Sound8 -/

namespace Go.Abs
section
variable {P:Program} {M:Map} {s:St} {w:World}
theorem Je {tm:Tm} {act:Act} (hr:k7 M s tm act.tmps) : ∀ {l:List Operand} {xs:List X},vU l=some xs→
 xs.length=l.length∧∀ (i:Nat) (d:D) (v:Value),(xs.map (·.ev tm))[i]? = some d→(l.map act.eval)[i]? = some v→RD M s d v
 | [],xs,h=>by cases h;exact⟨rfl,by simp⟩
 | x::l,xs,h=>by
  unfold vU at h
  split at h
  ·rename_i x' r' h1 h2
   cases h
   obtain⟨g1,g2⟩:=Je hr h2
   refine⟨by simp [g1],fun i d v e1 e2=> ?_⟩
   cases i with
   | zero=>simp at e1 e2;subst e1;subst e2;exact cj h1 hr
   | succ i=>exact g2 i d v (by simpa using e1) (by simpa using e2)
  ·cases h
theorem MT {lo:Option Operand} {DQ:Option X} {tm:Tm} {act:Act} (hr:k7 M s tm act.tmps) (h:SU lo=some DQ) {l:Int} (hl:yl (DQ.map (·.ev tm))=some l):S1 (lo.map act.eval) l:=by
 cases lo with
 | none=>cases h;simp only [Option.map_none,yl,Option.some.injEq]at hl;exact .inl ⟨rfl,hl.symm⟩
 | some x=>
  obtain⟨y,hy,rfl⟩:=map_some (f:=some) h
  have:=cj hy hr
  simp only [Option.map_some]at hl ⊢
  cases hd:y.ev tm <;> rw [hd]at hl this <;> simp only [yl]at hl <;> try (cases hl;done)
  cases hl
  rw [this.jf]
  exact .inr ⟨_,rfl⟩
theorem MU {hi:Option Operand} {gF:Option X} {tm:Tm} {act:Act} (hr:k7 M s tm act.tmps) (h:SU hi=some gF) {len:Nat} {l:Int} (hl:ym (gF.map (·.ev tm)) len=some l):S2 (hi.map act.eval) len l:=by
 cases hi with
 | none=>cases h;simp only [Option.map_none,ym,Option.some.injEq]at hl;exact .inl ⟨rfl,hl.symm⟩
 | some x=>
  obtain⟨y,hy,rfl⟩:=map_some (f:=some) h
  have:=cj hy hr
  simp only [Option.map_some]at hl ⊢
  cases hd:y.ev tm <;> rw [hd]at hl this <;> simp only [ym]at hl <;> try (cases hl;done)
  cases hl
  rw [this.jf]
  exact .inr ⟨_,rfl⟩
theorem Ke {t:TypeId} {f off size:Nat} {agg:Bool} (h:lq P t f=some (off,size,agg)) {cs:List D} {vs:Array Value} (hl:cs.length=vs.size) (h1 : ∀ v∈vs,v.oneCell'=true)
 (h2 : ∀ (i:Nat) (d:D) (v:Value),cs[i]? = some d→vs[i]? = some v→RD M s d v) {d:D} (hp:part cs off agg size=some d) (r:Rel M s w) :
 dw P M s w (do pure (.value (← Instr.field t (.agg vs) f))) d s:=by
 let n:=if agg then size else 1
 have kB:off+n≤vs.size:=by
  rcases rn hp with ⟨rfl,h1,_⟩ | ⟨rfl,h1⟩
  ·simp [n];omega
  ·have:=(List.getElem?_eq_some_iff.1 h1).1;simp [n];omega
 have hlen:((vs.toList.drop off).take n).length=n:=by simp;omega
 have hY : ∀ (j:Nat),j<((vs.toList.drop off).take n).length→vs[off+j]? = ((vs.toList.drop off).take n)[j]? :=by
  intro j h
  rw [hlen]at h
  rw [List.getElem?_take,if_pos h,List.getElem?_drop];simp
 refine dw.pure (v:=if agg then .agg ((vs.toList.drop off).take n).toArray else((vs.toList.drop off).take n).getD 0 Go.undef) r (by simp only [Sem.run_bind,MF h vs _ hlen hY,Result.andThen_ok,Sem.run_pure]) ?_
 refine sD hp _ hlen (fun _ u hu=>h1 u (Array.mem_toList_iff.1 (List.mem_of_mem_drop (List.mem_of_mem_take hu)))) (fun j d u e1 e2=>h2 _ d u e1 ?_)
 rw [hY j (List.getElem?_eq_some_iff.1 e2).1];exact e2
theorem qU {o:Oper} {ao:AO} {tm:Tm} {act:Act} {d:D} {s':St} (hc:Bv P o=some ao) (r:Rel M s w) (hr:k7 M s tm act.tmps) (he:aS ao tm s=some (d,s')) :
 dw P M s w (execOp act.eval o) d s':=by
 obtain⟨dst,op,type,pos,after,guard⟩:=o
 unfold Bv at hc
 simp only at hc
 cases op with
 | move x=>
  obtain⟨y,hy,rfl⟩:=map_some hc
  cases he
  exact dw.pure r rfl (cj hy hr)
 | assign x=>
  obtain⟨y,hy,rfl⟩:=map_some hc
  cases he
  exact dw.pure r rfl (cj hy hr)
 | pick c a b=>
  simp only at hc
  split at hc
  ·rename_i c' a' b' h1 h2 h3
   cases hc
   simp only [aS]at he
   split at he
   ·rename_i t ht
    cases he
    have hcb:=cj h1 hr
    rw [ht]at hcb
    have:=hcb.my
    refine dw.pure (v:=if t then act.eval a else act.eval b) r ?_ ?_
    ·simp only [execOp,this,asBool]
     simp
    ·cases t
     ·exact cj h3 hr
     ·exact cj h2 hr
   ·cases he
  ·cases hc
 | alloc t=>
  simp only at hc
  split at hc
  ·obtain⟨z,hz,rfl⟩:=map_some hc
   simp only [aS]at he
   split at he
   ·cases he;exact Ih r hz
   ·cases he
  ·obtain⟨z,hz,rfl⟩:=map_some hc
   cases he
   exact JW r hz
 | box t x=>
  simp only at hc
  split at hc
  ·obtain⟨y,hy,rfl⟩:=map_some hc
   simp only [aS]at he
   split at he
   ·rename_i row ep
    cases he
    exact ME r (cj hy hr) ep
   ·cases he
  ·obtain⟨y,hy,rfl⟩:=map_some hc
   simp only [aS]at he
   split at he
   ·rename_i row ep
    cases he
    exact P5 r (cj hy hr) ep
   ·cases he
 | build t parts=>
  simp only at hc
  split at hc
  ·rename_i fs z ps h1 h2 h3
   split at hc
   ·rename_i BH
    cases hc
    simp only [aS]at he
    split at he
    ·rename_i cs pR
     cases he
     have:=J9 r hr h1 BH h2 h3 pR
     simpa [execOp]using this
    ·cases he
   ·cases hc
  ·cases hc
 | buildSlice t n parts=>
  simp only at hc
  split at hc
  ·rename_i e hu
   split at hc
   ·rename_i i z ps h1 h2 h3
    split at hc
    ·rename_i lu
     cases hc
     simp only [aS]at he
     split at he
     ·rename_i rows kJ
      cases he
      obtain⟨vs,T,g1,g2,g3,g4⟩:=Ay r hr hu h1 h2 lu.1 lu.2 h3 kJ
      obtain⟨f1,f2,f3⟩:=J4 r T g1
      refine⟨_,_,_, .inl ?_,f2,f1,f3⟩
      simp only [Array.toArray_toList]at g4
      simp only [execOp,Sem.run_bind,g4,Result.andThen_ok,Sem.run_pure]
      rw [g2]
     ·cases he
    ·cases hc
   ·cases hc
  ·cases hc
 | load t x=>
  simp only at hc
  split at hc
  ·rename_i y a i h1 h2 h3
   cases hc
   have hx:=cj h1 hr
   simp only [aS]at he
   split at he
   ·rename_i o off ho
    rw [ho]at hx
    have F1:=hx.yp
    obtain⟨hv,_⟩:=hx.qG
    split at he
    ·rename_i cs pR
     split at he
     ·rename_i d' pz
      cases he
      have:=ET r h3 h2 pR F1 pz
      simp only [execOp,hv]
      exact this
     ·cases he
    ·cases he
   ·rename_i row off ho
    rw [ho]at hx
    obtain⟨b,k,hv,g1,g2⟩:=hx.wW
    split at he
    ·rename_i d' pz
     cases he
     have:=EU r h3 h2 g1 g2 pz
     simp only [execOp,hv]
     exact this
    ·cases he
   ·cases he
  ·cases hc
 | store t a x=>
  simp only at hc
  split at hc
  ·rename_i a' x' i h1 h2 h3
   cases hc
   have ha:=cj h1 hr
   have hx:=cj h2 hr
   simp only [aS]at he
   split at he
   ·rename_i o off row ho ep
    rw [ho]at ha
    have F1:=ha.yp
    obtain⟨hv,_⟩:=ha.qG
    split at he
    ·rename_i cs pR
     split at he
     ·rename_i kB
      cases he
      have:=JX r h3 pR F1 hx ep kB.1 kB.2
      simp only [execOp,hv]
      exact this
     ·cases he
    ·cases he
   ·cases he
  ·cases hc
 | nilCheck x=>
  obtain⟨y,hy,rfl⟩:=map_some hc
  have hx:=cj hy hr
  simp only [aS]at he
  split at he
  ·rename_i o off ho
   cases he
   rw [ho]at hx
   have hv:=hx.qG.1
   rw [hv]at hx
   simp only [execOp,hv]
   exact By r hx
  ·rename_i row off ho
   cases he
   rw [ho]at hx
   obtain⟨b,k,hv,_⟩:=hx.wW
   rw [hv]at hx
   simp only [execOp,hv]
   exact By r hx
  ·cases he
 | binOp op t x y yt=>
  simp only at hc
  split at hc
  ·rename_i x' y' h1 h2
   have hx:=cj h1 hr
   have hy:=cj h2 hr
   have fin : ∀ d',vi op (x'.ev tm) (y'.ev tm)=some d'→(d',s)=(d,s')→dw P M s w (execOp act.eval ⟨dst, .binOp op t x y yt,type,pos,after,guard⟩) d s':=by
    intro d' pz heq
    cases heq
    exact P6 r hx hy pz
   have Xt:(match vi op (x'.ev tm) (y'.ev tm)with | some d=>some (d,s) | none=>none)=some (d,s')→dw P M s w (execOp act.eval ⟨dst, .binOp op t x y yt,type,pos,after,guard⟩) d s':=by
    intro h
    split at h
    ·rename_i d' pz
     exact fin d' pz (by cases h;rfl)
    ·cases h
   have Xu : ∀ neg,op=(if neg then .neq else .eql)→P.underlying t=some .bool→aS (.As neg x' y') tm s=some (d,s')→dw P M s w (execOp act.eval ⟨dst, .binOp op t x y yt,type,pos,after,guard⟩) d s':=by
    intro neg lE ht h
    simp only [aS]at h
    split at h
    ·rename_i p q hp hq
     cases h
     rw [hp]at hx;rw [hq]at hy
     simp only [execOp,hx.my,hy.my,lE]
     exact P7 r ht
    ·cases h
   have Xv : ∀ neg e,op=(if neg then .neq else .eql)→P.underlying t=some (.pointer e)→aS (.DJ neg x' y') tm s=some (d,s')→dw P M s w (execOp act.eval ⟨dst, .binOp op t x y yt,type,pos,after,guard⟩) d s':=by
    intro neg e lE ht h
    simp only [aS]at h
    split at h
    ·rename_i hp hq
     cases h
     rw [hp]at hx;rw [hq]at hy
     simp only [execOp,hx.qF,hy.qF,lE]
     have:=A3 r (neg:=neg) (x:=x) (y:=y) (a:=none) ht
     cases neg <;> simpa using this
    ·rename_i o off hp hq
     cases h
     rw [hp]at hx;rw [hq]at hy
     simp only [execOp,hx.qG.1,hy.qF,lE]
     have:=A3 r (neg:=neg) (x:=x) (y:=y) (a:=some ⟨M.mu o,off,none⟩) ht
     cases neg <;> simpa using this
    ·rename_i row off hp hq
     cases h
     rw [hp]at hx;rw [hq]at hy
     obtain⟨b,k,hv,_⟩:=hx.wW
     simp only [execOp,hv,hy.qF,lE]
     have:=A3 r (neg:=neg) (x:=x) (y:=y) (a:=some ⟨b,k+off,none⟩) ht
     cases neg <;> simpa using this
    ·cases h
   have Xw : ∀ neg ks,op=(if neg then .neq else .eql)→oI P t=some ks→aS (.eqs neg ks x' y') tm s=some (d,s')→dw P M s w (execOp act.eval ⟨dst, .binOp op t x y yt,type,pos,after,guard⟩) d s':=by
    intro neg ks lE ht h
    simp only [aS]at h
    split at h
    ·rename_i p q hp hq
     split at h
     ·rename_i e' he'
      cases h
      rw [hp]at hx;rw [hq]at hy
      simp only [execOp,lE]
      exact P9 r ht hx hy he'
     ·cases h
    ·cases h
   split at hc
   ·cases hc;exact Xt he
   ·cases hc;exact Xt he
   ·rename_i hu;cases hc;exact Xu false rfl hu he
   ·rename_i hu;cases hc;exact Xu true rfl hu he
   ·rename_i hu;cases hc;exact Xv false _ rfl hu he
   ·rename_i hu;cases hc;exact Xv true _ rfl hu he
   ·obtain⟨ks,hk,rfl⟩:=map_some hc;exact Xw false ks rfl hk he
   ·obtain⟨ks,hk,rfl⟩:=map_some hc;exact Xw true ks rfl hk he
   ·cases hc
  ·cases hc
 | unOp op t x=>
  obtain⟨y,hy,rfl⟩:=map_some hc
  have hx:=cj hy hr
  simp only [aS]at he
  split at he
  ·rename_i d' pz
   cases he
   unfold FM at pz
   split at pz
   ·rename_i k n hk
    cases pz
    rw [hk]at hx
    exact dw.pure (v:= .int k (k.wrap (0 - n))) r (by simp [execOp,hx.jf,Op.unary,Op.intArith]) (.int _ _)
   ·rename_i b hb
    cases pz
    rw [hb]at hx
    exact dw.pure (v:= .bool (!b)) r (by simp [execOp,hx.my,Op.unary]) (.bool _)
   ·cases pz
  ·cases he
 | convert src atO x=>
  simp only at hc
  split at hc
  ·rename_i y k1 k h1 h2 h3
   cases hc
   have hx:=cj h1 hr
   simp only [aS]at he
   split at he
   ·rename_i k2 n hn
    cases he
    rw [hn]at hx
    refine dw.pure (v:= .int k (k.wrap n)) r ?_ (.int _ _)
    simp [execOp,hx.jf,convert,run_underlying h2,run_underlying h3,Conv.intToInt]
   ·cases he
  ·rename_i y e h1 h2 h3
   split at hc
   ·rename_i h4
    cases hc
    have hx:=cj h1 hr
    simp only [aS]at he
    split at he
    ·rename_i g z rows kJ
     split at he
     ·rename_i b hb
      cases he
      rw [kJ]at hx
      exact Ka r h2 h4 h3 hx hb
     ·cases he
    ·cases he
   ·cases hc
  ·rename_i y e e2 h1 h2 h3
   split at hc
   ·rename_i h4
    split at hc
    ·rename_i Tc
     cases hc
     subst Tc
     have hx:=cj h1 hr
     simp only [aS]at he
     split at he
     ·rename_i t z rows kJ
      split at he
      ·rename_i lu
       cases he
       rw [kJ]at hx
       exact Qd r h2 h4 hx lu.1 lu.2
      ·cases he
     ·cases he
    ·cases hc
   ·cases hc
  ·rename_i y e h1 h2 h3
   split at hc
   ·rename_i i h4 h5
    split at hc
    ·cases hc
     have hx:=cj h1 hr
     simp only [aS]at he
     split at he
     ·rename_i l hl
      cases he
      rw [hl]at hx
      simp only [execOp,hx.ku]
      exact F0 r h2 h3 h4
     ·cases he
    ·cases hc
   ·cases hc
  ·cases hc
 | slice t x lo hi mx=>
  cases mx with
  | some m=>cases hc
  | none=>
   simp only at hc
   split at hc
   ·rename_i y DQ gF h1 h2 h3 h4
    cases hc
    have hx:=cj h1 hr
    simp only [aS]at he
    split at he
    ·rename_i u hu
     rw [hu]at hx
     split at he
     ·rename_i l h hl hh
      split at he
      ·rename_i lu
       cases he
       have:=MI r h4 (MT hr h2 hl) (MU hr h3 hh) lu.1 lu.2.1 lu.2.2
       simp only [execOp,hx.ku,Option.map_none]
       exact this
      ·cases he
     ·cases he
    ·cases he
   ·rename_i y DQ gF e h1 h2 h3 h4
    split at hc
    ·rename_i i MJ
     cases hc
     have hx:=cj h1 hr
     simp only [aS]at he
     split at he
     ·rename_i g z rows kJ
      rw [kJ]at hx
      split at he
      ·rename_i l h hl hh
       split at he
       ·rename_i lu
        cases he
        have:=Qb r h4 MJ lu.1 hx (MT hr h2 hl) (MU hr h3 hh) lu.2.1 lu.2.2.1 lu.2.2.2
        simp only [execOp,Option.map_none]
        exact this
       ·cases he
      ·cases he
     ·cases he
    ·cases hc
   ·cases hc
 | fieldAddr t x f=>
  simp only at hc
  split at hc
  ·rename_i y off size a h1 h2
   cases hc
   have hx:=cj h1 hr
   simp only [aS]at he
   split at he
   ·rename_i o k ho
    cases he
    rw [ho]at hx
    have F1:=hx.yp
    obtain⟨hv,hP⟩:=hx.qG
    refine dw.pure (v:= .pointer (some ⟨M.mu o,k+off,none⟩)) r ?_ (.ptr _ _ hP F1)
    simp only [execOp,hv,Sem.run_bind,DM h2,Result.andThen_ok,Sem.run_pure]
   ·rename_i row k ho
    cases he
    rw [ho]at hx
    obtain⟨b,q,hv,g1,g2⟩:=hx.wW
    refine dw.pure (v:= .pointer (some ⟨b,q+(k+off),none⟩)) r ?_ (.dI _ _ _ _ g1 g2)
    simp only [execOp,hv,Sem.run_bind,DM h2,Result.andThen_ok,Sem.run_pure,Nat.add_assoc]
   ·cases he
  ·cases hc
 | field t x f=>
  simp only at hc
  split at hc
  ·rename_i y off size a h1 h2
   cases hc
   have hx:=cj h1 hr
   simp only [aS]at he
   split at he
   ·rename_i cs pR
    split at he
    ·rename_i d' pz
     cases he
     rw [pR]at hx
     obtain⟨vs,hv,g1,g2,g3⟩:=hx.CQ
     simp only [execOp,hv]
     exact Ke h2 g1 g2 g3 pz r
    ·cases he
   ·cases he
  ·cases hc
 | indexAddr t x i=>
  simp only at hc
  split at hc
  ·rename_i y j e h1 h2 h3
   split at hc
   ·rename_i inf Qh
    split at hc
    ·cases hc
     have hx:=cj h1 hr
     have hj:=cj h2 hr
     simp only [aS]at he
     split at he
     ·rename_i g z rows k n kJ hn
      split at he
      ·rename_i lu
       obtain⟨F2,hz⟩:=lu
       subst hz
       split at he
       ·rename_i row ep
        cases he
        rw [kJ]at hx;rw [hn]at hj
        simp only [execOp,hj.jf]
        exact J3 r h3 Qh hx F2 ep
       ·cases he
      ·cases he
     ·cases he
    ·cases hc
   ·cases hc
  ·cases hc
 | index t x i=>
  simp only at hc
  split at hc
  ·rename_i y j h1 h2 h3
   cases hc
   have hx:=cj h1 hr
   have hj:=cj h2 hr
   simp only [aS]at he
   split at he
   ·rename_i l k n hl hn
    split at he
    ·rename_i F2
     split at he
     ·rename_i c Xx
      cases he
      rw [hl]at hx;rw [hn]at hj
      simp only [execOp,hj.jf,hx.ku]
      exact MH r h3 F2 Xx
     ·cases he
    ·cases he
   ·cases he
  ·cases hc
 | extract x i=>
  obtain⟨y,hy,rfl⟩:=map_some hc
  have hx:=cj hy hr
  simp only [aS]at he
  split at he
  ·rename_i ds BK
   split at he
   ·rename_i d' pz
    cases he
    rw [BK]at hx
    obtain⟨vs,hv,g1,g2⟩:=hx.DL
    have hP:=(List.getElem?_eq_some_iff.1 pz).1
    have F3:vs[i]? = some vs[i]:=Array.getElem?_eq_getElem (by omega)
    refine dw.pure (v:=vs[i]) r ?_ (g2 i _ _ pz F3)
    simp [execOp,hv,Instr.extract,F3]
   ·cases he
  ·cases he
 | call c=>
  obtain⟨callee,args,mO⟩:=c
  cases callee with
  | value f=>cases hc
  | invoke f m=>cases hc
  | builtin bi=>
   have two : ∀ {x y:Operand} {x' y':X} {isMax:Bool},cX x=some x'→cX y=some y'→bi=(if isMax then .max else .min)→args.toList = [x,y]→aS (.mm isMax x' y') tm s=some (d,s')→
    dw P M s w (execOp act.eval ⟨dst, .call ⟨.builtin bi,args,mO⟩,type,pos,after,guard⟩) d s':=by
    intro x y x' y' isMax h1 h2 hb ha h
    have jH:args = #[x,y]:=by rw [← Array.toArray_toList (xs:=args),ha]
    subst jH
    have hx:=cj h1 hr
    have hy:=cj h2 hr
    simp only [aS]at h
    split at h
    ·rename_i k a k' b uz F1
     split at h
     ·rename_i xM
      subst xM
      cases h
      rw [uz]at hx;rw [F1]at hy
      refine dw.pure (v:= .int k (if isMax then(if b > a then b else a)else(if b<a then b else a))) r ?_ (.int _ _)
      subst hb
      cases isMax
      ·simp [execOp,resolve,invoke,builtin,Builtin.min_,Builtin.min2,hx.jf,hy.jf]
      ·simp [execOp,resolve,invoke,builtin,Builtin.max_,Builtin.max2,hx.jf,hy.jf]
     ·cases h
    ·cases h
   cases bi <;> simp only at hc <;> try (cases hc;done)
   case append=>
    split at hc
    ·rename_i x y t u ha sn
     split at hc
     ·rename_i e e' x' y' h1 h2 h3 h4
      split at hc
      ·rename_i i z hi hz
       split at hc
       ·rename_i yw
        cases hc
        have jH:args = #[x,y]:=by rw [← Array.toArray_toList (xs:=args),ha]
        have F4:mO = #[t,u]:=by rw [← Array.toArray_toList (xs:=mO),sn]
        subst jH;subst F4
        obtain⟨i',v,g1,g2,g3,g4⟩:=vm hz
        rw [hi]at g1;cases g1
        have Td:=td (M:=M) (s:=s) g4
        split at he
        ·rename_i hb
         obtain⟨rfl,F5,Xy⟩:=hb
         obtain⟨v',w',M',f1,f2,f3,f4⟩:=J6 (ty:=type) r h1 h2 hi g2 F5 Xy g3 Td.2.1 (cj h3 hr) (cj h4 hr) he
         refine⟨v',w',M', .inl ?_,f2,f3,f4⟩
         simp [execOp,resolve,invoke,builtin,f1]
        ·obtain⟨v',w',M',f1,f2,f3,f4⟩:=MP (ty:=type) r h1 h2 hi g2 g3 Td.2.1 (cj h3 hr) (cj h4 hr) yw he
         refine⟨v',w',M', .inl ?_,f2,f3,f4⟩
         simp [execOp,resolve,invoke,builtin,f1]
       ·cases hc
      ·cases hc
     ·rename_i e x' y' h1 h2 h3 h4
      split at hc
      ·rename_i i z hi hz
       split at hc
       ·rename_i hb
        cases hc
        obtain⟨rfl,F5,Xy⟩:=hb
        have jH:args = #[x,y]:=by rw [← Array.toArray_toList (xs:=args),ha]
        have F4:mO = #[t,u]:=by rw [← Array.toArray_toList (xs:=mO),sn]
        subst jH;subst F4
        obtain⟨i',v,g1,g2,g3,g4⟩:=vm hz
        rw [hi]at g1;cases g1
        have Td:=td (M:=M) (s:=s) g4
        have hy:=cj h4 hr
        simp only [aS]at he
        split at he
        ·rename_i l hl
         rw [hl]at hy
         obtain⟨v',w',M',f1,f2,f3,f4⟩:=J7 (ty:=type) r h1 h2 hi g2 F5 Xy g3 Td.2.1 (cj h3 hr) he
         refine⟨v',w',M', .inl ?_,f2,f3,f4⟩
         simp [execOp,resolve,invoke,builtin,hy.ku,f1]
        ·cases he
       ·cases hc
      ·cases hc
     ·cases hc
    ·cases hc
   case len=>
    split at hc
    ·rename_i x t ha sn
     have jH:args = #[x]:=by rw [← Array.toArray_toList (xs:=args),ha]
     have F4:mO = #[t]:=by rw [← Array.toArray_toList (xs:=mO),sn]
     subst jH;subst F4
     have hex:execOp act.eval ⟨dst, .call ⟨.builtin .len, #[x], #[t]⟩,type,pos,after,guard⟩=(do pure (.value (← Builtin.len_ #[t] type #[act.eval x]))):=by
      simp [execOp,resolve,invoke,builtin]
     rw [hex]
     split at hc
     ·rename_i ht
      obtain⟨y,hy,rfl⟩:=map_some hc
      have hx:=cj hy hr
      simp only [aS]at he
      split at he
      ·rename_i l hl
       cases he
       rw [hl]at hx
       rw [hx.ku]
       exact FR r ht
      ·cases he
     ·rename_i e ht
      obtain⟨y,hy,rfl⟩:=map_some hc
      have hx:=cj hy hr
      simp only [aS]at he
      split at he
      ·rename_i g z rows kJ
       cases he
       rw [kJ]at hx
       rcases hx.il with ⟨h0,hv,_⟩ | ⟨h0,_,a,cap,hv⟩ | ⟨b,q,cap,hv,_⟩
       ·rw [hv,h0];exact qI r ht
       ·rw [hv,h0];exact qI r ht
       ·rw [hv];exact qI r ht
      ·cases he
     ·cases hc
    ·cases hc
   case max=>
    split at hc
    ·rename_i x y ha
     split at hc
     ·rename_i x' y' h1 h2
      cases hc
      exact two (isMax:=true) h1 h2 rfl ha he
     ·cases hc
    ·cases hc
   case min=>
    split at hc
    ·rename_i x y ha
     split at hc
     ·rename_i x' y' h1 h2
      cases hc
      exact two (isMax:=false) h1 h2 rfl ha he
     ·cases hc
    ·cases hc
 | makeFunc fn first captured=>
  cases fn <;> simp only at hc <;> try (cases hc;done)
  split at hc
  ·rename_i f h0
   obtain⟨xs,nq,rfl⟩:=map_some hc
   simp only [aS,Option.some.injEq,Prod.mk.injEq]at he
   obtain⟨rfl,rfl⟩:=he
   obtain⟨c1,c2⟩:=Je hr nq
   have hf:first = #[]:=Array.eq_empty_of_size_eq_zero h0
   subst hf
   refine dw.pure (v:= .func (.func f) #[] (captured.map act.eval)) r ?_ (.gn _ _ _ (by simp [c1]) (fun i d v e1 e2=>c2 i d v e1 (by simpa using e2)))
   simp [execOp,Instr.makeFunc]
  ·cases hc
 | makeMap t rv=>
  cases rv with
  | none=>
   simp only at hc
   split at hc
   ·rename_i ht
    cases hc
    simp only [aS,Option.some.injEq,Prod.mk.injEq]at he
    obtain⟨rfl,rfl⟩:=he
    simp only [execOp,Option.map_none]
    exact Kb r ht
   ·cases hc
  | some x=>cases hc
 | mapUpdate t m k v=>
  simp only at hc
  split at hc
  ·rename_i kt et m' k' v' ht h1 h2 h3
   split at hc
   ·rename_i Xz
    cases hc
    have hm:=cj h1 hr
    have hk:=cj h2 hr
    have hv:=cj h3 hr
    simp only [aS]at he
    split at he
    ·rename_i o key g z rows ho Qi kJ
     rw [ho]at hm;rw [Qi]at hk;rw [kJ]at hv
     obtain⟨XA,hP,vV⟩:=hm.FQ
     split at he
     ·rename_i cs pR
      split at he
      ·rename_i iO aeB
       cases he
       have BJ:(act.eval v).oneCell'=true:=by
        rcases hv.il with ⟨_,h,_⟩ | ⟨_,_,a,cap,h⟩ | ⟨b,q,cap,h,_⟩ <;> rw [h] <;> rfl
       simp only [execOp,XA,hk.ku]
       exact MS r ht Xz vV pR hv BJ aeB
      ·cases he
     ·cases he
    ·cases he
   ·cases hc
  ·cases hc
 | lookup t m k ok=>
  cases ok <;> simp only at hc <;> try (cases hc;done)
  split at hc
  ·rename_i kt et m' k' ht h1 h2
   split at hc
   ·rename_i i Xz hi
    split at hc
    ·rename_i z hz
     obtain⟨zd,Xs,rfl⟩:=map_some hc
     have hm:=cj h1 hr
     have hk:=cj h2 hr
     simp only [aS]at he
     split at he
     ·rename_i o key ho Qi
      rw [ho]at hm;rw [Qi]at hk
      obtain⟨XA,hP,vV⟩:=hm.FQ
      split at he
      ·rename_i cs pR
       split at he
       ·rename_i d' pz
        cases he
        simp only [execOp,XA,hk.ku]
        exact Kc r ht Xz hi hz Xs vV pR pz
       ·cases he
      ·cases he
     ·cases he
    ·cases hc
   ·cases hc
  ·cases hc
 | _=>cases hc
theorem wY {o:Oper} {z:List D} {k n:Nat} {ps:List (Nat×X)} {tm:Tm} {act:Act} {d:D} {s':St} (hc:Bv P o=some (.cG z k n ps)) (r:Rel M s w) (hr:k7 M s tm act.tmps) (he:aS (.s6 z k n ps) tm s=some (d,s')) :
 dw P M s w (execOp act.eval o) d s':=by
 obtain⟨dst,op,type,pos,after,guard⟩:=o
 unfold Bv at hc
 simp only at hc
 cases op with
 | buildSlice t n' parts=>
  simp only at hc
  split at hc
  ·rename_i e hu
   split at hc
   ·rename_i i z ps h1 h2 h3
    split at hc
    ·rename_i lu
     cases hc
     simp only [aS]at he
     split at he
     ·rename_i rows kJ
      cases he
      obtain⟨vs,T,g1,g2,g3,g4⟩:=Ay r hr hu h1 h2 lu.1 lu.2 h3 kJ
      obtain⟨M',f1,f2,f3⟩:=MR r T g1 (by rw [g3,g2]) lu.1
      refine⟨_,_,_, .inl ?_,f2,f1,f3⟩
      simp only [Array.toArray_toList]at g4
      simp only [execOp,Sem.run_bind,g4,Result.andThen_ok,Sem.run_pure]
      rw [g2]
     ·cases he
    ·cases hc
   ·cases hc
  ·cases hc
 | _=>
  exfalso
  revert hc
  try simp only
  repeat' split
  all_goals (first | (intro h;cases h;done) | (intro h;obtain⟨_,_,h⟩:=map_some h;cases h;done) | contradiction | (simp;done) | (intro h;simp_all;done))
end
end Go.Abs

/-! Code -/

namespace Go.Abs
structure fj where
 M:Map
 s:St
 w:World
 laid:Laid M s w
 old : ∀ b o v,M.G b o=some v→b<w.heap.size
def Holds (B:fj) (nt:Nat) (tm:Tm) (s:St) (act:Act) (w:World):Prop:=
 ∃ M,Ext B.M B.s B.w M s w∧Rel M s w∧k7 M s tm act.tmps∧act.tmps.size=nt∧act.defers = []
def oC (B:fj) (nt:Nat) (Q:Exit→Tm→St→Prop):Exit→Act→World→Prop:=fun e act w=>∃ tm s,Q e tm s∧Holds B nt tm s act w
def eg (P:Program) (f:FuncId) (args:List D) (s:St) (Q:D→St→Prop):Prop:=
 ∀ (M:Map) (w:World) (fU:Array Value),Rel M s w→Laid M s w→fU.size=args.length→(∀ (i:Nat) (d:D) (v:Value),args[i]? = some d→fU[i]? = some v→RD M s d v)→
  Calls P f fU w fun e w'=>∃ M' d v s',e = .returned v∧Q d s'∧Ext M s w M' s' w'∧Rel M' s' w'∧RD M' s' d v
theorem eg.mono {P:Program} {f:FuncId} {args:List D} {s:St} {Q Q':D→St→Prop} (h:eg P f args s Q) (hq : ∀ d s',Q d s'→Q' d s'):eg P f args s Q':=
 fun M w fU r hd hl ha=>(h M w fU r hd hl ha).mono fun _ _ ⟨M',d,v,s',h1,h2,h3⟩=>⟨M',d,v,s',h1,hq _ _ h2,h3⟩
def guarded (g:Option (Nat×Bool)) (tm:Tm) (A B:Prop):Prop:=
 match g with
 | none=>A
 | some (t,want)=>
  match tm.get t with
  | .bool b=>(b=want→A)∧(b=(!want)→B)
  | .tuple _=>B
  | _=>False
def ib (P:Program):List AI→(Tm→St→Prop)→Tm→St→Prop
 | [],K,tm,s=>K tm s
 | .op dst g o::r,K,tm,s=>
  guarded g tm (match aS o tm s with | some (d,s')=>ib P r K (tm.put dst d) s' | none=>False) (ib P r K (tm.put dst (.tuple [])) s)
 | .call dst g f xs::r,K,tm,s=>
  guarded g tm (eg P f (xs.map (·.ev tm)) s fun d s'=>ib P r K (tm.put dst d) s') (ib P r K (tm.put dst (.tuple [])) s)
 | .nil dst g neg x::r,K,tm,s=>
  guarded g tm (match x.ev tm with
   | .slice _ _ rows=>∀ b:Bool,(rows≠ []→b=false)→ib P r K (tm.put dst (.bool (if neg then !b else b))) s
   | _=>False) (ib P r K (tm.put dst (.tuple [])) s)
 | .iA dst g t xs::r,K,tm,s=>
  guarded g tm (match tm.get t with
   | .gn f mn=>enters P f=true∧eg P f (xs.map (·.ev tm)++mn) s fun d s'=>ib P r K (tm.put dst d) s'
   | _=>False) (ib P r K (tm.put dst (.tuple [])) s)
section
variable {P:Program}
theorem yy {f:FuncId} (h:enters P f=true) (args:Array Value) (w:World):(callFunc f args).run P w = .ok (.enter f args) w:=by
 unfold enters at h
 split at h
 ·rename_i fn hf
  simp only [Bool.and_eq_true,Bool.not_eq_true']at h
  obtain⟨h1,h2⟩:=h
  have h3:fn.body.isNone=false:=by cases hb:fn.body <;> simp_all
  simp only [callFunc,Sem.run_bind,run_program,Result.andThen_ok,hf,h2,h3]
  simp
 ·cases h
theorem vn (ρ:Operand→Value) (dst:Option Tmp) (f:FuncId) (args:Array Operand) (mO:Array TypeId) (ty:TypeId) (pos:String) (after:Array Edge) (g:Option (Nat×Bool))
 (hρ:ρ (.func f) = .func (.func f) #[] #[]) (h:enters P f=true) (w:World) :
 (execOp ρ ⟨dst, .call ⟨.value (.func f),args,mO⟩,ty,pos,after,g⟩).run P w = .ok (.enter f (args.map ρ)) w:=by
 simp [execOp,resolve,hρ,Deferred.ofValue,invoke,yy h]
theorem yz (ρ:Operand→Value) (dst:Option Tmp) (x:Operand) (f:FuncId) (mn:Array Value) (args:Array Operand) (mO:Array TypeId) (ty:TypeId) (pos:String) (after:Array Edge) (g:Option (Nat×Bool))
 (hρ:ρ x = .func (.func f) #[] mn) (h:enters P f=true) (w:World) :
 (execOp ρ ⟨dst, .call ⟨.value x,args,mO⟩,ty,pos,after,g⟩).run P w = .ok (.enter f (args.map ρ++mn)) w:=by
 simp [execOp,resolve,hρ,Deferred.ofValue,invoke,yy h]
theorem uA {M:Map} {s:St} {tm:Tm} {act:Act} (hr:k7 M s tm act.tmps) : ∀ {l:List Operand} {xs:List X},vU l=some xs→
 xs.length=l.length∧∀ (i:Nat) (d:D) (v:Value),(xs.map (·.ev tm))[i]? = some d→(l.map act.eval)[i]? = some v→RD M s d v
 | [],xs,h=>by cases h;exact⟨rfl,by simp⟩
 | x::l,xs,h=>by
  unfold vU at h
  split at h
  ·rename_i x' r' h1 h2
   cases h
   obtain⟨g1,g2⟩:=uA hr h2
   refine⟨by simp [g1],fun i d v e1 e2=> ?_⟩
   cases i with
   | zero=>simp at e1 e2;subst e1;subst e2;exact cj h1 hr
   | succ i=>exact g2 i d v (by simpa using e1) (by simpa using e2)
  ·cases h
theorem DR {M:Map} {s:St} {tm:Tm} {act:Act} {args:Array Operand} {xs:List X} {mn:List D} {vs:Array Value} (nq:vU args.toList=some xs) (ht:k7 M s tm act.tmps) (hlen:mn.length=vs.size)
 (BL : ∀ (i:Nat) (d:D) (v:Value),mn[i]? = some d→vs[i]? = some v→RD M s d v) :
 (args.map act.eval++vs).size=(xs.map (·.ev tm)++mn).length∧∀ (i:Nat) (d:D) (v:Value),(xs.map (·.ev tm)++mn)[i]? = some d→(args.map act.eval++vs)[i]? = some v→RD M s d v:=by
 obtain⟨c1,c2⟩:=uA ht nq
 refine⟨by simp [c1,hlen],fun i d v e1 e2=> ?_⟩
 rcases Nat.lt_or_ge i args.size with Az | Az
 ·rw [List.getElem?_append_left (by simp [c1];exact Az)]at e1
  rw [Array.getElem?_append_left (by simp;exact Az)]at e2
  exact c2 i d v e1 (by simpa using e2)
 ·rw [List.getElem?_append_right (by simp [c1];exact Az)]at e1
  rw [Array.getElem?_append_right (by simp;exact Az)]at e2
  simp only [List.length_map,c1,Array.size_map,Array.length_toList]at e1 e2
  exact BL _ d v e1 e2
theorem xO {M:Map} {s:St} {w:World} {o:Oper} {neg:Bool} {x:X} {tm:Tm} {act:Act} (hc:CO P o=some (neg,x)) (hr:k7 M s tm act.tmps) {g:Tag} {z:Nat} {rows:List (List D)} (hx:x.ev tm = .slice g z rows) :
 ∃ b:Bool,(rows≠ []→b=false)∧(execOp act.eval o).run P w = .ok (.value (.bool (if neg then !b else b))) w:=by
 obtain⟨dst,op,type,pos,after,guard⟩:=o
 unfold CO at hc
 split at hc
 ·rename_i op t y yt heq
  simp only at heq
  subst heq
  have fin : ∀ e,P.underlying t=some (.slice e)→cX y=some x→op=(if neg then .neq else .eql)→∃ b:Bool,(rows≠ []→b=false)∧
   (execOp act.eval ⟨dst, .binOp op t y (.const (.slice none 0 0)) yt,type,pos,after,guard⟩).run P w = .ok (.value (.bool (if neg then !b else b))) w:=by
   intro e ht hy lE
   have hv:=cj hy hr
   rw [hx]at hv
   have key : ∀ (a:Option Addr) (n c:Nat),act.eval y = .slice a n c→(execOp act.eval ⟨dst, .binOp op t y (.const (.slice none 0 0)) yt,type,pos,after,guard⟩).run P w = .ok (.value (.bool (if neg then !a.isNone else a.isNone))) w:=by
    intro a n c pS
    have hg:=mM (P:=P) (w:=w) (op:=op) (t:=t) (x:=y) (y:= .const (.slice none 0 0)) (a:= .slice a n c) (b:= .slice none 0 0) ⟨by simp,by simp⟩
    have he:(Op.equal t (.slice a n c) (.slice none 0 0)).run P w = .ok a.isNone w:=by
     have : ∀ d,(Op.equalIn (d+1) t (.slice a n c) (.slice none 0 0)).run P w = .ok a.isNone w:=by
      intro d
      cases a <;> simp [Op.equalIn,run_underlying ht]
     exact this 9999
    have aeD:act.eval (.const (.slice none 0 0)) = .slice none 0 0:=rfl
    simp only [execOp,pS,aeD]
    rw [lE]at hg ⊢
    cases neg
    ·simp only [Bool.false_eq_true,if_false]at hg ⊢
     simp [hg,binOp,he]
    ·simp only [if_true]at hg ⊢
     simp [hg,binOp,he]
   rcases hv.il with ⟨h0,pS,_⟩ | ⟨_,_,a,cap,pS⟩ | ⟨b,q,cap,pS,_⟩
   ·exact⟨true,fun h=>(h h0).elim,key none 0 0 pS⟩
   ·exact⟨false,fun _=>rfl,key _ _ _ pS⟩
   ·exact⟨false,fun _=>rfl,key _ _ _ pS⟩
  split at hc
  ·cases hc
   exact fin _ ‹_› ‹_› rfl
  ·cases hc
   exact fin _ ‹_› ‹_› rfl
  ·cases hc
 ·cases hc
variable {B:fj} {nt:Nat}
theorem Holds.put {tm:Tm} {s:St} {act:Act} {w:World} {M':Map} {s':St} {w':World} {M:Map} (e:Ext B.M B.s B.w M s w) (ht:k7 M s tm act.tmps) (hn:act.tmps.size=nt) (hd:act.defers = [])
 {dst:Option Nat} (o8 : ∀ t,dst=some t→t<nt) {d:D} {v:Value} (e':Ext M s w M' s' w') (r':Rel M' s' w') (hv:RD M' s' d v):Holds B nt (tm.put dst d) s' (act.put dst v) w':=by
 refine⟨M',e.trans e',r',(ht.mono e'.le).put (fun t h=>by rw [hn];exact o8 t h) hv, ?_, ?_⟩
 ·cases dst <;> simp [Act.put,hn]
 ·cases dst <;> simp [Act.put,hd]
theorem vY {ops:Array Oper} {o:Oper} {ai:AI} (h:cI P nt ops o=some ai) : ∀ t,o.dst=some t→t<nt:=by
 intro t ht
 unfold cI at h
 split at h
 ·cases h
 ·split at h
  ·rename_i hP;rw [ht]at hP;simpa [SV]using hP
  ·cases h
theorem jl {ops:Array Oper} {o:Oper} {g:Option (Nat×Bool)} (hg:s8 ops o.guard=some g) {M:Map} {s:St} {tm:Tm} {act:Act} (hr:k7 M s tm act.tmps) {A C:Prop} (h:guarded g tm A C) :
 (Region.wanted o (yielded ops act.tmps)=true∧A)∨(Region.wanted o (yielded ops act.tmps)=false∧C):=by
 unfold s8 at hg
 split at hg
 ·rename_i hn
  cases hg
  exact .inl ⟨by simp [Region.wanted,hn],h⟩
 ·rename_i j want hn
  split at hg
  ·rename_i t ht
   cases hg
   have Te:=hr t
   unfold guarded at h
   simp only at h
   split at h
   ·rename_i b hb
    rw [hb]at Te
    have hv:=Te.my
    have abr:act.tmps[t]? = some (.bool b):=by
     cases hc:act.tmps[t]? with
     | none=>simp [Array.getD_eq_getD_getElem?,hc,Go.undef]at hv
     | some v=>simp [Array.getD_eq_getD_getElem?,hc]at hv;rw [hv]
    have hy:yielded ops act.tmps j=some b:=by simp [yielded,ht,abr]
    have hw:Region.wanted o (yielded ops act.tmps)=(some b==some want):=by simp [Region.wanted,hn,hy]
    by_cases XB:b=want
    ·exact .inl ⟨by rw [hw,XB];simp,h.1 XB⟩
    ·refine .inr ⟨by rw [hw];simp [XB],h.2 ?_⟩
     cases b <;> cases want <;> simp_all
   ·rename_i ds BK
    rw [BK]at Te
    obtain⟨vs,hv,_⟩:=Te.DL
    refine .inr ⟨?_,h⟩
    have hy:yielded ops act.tmps j=none:=by
     unfold yielded
     rw [ht]
     cases hc:act.tmps[t]? with
     | none=>simp [hc]
     | some v=>simp [Array.getD_eq_getD_getElem?,hc]at hv;simp [hc,hv]
    simp [Region.wanted,hn,hy]
   ·exact h.elim
  ·cases hg
theorem yA {ops:Array Oper} {Q:Exit→Tm→St→Prop} : ∀ (l:List Nat) (ol:List Oper) (is:List AI),l.map (ops[·]?)=ol.map some→pO P nt ops ol=some is→
 ∀ (tm:Tm) (s:St) (act:Act) (w:World),ib P is (Q .normal) tm s→Holds B nt tm s act w→wpOps P ops (oC B nt Q) l act w
 | [],[],is,_,hc,tm,s,act,w,h,hh=>by cases hc;exact⟨tm,s,h,hh⟩
 | [],_::_,_,hl,_,_,_,_,_,_,_=>by simp at hl
 | _::_,[],_,hl,_,_,_,_,_,_,_=>by simp at hl
 | i::l,o::ol,is,hl,hc,tm,s,act,w,h,hh=>by
  simp only [List.map_cons,List.cons.injEq]at hl
  obtain⟨hi,hl⟩:=hl
  unfold pO at hc
  split at hc
  ·rename_i ai MX h1 h2
   cases hc
   obtain⟨M,e,r,ht,hn,hd⟩:=hh
   have o8:=vY h1
   have ih:=fun tm s act w=>yA (Q:=Q) l ol MX hl h2 tm s act w
   have skip : ∀ (x:Prop),ib P MX (Q .normal) (tm.put o.dst (.tuple [])) s→wpOps P ops (oC B nt Q) l (act.put o.dst Go.undef) w:=fun _ hk=>
    ih _ _ _ _ hk (Holds.put e ht hn hd o8 (Ext.refl M s w) r .undef)
   simp only [wpOps,hi]
   unfold cI at h1
   split at h1
   ·cases h1
   ·rename_i g hg
    split at h1
    ·unfold qT at h1
     split at h1
     ·-- a call
      rename_i f args mO lE
      split at h1
      ·rename_i wZ
       obtain⟨xs,nq,rfl⟩:=map_some h1
       unfold ib at h
       rcases jl hg ht h with ⟨hw,hA⟩ | ⟨hw,hB⟩
       ·simp only [hw,if_true]
        left
        have hex:(execOp act.eval o).run P w = .ok (.enter f (args.map act.eval)) w:=by
         obtain⟨dst,op,type,pos,after,guard⟩:=o
         simp only at lE
         subst lE
         exact vn act.eval dst f args mO type pos after guard rfl wZ w
        obtain⟨c1,c2⟩:=uA ht nq
        unfold Oper.wp
        rw [hex,Oper.upon_enter]
        refine(hA M w (args.map act.eval) r (B.laid.ext e) (by simp [c1]) (fun i d v e1 e2=>c2 i d v e1 (by simpa using e2))).mono ?_
        rintro en w' ⟨M',d,v,s',rfl,hk,e',r',hv⟩
        exact ih _ _ _ _ hk (Holds.put e ht hn hd o8 e' r' hv)
       ·simp only [hw]
        exact skip True hB
      ·cases h1
     ·-- what a slot holds is called
      rename_i t args mO lE
      obtain⟨xs,nq,rfl⟩:=map_some h1
      unfold ib at h
      rcases jl hg ht h with ⟨hw,hA⟩ | ⟨hw,hB⟩
      ·simp only [hw,if_true]
       left
       split at hA
       ·rename_i f mn xP
        obtain⟨wZ,hA⟩:=hA
        have MY:=ht t
        rw [xP]at MY
        obtain⟨vs,rr,hlen,BL⟩:=MY.I7
        have hex:(execOp act.eval o).run P w = .ok (.enter f (args.map act.eval++vs)) w:=by
         obtain⟨dst,op,type,pos,after,guard⟩:=o
         simp only at lE
         subst lE
         exact yz act.eval dst (.tmp t) f vs args mO type pos after guard rr wZ w
        unfold Oper.wp
        rw [hex,Oper.upon_enter]
        have cc:=DR nq ht hlen BL
        refine(hA M w (args.map act.eval++vs) r (B.laid.ext e) cc.1 cc.2).mono ?_
        rintro en w' ⟨M',d,v,s',rfl,hk,e',r',hv⟩
        exact ih _ _ _ _ hk (Holds.put e ht hn hd o8 e' r' hv)
       ·exact hA.elim
      ·simp only [hw]
       exact skip True hB
     ·split at h1
      ·-- a slice held against nil
       rename_i neg x F6
       cases h1
       unfold ib at h
       rcases jl hg ht h with ⟨hw,hA⟩ | ⟨hw,hB⟩
       ·simp only [hw,if_true]
        left
        split at hA
        ·rename_i g' z rows hx
         obtain⟨b,hb,hex⟩:=xO (w:=w) F6 ht hx
         unfold Oper.wp
         rw [hex,Oper.upon_value]
         exact ih _ _ _ _ (hA b hb) (Holds.put e ht hn hd o8 (Ext.refl M s w) r (.bool _))
        ·exact hA.elim
       ·simp only [hw]
        exact skip True hB
      ·-- any other operation
       have fin : ∀ ao,ai = .op o.dst g ao→(∀ d s',aS ao tm s=some (d,s')→dw P M s w (execOp act.eval o) d s')→
        (if Region.wanted o (yielded ops act.tmps)=true then o.wp P act w (wpOps P ops (oC B nt Q) l) (oC B nt Q)∨(o.asks P act w∧LetsOut (oC B nt Q))else wpOps P ops (oC B nt Q) l (act.put o.dst Go.undef) w):=by
        intro ao uB XD
        subst uB
        unfold ib at h
        rcases jl hg ht h with ⟨hw,hA⟩ | ⟨hw,hB⟩
        ·simp only [hw,if_true]
         left
         split at hA
         ·rename_i d s' pA
          obtain⟨v,w',M',dF,r',hv,e'⟩:=XD d s' pA
          unfold Oper.wp
          rcases dF with dF | ⟨dF,rfl⟩
          ·rw [dF,Oper.upon_value]
           exact ih _ _ _ _ hA (Holds.put e ht hn hd o8 e' r' hv)
          ·rw [dF,Oper.upon_skip]
           exact ih _ _ _ _ hA (Holds.put e ht hn hd o8 e' r' hv)
         ·exact hA.elim
        ·simp only [hw]
         exact skip True hB
       split at h1
       ·rename_i z k n ps mP
        cases h1
        refine fin _ rfl (fun d s' pA=> ?_)
        split at pA
        ·exact wY mP r ht pA
        ·exact qU mP r ht pA
       ·rename_i ao mP
        cases h1
        exact fin _ rfl (fun d s' pA=>qU mP r ht pA)
       ·cases h1
    ·cases h1
  ·cases hc
end
end Go.Abs

/-! Flow -/

namespace Go.Abs
def Turned (P:Program) (nt:Nat):AC→Code→Prop
 | .skip,c=>c = .skip
 | .run is,c=>∃ id ops,c = .region id ops false∧pO P nt ops ops.toList=some is
 | .par is kS,c=>∃ id ops,c = .region id ops true∧pO P nt ops ops.toList=some is∧P.follows .mixedOrders=true∧∃ pt,FK is (ops.toList.map lQ) pt kS=true
 | .seq a b,c=>∃ x y,c = .seq x y∧cC P nt x=some a∧cC P nt y=some b
 | .cond x a b,c=>∃ o p q,c = .cond o p q∧cX o=some x∧cC P nt p=some a∧cC P nt q=some b
 | .block id a,c=>∃ x,c = .block id x∧cC P nt x=some a
 | .loop a,c=>∃ x,c = .loop x∧cC P nt x=some a
 | .exit id,c=>c = .exit id
 | .scope a,c=>∃ x,c = .scope x∧cC P nt x=some a
 | .label l,c=>c = .label l
 | .goto l,c=>c = .goto l
 | .ret,c=>c = .ret
theorem kC {P:Program} {nt:Nat} {c:Code} {ac:AC} (h:cC P nt c=some ac):Turned P nt ac c:=by
 cases c with
 | skip=>cases h;rfl
 | region id ops draw=>
  cases draw
  ·obtain⟨is,h1,rfl⟩:=map_some (x:=pO P nt ops ops.toList) (f:=AC.run) (by simpa [cC]using h)
   exact⟨id,ops,rfl,h1⟩
  ·simp only [cC]at h
   split at h
   ·rename_i hm
    obtain⟨is,h1,h2⟩:=Option.bind_eq_some_iff.1 h
    unfold SW at h2
    split at h2
    ·rename_i hp
     cases h2
     exact⟨id,ops,rfl,h1,hm,_,hp⟩
    ·cases h2
   ·cases h
 | seq a b=>
  simp only [cC]at h
  split at h
  ·rename_i a' b' h1 h2;cases h;exact⟨a,b,rfl,h1,h2⟩
  ·cases h
 | cond x a b=>
  simp only [cC]at h
  split at h
  ·rename_i x' a' b' h1 h2 h3;cases h;exact⟨x,a,b,rfl,h1,h2,h3⟩
  ·cases h
 | block id a=>
  obtain⟨a',h1,rfl⟩:=map_some (x:=cC P nt a) (f:=AC.block id) (by simpa [cC]using h)
  exact⟨a,rfl,h1⟩
 | loop a=>
  obtain⟨a',h1,rfl⟩:=map_some (x:=cC P nt a) (f:=AC.loop) (by simpa [cC]using h)
  exact⟨a,rfl,h1⟩
 | rangeFunc f p a b=>simp [cC]at h
 | exit id=>cases h;rfl
 | scope a=>
  obtain⟨a',h1,rfl⟩:=map_some (x:=cC P nt a) (f:=AC.scope) (by simpa [cC]using h)
  exact⟨a,rfl,h1⟩
 | label l=>cases h;rfl
 | goto l=>cases h;rfl
 | ret=>cases h;rfl
 | refuse w=>simp [cC]at h
def Sem (P:Program) (B:fj) (nt:Nat) (ac:AC) (Q:Exit→Tm→St→Prop) (tm:Tm) (s:St):Prop:=
 ∀ c,cC P nt c=some ac→∀ act w,Holds B nt tm s act w→c.wp P (oC B nt Q) act w
def lL (next:Tm→St→Prop) (Q:Exit→Tm→St→Prop):Exit→Tm→St→Prop
 | .normal,tm,s=>next tm s
 | e,tm,s=>Q e tm s
def jI (id:Nat) (Q:Exit→Tm→St→Prop):Exit→Tm→St→Prop
 | .exit i,tm,s=>if i=id then Q .normal tm s else Q (.exit i) tm s
 | e,tm,s=>Q e tm s
section
variable {P:Program} {B:fj} {nt:Nat} {Q:Exit→Tm→St→Prop} {tm:Tm} {s:St}
theorem Sem.mono {ac:AC} {Q':Exit→Tm→St→Prop} (h:Sem P B nt ac Q tm s) (hq : ∀ e tm s,Q e tm s→Q' e tm s):Sem P B nt ac Q' tm s:=
 fun c hc act w hh=>wp_mono (h c hc act w hh) fun _ _ _ ⟨tm,s,h1,h2⟩=>⟨tm,s,hq _ _ _ h1,h2⟩
theorem Sem.skip (h:Q .normal tm s):Sem P B nt .skip Q tm s:=by
 intro c hc act w hh
 cases kC hc
 exact wp_skip ⟨tm,s,h,hh⟩
theorem Sem.label {l:Nat} (h:Q .normal tm s):Sem P B nt (.label l) Q tm s:=by
 intro c hc act w hh
 cases kC hc
 exact wp_label ⟨tm,s,h,hh⟩
theorem Sem.exit {id:Nat} (h:Q (.exit id) tm s):Sem P B nt (.exit id) Q tm s:=by
 intro c hc act w hh
 cases kC hc
 exact wp_exit ⟨tm,s,h,hh⟩
theorem Sem.goto {l:Nat} (h:Q (.goto l) tm s):Sem P B nt (.goto l) Q tm s:=by
 intro c hc act w hh
 cases kC hc
 exact wp_goto ⟨tm,s,h,hh⟩
theorem Sem.ret (h:Q .ret tm s):Sem P B nt .ret Q tm s:=by
 intro c hc act w hh
 cases kC hc
 exact wp_ret ⟨tm,s,h,hh⟩
theorem yB (ops:Array Oper):(List.range ops.size).map (ops[·]?)=ops.toList.map some:=by
 apply List.ext_getElem?
 intro i
 by_cases h:i<ops.size
 ·simp [h]
 ·simp [h]
theorem Sem.run {is:List AI} (h:ib P is (Q .normal) tm s):Sem P B nt (.run is) Q tm s:=by
 intro c hc act w hh
 obtain⟨id,ops,rfl,hi⟩:=kC hc
 exact wp_region (yA (Q:=Q) (List.range ops.size) ops.toList is (yB ops) hi tm s act w h hh)
theorem Sem.seq {a b:AC} (h:Sem P B nt a (lL (Sem P B nt b Q) Q) tm s):Sem P B nt (.seq a b) Q tm s:=by
 intro c hc act w hh
 obtain⟨x,y,rfl,h1,h2⟩:=kC hc
 refine wp_seq (wp_mono (h x h1 act w hh) fun e act w hp=> ?_)
 obtain⟨bH,s',hq,jk⟩:=hp
 cases e with
 | normal=>exact hq y h2 act w jk
 | exit id=>exact⟨bH,s',hq,jk⟩
 | goto l=>exact⟨bH,s',hq,jk⟩
 | ret=>exact⟨bH,s',hq,jk⟩
 | panic ch=>exact⟨bH,s',hq,jk⟩
 | outgrown=>exact⟨bH,s',hq,jk⟩
theorem Sem.cond {x:X} {a b:AC} {t:Bool} (hx:x.ev tm = .bool t) (h1:t=true→Sem P B nt a Q tm s) (h2:t=false→Sem P B nt b Q tm s):Sem P B nt (.cond x a b) Q tm s:=by
 intro c hc act w hh
 obtain⟨o,p,q,rfl,g1,g2,g3⟩:=kC hc
 have jk:=hh
 obtain⟨M,e,r,ht,hn,hd⟩:=hh
 have hv:=cj g1 ht
 rw [hx]at hv
 exact wp_cond_split hv.my (fun h=>h1 h p g2 act w jk) (fun h=>h2 h q g3 act w jk)
theorem Sem.block {id:Nat} {a:AC} (h:Sem P B nt a (jI id Q) tm s):Sem P B nt (.block id a) Q tm s:=by
 intro c hc act w hh
 obtain⟨x,rfl,h1⟩:=kC hc
 refine wp_block (wp_mono (h x h1 act w hh) fun e act w hp=> ?_)
 obtain⟨bH,s',hq,jk⟩:=hp
 cases e with
 | exit i=>
  simp only [jI]at hq
  simp only [Exit.inBlock]
  split at hq
  ·rename_i h;rw [if_pos h];exact⟨bH,s',hq,jk⟩
  ·rename_i h;rw [if_neg h];exact⟨bH,s',hq,jk⟩
 | normal=>exact⟨bH,s',hq,jk⟩
 | goto l=>exact⟨bH,s',hq,jk⟩
 | ret=>exact⟨bH,s',hq,jk⟩
 | panic ch=>exact⟨bH,s',hq,jk⟩
 | outgrown=>exact⟨bH,s',hq,jk⟩
def w7 (P:Program) (c:Code) (Q:Exit→Act→World→Prop) (a:Act) (w:World):Prop:=
 ∀ (b:Frame) (k:List Item) (cs:List Frame),∃ e a' w',Q e a' w'∧Arrives P (lone (b.at a (.code c:: .inLoop c::k)) cs w) b k cs e a' w'
theorem w7.wp {c:Code} {Q:Exit→Act→World→Prop} {a:Act} {w:World} (h:w7 P c Q a w):(Code.loop c).wp P Q a w:=fun b k cs=>
 let ⟨e,a',w',hq,jH⟩:=h b k cs
 ⟨e,a',w',hq, .of_steps (.one step_loop) jH⟩
theorem w7.once {c:Code} {Q:Exit→Act→World→Prop} {a:Act} {w:World} (h:c.wp P (Exit.then (w7 P c Q) Q) a w):w7 P c Q a w:=by
 intro b k cs
 obtain⟨e,a₁,w₁,hq,jH⟩:=h b (.inLoop c::k) cs
 cases e with
 | normal=>
  obtain⟨e₂,a₂,w₂,XE,Kf⟩:=hq b k cs
  exact⟨e₂,a₂,w₂,XE, .of_steps (Steps.trans jH (.one step_inLoop)) Kf⟩
 | exit id=>exact⟨_,a₁,w₁,hq, .pass (x:= .inLoop c) rfl (fun _ _=> .inl (by simp)) jH⟩
 | goto l=>exact⟨_,a₁,w₁,hq, .pass (x:= .inLoop c) rfl (fun _ _=> .inl (by simp)) jH⟩
 | ret=>exact⟨_,a₁,w₁,hq, .pass (x:= .inLoop c) rfl (fun _ _=> .inl (by simp)) jH⟩
 | panic ch=>exact⟨_,a₁,w₁,hq, .pass (x:= .inLoop c) rfl (fun _ _=> .inl (by simp)) jH⟩
 | outgrown=>exact⟨_,a₁,w₁,hq, .pass (x:= .inLoop c) rfl (fun _ _=> .inl (by simp)) jH⟩
def bj (P:Program) (B:fj) (nt:Nat) (ac:AC) (Q:Exit→Tm→St→Prop) (tm:Tm) (s:St):Prop:=
 ∀ c,cC P nt c=some ac→∀ act w,Holds B nt tm s act w→w7 P c (oC B nt Q) act w
theorem Sem.loop {a:AC} (h:bj P B nt a Q tm s):Sem P B nt (.loop a) Q tm s:=by
 intro c hc act w hh
 obtain⟨x,rfl,h1⟩:=kC hc
 exact(h x h1 act w hh).wp
theorem bj.once {a:AC} (h:Sem P B nt a (lL (bj P B nt a Q) Q) tm s):bj P B nt a Q tm s:=by
 intro c hc act w hh
 refine w7.once (wp_mono (h c hc act w hh) fun e act w hp=> ?_)
 obtain⟨bH,s',hq,jk⟩:=hp
 cases e with
 | normal=>exact hq c hc act w jk
 | exit id=>exact⟨bH,s',hq,jk⟩
 | goto l=>exact⟨bH,s',hq,jk⟩
 | ret=>exact⟨bH,s',hq,jk⟩
 | panic ch=>exact⟨bH,s',hq,jk⟩
 | outgrown=>exact⟨bH,s',hq,jk⟩
def ti (P:Program) (c r:Code) (Q:Exit→Act→World→Prop) (a:Act) (w:World):Prop:=
 ∀ (b:Frame) (k:List Item) (cs:List Frame),∃ e a' w',Q e a' w'∧Arrives P (lone (b.at a (.code r:: .inScope c::k)) cs w) b k cs e a' w'
def abt (P:Program) (c:Code) (Q:Exit→Act→World→Prop):Exit→Act→World→Prop
 | .goto l,a,w=>∃ rest,findLabel c l=some rest∧ti P c rest Q a w
 | e,a,w=>Q e a w
theorem ti.wp {c:Code} {Q:Exit→Act→World→Prop} {a:Act} {w:World} (h:ti P c c Q a w):(Code.scope c).wp P Q a w:=fun b k cs=>
 let ⟨e,a',w',hq,jH⟩:=h b k cs
 ⟨e,a',w',hq, .of_steps (.one step_scope) jH⟩
theorem ti.once {c r:Code} {Q:Exit→Act→World→Prop} {a:Act} {w:World} (h:r.wp P (abt P c Q) a w):ti P c r Q a w:=by
 intro b k cs
 obtain⟨e,a₁,w₁,hq,jH⟩:=h b (.inScope c::k) cs
 cases e with
 | normal=>exact⟨.normal,a₁,w₁,hq,Steps.trans jH (.one step_inScope)⟩
 | exit id=>exact⟨.exit id,a₁,w₁,hq,fun k' hk=>jH k' (by simp [exitTo,hk])⟩
 | goto l=>
  obtain⟨rest,hf,hs⟩:=hq
  obtain⟨e₂,a₂,w₂,XE,Kf⟩:=hs b k cs
  exact⟨e₂,a₂,w₂,XE, .of_steps (jH _ (by simp [gotoIn,hf])) Kf⟩
 | ret=>exact⟨_,a₁,w₁,hq,jH⟩
 | panic ch=>exact⟨_,a₁,w₁,hq,jH⟩
 | outgrown=>exact⟨_,a₁,w₁,hq,jH⟩
def qV:AC→Nat→Option AC
 | .seq a b,l=>
  match qV a l with
  | some r=>some (.seq r b)
  | none=>qV b l
 | .label l',l=>if l'==l then some .skip else none
 | _,_=>none
theorem Ij : ∀ {c:Code} {ac:AC},cC P nt c=some ac→∀ l,(qV ac l=none→findLabel c l=none)∧∀ r,qV ac l=some r→∃ rest,findLabel c l=some rest∧cC P nt rest=some r:=by
 intro c
 induction c with
 | seq a b M3 M4=>
  intro ac h l
  simp only [cC]at h
  split at h
  ·rename_i a' b' h1 h2
   cases h
   obtain⟨n1,s1⟩:=M3 h1 l
   obtain⟨n2,s2⟩:=M4 h2 l
   simp only [qV,findLabel]
   cases hf:qV a' l with
   | none=>
    rw [n1 hf]
    exact⟨n2,s2⟩
   | some r=>
    obtain⟨rest,g1,g2⟩:=s1 r hf
    rw [g1]
    refine⟨(by intro h;cases h),fun r' h=> ?_⟩
    cases h
    exact⟨_,rfl,by simp [cC,g2,h2]⟩
  ·cases h
 | label l'=>
  intro ac h l
  cases h
  simp only [qV,findLabel]
  split
  ·exact⟨(by intro h;cases h),(by intro r h;cases h;exact⟨_,rfl,rfl⟩)⟩
  ·exact⟨fun _=>rfl,(by intro r h;cases h)⟩
 | _=>
  intro ac h l
  have:=kC h
  cases ac <;> simp only [Turned]at this <;> first
   | (exfalso;obtain⟨_,_,this⟩:=this;cases this.1;done)
   | exact⟨fun _=>rfl,(by intro r h;cases h)⟩
   | (exfalso;cases this;done)
   | (exfalso;obtain⟨_,this⟩:=this;cases this.1;done)
   | (exfalso;obtain⟨_,_,_,_,this⟩:=this;cases this.1;done)
def nf (P:Program) (B:fj) (nt:Nat) (ac r:AC) (Q:Exit→Tm→St→Prop) (tm:Tm) (s:St):Prop:=
 ∀ c rest,cC P nt c=some ac→cC P nt rest=some r→∀ act w,Holds B nt tm s act w→ti P c rest (oC B nt Q) act w
def jm (P:Program) (B:fj) (nt:Nat) (ac:AC) (Q:Exit→Tm→St→Prop):Exit→Tm→St→Prop
 | .goto l,tm,s=>∃ r,qV ac l=some r∧nf P B nt ac r Q tm s
 | e,tm,s=>Q e tm s
theorem Sem.scope {a:AC} (h:nf P B nt a a Q tm s):Sem P B nt (.scope a) Q tm s:=by
 intro c hc act w hh
 obtain⟨x,rfl,h1⟩:=kC hc
 exact(h x x h1 h1 act w hh).wp
theorem nf.once {a r:AC} (h:Sem P B nt r (jm P B nt a Q) tm s):nf P B nt a r Q tm s:=by
 intro c rest hc Fl act w hh
 refine ti.once (wp_mono (h rest Fl act w hh) fun e act w hp=> ?_)
 obtain⟨bH,s',hq,jk⟩:=hp
 cases e with
 | normal=>exact⟨bH,s',hq,jk⟩
 | exit id=>exact⟨bH,s',hq,jk⟩
 | goto l=>
  obtain⟨r',hf,hs⟩:=hq
  obtain⟨oY,g1,g2⟩:=(Ij hc l).2 r' hf
  exact⟨oY,g1,hs c oY hc g2 act w jk⟩
 | ret=>exact⟨bH,s',hq,jk⟩
 | panic ch=>exact⟨bH,s',hq,jk⟩
 | outgrown=>exact⟨bH,s',hq,jk⟩
def Tag.fg (m:Nat):Tag→Tag
 | .tok t y=>if t<m then .tok t y else .shared
 | g=>g
mutual
def D.fg (n m:Nat):D→D
 | .ptr o off=>if o<n then .ptr o off else .junk
 | .dI row off=> .dI (D.gG n m row) off
 | .slice g z rows=> .slice (g.fg m) z (D.jD n m rows)
 | .agg cs=> .agg (D.gG n m cs)
 | .tuple ds=> .tuple (D.gG n m ds)
 | .junk=> .junk
 | .int k x=> .int k x
 | .bool b=> .bool b
 | .str l=> .str l
 | .e9=> .e9
 | .val v=> .val v
 | .fB T o=>if o<n then .fB T o else .junk
 | .gn f cs=> .gn f (D.gG n m cs)
 | .gk o=>if o<n then .gk o else .junk
def D.gG (n m:Nat):List D→List D
 | []=> []
 | d::r=>D.fg n m d::D.gG n m r
def D.jD (n m:Nat):List (List D)→List (List D)
 | []=> []
 | d::r=>D.gG n m d::D.jD n m r
end
theorem mQ (n m:Nat) : ∀ l,D.gG n m l=l.map (D.fg n m)
 | []=>by simp [D.gG]
 | d::r=>by simp [D.gG,mQ n m r]
theorem M5 (n m:Nat) : ∀ l,D.jD n m l=l.map (D.gG n m)
 | []=>by simp [D.jD]
 | d::r=>by simp [D.jD,M5 n m r]
def St.cut (s:St) (n m:Nat):St:=⟨(s.aA.take n).map (D.gG n m),s.aC.take m⟩
def Tm.fg (n m:Nat) (tm:Tm):Tm:=tm.map fun p=>(p.1,p.2.fg n m)
def Tm.keep (ks:List Nat) (tm:Tm):Tm:=tm.filter fun p=>ks.contains p.1
theorem o9 (s:St) (n m:Nat):(s.cut n m).aA.length=min n s.aA.length:=by simp [St.cut]
theorem gW.fg {M:Map} {g:Tag} {z len cap:Nat} {base:Option (Nat×Nat)} (n m:Nat) (h:gW M s g z len base cap):gW M (s.cut n m) (g.fg m) z len base cap:=by
 cases g with
 | full=>exact h
 | shared=>exact h
 | tok t y=>
  simp only [Tag.fg]
  split
  ·rename_i ht
   obtain⟨h1,h2⟩:=h
   refine⟨by simp [St.cut];omega,fun k hk=>h2 k ?_⟩
   simpa [St.cut,List.getElem?_take_of_lt ht]using hk
  ·trivial
theorem RD.fg {M:Map} {d:D} {v:Value} (n m:Nat) (h:RD M s d v):RD M (s.cut n m) (d.fg n m) v:=by
 induction h with
 | junk v=>simp only [D.fg];exact .junk v
 | int k x=>simp only [D.fg];exact .int k x
 | bool b=>simp only [D.fg];exact .bool b
 | str l=>simp only [D.fg];exact .str l
 | e9=>simp only [D.fg];exact .e9
 | val v hv=>simp only [D.fg];exact .val v hv
 | fB T o v h ht hv=>
  simp only [D.fg]
  split
  ·exact .fB T o v (by rw [o9];omega) ht hv
  ·exact .junk _
 | gk o h hm=>
  simp only [D.fg]
  split
  ·exact .gk o (by rw [o9];omega) hm
  ·exact .junk _
 | gn f ds vs hl _ ih=>
  simp only [D.fg,mQ]
  refine .gn f _ vs (by simpa using hl) (fun i d v e1 e2=> ?_)
  simp only [List.getElem?_map,Option.map_eq_some_iff]at e1
  obtain⟨d',e1,rfl⟩:=e1
  exact ih i d' v e1 e2
 | ptr o off h hm=>
  simp only [D.fg]
  split
  ·exact .ptr o off (by rw [o9];omega) hm
  ·exact .junk _
 | dI row off b k h1 h2 ih=>
  simp only [D.fg,mQ]
  refine .dI _ off b k (fun i d e=> ?_) (fun i d u e eu=> ?_)
  ·simp only [List.getElem?_map,Option.map_eq_some_iff]at e
   obtain⟨d',e,rfl⟩:=e
   exact h1 i d' e
  ·simp only [List.getElem?_map,Option.map_eq_some_iff]at e
   obtain⟨d',e,rfl⟩:=e
   exact ih i d' u e eu
 | jc g z cap hc ht=>simp only [D.fg,D.jD];exact .jc _ z cap hc (ht.fg n m)
 | mq z a cap=>simp only [D.fg,D.jD,Tag.fg];exact .mq z a cap
 | slice g z rows b k cap hl hs h1 h2 ht ih=>
  simp only [D.fg,M5]
  have hlen:(rows.map (D.gG n m)).length=rows.length:=by simp
  have key:=RD.slice (M:=M) (s:=s.cut n m) (g.fg m) z (rows.map (D.gG n m)) b k cap (by rw [hlen];exact hl) (fun row hr=>by
   obtain⟨kT,h',rfl⟩:=List.mem_map.1 hr
   rw [mQ,List.length_map];exact hs kT h')
   (fun i row j d e1 e2=>by
    simp only [List.getElem?_map,Option.map_eq_some_iff]at e1
    obtain⟨kT,e1,rfl⟩:=e1
    rw [mQ]at e2
    simp only [List.getElem?_map,Option.map_eq_some_iff]at e2
    obtain⟨d',e2,rfl⟩:=e2
    exact h1 i kT j d' e1 e2)
   (fun i row j d u e1 e2 eu=>by
    simp only [List.getElem?_map,Option.map_eq_some_iff]at e1
    obtain⟨kT,e1,rfl⟩:=e1
    rw [mQ]at e2
    simp only [List.getElem?_map,Option.map_eq_some_iff]at e2
    obtain⟨d',e2,rfl⟩:=e2
    exact ih i kT j d' u e1 e2 eu)
   (by rw [hlen];exact ht.fg n m)
  rw [hlen]at key
  exact key
 | agg cells vs hl h1 _ ih=>
  simp only [D.fg,mQ]
  refine .agg _ vs (by simpa using hl) h1 (fun i d v e1 e2=> ?_)
  simp only [List.getElem?_map,Option.map_eq_some_iff]at e1
  obtain⟨d',e1,rfl⟩:=e1
  exact ih i d' v e1 e2
 | tuple ds vs hl _ ih=>
  simp only [D.fg,mQ]
  refine .tuple _ vs (by simpa using hl) (fun i d v e1 e2=> ?_)
  simp only [List.getElem?_map,Option.map_eq_some_iff]at e1
  obtain⟨d',e1,rfl⟩:=e1
  exact ih i d' v e1 e2
theorem CY {t k n m:Nat} (h:(s.cut n m).aC[t]? = some (some k)):s.aC[t]? = some (some k):=by
 simp only [St.cut,List.getElem?_take]at h
 split at h
 ·exact h
 ·cases h
theorem tj {t n m:Nat} (h:(s.cut n m).live t):s.live t:=by
 obtain⟨k,hk⟩:=h
 exact⟨k,CY hk⟩
theorem Rel.cut {M:Map} {w:World} (n m:Nat) (r:Rel M s w):Rel M (s.cut n m) w:=by
 have hP : ∀ o,o<(s.cut n m).aA.length→o<s.aA.length:=fun o h=>by rw [o9]at h;omega
 refine⟨r.comm,fun o ds e=> ?_,fun o ho=>r.kz o (hP o ho),fun o o' h h'=>r.inj o o' (hP o h) (hP o' h'),fun t k e=>r.tok t k (CY e),
  fun t b c z o hl e ho=>r.fm t b c z o (tj hl) e (hP o ho),fun t t' b c z c' z' h h' e e'=>r.fS t t' b c z c' z' (tj h) (tj h') e e'⟩
 simp only [St.cut,List.getElem?_map,Option.map_eq_some_iff,List.getElem?_take]at e
 obtain⟨nn,e,rfl⟩:=e
 split at e
 ·obtain⟨vs,T,h1,h2,h3,h4⟩:=r.obj o nn e
  refine⟨vs,T,h1,by rw [mQ];simpa using h2,h3,fun i d v e1 e2=> ?_⟩
  rw [mQ]at e1
  simp only [List.getElem?_map,Option.map_eq_some_iff]at e1
  obtain⟨d',e1,rfl⟩:=e1
  exact(h4 i d' v e1 e2).fg n m
 ·cases e
theorem Ext.cut {M0 M:Map} {s0:St} {w0 w:World} {n m:Nat} (e:Ext M0 s0 w0 M s w) (hn:s0.aA.length≤n) (hm:s0.aC.length≤m):Ext M0 s0 w0 M (s.cut n m) w:=by
 have hP : ∀ o,o<(s.cut n m).aA.length→o<s.aA.length:=fun o h=>by rw [o9]at h;omega
 refine⟨⟨e.le.G,by rw [o9];have:=e.le.n;omega,e.le.loc,by simp [St.cut];have:=e.le.t;omega,fun t k h1 h2=>e.le.tk t k h1 (CY h2)⟩,e.kept,fun o h1 h2=>e.pL o h1 (hP o h2),fun t b c z h=>e.pM t b c z (tj h),e.rP,e.size,e.os,e.tape,e.output⟩
end
end Go.Abs

/-! Call -/

namespace Go.Abs
def nr:Nat→List D→Tm
 | _,[]=> []
 | n,d::r=>(n,d)::nr (n+1) r
def az:List (Nat×Option (Bool×Nat))→Tm→St→Option (List D)
 | [],_,_=>some []
 | (t,none)::r,tm,s=>match az r tm s with | some l=>some (tm.get t::l) | none=>none
 | (t,some (agg,size))::r,tm,s=>
  match tm.get t with
  | .ptr o off=>
   match s.aA[o]? with
   | some cs=>match part cs off agg size,az r tm s with | some d,some l=>some (d::l) | _,_=>none
   | none=>none
  | _=>none
def aB:List D→D
 | [d]=>d
 | l=> .tuple l
def aeH (B:fj) (res:List (Nat×Option (Bool×Nat))) (Q:D→St→Prop):Exit→Tm→St→Prop
 | .normal,tm,s | .ret,tm,s=>∃ l,az res tm s=some l∧∃ n m,B.s.aA.length≤n∧B.s.aC.length≤m∧Q ((aB l).fg n m) (s.cut n m)
 | _,_,_=>False
section
variable {P:Program} {M:Map} {s:St} {w:World}
theorem DS : ∀ (l:List D) (n t:Nat),(nr n l).get t=if n≤t then(l[t - n]?).getD .junk else .junk
 | [],n,t=>by simp [nr,Tm.get]
 | d::r,n,t=>by
  simp only [nr,Tm.get,DS r (n+1) t]
  by_cases h:n=t
  ·subst h;simp
  ·rw [if_neg h]
   by_cases h2:n+1≤t
   ·rw [if_pos h2,if_pos (by omega),show t - n=(t - (n+1))+1 by omega];simp
   ·rw [if_neg h2,if_neg (by omega)]
def yC (tmps:Array Value):ResultVar→Go.Sem Value
 | .tmp t=>pure (tmps.getD t Go.undef)
 | .cell a t=>do loadVar t (← asAddr (tmps.getD a Go.undef))
theorem A8 (r:Rel M s w) {tm:Tm} {tmps:Array Value} (ht:k7 M s tm tmps) : ∀ {rs:List ResultVar} {res:List (Nat×Option (Bool×Nat))} {l:List D},A1 P rs=some res→az res tm s=some l→
 ∃ vs:List Value,(rs.mapM (yC tmps)).run P w = .ok vs w∧vs.length=l.length∧
  ∀ (i:Nat) (d:D) (v:Value),l[i]? = some d→vs[i]? = some v→RD M s d v
 | [],res,l,hc,hl=>by cases hc;cases hl;exact⟨[],rfl,rfl,by simp⟩
 | .tmp t::rs,res,l,hc,hl=>by
  obtain⟨aeI,h1,rfl⟩:=map_some (by simpa [A1]using hc)
  simp only [az]at hl
  split at hl
  ·rename_i l' mN
   cases hl
   obtain⟨vs,g1,g2,g3⟩:=A8 r ht h1 mN
   refine⟨tmps.getD t Go.undef::vs, ?_,by simp [g2],fun i d v e1 e2=> ?_⟩
   ·rw [List.mapM_cons]
    simp only [yC,Go.Sem.run_bind,Go.Sem.run_pure,Result.andThen_ok,g1]
   ·cases i with
    | zero=>simp only [List.getElem?_cons_zero,Option.some.injEq]at e1 e2;subst e1;subst e2;exact ht t
    | succ i=>exact g3 i d v (by simpa using e1) (by simpa using e2)
  ·cases hl
 | .cell a t::rs,res,l,hc,hl=>by
  simp only [A1]at hc
  split at hc
  ·rename_i g i aeI h1 h2 h3
   cases hc
   simp only [az]at hl
   split at hl
   ·rename_i o off ho
    split at hl
    ·rename_i cs pR
     split at hl
     ·rename_i d l' hd mN
      cases hl
      obtain⟨vs,g1,g2,g3⟩:=A8 r ht h3 mN
      have hv:=ht a
      rw [ho]at hv
      have hk:=hv.yp
      obtain⟨hv,_⟩:=hv.qG
      have abu : ∃ v,(loadVar t ⟨M.mu o,off,none⟩).run P w = .ok v w∧RD M s d v:=by
       obtain⟨fD,T,hh,ew,⟨mw,_⟩,A6⟩:=r.obj o cs pR
       replace hh:=hh.cells hk
       let n:=if g then i.size else 1
       have kB:off+n≤fD.size:=by
        rcases rn hd with ⟨rfl,hq,_⟩ | ⟨rfl,hq⟩
        ·simp [n];omega
        ·have:=(List.getElem?_eq_some_iff.1 hq).1;simp [n];omega
       have hlen:((fD.toList.drop off).take n).length=n:=by simp;omega
       have hY : ∀ (j:Nat) (u:Value),((fD.toList.drop off).take n)[j]? = some u→fD[off+j]? = some u:=by
        intro j u h
        rw [List.getElem?_take]at h
        split at h
        ·rw [List.getElem?_drop]at h;simpa using h
        ·cases h
       refine⟨_,A2 (w:=w) P h2 h1 (M.mu o) off ((fD.toList.drop off).take n) hlen (fun j u h=>by rw [kj hh];exact hY j u h), ?_⟩
       exact sD hd _ hlen (fun _ u hu=>mw u (Array.mem_toList_iff.1 (List.mem_of_mem_drop (List.mem_of_mem_take hu)))) (fun j d u e1 e2=>A6 _ d u e1 (hY j u e2))
      obtain⟨v,hlv,hvd⟩:=abu
      refine⟨v::vs, ?_,by simp [g2],fun i d' v' e1 e2=> ?_⟩
      ·rw [List.mapM_cons]
       have mw:(yC tmps (.cell a t)).run P w = .ok v w:=by
        simp only [yC,Go.Sem.run_bind,hv,asAddr,Go.Sem.run_pure,Result.andThen_ok,hlv]
       simp only [Go.Sem.run_bind,mw,Result.andThen_ok,g1,Go.Sem.run_pure]
      ·cases i with
       | zero=>simp only [List.getElem?_cons_zero,Option.some.injEq]at e1 e2;subst e1;subst e2;exact hvd
       | succ i=>exact g3 i d' v' (by simpa using e1) (by simpa using e2)
     ·cases hl
    ·cases hl
   ·cases hl
  ·cases hc
theorem EW (r:Rel M s w) {tm:Tm} {tmps:Array Value} (ht:k7 M s tm tmps) {fn:Func} {res:List (Nat×Option (Bool×Nat))} {l:List D} (hc:A1 P fn.results.toList=some res) (hl:az res tm s=some l) :
 ∃ v,(results fn tmps).run P w = .ok v w∧RD M s (aB l) v:=by
 obtain⟨vs,g1,g2,g3⟩:=A8 (P:=P) r ht hc hl
 have dF:(results fn tmps).run P w = .ok (if h:vs.toArray.size=1 then vs.toArray[0]else .tuple vs.toArray) w:=by
  have e:results fn tmps=(do let vs ← fn.results.mapM (yC tmps);pure (if h:vs.size=1 then vs[0]else .tuple vs)):=by
   unfold results
   rfl
  rw [e,Array.mapM_eq_mapM_toList]
  simp only [Go.Sem.run_bind,Go.Sem.run_map,g1,Result.andThen_ok,Go.Sem.run_pure]
 refine⟨_,dF, ?_⟩
 clear dF g1 hl
 match l,vs,g2,g3 with
 | [],[],_,_=>exact .tuple [] #[] rfl (by simp)
 | [d],[v],_,g3=>exact g3 0 d v rfl rfl
 | d::d'::l,v::v'::vs,h,g3=>
  have : ¬ ((v::v'::vs).toArray.size=1):=by simp
  rw [dif_neg this]
  exact .tuple _ _ (by simpa using h.symm) (fun i d v e1 e2=>g3 i d v e1 (by simpa using e2))
theorem eg.intro {f:FuncId} {fn:Func} {af:AF} {args:List D} {Q:D→St→Prop} (hf:P.funcs[f]? = some fn) (hc:cF P fn=some af) (hl:args.length≤af.ntmps)
 (h : ∀ B:fj,B.s=s→Sem P B af.ntmps af.body (aeH B af.results Q) (nr 0 args) s):eg P f args s Q:=by
 intro M w fU r kK ew ha
 unfold cF at hc
 split at hc
 ·rename_i c Kg
  split at hc
  ·rename_i b res h1 h2
   cases hc
   simp only at h hl
   refine calls_of_wp hf Kg ?_
   have hs:=h ⟨M,s,w,kK,fun b o v e=>r.CP e⟩ rfl c h1 {tmps:=fU++Array.replicate (fn.ntmps - fU.size) Go.undef,defers:= []} w
    ⟨M,Ext.refl M s w,r,fun t=>by
     rw [DS]
     simp only [Nat.zero_le,if_true,Nat.sub_zero]
     cases hd:args[t]? with
     | none=>exact .junk _
     | some d=>
      have hP:=(List.getElem?_eq_some_iff.1 hd).1
      have hv:fU[t]? = some fU[t]:=Array.getElem?_eq_getElem (by omega)
      have:(fU++Array.replicate (fn.ntmps - fU.size) Go.undef).getD t Go.undef=fU[t]:=by
       rw [Array.getD_eq_getD_getElem?,Array.getElem?_append_left (by omega),hv];rfl
      rw [this]
      exact ha t d _ hd hv,by simp;omega,rfl⟩
   refine wp_mono hs fun e act w' hp=> ?_
   obtain⟨tm,s',hq,M',aeJ,r',ht,_,hdf⟩:=hp
   have fin:(∃ l,az res tm s'=some l∧∃ n m,s.aA.length≤n∧s.aC.length≤m∧Q ((aB l).fg n m) (s'.cut n m))→act.defers = []∧∃ v,(results fn act.tmps).run P w' = .ok v w'∧
    ∃ M' d v' s',Ending.returned v = .returned v'∧Q d s'∧Ext M s w M' s' w'∧Rel M' s' w'∧RD M' s' d v':=by
    rintro⟨l,hl,n,m,hn,hm,hQ⟩
    obtain⟨v,dF,oJ⟩:=EW (P:=P) r' ht h2 hl
    exact⟨hdf,v,dF,M',_,v,_,rfl,hQ,aeJ.cut hn hm,r'.cut n m,oJ.fg n m⟩
   cases e with
   | normal=>exact fin hq
   | ret=>exact fin hq
   | exit id=>exact hq.elim
   | goto l=>exact hq.elim
   | panic ch=>exact hq.elim
   | outgrown=>exact hq.elim
  ·cases hc
 ·cases hc
end
end Go.Abs

/-! Frame -/

namespace Go.Abs
def Tag.ok (m:Nat):Tag→Bool
 | .tok t _=>decide (t<m)
 | _=>true
def Tag.dK (ts:List Nat):Tag→Tag
 | .tok t y=>match ts[t]? with | some t'=> .tok t' y | none=> .shared
 | g=>g
mutual
def D.ok (n m:Nat):D→Bool
 | .ptr o _=>decide (o<n)
 | .dI row _=>D.bJ n m row
 | .slice g _ rows=>g.ok m && D.iZ n m rows
 | .agg cs=>D.bJ n m cs
 | .tuple ds=>D.bJ n m ds
 | .fB _ o=>decide (o<n)
 | .gn _ cs=>D.bJ n m cs
 | .gk o=>decide (o<n)
 | _=>true
def D.bJ (n m:Nat):List D→Bool
 | []=>true
 | d::r=>D.ok n m d && D.bJ n m r
def D.iZ (n m:Nat):List (List D)→Bool
 | []=>true
 | d::r=>D.bJ n m d && D.iZ n m r
end
mutual
def D.dK (os ts:List Nat):D→D
 | .ptr o off=>match os[o]? with | some o'=> .ptr o' off | none=> .junk
 | .dI row off=> .dI (D.fV os ts row) off
 | .slice g z rows=> .slice (g.dK ts) z (D.rS os ts rows)
 | .agg cs=> .agg (D.fV os ts cs)
 | .tuple ds=> .tuple (D.fV os ts ds)
 | .junk=> .junk
 | .int k x=> .int k x
 | .bool b=> .bool b
 | .str l=> .str l
 | .e9=> .e9
 | .val v=> .val v
 | .fB T o=>match os[o]? with | some o'=> .fB T o' | none=> .junk
 | .gn f cs=> .gn f (D.fV os ts cs)
 | .gk o=>match os[o]? with | some o'=> .gk o' | none=> .junk
def D.fV (os ts:List Nat):List D→List D
 | []=> []
 | d::r=>D.dK os ts d::D.fV os ts r
def D.rS (os ts:List Nat):List (List D)→List (List D)
 | []=> []
 | d::r=>D.fV os ts d::D.rS os ts r
end
theorem fC (os ts:List Nat) : ∀ l,D.fV os ts l=l.map (D.dK os ts)
 | []=>by simp [D.fV]
 | d::r=>by simp [D.fV,fC os ts r]
theorem zS (os ts:List Nat) : ∀ l,D.rS os ts l=l.map (D.fV os ts)
 | []=>by simp [D.rS]
 | d::r=>by simp [D.rS,zS os ts r]
theorem yD (n m:Nat) : ∀ l,D.bJ n m l=l.all (D.ok n m)
 | []=>by simp [D.bJ]
 | d::r=>by simp [D.bJ,yD n m r]
theorem BM (n m:Nat) : ∀ l,D.iZ n m l=l.all (D.bJ n m)
 | []=>by simp [D.iZ]
 | d::r=>by simp [D.iZ,BM n m r]
theorem tn {n m:Nat} {l:List D} (h:D.bJ n m l=true) {i:Nat} {d:D} (e:l[i]? = some d):D.ok n m d=true:=by
 rw [yD]at h;exact List.all_eq_true.1 h d (List.mem_of_getElem? e)
theorem Vn {n m:Nat} {l:List (List D)} (h:D.iZ n m l=true) {i:Nat} {d:List D} (e:l[i]? = some d):D.bJ n m d=true:=by
 rw [BM]at h;exact List.all_eq_true.1 h d (List.mem_of_getElem? e)
section
variable {M M0:Map} {s s0:St} {os ts:List Nat}
theorem gW.Fm (jT : ∀ (i:Nat) t,ts[i]? = some t→M0.be i=M.be t) (ht : ∀ (i t:Nat),ts[i]? = some t→s0.aC[i]? = s.aC[t]?) (hlen:s0.aC.length=ts.length) {g:Tag} {z len cap:Nat} {base:Option (Nat×Nat)} (DT:g.ok ts.length=true) (h:gW M s (g.dK ts) z len base cap):gW M0 s0 g z len base cap:=by
 cases g with
 | full=>exact h
 | shared=>exact h
 | tok t y=>
  have hP:t<ts.length:=by simpa [Tag.ok]using DT
  have e:ts[t]? = some ts[t]:=List.getElem?_eq_getElem hP
  simp only [Tag.dK,e]at h
  obtain⟨h1,h2⟩:=h
  refine⟨by omega,fun n hn=> ?_⟩
  rw [ht t _ e]at hn
  rw [jT t _ e]
  exact h2 n hn
theorem RD.Fm (hG:M0.G=M.G) (yE : ∀ (i:Nat) o,os[i]? = some o→M0.loc i=M.loc o) (oL:s0.aA.length=os.length)
 (jT : ∀ (i:Nat) t,ts[i]? = some t→M0.be i=M.be t) (ht : ∀ (i t:Nat),ts[i]? = some t→s0.aC[i]? = s.aC[t]?) (hlen:s0.aC.length=ts.length) {d:D} {v:Value} (h:RD M s d v) :
 ∀ d0:D,d0.dK os ts=d→d0.ok os.length ts.length=true→RD M0 s0 d0 v:=by
 have py : ∀ (i:Nat) o,os[i]? = some o→M0.mu i=M.mu o:=fun i o h=>congrArg Prod.fst (yE i o h)
 have tag:=fun {g z len cap base}=>@gW.Fm M M0 s s0 ts jT ht hlen g z len cap base
 induction h with
 | junk v=>
  intro d0 e ok
  cases d0 <;> simp only [D.dK]at e <;> try (cases e;done)
  ·exact .junk v
  ·rename_i o off
   have hP:o<os.length:=by simpa [D.ok]using ok
   rw [List.getElem?_eq_getElem hP]at e;cases e
  ·rename_i T o
   have hP:o<os.length:=by simpa [D.ok]using ok
   rw [List.getElem?_eq_getElem hP]at e;cases e
  ·rename_i o
   have hP:o<os.length:=by simpa [D.ok]using ok
   rw [List.getElem?_eq_getElem hP]at e;cases e
 | val v hv=>intro d0 e ok;cases d0 <;> simp only [D.dK]at e <;> first | (cases e;exact .val _ hv) | (split at e <;> cases e) | cases e
 | fB T o v ho ht hv=>
  intro d0 e ok
  cases d0 <;> simp only [D.dK]at e <;> first | (split at e <;> cases e;done) | skip
  all_goals try (cases e;done)
  rename_i T0 o0
  have hP:o0<os.length:=by simpa [D.ok]using ok
  rw [List.getElem?_eq_getElem hP]at e
  cases e
  have hl:=yE o0 _ (List.getElem?_eq_getElem hP)
  exact .fB _ o0 v (by omega) ((congrArg (fun x=>x.2.ty?) hl).trans ht) (by rw [py o0 _ (List.getElem?_eq_getElem hP)];exact hv)
 | int k x=>intro d0 e ok;cases d0 <;> simp only [D.dK]at e <;> first | (cases e;exact .int _ _) | (split at e <;> cases e) | cases e
 | bool b=>intro d0 e ok;cases d0 <;> simp only [D.dK]at e <;> first | (cases e;exact .bool _) | (split at e <;> cases e) | cases e
 | str l=>intro d0 e ok;cases d0 <;> simp only [D.dK]at e <;> first | (cases e;exact .str _) | (split at e <;> cases e) | cases e
 | e9=>intro d0 e ok;cases d0 <;> simp only [D.dK]at e <;> first | (cases e;exact .e9) | (split at e <;> cases e) | cases e
 | gk o ho hm=>
  intro d0 e ok
  cases d0 <;> simp only [D.dK]at e <;> first | (cases e;done) | skip
  all_goals try (split at e <;> cases e;done)
  rename_i o0
  have hP:o0<os.length:=by simpa [D.ok]using ok
  rw [List.getElem?_eq_getElem hP]at e
  cases e
  rw [← py o0 _ (List.getElem?_eq_getElem hP)]
  exact RD.gk (s:=s0) o0 (by omega) ((congrArg Prod.snd (yE o0 _ (List.getElem?_eq_getElem hP))).trans hm)
 | gn f ds vs hl _ ih=>
  intro d0 e ok
  cases d0 <;> simp only [D.dK]at e <;> first | (split at e <;> cases e;done) | skip
  all_goals try (cases e;done)
  rename_i f0 M7
  simp only [D.gn.injEq]at e
  obtain⟨rfl,rfl⟩:=e
  simp only [D.ok]at ok
  rw [fC]at hl ih
  refine .gn _ M7 vs (by simpa using hl) (fun i d v e1 e2=>ih i _ v (by rw [List.getElem?_map,e1];rfl) e2 d rfl (tn ok e1))
 | ptr o off ho hm=>
  intro d0 e ok
  cases d0 <;> simp only [D.dK]at e <;> first | (cases e;done) | skip
  all_goals try (split at e <;> cases e;done)
  rename_i o0 XF
  have hP:o0<os.length:=by simpa [D.ok]using ok
  rw [List.getElem?_eq_getElem hP]at e
  cases e
  rw [← py o0 _ (List.getElem?_eq_getElem hP)]
  exact RD.ptr (s:=s0) o0 _ (by omega) (by rw [show M0.ob o0=_ from congrArg Prod.snd (yE o0 _ (List.getElem?_eq_getElem hP))];exact hm)
 | dI row off b k h1 h2 ih=>
  intro d0 e ok
  cases d0 <;> simp only [D.dK]at e <;> first | (split at e <;> cases e;done) | skip
  all_goals try (cases e;done)
  rename_i aeK XF
  simp only [D.dI.injEq]at e
  obtain⟨rfl,rfl⟩:=e
  simp only [D.ok]at ok
  rw [fC]at h1 ih
  refine .dI aeK XF b k (fun i d e=> ?_) (fun i d u e eu=> ?_)
  ·rw [hG];exact h1 i _ (by rw [List.getElem?_map,e];rfl)
  ·rw [hG]at eu;exact ih i _ u (by rw [List.getElem?_map,e];rfl) eu d rfl (tn ok e)
 | jc g z cap hc ox=>
  intro d0 e ok
  cases d0 <;> simp only [D.dK]at e <;> first | (split at e <;> cases e;done) | skip
  all_goals try (cases e;done)
  rename_i g0 z0 sH
  simp only [D.slice.injEq]at e
  obtain⟨rfl,rfl,e⟩:=e
  have:sH = []:=by cases sH <;> simp [D.rS]at e;rfl
  subst this
  simp only [D.ok,Bool.and_eq_true]at ok
  exact .jc g0 z0 cap hc (tag ok.1 ox)
 | mq z a cap=>
  intro d0 e ok
  cases d0 <;> simp only [D.dK]at e <;> first | (split at e <;> cases e;done) | skip
  all_goals try (cases e;done)
  rename_i g0 z0 sH
  simp only [D.slice.injEq]at e
  obtain⟨hg,rfl,e⟩:=e
  have:sH = []:=by cases sH <;> simp [D.rS]at e;rfl
  subst this
  simp only [D.ok,Bool.and_eq_true]at ok
  have:g0 = .shared:=by
   cases g0 with
   | tok t y=>
    have ht:t<ts.length:=by simpa [Tag.ok]using ok.1
    simp [Tag.dK,ht]at hg
   | shared=>rfl
   | _=>simp [Tag.dK]at hg
  subst this
  exact .mq _ a cap
 | slice g z rows b k cap hl hs h1 h2 ox ih=>
  intro d0 e ok
  cases d0 <;> simp only [D.dK]at e <;> first | (split at e <;> cases e;done) | skip
  all_goals try (cases e;done)
  rename_i g0 z0 sH
  simp only [D.slice.injEq]at e
  obtain⟨rfl,rfl,rfl⟩:=e
  simp only [D.ok,Bool.and_eq_true]at ok
  rw [zS]at hl hs h1 ih ox
  simp only [zS,List.length_map]at hl ox ⊢
  have ep : ∀ (i:Nat) (row:List D),sH[i]? = some row→(sH.map (D.fV os ts))[i]? = some (D.fV os ts row):=fun i row e=>by rw [List.getElem?_map,e];rfl
  have uv : ∀ (row:List D) (j:Nat) (d:D),row[j]? = some d→(D.fV os ts row)[j]? = some (D.dK os ts d):=fun row j d e=>by rw [fC,List.getElem?_map,e];rfl
  refine .slice g0 z0 sH b k cap hl (fun row hr=> ?_) (fun i row j d e1 e2=> ?_) (fun i row j d u e1 e2 eu=> ?_) (tag ok.1 ox)
  ·have:=hs (D.fV os ts row) (List.mem_map.2 ⟨row,hr,rfl⟩)
   rwa [fC,List.length_map]at this
  ·rw [hG];exact h1 i _ j _ (ep i row e1) (uv row j d e2)
  ·rw [hG]at eu;exact ih i _ j _ u (ep i row e1) (uv row j d e2) eu d rfl (tn (Vn ok.2 e1) e2)
 | agg cells vs hl h1 _ ih=>
  intro d0 e ok
  cases d0 <;> simp only [D.dK]at e <;> first | (split at e <;> cases e;done) | skip
  all_goals try (cases e;done)
  rename_i M7
  simp only [D.agg.injEq]at e
  subst e
  simp only [D.ok]at ok
  rw [fC]at hl ih
  refine .agg M7 vs (by simpa using hl) h1 (fun i d v e1 e2=>ih i _ v (by rw [List.getElem?_map,e1];rfl) e2 d rfl (tn ok e1))
 | tuple ds vs hl _ ih=>
  intro d0 e ok
  cases d0 <;> simp only [D.dK]at e <;> first | (split at e <;> cases e;done) | skip
  all_goals try (cases e;done)
  rename_i M7
  simp only [D.tuple.injEq]at e
  subst e
  simp only [D.ok]at ok
  rw [fC]at hl ih
  refine .tuple M7 vs (by simpa using hl) (fun i d v e1 e2=>ih i _ v (by rw [List.getElem?_map,e1];rfl) e2 d rfl (tn ok e1))
theorem RD.dK (hG:M0.G=M.G) (yE : ∀ i,i<s0.aA.length→∃ o,os[i]? = some o∧o<s.aA.length∧M.loc o=M0.loc i)
 (jT : ∀ i,i<s0.aC.length→∃ t,ts[i]? = some t∧t<s.aC.length∧s.aC[t]? = s0.aC[i]? ∧M.be t=M0.be i) {d:D} {v:Value} (h:RD M0 s0 d v):RD M s (d.dK os ts) v:=by
 have tag : ∀ {g:Tag} {z len cap:Nat} {base:Option (Nat×Nat)},gW M0 s0 g z len base cap→gW M s (g.dK ts) z len base cap:=by
  intro g z len cap base h
  cases g with
  | full=>exact h
  | shared=>exact h
  | tok t y=>
   obtain⟨h1,h2⟩:=h
   obtain⟨t',e,hP,htk,hb⟩:=jT t h1
   simp only [Tag.dK,e]
   refine⟨hP,fun n hn=> ?_⟩
   rw [hb]
   exact h2 n (htk ▸ hn)
 induction h with
 | junk v=>simp only [D.dK];exact .junk v
 | int k x=>simp only [D.dK];exact .int k x
 | bool b=>simp only [D.dK];exact .bool b
 | str l=>simp only [D.dK];exact .str l
 | e9=>simp only [D.dK];exact .e9
 | ptr o off ho hk=>
  obtain⟨o',e,hP,hm⟩:=yE o ho
  simp only [D.dK,e]
  have hb:M.ob o'=M0.ob o:=congrArg Prod.snd hm
  have hm:M.mu o'=M0.mu o:=congrArg Prod.fst hm
  rw [← hm]
  exact .ptr o' off hP (by rw [hb];exact hk)
 | gk o ho hk=>
  obtain⟨o',e,hP,hm⟩:=yE o ho
  simp only [D.dK,e]
  have hb:M.ob o'=M0.ob o:=congrArg Prod.snd hm
  have hm:M.mu o'=M0.mu o:=congrArg Prod.fst hm
  rw [← hm]
  exact .gk o' hP (by rw [hb];exact hk)
 | gn f ds vs hl _ ih=>
  simp only [D.dK,fC]
  refine .gn f _ vs (by simpa using hl) (fun i d v e1 e2=> ?_)
  simp only [List.getElem?_map,Option.map_eq_some_iff]at e1
  obtain⟨d',e1,rfl⟩:=e1
  exact ih i d' v e1 e2
 | val v hv=>simp only [D.dK];exact .val v hv
 | fB T o v ho ht hv=>
  obtain⟨o',e,hP,hm⟩:=yE o ho
  simp only [D.dK,e]
  have h1:M.mu o'=M0.mu o:=congrArg Prod.fst hm
  have h2:M.ty o'=M0.ty o:=congrArg (fun x=>x.2.ty?) hm
  exact .fB T o' v hP (by rw [h2];exact ht) (by rw [h1];exact hv)
 | dI row off b k h1 h2 ih=>
  simp only [D.dK,fC]
  refine .dI _ off b k (fun i d e=> ?_) (fun i d u e eu=> ?_)
  ·simp only [List.getElem?_map,Option.map_eq_some_iff]at e
   obtain⟨d',e,rfl⟩:=e
   rw [← hG];exact h1 i d' e
  ·simp only [List.getElem?_map,Option.map_eq_some_iff]at e
   obtain⟨d',e,rfl⟩:=e
   rw [← hG]at eu;exact ih i d' u e eu
 | jc g z cap hc ht=>simp only [D.dK,D.rS];exact .jc _ z cap hc (tag ht)
 | mq z a cap=>simp only [D.dK,D.rS,Tag.dK];exact .mq z a cap
 | slice g z rows b k cap hl hs h1 h2 ht ih=>
  simp only [D.dK,zS]
  have hlen:(rows.map (D.fV os ts)).length=rows.length:=by simp
  have key:=RD.slice (M:=M) (s:=s) (g.dK ts) z (rows.map (D.fV os ts)) b k cap (by rw [hlen];exact hl) (fun row hr=>by
   obtain⟨kT,h',rfl⟩:=List.mem_map.1 hr
   rw [fC,List.length_map];exact hs kT h')
   (fun i row j d e1 e2=>by
    simp only [List.getElem?_map,Option.map_eq_some_iff]at e1
    obtain⟨kT,e1,rfl⟩:=e1
    rw [fC]at e2
    simp only [List.getElem?_map,Option.map_eq_some_iff]at e2
    obtain⟨d',e2,rfl⟩:=e2
    rw [← hG];exact h1 i kT j d' e1 e2)
   (fun i row j d u e1 e2 eu=>by
    simp only [List.getElem?_map,Option.map_eq_some_iff]at e1
    obtain⟨kT,e1,rfl⟩:=e1
    rw [fC]at e2
    simp only [List.getElem?_map,Option.map_eq_some_iff]at e2
    obtain⟨d',e2,rfl⟩:=e2
    rw [← hG]at eu;exact ih i kT j d' u e1 e2 eu)
   (by rw [hlen];exact tag ht)
  rw [hlen]at key
  exact key
 | agg cells vs hl h1 _ ih=>
  simp only [D.dK,fC]
  refine .agg _ vs (by simpa using hl) h1 (fun i d v e1 e2=> ?_)
  simp only [List.getElem?_map,Option.map_eq_some_iff]at e1
  obtain⟨d',e1,rfl⟩:=e1
  exact ih i d' v e1 e2
 | tuple ds vs hl _ ih=>
  simp only [D.dK,fC]
  refine .tuple _ vs (by simpa using hl) (fun i d v e1 e2=> ?_)
  simp only [List.getElem?_map,Option.map_eq_some_iff]at e1
  obtain⟨d',e1,rfl⟩:=e1
  exact ih i d' v e1 e2
def jJ {α:Type} : List Nat→List α→List α→List α
 | [],new,l=>l++new
 | _::_,[],l=>l
 | o::os,x::xs,l=>jJ os xs (l.set o x)
def jE (os:List Nat) (n k:Nat):List Nat:=os++(List.range k).map (n + ·)
theorem vo {α:Type} : ∀ (os:List Nat) (xs l:List α),os.length≤xs.length→(jJ os xs l).length=l.length+(xs.length - os.length)
 | [],xs,l,_=>by simp [jJ]
 | o::os,[],l,h=>by simp at h
 | o::os,x::xs,l,h=>by
  simp only [jJ]
  rw [vo os xs _ (by simpa using h)]
  simp
theorem A9 {α:Type} : ∀ (os:List Nat) (xs l:List α),os.length≤xs.length→os.Nodup→(∀ o∈os,o<l.length)→
 (∀ (i:Nat) (o:Nat),os[i]? = some o→(jJ os xs l)[o]? = xs[i]?)∧(∀ o,o<l.length→o∉os→(jJ os xs l)[o]? = l[o]?)∧
 (∀ k,(jJ os xs l)[l.length+k]? = xs[os.length+k]?)
 | [],xs,l,_,_,_=>by
  refine⟨by simp,fun o ho _=>by simp only [jJ];rw [List.getElem?_append_left ho],fun k=>by simp only [jJ];rw [List.getElem?_append_right (by omega)];simp⟩
 | o::os,[],l,h,_,_=>by simp at h
 | o::os,x::xs,l,h,hn,hP=>by
  simp only [List.nodup_cons]at hn
  have AA : ∀ q∈os,q<(l.set o x).length:=fun q hq=>by simpa using hP q (by simp [hq])
  obtain⟨h1,h2,h3⟩:=A9 os xs (l.set o x) (by simpa using h) hn.2 AA
  have ho:o<l.length:=hP o (by simp)
  simp only [jJ]
  refine⟨fun i q e=> ?_,fun q hq hq2=> ?_,fun k=> ?_⟩
  ·cases i with
   | zero=>
    simp only [List.getElem?_cons_zero,Option.some.injEq]at e
    subst e
    rw [h2 o (by simpa using ho) hn.1]
    simp [ho]
   | succ i=>simpa using h1 i q (by simpa using e)
  ·have Tf:q≠o:=fun e=>hq2 (by simp [e])
   rw [h2 q (by simpa using hq) (fun h=>hq2 (by simp [h])),List.getElem?_set_ne (Ne.symm Tf)]
  ·have:=h3 k
   simp only [List.length_set]at this
   rw [this]
   simp only [List.length_cons]
   rw [show os.length+1+k=(os.length+k)+1 by omega];simp
theorem AB (os:List Nat) (n k i:Nat):(jE os n k)[i]? = if i<os.length then os[i]? else if i<os.length+k then some (n+(i - os.length))else none:=by
 unfold jE
 split
 ·rename_i h;rw [List.getElem?_append_left h]
 ·rename_i h
  rw [List.getElem?_append_right (by omega)]
  split
  ·rename_i h2
   rw [List.getElem?_map,List.getElem?_range (by omega)];rfl
  ·rename_i h2
   rw [List.getElem?_eq_none]
   simp;omega
def posOf:List Nat→Nat→Option Nat
 | [],_=>none
 | x::r,o=>if x=o then some 0 else(posOf r o).map (· + 1)
theorem gX : ∀ {l:List Nat} {o i:Nat},posOf l o=some i→l[i]? = some o
 | x::r,o,i,h=>by
  simp only [posOf]at h
  split at h
  ·rename_i e;cases h;simp [e]
  ·cases hp:posOf r o with
   | none=>rw [hp]at h;cases h
   | some j=>rw [hp]at h;cases h;simpa using gX hp
theorem la : ∀ {l:List Nat} {o i:Nat},l.Nodup→l[i]? = some o→posOf l o=some i
 | x::r,o,i,hn,h=>by
  simp only [List.nodup_cons]at hn
  simp only [posOf]
  cases i with
  | zero=>simp at h;simp [h]
  | succ i=>
   simp at h
   have:x≠o:=fun e=>hn.1 (by rw [e];exact List.mem_of_getElem? h)
   rw [if_neg this,la hn.2 h];rfl
end
end Go.Abs

/-! Frame2 -/

namespace Go.Abs
theorem xQ {l:List Nat} {n k:Nat} (h:l.Nodup) (hl : ∀ o∈l,o<n):(jE l n k).Nodup:=by
 unfold jE
 rw [List.nodup_append]
 refine⟨h, ?_,fun a ha b hb=> ?_⟩
 ·rw [List.nodup_iff_pairwise_ne,List.pairwise_map]
  exact List.Pairwise.imp (fun h=>by omega) (List.nodup_iff_pairwise_ne.1 List.nodup_range)
 ·obtain⟨c,hc,rfl⟩:=List.mem_map.1 hb
  have:=hl a ha
  omega
def jr (M:Map) (os ts:List Nat):Map:=⟨M.G,fun i=>M.loc (os.getD i 0),fun i=>M.be (ts.getD i 0)⟩
def vZ (M M0:Map) (os ts:List Nat):Map:=
 ⟨M0.G,fun o=>match posOf os o with | some i=>M0.loc i | none=>M.loc o,fun t=>match posOf ts t with | some i=>M0.be i | none=>M.be t⟩
section
variable {P:Program} {M:Map} {s s0:St} {w:World} {os ts:List Nat}
theorem zT {l:List Nat} {i o:Nat} (h:l[i]? = some o):l.getD i 0=o:=by simp [List.getD,h]
theorem Rel.sub (r:Rel M s w) (DU:os.Nodup) (Jf:ts.Nodup) (oL : ∀ o∈os,o<s.aA.length)
 (ho:s0.aA.length=os.length) (Qj : ∀ (i o:Nat) (ds:List D),os[i]? = some o→s0.aA[i]? = some ds→s.aA[o]? = some (D.fV os ts ds)∧D.bJ os.length ts.length ds=true)
 (ht:s0.aC.length=ts.length) (rQ : ∀ (i t:Nat),ts[i]? = some t→s0.aC[i]? = s.aC[t]?):Rel (jr M os ts) s0 w:=by
 have nth : ∀ i,i<s0.aA.length→∃ o,os[i]? = some o∧o<s.aA.length:=fun i hi=>⟨os[i],List.getElem?_eq_getElem (by omega),oL _ (List.getElem_mem _)⟩
 have loc : ∀ (i:Nat) o,os[i]? = some o→(jr M os ts).loc i=M.loc o:=fun i o h=>by simp only [jr,zT h]
 have mu : ∀ (i:Nat) o,os[i]? = some o→(jr M os ts).mu i=M.mu o:=fun i o h=>congrArg Prod.fst (loc i o h)
 have be : ∀ (i:Nat) t,ts[i]? = some t→(jr M os ts).be i=M.be t:=fun i t h=>by simp only [jr,zT h]
 have Tg : ∀ t,s0.live t→∃ t',ts[t]? = some t'∧s.live t':=fun t ⟨n,hn⟩=>by
  have hP:=(List.getElem?_eq_some_iff.1 hn).1
  have e:ts[t]? = some ts[t]:=List.getElem?_eq_getElem (by omega)
  exact⟨_,e,n,by rw [← rQ t _ e];exact hn⟩
 refine⟨r.comm,fun i ds e=> ?_,fun i hi off=> ?_,fun i i' hi gF e=> ?_,fun t n e=> ?_,fun t b c z i hl e hi=> ?_,fun t t' b c z c' z' h h' e e'=> ?_⟩
 ·obtain⟨o,h1,_⟩:=nth i (List.getElem?_eq_some_iff.1 e).1
  obtain⟨h2,h3⟩:=Qj i o ds h1 e
  obtain⟨vs,T,g1,g2,g3,g4⟩:=r.obj o _ h2
  refine⟨vs,T,by rw [mu i o h1,show(jr M os ts).ob i=M.ob o from congrArg Prod.snd (loc i o h1)];exact g1,by rw [fC]at g2;simpa using g2,⟨g3.1,by rw [show(jr M os ts).ty i=M.ty o from congrArg (fun x=>x.2.ty?) (loc i o h1)];exact g3.2⟩,fun j d v e1 e2=> ?_⟩
  exact RD.Fm (M:=M) (M0:=jr M os ts) (s:=s) rfl loc ho be rQ ht (g4 j (d.dK os ts) v (by rw [fC,List.getElem?_map,e1];rfl) e2) d rfl (tn h3 e1)
 ·obtain⟨o,h1,h2⟩:=nth i hi
  rw [mu i o h1];exact r.kz o h2 off
 ·obtain⟨o,h1,h2⟩:=nth i hi
  obtain⟨o',qC,v7⟩:=nth i' gF
  rw [mu i o h1,mu i' o' qC]at e
  have:=r.inj o o' h2 v7 e
  subst this
  have a:=la DU h1
  have b:=la DU qC
  rw [a]at b;cases b;rfl
 ·obtain⟨t',h1,h2⟩:=Tg t ⟨n,e⟩
  rw [be t t' h1]
  exact r.tok t' n (by rw [← rQ t t' h1];exact e)
 ·obtain⟨t',h1,h2⟩:=Tg t hl
  obtain⟨o,h3,h4⟩:=nth i hi
  rw [be t t' h1]at e
  rw [mu i o h3]
  exact r.fm t' b c z o h2 e h4
 ·obtain⟨q,h1,h2⟩:=Tg t h
  obtain⟨q',qC,v7⟩:=Tg t' h'
  rw [be t q h1]at e
  rw [be t' q' qC]at e'
  have:=r.fS q q' b c z c' z' h2 v7 e e'
  subst this
  have a:=la Jf h1
  have b:=la Jf qC
  rw [a]at b;cases b;rfl
end
def St.back (s:St) (os ts:List Nat) (s':St):St:=
 ⟨jJ os (s'.aA.map (D.fV (jE os s.aA.length (s'.aA.length - os.length)) (jE ts s.aC.length (s'.aC.length - ts.length)))) s.aA,jJ ts s'.aC s.aC⟩
def D.back (s:St) (os ts:List Nat) (s':St) (d:D):D:=
 d.dK (jE os s.aA.length (s'.aA.length - os.length)) (jE ts s.aC.length (s'.aC.length - ts.length))
theorem eg.frame {P:Program} {f:FuncId} {Kh args:List D} {s s0:St} {Q0 Q:D→St→Prop} (os ts:List Nat) (h:eg P f Kh s0 Q0) (DU:os.Nodup) (Jf:ts.Nodup) (oL : ∀ o∈os,o<s.aA.length) (MD : ∀ t∈ts,t<s.aC.length)
 (ho:s0.aA.length=os.length) (Qj : ∀ (i o:Nat) (ds:List D),os[i]? = some o→s0.aA[i]? = some ds→s.aA[o]? = some (D.fV os ts ds)∧D.bJ os.length ts.length ds=true)
 (ht:s0.aC.length=ts.length) (rQ : ∀ (i t:Nat),ts[i]? = some t→s0.aC[i]? = s.aC[t]?)
 (Fo:args=D.fV os ts Kh) (DT:D.bJ os.length ts.length Kh=true) (k : ∀ d s',Q0 d s'→Q (d.back s os ts s') (s.back os ts s')):eg P f args s Q:=by
 intro M w fU r kK ew ha
 have r0:=r.sub DU Jf oL ho Qj ht rQ
 have loc : ∀ (i:Nat) o,os[i]? = some o→(jr M os ts).loc i=M.loc o:=fun i o h=>by simp only [jr,zT h]
 have mu : ∀ (i:Nat) o,os[i]? = some o→(jr M os ts).mu i=M.mu o:=fun i o h=>congrArg Prod.fst (loc i o h)
 have be : ∀ (i:Nat) t,ts[i]? = some t→(jr M os ts).be i=M.be t:=fun i t h=>by simp only [jr,zT h]
 subst Fo
 have XG:Laid (jr M os ts) s0 w:=by
  intro g cs hg
  obtain⟨h1,h2,h3⟩:=kK g cs hg
  refine⟨h1,fun o hP=> ?_,fun t c z hl hb=> ?_⟩
  ·obtain⟨o',ml⟩ : ∃ o',os[o]? = some o':=⟨_,List.getElem?_eq_getElem (by omega)⟩
   rw [mu o o' ml]
   exact h2 o' (oL o' (List.mem_of_getElem? ml))
  ·obtain⟨n,hn⟩:=hl
   have hP:=(List.getElem?_eq_some_iff.1 hn).1
   obtain⟨t',M8⟩ : ∃ t',ts[t]? = some t':=⟨_,List.getElem?_eq_getElem (by omega)⟩
   rw [be t t' M8]at hb
   exact h3 t' c z ⟨n,by rw [← rQ t t' M8];exact hn⟩ hb
 have hc:=h (jr M os ts) w fU r0 XG (by rw [ew,fC,List.length_map]) (fun i d v e1 e2=>
  RD.Fm (M:=M) (M0:=jr M os ts) (s:=s) rfl loc ho be rQ ht (ha i (d.dK os ts) v (by rw [fC,List.getElem?_map,e1];rfl) e2) d rfl (tn DT e1))
 refine hc.mono ?_
 rintro en w' ⟨uC,d,v,s',rfl,hq,e,r',hv⟩
 have F2:=e.le.n
 have Bx:=e.le.t
 generalize Ki:jE os s.aA.length (s'.aA.length - os.length)=kO
 generalize Kj:jE ts s.aC.length (s'.aC.length - ts.length)=nR
 have nd:kO.Nodup:=by rw [← Ki];exact xQ DU oL
 have ndt:nR.Nodup:=by rw [← Kj];exact xQ Jf MD
 have Kk : ∀ i,kO[i]? = if i<os.length then os[i]? else if i<s'.aA.length then some (s.aA.length+(i - os.length))else none:=fun i=>by
  rw [← Ki,AB];split
  ·rfl
  ·rw [show os.length+(s'.aA.length - os.length)=s'.aA.length by omega]
 have Kl : ∀ i,nR[i]? = if i<ts.length then ts[i]? else if i<s'.aC.length then some (s.aC.length+(i - ts.length))else none:=fun i=>by
  rw [← Kj,AB];split
  ·rfl
  ·rw [show ts.length+(s'.aC.length - ts.length)=s'.aC.length by omega]
 have hsb:s.back os ts s' = ⟨jJ os (s'.aA.map (D.fV kO nR)) s.aA,jJ ts s'.aC s.aC⟩:=by simp only [St.back,Ki,Kj]
 have hdb:d.back s os ts s'=d.dK kO nR:=by simp only [D.back,Ki,Kj]
 have qz:=k d s' hq
 rw [hsb,hdb]at qz
 obtain⟨p1,p2,p3⟩:=A9 os (s'.aA.map (D.fV kO nR)) s.aA (by simp;omega) DU oL
 obtain⟨q1,q2,q3⟩:=A9 ts s'.aC s.aC (by omega) Jf MD
 have F9:=vo os (s'.aA.map (D.fV kO nR)) s.aA (by simp;omega)
 have Ga:=vo ts s'.aC s.aC (by omega)
 simp only [List.length_map]at F9
 generalize Jb:(⟨jJ os (s'.aA.map (D.fV kO nR)) s.aA,jJ ts s'.aC s.aC⟩:St)=s2 at qz
 have so:s2.aA=jJ os (s'.aA.map (D.fV kO nR)) s.aA:=by rw [← Jb]
 have st:s2.aC=jJ ts s'.aC s.aC:=by rw [← Jb]
 -- the framed objects
 have fo : ∀ (i o:Nat),kO[i]? = some o→o<s2.aA.length∧s2.aA[o]? = (s'.aA[i]?).map (D.fV kO nR)∧i<s'.aA.length∧(i<os.length→o<s.aA.length∧os[i]? = some o)∧(os.length≤i→s.aA.length≤o):=by
  intro i o hi
  rw [Kk]at hi
  split at hi
  ·rename_i h1
   have hP:=oL o (List.mem_of_getElem? hi)
   refine⟨by rw [so,F9];omega,by rw [so,p1 i o hi,List.getElem?_map],by omega,fun _=>⟨hP,hi⟩,fun h=>by omega⟩
  ·split at hi
   ·rename_i h1 h2
    cases hi
    refine⟨by rw [so,F9];omega, ?_,h2,fun h=>by omega,fun _=>by omega⟩
    rw [so,p3,List.getElem?_map,show os.length+(i - os.length)=i by omega]
   ·cases hi
 have ft : ∀ (i t:Nat),nR[i]? = some t→t<s2.aC.length∧s2.aC[t]? = s'.aC[i]? ∧i<s'.aC.length∧(i<ts.length→t<s.aC.length∧ts[i]? = some t)∧(ts.length≤i→s.aC.length≤t):=by
  intro i t hi
  rw [Kl]at hi
  split at hi
  ·rename_i h1
   have hP:=MD t (List.mem_of_getElem? hi)
   refine⟨by rw [st,Ga];omega,by rw [st,q1 i t hi],by omega,fun _=>⟨hP,hi⟩,fun h=>by omega⟩
  ·split at hi
   ·rename_i h1 h2
    cases hi
    refine⟨by rw [st,Ga];omega, ?_,h2,fun h=>by omega,fun _=>by omega⟩
    rw [st,q3,show ts.length+(i - ts.length)=i by omega]
   ·cases hi
 -- all others
 have uo : ∀ o,o<s2.aA.length→posOf kO o=none→o<s.aA.length∧o∉os∧s2.aA[o]? = s.aA[o]? :=by
  intro o hP hp
  have nS : ∀ i,kO[i]? ≠some o:=fun i hi=>by rw [la nd hi]at hp;cases hp
  have h1:o<s.aA.length:=by
   rcases Nat.lt_or_ge o s.aA.length with h | h
   ·exact h
   ·exfalso
    rw [so,F9]at hP
    refine nS (os.length+(o - s.aA.length)) ?_
    rw [Kk,if_neg (by omega),if_pos (by omega)]
    congr 1;omega
  have h2:o∉os:=fun hm=>by
   obtain⟨i,hi⟩:=List.mem_iff_getElem?.1 hm
   have pB:=(List.getElem?_eq_some_iff.1 hi).1
   exact nS i (by rw [Kk,if_pos pB];exact hi)
  exact⟨h1,h2,by rw [so,p2 o h1 h2]⟩
 have ut : ∀ t,t<s2.aC.length→posOf nR t=none→t<s.aC.length∧t∉ts∧s2.aC[t]? = s.aC[t]? :=by
  intro t hP hp
  have nS : ∀ i,nR[i]? ≠some t:=fun i hi=>by rw [la ndt hi]at hp;cases hp
  have h1:t<s.aC.length:=by
   rcases Nat.lt_or_ge t s.aC.length with h | h
   ·exact h
   ·exfalso
    rw [st,Ga]at hP
    refine nS (ts.length+(t - s.aC.length)) ?_
    rw [Kl,if_neg (by omega),if_pos (by omega)]
    congr 1;omega
  have h2:t∉ts:=fun hm=>by
   obtain⟨i,hi⟩:=List.mem_iff_getElem?.1 hm
   have pB:=(List.getElem?_eq_some_iff.1 hi).1
   exact nS i (by rw [Kl,if_pos pB];exact hi)
  exact⟨h1,h2,by rw [st,q2 t h1 h2]⟩
 generalize Na:vZ M uC kO nR=M2
 have mG:uC.G=M2.G:=by rw [← Na];rfl
 have lo : ∀ (i o:Nat),kO[i]? = some o→M2.loc o=uC.loc i:=fun i o hi=>by rw [← Na];simp only [vZ,la nd hi]
 have Ti : ∀ o,posOf kO o=none→M2.loc o=M.loc o:=fun o hp=>by rw [← Na];simp only [vZ,hp]
 have mo : ∀ (i o:Nat),kO[i]? = some o→M2.mu o=uC.mu i:=fun i o hi=>congrArg Prod.fst (lo i o hi)
 have Gb : ∀ o,posOf kO o=none→M2.mu o=M.mu o:=fun o hp=>congrArg Prod.fst (Ti o hp)
 have mt : ∀ (i t:Nat),nR[i]? = some t→M2.be t=uC.be i:=fun i t hi=>by rw [← Na];simp only [vZ,la ndt hi]
 have Gc : ∀ t,posOf nR t=none→M2.be t=M.be t:=fun t hp=>by rw [← Na];simp only [vZ,hp]
 have le:Le M s M2 s2:=by
  refine⟨fun b o v hg=>by rw [← mG];exact e.le.G b o v hg,by rw [so,F9];omega,fun o hP=> ?_,by rw [st,Ga];omega,fun t n' hP oM=> ?_⟩
  ·cases hp:posOf kO o with
   | none=>exact Ti o hp
   | some i=>
    have hi:=gX hp
    rw [lo i o hi]
    obtain⟨_,_,_,h1,h2⟩:=fo i o hi
    have pB:i<os.length:=by
     rcases Nat.lt_or_ge i os.length with h | h
     ·exact h
     ·have:=h2 h;omega
    rw [e.le.loc i (by omega),loc i o (h1 pB).2]
  ·cases hp:posOf nR t with
   | none=>
    obtain⟨_,_,h3⟩:=ut t (by rw [st,Ga];omega) hp
    rw [h3]at oM
    exact⟨n',oM,Nat.le_refl _,fun _=>Gc t hp⟩
   | some i=>
    have hi:=gX hp
    obtain⟨_,g1,_,h1,h2⟩:=ft i t hi
    have pB:i<ts.length:=by
     rcases Nat.lt_or_ge i ts.length with h | h
     ·exact h
     ·have:=h2 h;omega
    rw [g1]at oM
    obtain⟨n,h3,h4,h5⟩:=e.le.tk i n' (by omega) oM
    refine⟨n,by rw [← rQ i t (h1 pB).2];exact h3,h4,fun eq=> ?_⟩
    rw [mt i t hi,h5 eq,be i t (h1 pB).2]
 have XI : ∀ {d:D} {v:Value},RD uC s' d v→RD M2 s2 (d.dK kO nR) v:=fun hd=>RD.dK mG
  (fun i hi=>by
   obtain⟨o,ho⟩ : ∃ o,kO[i]? = some o:=by
    rw [Kk];split
    ·rename_i h1;exact⟨_,List.getElem?_eq_getElem h1⟩
    ·exact⟨_,rfl⟩
   exact⟨o,ho,(fo i o ho).1,lo i o ho⟩)
  (fun i hi=>by
   obtain⟨t,ht⟩ : ∃ t,nR[i]? = some t:=by
    rw [Kl];split
    ·rename_i h1;exact⟨_,List.getElem?_eq_getElem h1⟩
    ·exact⟨_,rfl⟩
   exact⟨t,ht,(ft i t ht).1,(ft i t ht).2.1,mt i t ht⟩) hd
 -- blocks that the callee did not know
 have Fp : ∀ i,s0.live i→∃ t,ts[i]? = some t∧s.live t:=fun i ⟨n,hn⟩=>by
  have hP:=(List.getElem?_eq_some_iff.1 hn).1
  have e1:ts[i]? = some ts[i]:=List.getElem?_eq_getElem (by omega)
  exact⟨_,e1,n,by rw [← rQ i _ e1];exact hn⟩
 have Km : ∀ b,b<w.heap.size→(∀ (i o:Nat),os[i]? = some o→M.mu o≠b)→(∀ (i t:Nat) c z,ts[i]? = some t→s.live t→M.be t≠some (b,c,z))→
  w'.heap[b]? = w.heap[b]? ∧∀ off,uC.G b off=M.G b off:=by
  intro b hb h1 h2
  refine⟨e.kept b hb (fun i hi=> ?_) (fun i c z hl=> ?_),fun off=> ?_⟩
  ·have e1:os[i]? = some os[i]:=List.getElem?_eq_getElem (by omega)
   rw [mu i _ e1];exact h1 i _ e1
  ·obtain⟨t,e1,hP⟩:=Fp i hl
   rw [be i t e1];exact h2 i t c z e1 hP
  ·apply Classical.byContradiction
   intro fp
   rcases e.rP b off fp with h3 | ⟨i,c,z,hl,h3⟩
   ·omega
   ·obtain⟨t,e1,hP⟩:=Fp i hl
    rw [be i t e1]at h3
    exact h2 i t c z e1 hP h3
 have Tj : ∀ o,o<s.aA.length→o∉os→w'.heap[M.mu o]? = w.heap[M.mu o]? ∧∀ off,uC.G (M.mu o) off=M.G (M.mu o) off:=fun o hP nS=>
  Km _ (r.pP hP) (fun i o' h1 h2=>nS (by rw [← r.inj o' o (oL o' (List.mem_of_getElem? h1)) hP h2];exact List.mem_of_getElem? h1))
   (fun i t c z _ hl h2=>r.fm t _ c z o hl h2 hP rfl)
 have abv : ∀ t b c z,s.live t→t∉ts→M.be t=some (b,c,z)→w'.heap[b]? = w.heap[b]? ∧∀ off,uC.G b off=M.G b off:=fun t b c z hl nS hb=>
  Km b (r.sC hl hb) (fun i o h1=>r.fm t b c z o hl hb (oL o (List.mem_of_getElem? h1)))
   (fun i t' c' z' h1 mN h2=>nS (by rw [r.fS t t' b c z c' z' hl mN hb h2];exact List.mem_of_getElem? h1))
 have lv : ∀ t,s2.live t→(∃ i,nR[i]? = some t∧s'.live i)∨(posOf nR t=none∧s.live t∧t∉ts):=by
  rintro t ⟨n,hn⟩
  cases hp:posOf nR t with
  | none=>
   obtain⟨h1,h2,h3⟩:=ut t (List.getElem?_eq_some_iff.1 hn).1 hp
   exact .inr ⟨rfl,⟨n,by rw [← h3];exact hn⟩,h2⟩
  | some i=>
   have hi:=gX hp
   exact .inl ⟨i,hi,n,by rw [← (ft i t hi).2.1];exact hn⟩
 -- where a framed object lies
 have Tk : ∀ (i o:Nat),kO[i]? = some o→(o<s.aA.length∧o∈os∧uC.mu i=M.mu o)∨w.heap.size≤uC.mu i:=by
  intro i o hi
  obtain⟨_,_,h1,h2,h3⟩:=fo i o hi
  rcases Nat.lt_or_ge i os.length with h | h
  ·refine .inl ⟨(h2 h).1,List.mem_of_getElem? (h2 h).2, ?_⟩
   rw [e.le.mu i (by omega),mu i o (h2 h).2]
  ·exact .inr (e.pL i (by omega) h1)
 have Tl : ∀ (i t b c z:Nat),nR[i]? = some t→s'.live i→uC.be i=some (b,c,z)→(s.live t∧t∈ts∧∃ c' z',M.be t=some (b,c',z'))∨w.heap.size≤b:=by
  intro i t b c z hi hl hb
  rcases e.pM i b c z hl hb with ⟨h1,c',z',h2⟩ | h1
  ·obtain⟨t',e1,hP⟩:=Fp i h1
   have pB:=(List.getElem?_eq_some_iff.1 e1).1
   obtain⟨_,_,_,h3,_⟩:=ft i t hi
   have:=(h3 pB).2
   rw [e1]at this;cases this
   rw [be i _ e1]at h2
   exact .inl ⟨hP,List.mem_of_getElem? e1,c',z',h2⟩
  ·exact .inr h1
 refine⟨M2,d.dK kO nR,v,s2,rfl,qz, ?_, ?_,XI hv⟩
 ·-- Ext
  refine⟨le,fun b hb h1 h2=> ?_,fun o h1 h2=> ?_,fun t b c z hl hb=> ?_,fun b off fp=> ?_,e.size,e.os,e.tape,e.output⟩
  ·exact(Km b hb (fun i o h3=>h1 o (oL o (List.mem_of_getElem? h3))) (fun i t c z _ hl=>h2 t c z hl)).1
  ·cases hp:posOf kO o with
   | none=>have:=(uo o h2 hp).1;omega
   | some i=>
    have hi:=gX hp
    rw [mo i o hi]
    rcases Tk i o hi with ⟨h3,_⟩ | h3
    ·omega
    ·exact h3
  ·rcases lv t hl with ⟨i,hi,mN⟩ | ⟨hp,mN,_⟩
   ·rw [mt i t hi]at hb
    rcases Tl i t b c z hi mN hb with ⟨h1,_,h2⟩ | h1
    ·exact .inl ⟨h1,h2⟩
    ·exact .inr h1
   ·rw [Gc t hp]at hb
    exact .inl ⟨mN,c,z,hb⟩
  ·rw [← mG]at fp
   rcases e.rP b off fp with h1 | ⟨i,c,z,hl,hb⟩
   ·exact .inl h1
   ·obtain⟨t,e1,hP⟩:=Fp i hl
    rw [be i t e1]at hb
    exact .inr ⟨t,c,z,hP,hb⟩
 ·-- Rel
  refine⟨fun b o v hg=>r'.comm b o v (by rw [mG];exact hg),fun o ds BK=> ?_,fun o hP off=> ?_,fun o o' hP AA heq=> ?_,fun t n hn=> ?_,fun t b c z o hl hb hP=> ?_,fun t t' b c z c' z' hl mN hb uD=> ?_⟩
  ·cases hp:posOf kO o with
   | some i=>
    have hi:=gX hp
    obtain⟨_,g1,_⟩:=fo i o hi
    rw [g1]at BK
    obtain⟨nn,h1,rfl⟩:=Option.map_eq_some_iff.1 BK
    obtain⟨vs,T,h2,h3,h4,h5⟩:=r'.obj i nn h1
    refine⟨vs,T,by rw [mo i o hi,show M2.ob o=uC.ob i from congrArg Prod.snd (lo i o hi)];exact h2,by rw [fC];simpa using h3,⟨h4.1,by rw [show M2.ty o=uC.ty i from congrArg (fun x=>x.2.ty?) (lo i o hi)];exact h4.2⟩,fun j d v e1 e2=> ?_⟩
    rw [fC]at e1
    simp only [List.getElem?_map,Option.map_eq_some_iff]at e1
    obtain⟨d',e1,rfl⟩:=e1
    exact XI (h5 j d' v e1 e2)
   | none=>
    obtain⟨h1,h2,h3⟩:=uo o (List.getElem?_eq_some_iff.1 BK).1 hp
    rw [h3]at BK
    obtain⟨vs,T,g1,g2,g3,g4⟩:=r.obj o ds BK
    exact⟨vs,T,by rw [Gb o hp,(Tj o h1 h2).1,show M2.ob o=M.ob o from congrArg Prod.snd (Ti o hp)];exact g1,g2,⟨g3.1,by rw [show M2.ty o=M.ty o from congrArg (fun x=>x.2.ty?) (Ti o hp)];exact g3.2⟩,fun j d v e1 e2=>(g4 j d v e1 e2).mono le⟩
  ·cases hp:posOf kO o with
   | some i=>
    have hi:=gX hp
    rw [mo i o hi, ← mG];exact r'.kz i (fo i o hi).2.2.1 off
   | none=>
    obtain⟨h1,h2,h3⟩:=uo o hP hp
    rw [Gb o hp, ← mG,(Tj o h1 h2).2 off];exact r.kz o h1 off
  ·cases hp:posOf kO o with
   | some i=>
    have hi:=gX hp
    rw [mo i o hi]at heq
    cases nu:posOf kO o' with
    | some i'=>
     have gF:=gX nu
     rw [mo i' o' gF]at heq
     have:=r'.inj i i' (fo i o hi).2.2.1 (fo i' o' gF).2.2.1 heq
     subst this
     rw [hi]at gF;cases gF;rfl
    | none=>
     obtain⟨h1,h2,_⟩:=uo o' AA nu
     rw [Gb o' nu]at heq
     rcases Tk i o hi with ⟨h3,h4,h5⟩ | h3
     ·rw [h5]at heq
      have:=r.inj o o' h3 h1 heq
      subst this;exact(h2 h4).elim
     ·have:=r.pP h1;omega
   | none=>
    obtain⟨h1,h2,_⟩:=uo o hP hp
    rw [Gb o hp]at heq
    cases nu:posOf kO o' with
    | some i'=>
     have gF:=gX nu
     rw [mo i' o' gF]at heq
     rcases Tk i' o' gF with ⟨h3,h4,h5⟩ | h3
     ·rw [h5]at heq
      have:=r.inj o o' h1 h3 heq
      subst this;exact(h2 h4).elim
     ·have:=r.pP h1;omega
    | none=>
     obtain⟨qC,_,_⟩:=uo o' AA nu
     rw [Gb o' nu]at heq
     exact r.inj o o' h1 qC heq
  ·rcases lv t ⟨n,hn⟩with ⟨i,hi,hl⟩ | ⟨hp,hl,nS⟩
   ·rw [mt i t hi, ← mG]
    exact r'.tok i n (by rw [← (ft i t hi).2.1];exact hn)
   ·obtain⟨_,_,h3⟩:=ut t (List.getElem?_eq_some_iff.1 hn).1 hp
    rw [h3]at hn
    rw [Gc t hp]
    rcases r.tok t n hn with h4 | ⟨b,cap,size,vs,T,g1,g2,g3,g4,g5⟩
    ·exact .inl h4
    ·obtain⟨k1,k2⟩:=abv t b cap size hl nS g1
     exact .inr ⟨b,cap,size,vs,T,g1,by rw [k1];exact g2,g3,g4,fun off ho=>by rw [← mG,k2 off];exact g5.1 off ho,g5.2⟩
  ·rcases lv t hl with ⟨i,hi,mN⟩ | ⟨hp,mN,nS⟩
   ·rw [mt i t hi]at hb
    cases Gd:posOf kO o with
    | some j=>
     have hj:=gX Gd
     rw [mo j o hj]
     exact r'.fm i b c z j mN hb (fo j o hj).2.2.1
    | none=>
     obtain⟨h1,h2,_⟩:=uo o hP Gd
     rw [Gb o Gd]
     rcases Tl i t b c z hi mN hb with ⟨h3,_,c',z',h4⟩ | h3
     ·exact r.fm t b c' z' o h3 h4 h1
     ·have:=r.pP h1;omega
   ·rw [Gc t hp]at hb
    cases Gd:posOf kO o with
    | some j=>
     have hj:=gX Gd
     rw [mo j o hj]
     rcases Tk j o hj with ⟨h3,_,h5⟩ | h3
     ·rw [h5];exact r.fm t b c z o mN hb h3
     ·have:=r.sC mN hb;omega
    | none=>
     obtain⟨h1,_,_⟩:=uo o hP Gd
     rw [Gb o Gd];exact r.fm t b c z o mN hb h1
  ·rcases lv t hl with ⟨i,hi,xR⟩ | ⟨hp,hP,nS⟩
   ·rw [mt i t hi]at hb
    rcases lv t' mN with ⟨i',gF,Ql⟩ | ⟨nu,AA,Tn⟩
    ·rw [mt i' t' gF]at uD
     have:=r'.fS i i' b c z c' z' xR Ql hb uD
     subst this
     rw [hi]at gF;cases gF;rfl
    ·rw [Gc t' nu]at uD
     rcases Tl i t b c z hi xR hb with ⟨h3,h4,c2,z2,h5⟩ | h3
     ·have:=r.fS t t' b c2 z2 c' z' h3 AA h5 uD
      subst this;exact(Tn h4).elim
     ·have:=r.sC AA uD;omega
   ·rw [Gc t hp]at hb
    rcases lv t' mN with ⟨i',gF,Ql⟩ | ⟨nu,AA,Tn⟩
    ·rw [mt i' t' gF]at uD
     rcases Tl i' t' b c' z' gF Ql uD with ⟨h3,h4,c2,z2,h5⟩ | h3
     ·have:=r.fS t t' b c z c2 z2 hP h3 hb h5
      subst this;exact(nS h4).elim
     ·have:=r.sC hP hb;omega
    ·rw [Gc t' nu]at uD
     exact r.fS t t' b c z c' z' hP AA hb uD
end Go.Abs

/-! Walk -/

namespace Go.Abs
def Wk (d d':D):Prop:=∀ (M:Map) (s:St) (v:Value),RD M s d v→RD M s d' v
inductive lS:List D→List D→Prop where
 | nil:lS [] []
 | cons {d d':D} {l l':List D} (h:Wk d d') (t:lS l l'):lS (d::l) (d'::l')
inductive gT:List (List D)→List (List D)→Prop where
 | nil:gT [] []
 | cons {r r':List D} {l l':List (List D)} (h:lS r r') (t:gT l l'):gT (r::l) (r'::l')
theorem Wk.refl (d:D):Wk d d:=fun _ _ _ h=>h
theorem Wk.trans {a b c:D} (h:Wk a b) (k:Wk b c):Wk a c:=fun M s v r=>k M s v (h M s v r)
theorem Wk.junk (d:D):Wk d .junk:=fun _ _ v _=> .junk v
theorem lS.refl : ∀ l,lS l l
 | []=> .nil
 | d::l=> .cons (Wk.refl d) (lS.refl l)
theorem gT.refl : ∀ l,gT l l
 | []=> .nil
 | d::l=> .cons (lS.refl d) (gT.refl l)
theorem lS.len {l l':List D} (h:lS l l'):l.length=l'.length:=by
 induction h with
 | nil=>rfl
 | cons _ _ ih=>simp [ih]
theorem gT.len {l l':List (List D)} (h:gT l l'):l.length=l'.length:=by
 induction h with
 | nil=>rfl
 | cons _ _ ih=>simp [ih]
theorem lS.get {l l':List D} (h:lS l l') : ∀ {i:Nat} {d':D},l'[i]? = some d'→∃ d,l[i]? = some d∧Wk d d':=by
 induction h with
 | nil=>intro i d' e;simp at e
 | cons hd _ ih=>
  intro i d' e
  cases i with
  | zero=>simp at e;subst e;exact⟨_,rfl,hd⟩
  | succ i=>simp at e;simpa using ih e
theorem gT.get {l l':List (List D)} (h:gT l l') : ∀ {i:Nat} {d':List D},l'[i]? = some d'→∃ d,l[i]? = some d∧lS d d':=by
 induction h with
 | nil=>intro i d' e;simp at e
 | cons hd _ ih=>
  intro i d' e
  cases i with
  | zero=>simp at e;subst e;exact⟨_,rfl,hd⟩
  | succ i=>simp at e;simpa using ih e
theorem gT.append {a a' b b':List (List D)} (h:gT a a') (k:gT b b'):gT (a++b) (a'++b'):=by
 induction h with
 | nil=>exact k
 | cons hd _ ih=>exact .cons hd ih
theorem Wk.agg {l l':List D} (h:lS l l'):Wk (.agg l) (.agg l'):=by
 intro M s v r
 cases r with
 | agg _ vs hl h1 hr=>
  refine .agg _ vs (by rw [← hl,h.len]) h1 fun i d' u e e2=> ?_
  obtain⟨d,e1,hw⟩:=h.get e
  exact hw M s u (hr i d u e1 e2)
theorem Wk.tuple {l l':List D} (h:lS l l'):Wk (.tuple l) (.tuple l'):=by
 intro M s v r
 cases r with
 | tuple _ vs hl hr=>
  refine .tuple _ vs (by rw [← hl,h.len]) fun i d' u e e2=> ?_
  obtain⟨d,e1,hw⟩:=h.get e
  exact hw M s u (hr i d u e1 e2)
theorem Wk.rows {g:Tag} {z:Nat} {l l':List (List D)} (h:gT l l'):Wk (.slice g z l) (.slice g z l'):=by
 intro M s v r
 cases r with
 | jc _ _ cap hc ht=>cases h;exact .jc _ _ _ hc ht
 | mq _ a cap=>cases h;exact .mq _ a cap
 | slice _ _ _ b k cap hl hs h1 h2 ht=>
  rw [h.len]
  refine .slice g z l' b k cap (by rw [← h.len];exact hl) (fun row hm=> ?_) (fun i row j d e e2=> ?_) (fun i row j d u e e2 eu=> ?_) (by rw [← h.len];exact ht)
  ·obtain⟨i,hi,he⟩:=List.mem_iff_getElem.1 hm
   obtain⟨r0,g1,g2⟩:=h.get (i:=i) (by rw [List.getElem?_eq_getElem hi,he])
   rw [← g2.len];exact hs r0 (List.mem_of_getElem? g1)
  ·obtain⟨r0,g1,g2⟩:=h.get e
   obtain⟨d0,g3,_⟩:=g2.get e2
   exact h1 i r0 j d0 g1 g3
  ·obtain⟨r0,g1,g2⟩:=h.get e
   obtain⟨d0,g3,g4⟩:=g2.get e2
   exact g4 M s u (h2 i r0 j d0 u g1 g3 eu)
theorem Wk.shared (g:Tag) (z:Nat) (l:List (List D)):Wk (.slice g z l) (.slice .shared z l):=by
 intro M s v r
 cases r with
 | jc _ _ cap hc ht=>exact .jc _ _ _ hc trivial
 | mq _ a cap=>exact .mq _ a cap
 | slice _ _ _ b k cap hl hs h1 h2 ht=>exact .slice _ _ _ b k cap hl hs h1 h2 trivial
theorem Wk.slice {g:Tag} {z:Nat} {l l':List (List D)} (h:gT l l'):Wk (.slice g z l) (.slice .shared z l'):=(Wk.shared g z l).trans (Wk.rows h)
theorem Wk.nil (g:Tag) (z z':Nat):Wk (.slice g z []) (.slice .shared z' []):=by
 intro M s v r
 cases r with
 | jc _ _ cap hc ht=>exact .jc _ _ _ hc trivial
 | mq _ a cap=>exact .mq _ a cap
 | slice _ _ _ b k cap hl hs h1 h2 ht=>exact .slice _ _ [] b k cap hl (by simp) (by simp) (by simp) trivial
theorem Wk.aeL (z z':Nat):Wk (.slice .full z []) (.slice .full z' []):=by
 intro M s v r
 cases r with
 | jc _ _ cap hc ht=>exact .jc _ _ _ hc ht
 | slice _ _ _ b k cap hl hs h1 h2 ht=>exact .slice _ _ [] b k cap hl (by simp) (by simp) (by simp) ht
theorem Rel.Ba {M:Map} {s:St} {w:World} {aA:List (List D)} (r:Rel M s w) (h:gT s.aA aA):Rel M ⟨aA,s.aC⟩ w∧Le M s M ⟨aA,s.aC⟩:=by
 have le:Le M s M ⟨aA,s.aC⟩:=⟨fun _ _ _ h=>h,Nat.le_of_eq h.len,fun _ _=>rfl,Nat.le_refl _,fun t n' _ e=>⟨n',e,Nat.le_refl _,fun _=>rfl⟩⟩
 have hl:=h.len
 refine⟨⟨r.comm,fun o ds e=> ?_,fun o ho=>r.kz o (by rw [hl];exact ho),fun o o' ho ml=>r.inj o o' (by rw [hl];exact ho) (by rw [hl];exact ml),r.tok,
  fun t b c z o hv e ho=>r.fm t b c z o hv e (by rw [hl];exact ho),r.fS⟩,le⟩
 obtain⟨ds0,g1,g2⟩:=h.get e
 obtain⟨vs,T,h1,h2,h3,h4⟩:=r.obj o ds0 g1
 refine⟨vs,T,h1,by rw [h2,g2.len],h3,fun i d v e1 e2=> ?_⟩
 obtain⟨d0,k1,k2⟩:=g2.get e1
 exact(k2 _ _ _ (h4 i d0 v k1 e2)).mono le
theorem Rel.blank {M:Map} {s:St} {w:World} (r:Rel M s w) :
 Rel (M.ey s.aC.length none) {s with aC:=s.aC++ [some 0]} w∧Le M s (M.ey s.aC.length none) {s with aC:=s.aC++ [some 0]}:=by
 have gM : ∀ t,St.live {s with aC:=s.aC++ [some 0]} t→s.live t∨t=s.aC.length:=by
  rintro t ⟨k,hk⟩
  rcases Nat.lt_or_ge t s.aC.length with h | h
  ·rw [List.getElem?_append_left h]at hk;exact .inl ⟨k,hk⟩
  ·have:=(List.getElem?_eq_some_iff.1 hk).1
   simp at this;exact .inr (by omega)
 have hP : ∀ t,s.live t→t<s.aC.length:=fun t ⟨k,hk⟩=>(List.getElem?_eq_some_iff.1 hk).1
 have hold : ∀ t,t<s.aC.length→(M.ey s.aC.length none).be t=M.be t:=fun t h=>by simp [Map.ey];omega
 have dV:(M.ey s.aC.length none).be s.aC.length=none:=by simp [Map.ey]
 have le:Le M s (M.ey s.aC.length none) {s with aC:=s.aC++ [some 0]}:=
  ⟨fun _ _ _ h=>h,Nat.le_refl _,fun _ _=>rfl,by simp,fun t k h e=>by
   rw [List.getElem?_append_left h]at e
   exact⟨k,e,Nat.le_refl _,fun _=>hold t h⟩⟩
 refine⟨⟨r.comm,fun o ds e=> ?_,r.kz,r.inj,fun t k e=> ?_,fun t b' c z o hl e ml=> ?_,fun t t' b' c z c' z' h h' e e'=> ?_⟩,le⟩
 ·obtain⟨fD,T',h3,h4,h5,h6⟩:=r.obj o ds e
  exact⟨fD,T',h3,h4,h5,fun i d v e1 e2=>(h6 i d v e1 e2).mono le⟩
 ·rcases Nat.lt_or_ge t s.aC.length with h | h
  ·rw [List.getElem?_append_left h]at e
   rw [hold t h];exact r.tok t k e
  ·have:=(List.getElem?_eq_some_iff.1 e).1
   simp at this
   have:t=s.aC.length:=by omega
   subst this
   simp at e;subst e
   exact .inl ⟨dV,rfl⟩
 ·rcases gM t hl with h | h
  ·rw [hold t (hP t h)]at e;exact r.fm t b' c z o h e ml
  ·subst h;rw [dV]at e;cases e
 ·rcases gM t h with h | h <;> rcases gM t' h' with h' | h'
  ·rw [hold t (hP t h)]at e;rw [hold t' (hP t' h')]at e';exact r.fS t t' b' c z c' z' h h' e e'
  ·subst h';rw [dV]at e';cases e'
  ·subst h;rw [dV]at e;cases e
  ·omega
theorem RD.own {M:Map} {s:St} {z z':Nat} {v:Value} (h:RD M s (.slice .full z []) v):RD (M.ey s.aC.length none) {s with aC:=s.aC++ [some 0]} (.slice (.tok s.aC.length) z' []) v:=by
 have key : ∀ base:Option (Nat×Nat),gW (M.ey s.aC.length none) {s with aC:=s.aC++ [some 0]} (.tok s.aC.length) z' 0 base 0:=by
  intro base
  refine⟨by simp,fun n e=> ?_⟩
  simp at e
  subst e
  exact⟨Nat.le_refl _,fun _=> .inl ⟨by simp [Map.ey],rfl,fun h=>by cases h⟩⟩
 cases h with
 | jc _ _ cap hc ht=>subst hc;exact .jc _ _ _ rfl (key none)
 | slice _ _ _ b k cap hl hs h1 h2 ht=>
  have:cap=0:=ht
  subst this
  exact .slice _ _ [] b k 0 (Nat.le_refl _) (by simp) (by simp) (by simp) (key _)
section
variable {P:Program} {B:fj} {nt:Nat} {Q:Exit→Tm→St→Prop} {tm:Tm} {s:St}
theorem yG {M0 M:Map} {s0 s:St} {w0 w:World} (e:Ext M0 s0 w0 M s w) (le:Le M s (M.ey s.aC.length none) {s with aC:=s.aC++ [some 0]}) :
 Ext M0 s0 w0 (M.ey s.aC.length none) {s with aC:=s.aC++ [some 0]} w:=by
 refine e.trans ⟨le,fun _ _ _ _=>rfl,fun o h1 h2=>absurd h2 (Nat.not_lt.2 h1),fun t b c z hl eq=> ?_,fun _ _ h=>(h rfl).elim,Nat.le_refl _,rfl,rfl,rfl⟩
 obtain⟨k,hk⟩:=hl
 rcases Nat.lt_or_ge t s.aC.length with h | h
 ·refine .inl ⟨⟨k,by rw [List.getElem?_append_left h]at hk;exact hk⟩,c,z, ?_⟩
  have:(M.ey s.aC.length none).be t=M.be t:=by simp [Map.ey];omega
  rw [← this];exact eq
 ·have:=(List.getElem?_eq_some_iff.1 hk).1
  simp at this
  have:t=s.aC.length:=by omega
  subst this
  simp [Map.ey]at eq
theorem Sem.nT {ac:AC} (t z':Nat) {z:Nat} (hw:tm.get t = .slice .full z []) (h:Sem P B nt ac Q (tm.set t (.slice (.tok s.aC.length) z' [])) {s with aC:=s.aC++ [some 0]}):Sem P B nt ac Q tm s:=by
 intro c hc act w ⟨M,e,r,ht,h1,h2⟩
 obtain⟨r',le⟩:=r.blank
 refine h c hc act w ⟨_,yG e le,r',fun k=> ?_,h1,h2⟩
 rw [Tm.zQ]
 split
 ·rename_i hk;subst hk;have:=ht k;rw [hw]at this;exact this.own
 ·exact(ht k).mono le
end
def aD (P:Program) (f:Nat) (args:List D) (s:St) (d:D) (s':St):Prop:=eg P f args s fun x y=>x=d∧y=s'
def ig (n m:Nat) (res:List (Nat×Option (Bool×Nat))) (d:D) (s':St):Exit→Tm→St→Prop
 | .normal,tm,s | .ret,tm,s=>∃ l,az res tm s=some l∧Wk ((aB l).fg n m) d∧gT (s.cut n m).aA s'.aA∧(s.cut n m).aC=s'.aC
 | _,_,_=>False
theorem eg.Ba {P:Program} {f:FuncId} {args BN:List D} {s:St} {Q:D→St→Prop} (ha:lS args BN) (h:eg P f BN s Q):eg P f args s Q:=
 fun M w fU r kK hl hr=>h M w fU r kK (by rw [hl,ha.len]) fun i d v e1 e2=>by
  obtain⟨d0,g1,g2⟩:=ha.get e1
  exact g2 _ _ _ (hr i d0 v g1 e2)
theorem eg.Tp {P:Program} {f:FuncId} {args:List D} {s:St} {Q Q':D→St→Prop} (h:eg P f args s Q) (hq : ∀ d s1,Q d s1→∃ d' s',Wk d d'∧gT s1.aA s'.aA∧s1.aC=s'.aC∧Q' d' s'):eg P f args s Q':=
 fun M w fU r kK hl ha=>(h M w fU r kK hl ha).mono fun _ _ ⟨M',d,v,s1,h1,h2,h3,h4,h5⟩=>by
  obtain⟨d',s',g1,g2,g3,g4⟩:=hq d s1 h2
  obtain⟨r',le⟩:=h4.Ba g2
  have hs:(⟨s'.aA,s1.aC⟩:St)=s':=by rw [g3]
  rw [hs]at r' le
  refine⟨M',d',v,s',h1,g4,h3.trans ⟨le,fun _ _ _ _=>rfl,fun o h1 h2=> ?_,fun t b c z hl e=> .inl ⟨by obtain⟨n,hn⟩:=hl;exact⟨n,by rw [g3];exact hn⟩,c,z,e⟩,fun _ _ h=>(h rfl).elim,Nat.le_refl _,rfl,rfl,rfl⟩,r',(g1 _ _ _ h5).mono le⟩
  rw [← g2.len]at h2
  exact absurd h2 (Nat.not_lt.2 h1)
theorem aD.intro {P:Program} {f:FuncId} {af:AF} {args:List D} {s:St} {d:D} {s':St} (h0 : ∃ fn,P.funcs[f]? = some fn∧cF P fn=some af) (hl:args.length≤af.ntmps)
 (h : ∀ B:fj,B.s=s→Sem P B af.ntmps af.body (ig s.aA.length s.aC.length af.results d s') (nr 0 args) s):aD P f args s d s':=by
 obtain⟨fn,hf,hc⟩:=h0
 refine eg.Tp (eg.intro (Q:=fun d1 s1=>Wk d1 d∧gT s1.aA s'.aA∧s1.aC=s'.aC) hf hc hl fun B hB=>(h B hB).mono fun e tm s1 hr=> ?_) fun d1 s1 ⟨h1,h2,h3⟩=>⟨d,s',h1,h2,h3,rfl,rfl⟩
 subst hB
 cases e with
 | normal=>obtain⟨l,h1,h2,h3,h4⟩:=hr;exact⟨l,h1,_,_,Nat.le_refl _,Nat.le_refl _,h2,h3,h4⟩
 | ret=>obtain⟨l,h1,h2,h3,h4⟩:=hr;exact⟨l,h1,_,_,Nat.le_refl _,Nat.le_refl _,h2,h3,h4⟩
 | exit id=>exact hr.elim
 | goto l=>exact hr.elim
 | panic ch=>exact hr.elim
 | outgrown=>exact hr.elim
theorem aD.use {P:Program} {f:FuncId} {args:List D} {s:St} {d:D} {s':St} {Q:D→St→Prop} (h:aD P f args s d s') (hq:Q d s'):eg P f args s Q:=
 eg.mono h fun x y ⟨h1,h2⟩=>by subst h1;subst h2;exact hq
mutual
theorem qK (os ts:List Nat) : ∀ d,D.ok 0 0 d=true→D.dK os ts d=d
 | .junk,_=>by simp [D.dK]
 | .int k n,_=>by simp [D.dK]
 | .bool b,_=>by simp [D.dK]
 | .str l,_=>by simp [D.dK]
 | .e9,_=>by simp [D.dK]
 | .val v,_=>by simp [D.dK]
 | .fB T o,h=>by simp [D.ok]at h
 | .gk o,h=>by simp [D.ok]at h
 | .gn f cs,h=>by
  simp only [D.ok]at h
  simp only [D.dK,ff os ts cs h]
 | .ptr o f,h=>by simp [D.ok]at h
 | .dI r f,h=>by
  simp only [D.ok]at h
  simp only [D.dK,ff os ts r h]
 | .slice g z rows,h=>by
  simp only [D.ok,Bool.and_eq_true]at h
  simp only [D.dK,iP os ts rows h.2]
  cases g with
  | tok t y=>simp [Tag.ok]at h
  | full=>rfl
  | shared=>rfl
 | .agg cs,h=>by
  simp only [D.ok]at h
  simp only [D.dK,ff os ts cs h]
 | .tuple cs,h=>by
  simp only [D.ok]at h
  simp only [D.dK,ff os ts cs h]
theorem ff (os ts:List Nat) : ∀ l,D.bJ 0 0 l=true→D.fV os ts l=l
 | [],_=>by simp [D.fV]
 | d::r,h=>by
  simp only [D.bJ,Bool.and_eq_true]at h
  simp only [D.fV,qK os ts d h.1,ff os ts r h.2]
theorem iP (os ts:List Nat) : ∀ l,D.iZ 0 0 l=true→D.rS os ts l=l
 | [],_=>by simp [D.rS]
 | d::r,h=>by
  simp only [D.iZ,Bool.and_eq_true]at h
  simp only [D.rS,ff os ts d h.1,iP os ts r h.2]
end
mutual
theorem C0 {n m n' m':Nat} (hn:n≤n') (hm:m≤m') : ∀ d,D.ok n m d=true→D.ok n' m' d=true
 | .junk,_=>rfl
 | .int k n,_=>rfl
 | .bool b,_=>rfl
 | .str l,_=>rfl
 | .e9,_=>rfl
 | .val v,_=>rfl
 | .fB T o,h=>by simp [D.ok]at h ⊢;omega
 | .gk o,h=>by simp [D.ok]at h ⊢;omega
 | .gn f cs,h=>by
  simp only [D.ok]at h ⊢
  exact gI hn hm cs h
 | .ptr o f,h=>by simp only [D.ok,decide_eq_true_eq]at h ⊢;omega
 | .dI r f,h=>by
  simp only [D.ok]at h ⊢
  exact gI hn hm r h
 | .slice g z rows,h=>by
  simp only [D.ok,Bool.and_eq_true]at h ⊢
  refine⟨?_,mA hn hm rows h.2⟩
  cases g with
  | tok t y=>simp only [Tag.ok,decide_eq_true_eq]at h ⊢;omega
  | full=>rfl
  | shared=>rfl
 | .agg cs,h=>by
  simp only [D.ok]at h ⊢
  exact gI hn hm cs h
 | .tuple cs,h=>by
  simp only [D.ok]at h ⊢
  exact gI hn hm cs h
theorem gI {n m n' m':Nat} (hn:n≤n') (hm:m≤m') : ∀ l,D.bJ n m l=true→D.bJ n' m' l=true
 | [],_=>rfl
 | d::r,h=>by
  simp only [D.bJ,Bool.and_eq_true]at h ⊢
  exact⟨C0 hn hm d h.1,gI hn hm r h.2⟩
theorem mA {n m n' m':Nat} (hn:n≤n') (hm:m≤m') : ∀ l,D.iZ n m l=true→D.iZ n' m' l=true
 | [],_=>rfl
 | d::r,h=>by
  simp only [D.iZ,Bool.and_eq_true]at h ⊢
  exact⟨gI hn hm d h.1,mA hn hm r h.2⟩
end
def S0:St:=⟨[],[]⟩
section
variable {P:Program} {f:Nat}
theorem aD.pure {args:List D} {d:D} (h:aD P f args S0 d S0) (ha:D.bJ 0 0 args=true) (hd:D.ok 0 0 d=true) (s:St):aD P f args s d s:=by
 refine eg.frame [] [] h List.nodup_nil List.nodup_nil (by simp) (by simp) rfl (by simp) rfl (by simp) (by rw [ff _ _ _ ha]) ha ?_
 rintro _ _ ⟨rfl,rfl⟩
 refine⟨qK _ _ _ hd, ?_⟩
 simp [St.back,jJ,S0]
theorem aD.jK {args row kT:List D} {d:D} (h:aD P f (.ptr 0 0::args) ⟨[row],[]⟩ d ⟨[kT],[]⟩) (ha:D.bJ 0 0 args=true) (hr:D.bJ 0 0 row=true) (FW:D.bJ 0 0 kT=true) (hd:D.ok 0 0 d=true)
 {s:St} {o:Nat} (ho:s.aA[o]? = some row):aD P f (.ptr o 0::args) s d ⟨s.aA.set o kT,s.aC⟩:=by
 refine eg.frame [o] [] h (by simp) List.nodup_nil (by simpa using (List.getElem?_eq_some_iff.1 ho).1) (by simp) rfl (fun i o' ds e1 e2=> ?_) rfl (by simp) (by simp [D.fV,D.dK,ff _ _ _ ha])
  (by simp [D.bJ,D.ok,gI (Nat.zero_le 1) (Nat.le_refl 0) _ ha]) ?_
 ·cases i with
  | zero=>simp at e1 e2;subst e1;subst e2;exact⟨by rw [ff _ _ _ hr];exact ho,gI (Nat.zero_le 1) (Nat.le_refl 0) _ hr⟩
  | succ i=>simp at e1
 ·rintro _ _ ⟨rfl,rfl⟩
  refine⟨qK _ _ _ hd, ?_⟩
  simp [St.back,jJ,ff _ _ _ FW]
end
end Go.Abs
