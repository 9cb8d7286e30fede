/-
  What is proved here: part 0 of the road to the claim (Globs, Abs, Lang, Rel, Sound, Sound2, Sound3, Sound4, Sound5, Sound6, Sound7, SoundM, Sound8, Code, Flow, Call, Frame, Frame2, Walk).
  No conditions.
-/
import GoSem.Core.Value
import Derived.Orders
import Derived.Calls
import Derived.Below
import Derived.Laws.AppendOwn
import Derived.Deep.AppendSrc
import Derived.Laws.StructEq
import Derived.Laws.Slices
import Derived.Laws.Strings
import Derived.Laws.IdiomStrings
import Derived.Laws.BytesString
import Derived.MapKept
import Derived.Scope

set_option linter.unusedSimpArgs false
set_option linter.unusedVariables false

/-! Globs -/

namespace Go.Abs
def OF:Nat→Option (Array Value):=fun _=>none
def lL:TypeId:=1000000
end Go.Abs

/-! Abs -/

namespace Go.Abs
inductive Tag where
 | full
 | shared
 | tok (t:Nat) (byte:Bool:=false) -- 'byte': its row's block bears the bytes' type
inductive D where
 | junk
 | int (k:IntKind) (n:Int)
 | bool (b:Bool)
 | str (s:List UInt8)
 | ei
 | ptr (o off:Nat)
 | dc (row:List D) (off:Nat)
 | slice (g:Tag) (size:Nat) (rows:List (List D))
 | agg (cells:List D)
 | tuple (vs:List D)
 | val (v:Value)
 | eo (T:TypeId) (o:Nat)
 | fi (f:Nat) (kl:List D) -- a function value with what it captured
 | ff (o:Nat) -- a map, kept as an object: keys and values by turns
instance:Inhabited D:=⟨.junk⟩
inductive Ob where
 | any
 | ty (T:TypeId)
 | map
structure Map where
 G:Nat→Nat→Option Value
 loc:Nat→Nat×Ob
 be:Nat→Option (Nat×Nat×Nat)
def Map.mu (M:Map) (o:Nat):Nat:=(M.loc o).1
def Ob.ty? : Ob→Option TypeId
 | .ty T=>some T
 | _=>none
def Map.ob (M:Map) (o:Nat):Ob:=(M.loc o).2
def Map.ty (M:Map) (o:Nat):Option TypeId:=(M.loc o).2.ty?
structure St where
 av:List (List D)
 aw:List (Option Nat)
def zs (z:Nat):Nat:=if z=0 then 1 else z
def bz (byte:Bool) (size:Nat):Nat:=match byte with | true=>0 | false=>size
def fI (M:Map) (s:St) (g:Tag) (size len:Nat) (base:Option (Nat×Nat)) (cap:Nat):Prop:=
 match g with
 | .full=>cap=len
 | .shared=>True
 | .tok t y=>t<s.aw.length∧∀ n,s.aw[t]? = some (some n)→len≤n∧
  (len=n→(M.be t=none∧cap=0∧(y=true→base=none))∨∃ b,base=some (b,0)∧M.be t=some (b,cap,bz y size))
inductive RD (M:Map) (s:St):D→Value→Prop where
 | junk (v:Value):RD M s .junk v
 | int (k:IntKind) (n:Int):RD M s (.int k n) (.int k n)
 | bool (b:Bool):RD M s (.bool b) (.bool b)
 | str (l:List UInt8):RD M s (.str l) (.string ⟨⟨l⟩⟩)
 | ei:RD M s .ei (.pointer none)
 | ptr (o off:Nat) (h:o<s.av.length) (hm:M.ob o≠ .map):RD M s (.ptr o off) (.pointer (some ⟨M.mu o,off,none⟩))
 | dc (row:List D) (off b k:Nat) (h1 : ∀ (i:Nat) (d:D),row[i]? = some d→∃ u,M.G b (k+i)=some u)
  (h2 : ∀ (i:Nat) (d:D) (u:Value),row[i]? = some d→M.G b (k+i)=some u→RD M s d u) :
  RD M s (.dc row off) (.pointer (some ⟨b,k+off,none⟩))
 | gA (g:Tag) (size cap:Nat) (hc:cap=0) (ht:fI M s g size 0 none cap):RD M s (.slice g size []) (.slice none 0 cap)
 | km (size:Nat) (a:Addr) (cap:Nat):RD M s (.slice .shared size []) (.slice (some a) 0 cap)
 | slice (g:Tag) (size:Nat) (rows:List (List D)) (b k cap:Nat) (hl:rows.length≤cap)
  (hs : ∀ row∈rows,row.length=size)
  (h1 : ∀ (i:Nat) (row:List D) (j:Nat) (d:D),rows[i]? = some row→row[j]? = some d→∃ u,M.G b (k+(i*size+j))=some u)
  (h2 : ∀ (i:Nat) (row:List D) (j:Nat) (d:D) (u:Value),rows[i]? = some row→row[j]? = some d→M.G b (k+(i*size+j))=some u→RD M s d u)
  (ht:fI M s g size rows.length (some (b,k)) cap) :
  RD M s (.slice g size rows) (.slice (some ⟨b,k,none⟩) rows.length cap)
 | agg (cells:List D) (vs:Array Value) (hl:cells.length=vs.size) (h1 : ∀ v∈vs,v.oneCell'=true)
  (h : ∀ (i:Nat) (d:D) (v:Value),cells[i]? = some d→vs[i]? = some v→RD M s d v):RD M s (.agg cells) (.agg vs)
 | tuple (ds:List D) (vs:Array Value) (hl:ds.length=vs.size)
  (h : ∀ (i:Nat) (d:D) (v:Value),ds[i]? = some d→vs[i]? = some v→RD M s d v):RD M s (.tuple ds) (.tuple vs)
 | val (v:Value) (h:v.oneCell'=true):RD M s (.val v) v
 | eo (T:TypeId) (o:Nat) (v:Value) (h:o<s.av.length) (ht:M.ty o=some T) (hv:v = .pointer none∨v = .pointer (some ⟨M.mu o,0,none⟩)):RD M s (.eo T o) v
 | fi (f:Nat) (ds:List D) (vs:Array Value) (hl:ds.length=vs.size)
  (h : ∀ (i:Nat) (d:D) (v:Value),ds[i]? = some d→vs[i]? = some v→RD M s d v):RD M s (.fi f ds) (.func (.func f) #[] vs)
 | ff (o:Nat) (h:o<s.av.length) (hm:M.ob o = .map):RD M s (.ff o) (.map (some (M.mu o)))
structure Le (M:Map) (s:St) (M':Map) (s':St):Prop where
 G : ∀ b o v,M.G b o=some v→M'.G b o=some v
 n:s.av.length≤s'.av.length
 loc : ∀ o,o<s.av.length→M'.loc o=M.loc o
 t:s.aw.length≤s'.aw.length
 tk : ∀ t n',t<s.aw.length→s'.aw[t]? = some (some n')→∃ n,s.aw[t]? = some (some n)∧n≤n'∧(n'=n→M'.be t=M.be t)
theorem Le.mu {M:Map} {s:St} {M':Map} {s':St} (h:Le M s M' s') : ∀ o,o<s.av.length→M'.mu o=M.mu o:=fun o ho=>congrArg Prod.fst (h.loc o ho)
theorem Le.ob {M:Map} {s:St} {M':Map} {s':St} (h:Le M s M' s') : ∀ o,o<s.av.length→M'.ob o=M.ob o:=fun o ho=>congrArg Prod.snd (h.loc o ho)
theorem Le.ty {M:Map} {s:St} {M':Map} {s':St} (h:Le M s M' s') : ∀ o,o<s.av.length→M'.ty o=M.ty o:=fun o ho=>congrArg (fun x=>x.2.ty?) (h.loc o ho)
theorem Le.refl (M:Map) (s:St):Le M s M s:=⟨fun _ _ _ h=>h,Nat.le_refl _,fun _ _=>rfl,Nat.le_refl _,fun _ n _ h=>⟨n,h,Nat.le_refl _,fun _=>rfl⟩⟩
theorem Le.trans {M M' DC:Map} {s s' GC:St} (h:Le M s M' s') (k:Le M' s' DC GC):Le M s DC GC:=
 ⟨fun b o v e=>k.G b o v (h.G b o v e),Nat.le_trans h.n k.n,fun o ho=>(k.loc o (Nat.lt_of_lt_of_le ho h.n)).trans (h.loc o ho),Nat.le_trans h.t k.t,
  fun t Tn ht e=>by
   obtain⟨n',e',l,b⟩:=k.tk t Tn (Nat.lt_of_lt_of_le ht h.t) e
   obtain⟨n,GD,l',b'⟩:=h.tk t n' ht e'
   refine⟨n,GD,Nat.le_trans l' l,fun eq=> ?_⟩
   have h1:n'=n:=by omega
   have h2:Tn=n':=by omega
   rw [b h2,b' h1]⟩
theorem fI.mono {M M':Map} {s s':St} (h:Le M s M' s') {g:Tag} {size len cap:Nat} {base:Option (Nat×Nat)} (ht:fI M s g size len base cap) :
 fI M' s' g size len base cap:=by
 cases g with
 | full=>exact ht
 | shared=>trivial
 | tok t y=>
  obtain⟨hD,ht⟩:=ht
  refine⟨Nat.lt_of_lt_of_le hD h.t,fun n' e'=> ?_⟩
  obtain⟨n,e,l,b⟩:=h.tk t n' hD e'
  obtain⟨l',b'⟩:=ht n e
  refine⟨Nat.le_trans l' l,fun eq=> ?_⟩
  have h1:n'=n:=by omega
  have h2:len=n:=by omega
  rw [b h1]
  exact b' h2
theorem RD.mono {M M':Map} {s s':St} (h:Le M s M' s') {d:D} {v:Value} (r:RD M s d v):RD M' s' d v:=by
 induction r with
 | junk v=>exact .junk v
 | int k n=>exact .int k n
 | bool b=>exact .bool b
 | str l=>exact .str l
 | ei=>exact .ei
 | ptr o off ho hm=>rw [← h.mu o ho];exact .ptr o off (Nat.lt_of_lt_of_le ho h.n) (by rw [h.ob o ho];exact hm)
 | dc row off b k h1 h2 ih=>
  refine .dc row off b k (fun i d e=> ?_) (fun i d u e eu=> ?_)
  ·obtain⟨u,hu⟩:=h1 i d e;exact⟨u,h.G _ _ _ hu⟩
  ·obtain⟨u',hu⟩:=h1 i d e
   have:=h.G _ _ _ hu
   rw [eu]at this
   cases this
   exact ih i d u e hu
 | gA g size cap hc ht=>exact .gA g size cap hc (ht.mono h)
 | km size a cap=>exact .km size a cap
 | slice g size rows b k cap hl hs h1 h2 ht ih=>
  refine .slice g size rows b k cap hl hs (fun i row j d e e2=> ?_) (fun i row j d u e e2 eu=> ?_) (ht.mono h)
  ·obtain⟨u,hu⟩:=h1 i row j d e e2;exact⟨u,h.G _ _ _ hu⟩
  ·obtain⟨u',hu⟩:=h1 i row j d e e2
   have:=h.G _ _ _ hu
   rw [eu]at this
   cases this
   exact ih i row j d u e e2 hu
 | agg cells vs hl h1 _ ih=>exact .agg cells vs hl h1 ih
 | tuple ds vs hl _ ih=>exact .tuple ds vs hl ih
 | val v hv=>exact .val v hv
 | eo T o v ho ht hv=>exact .eo T o v (Nat.lt_of_lt_of_le ho h.n) (by rw [h.ty o ho];exact ht) (by rw [h.mu o ho];exact hv)
 | fi f ds vs hl _ ih=>exact .fi f ds vs hl ih
 | ff o ho hm=>rw [← h.mu o ho];exact .ff o (Nat.lt_of_lt_of_le ho h.n) (by rw [h.ob o ho];exact hm)
def St.live (s:St) (t:Nat):Prop:=∃ n,s.aw[t]? = some (some n)
def fv:List MapEntry→List Value
 | []=> []
 | e::l=>e.key::e.val::fv l
def jO (x:Option Obj) (k:Ob) (vs:Array Value) (T:TypeId):Prop:=
 match k with
 | .map=>∃ es ck,x=some (.map es ck)∧vs.toList=fv es.toList
 | _=>x=some (.cells vs T (0,0))
theorem jO.cells {x:Option Obj} {k:Ob} {vs:Array Value} {T:TypeId} (h:jO x k vs T) (hk:k≠ .map):x=some (.cells vs T (0,0)):=by
 cases k with
 | map=>exact absurd rfl hk
 | any=>exact h
 | ty _=>exact h
theorem jO.of {x:Option Obj} {k:Ob} {vs:Array Value} {T:TypeId} (h:x=some (.cells vs T (0,0))) (hk:k≠ .map):jO x k vs T:=by
 cases k with
 | map=>exact absurd rfl hk
 | any=>exact h
 | ty _=>exact h
theorem jO.some {x:Option Obj} {k:Ob} {vs:Array Value} {T:TypeId} (h:jO x k vs T) : ∃ o,x=some o:=by
 cases k with
 | map=>obtain⟨es,ck,h,_⟩:=h;exact⟨_,h⟩
 | any=>exact⟨_,h⟩
 | ty _=>exact⟨_,h⟩
theorem jO.lt {w:World} {b:Nat} {k:Ob} {vs:Array Value} {T:TypeId} (h:jO w.heap[b]? k vs T):b<w.heap.size:=by
 obtain⟨o,h⟩:=h.some
 exact(Array.getElem?_eq_some_iff.1 h).1
structure Rel (M:Map) (s:St) (w:World):Prop where
 comm : ∀ b o v,M.G b o=some v→w.cell? ⟨b,o,none⟩=some v∧v.oneCell'=true
 obj : ∀ (o:Nat) (ds:List D),s.av[o]? = some ds→∃ (vs:Array Value) (T:TypeId),jO w.heap[M.mu o]? (M.ob o) vs T∧vs.size=ds.length∧
  ((∀ v∈vs,v.oneCell'=true)∧∀ T',M.ty o=some T'→T'=T)∧∀ (i:Nat) (d:D) (v:Value),ds[i]? = some d→vs[i]? = some v→RD M s d v
 iO : ∀ o,o<s.av.length→∀ off,M.G (M.mu o) off=none
 inj : ∀ o o',o<s.av.length→o'<s.av.length→M.mu o=M.mu o'→o=o'
 tok : ∀ t n,s.aw[t]? = some (some n)→(M.be t=none∧n=0)∨∃ (b cap z:Nat) (vs:Array Value) (T:TypeId),M.be t=some (b,cap,z)∧
  w.heap[b]? = some (.cells vs T (0,0))∧vs.size=cap*zs z∧n≤cap∧(∀ off,n*zs z≤off→M.G b off=none)∧(z=0→T=lL)
 dW : ∀ t b c z o,s.live t→M.be t=some (b,c,z)→o<s.av.length→M.mu o≠b
 eW : ∀ t t' b c z c' z',s.live t→s.live t'→M.be t=some (b,c,z)→M.be t'=some (b,c',z')→t=t'
structure Ext (M:Map) (s:St) (w:World) (M':Map) (s':St) (w':World):Prop where
 le:Le M s M' s'
 kept : ∀ b,b<w.heap.size→(∀ o,o<s.av.length→M.mu o≠b)→(∀ t c z,s.live t→M.be t≠some (b,c,z))→w'.heap[b]? = w.heap[b]?
 mT : ∀ o,s.av.length≤o→o<s'.av.length→w.heap.size≤M'.mu o
 mU : ∀ t b c z,s'.live t→M'.be t=some (b,c,z)→(s.live t∧∃ c' z',M.be t=some (b,c',z'))∨w.heap.size≤b
 o4 : ∀ b o,M'.G b o≠M.G b o→w.heap.size≤b∨∃ t c z,s.live t∧M.be t=some (b,c,z)
 size:w.heap.size≤w'.heap.size
 os:w'.os=w.os
 tape:w'.tape=w.tape
 output:w'.output=w.output
theorem Ext.refl (M:Map) (s:St) (w:World):Ext M s w M s w:=
 ⟨Le.refl M s,fun _ _ _ _=>rfl,fun o h h'=>by omega,fun t b c z h e=> .inl ⟨h,c,z,e⟩,fun _ _ h=>(h rfl).elim,Nat.le_refl _,rfl,rfl,rfl⟩
theorem Ext.trans {M M' DC:Map} {s s' GC:St} {w w' To:World} (h:Ext M s w M' s' w') (k:Ext M' s' w' DC GC To):Ext M s w DC GC To:=by
 refine⟨h.le.trans k.le,fun b hb ho ht=> ?_,fun o h1 h2=> ?_,fun t b c z h1 e=> ?_,fun b o dP=> ?_,Nat.le_trans h.size k.size,
  k.os.trans h.os,k.tape.trans h.tape,k.output.trans h.output⟩
 ·rw [k.kept b (Nat.lt_of_lt_of_le hb h.size) (fun o hD e=> ?_) (fun t c z hD e=> ?_),h.kept b hb ho ht]
  ·rcases Nat.lt_or_ge o s.av.length with h1 | h1
   ·exact ho o h1 ((h.le.mu o h1).symm.trans e)
   ·have:=h.mT o h1 hD;omega
  ·rcases h.mU t b c z hD e with ⟨h1,c',z',e'⟩ | h1
   ·exact ht t c' z' h1 e'
   ·omega
 ·rcases Nat.lt_or_ge o s'.av.length with h3 | h3
  ·rw [k.le.mu o h3];exact h.mT o h1 h3
  ·exact Nat.le_trans h.size (k.mT o h3 h2)
 ·rcases k.mU t b c z h1 e with ⟨h2,c',z',e'⟩ | h2
  ·exact h.mU t b c' z' h2 e'
  ·exact .inr (Nat.le_trans h.size h2)
 ·by_cases e:M'.G b o=M.G b o
  ·have:DC.G b o≠M'.G b o:=fun e'=>dP (e'.trans e)
   rcases k.o4 b o this with h1 | ⟨t,c,z,h1,h2⟩
   ·exact .inl (Nat.le_trans h.size h1)
   ·rcases h.mU t b c z h1 h2 with ⟨h3,c',z',e'⟩ | h3
    ·exact .inr ⟨t,c',z',h3,e'⟩
    ·exact .inl h3
  ·exact h.o4 b o e
def Laid (M:Map) (s:St) (w:World):Prop:=∀ g cs,OF g=some cs→
 (∃ T fr,w.heap[g]? = some (.cells cs T fr))∧(∀ o,o<s.av.length→M.mu o≠g)∧∀ t c z,s.live t→M.be t≠some (g,c,z)
theorem Laid.ext {M M':Map} {s s':St} {w w':World} (h:Laid M s w) (e:Ext M s w M' s' w'):Laid M' s' w':=by
 intro g cs hg
 obtain⟨⟨T,fr,h1⟩,h2,h3⟩:=h g cs hg
 have hD:g<w.heap.size:=(Array.getElem?_eq_some_iff.1 h1).1
 refine⟨⟨T,fr,by rw [e.kept g hD h2 h3];exact h1⟩,fun o ho=> ?_,fun t c z hl hb=> ?_⟩
 ·rcases Nat.lt_or_ge o s.av.length with h4 | h4
  ·rw [e.le.mu o h4];exact h2 o h4
  ·have:=e.mT o h4 ho;omega
 ·rcases e.mU t g c z hl hb with ⟨h4,c',z',h5⟩ | h4
  ·exact h3 t c' z' h4 h5
  ·omega
end Go.Abs

/-! Lang -/

namespace Go.Abs
abbrev Tm:=List (Nat×D)
def Tm.get:Tm→Nat→D
 | [],_=> .junk
 | (k,d)::r,t=>if k=t then d else Tm.get r t
def Tm.set:Tm→Nat→D→Tm
 | [],t,d=> [(t,d)]
 | (k,e)::r,t,d=>if k=t then(k,d)::r else(k,e)::Tm.set r t d
def Tm.put (tm:Tm) (dst:Option Nat) (d:D):Tm:=
 match dst with
 | some t=>tm.set t d
 | none=>tm
inductive X where
 | s (t:Nat)
 | k (d:D)
def X.ev (tm:Tm):X→D
 | .s t=>tm.get t
 | .k d=>d
inductive AO where
 | mv (x:X)
 | pick (c a b:X)
 | alloc (zero:List D)
 | box (x:X)
 | build (zero:List D) (parts:List (Nat×Nat×X))
 | c7 (zero:List D) (size n:Nat) (parts:List (Nat×X))
 | p6 (zero:List D) (size n:Nat) (parts:List (Nat×X))
 | tT (x:X)
 | load (x:X) (agg:Bool) (size:Nat)
 | store (p x:X) (size:Nat)
 | fU (x:X)
 | bin (op:BinOp) (x y:X)
 | zh (neg:Bool) (x y:X)
 | eqs (neg:Bool) (ks:List Nat) (x y:X) -- the fields' kinds: 0 an integer, 1 a bool, 2 a text
 | A7 (neg:Bool) (x y:X)
 | un (op:UnOp) (x:X)
 | conv (k:IntKind) (x:X)
 | wY (x:X)
 | rS (x:X)
 | A8 (size:Nat) (x:X) (lo hi:Option X)
 | A9 (x:X) (lo hi:Option X)
 | ay (x:X) (off:Nat)
 | rT (x:X) (off:Nat) (agg:Bool) (size:Nat)
 | bX (x i:X) (size:Nat)
 | tU (x i:X)
 | ext (x:X) (i:Nat)
 | len (x:X)
 | p7 (x:X)
 | app (size bytes:Nat) (x y:X)
 | mm (isMax:Bool) (x y:X)
 | oC (zero:List D) (T:TypeId) -- a new object whose first cell is to hold its own address
 | tV (x:X) (T:TypeId)
 | tW (x y:X) -- bytes behind others
 | apps (x y:X) -- a text's bytes behind others
 | pH (f:Nat) (xs:List X) -- a function value
 | pI
 | sB (m k v:X) -- a text's slice in a map
 | qy (m k:X) (zero:D)
inductive AI where
 | fX (dst:Option Nat) (g:Option (Nat×Bool)) (t:Nat) (xs:List X) -- what a slot holds is called
 | nil (dst:Option Nat) (g:Option (Nat×Bool)) (neg:Bool) (x:X) -- is a slice nil? (of an empty one nothing is known)
 | op (dst:Option Nat) (g:Option (Nat×Bool)) (o:AO)
 | call (dst:Option Nat) (g:Option (Nat×Bool)) (f:Nat) (xs:List X)
inductive AC where
 | skip
 | run (is:List AI)
 | par (is:List AI) (jf:List (Nat×Nat))
 | seq (a b:AC)
 | cond (x:X) (a b:AC)
 | block (id:Nat) (a:AC)
 | loop (a:AC)
 | exit (id:Nat)
 | scope (a:AC)
 | label (l:Nat)
 | goto (l:Nat)
 | ret
structure AF where
 ntmps:Nat
 results:List (Nat×Option (Bool×Nat)) -- a slot; or a slot that holds the address, whether an aggregate, how many cells
 body:AC
inductive AK where
 | pure
 | load
 | alloc
 | core
 deriving DecidableEq
def AO.kind:AO→AK
 | .alloc _=> .core
 | .box _=> .core
 | .p6 .. => .core
 | .tT _=> .core
 | .store .. => .core
 | .app .. => .core
 | .oC .. => .core
 | .tV .. => .core
 | .tW .. => .core
 | .apps .. => .core
 | .pI=> .core
 | .sB .. => .core
 | .qy .. => .load
 | .load .. => .load
 | _=> .pure
def AI.kind:AI→AK
 | .op (some _) none (.alloc _)=> .alloc
 | .op _ _ o=>o.kind
 | _=> .core
def AI.dst:AI→Option Nat
 | .op d _ _=>d
 | .call d _ _ _=>d
 | .nil d _ _ _=>d
 | .fX d _ _ _=>d
def X.reads:X→List Nat
 | .s t=> [t]
 | .k _=> []
def kC:List X→List Nat
 | []=> []
 | x::r=>x.reads++kC r
def tX:Option X→List Nat
 | none=> []
 | some x=>x.reads
def AO.reads:AO→List Nat
 | .mv x=>x.reads
 | .pick c a b=>c.reads++(a.reads++b.reads)
 | .alloc _=> []
 | .box x=>x.reads
 | .build _ ps=>kC (ps.map (·.2.2))
 | .c7 _ _ _ ps=>kC (ps.map (·.2))
 | .p6 _ _ _ ps=>kC (ps.map (·.2))
 | .tT x=>x.reads
 | .load x _ _=>x.reads
 | .store p x _=>p.reads++x.reads
 | .fU x=>x.reads
 | .bin _ x y=>x.reads++y.reads
 | .zh _ x y=>x.reads++y.reads
 | .eqs _ _ x y=>x.reads++y.reads
 | .A7 _ x y=>x.reads++y.reads
 | .un _ x=>x.reads
 | .conv _ x=>x.reads
 | .wY x=>x.reads
 | .rS x=>x.reads
 | .A8 _ x lo hi=>x.reads++(tX lo++tX hi)
 | .A9 x lo hi=>x.reads++(tX lo++tX hi)
 | .ay x _=>x.reads
 | .rT x _ _ _=>x.reads
 | .bX x i _=>x.reads++i.reads
 | .tU x i=>x.reads++i.reads
 | .ext x _=>x.reads
 | .len x=>x.reads
 | .p7 x=>x.reads
 | .app _ _ x y=>x.reads++y.reads
 | .mm _ x y=>x.reads++y.reads
 | .oC _ _=> []
 | .tV x _=>x.reads
 | .tW x y=>x.reads++y.reads
 | .apps x y=>x.reads++y.reads
 | .pH _ xs=>kC xs
 | .pI=> []
 | .sB m k v=>m.reads++(k.reads++v.reads)
 | .qy m k _=>m.reads++k.reads
def p8:Option (Nat×Bool)→List Nat
 | none=> []
 | some (t,_)=> [t]
def AI.reads:AI→List Nat
 | .op _ g o=>p8 g++o.reads
 | .call _ g _ xs=>p8 g++kC xs
 | .nil _ g _ x=>p8 g++x.reads
 | .fX _ g t xs=>p8 g++(t::kC xs)
def w5 (d:Option Nat) (l:List Nat):Bool:=
 match d with
 | none=>true
 | some t=> !l.contains t
def AI.apart (a q:AI):Bool:=
 w5 a.dst q.reads && w5 q.dst a.reads && (match a.dst,q.dst with | some x,some y=>x != y | _,_=>true)
def fl (l:List (List Nat)) (i:Nat):List Nat:=l.getD i []
def fY (is:List AI) (i:Nat):AK:=
 match is[i]? with
 | some a=>a.kind
 | none=> .core
def iI (is:List AI) (i j:Nat):Bool:=
 match is[i]?,is[j]? with
 | some a,some b=>a.apart b
 | _,_=>false
def fa:AK→Bool
 | .core=>true
 | .alloc=>true
 | _=>false
def gd (is:List AI) (l:List Nat):Nat:=(l.filter fun i=>fa (fY is i)).length
def iB (is:List AI) (pq:List Nat):List Nat→Bool
 | []=>true
 | a::r=>(!(fY is a == .alloc && pq.contains a) || r.all pq.contains) && iB is pq r
def ll (is:List AI) (pt:List (List Nat)) (pre:List Nat) (q b:Nat):Bool:=
 match fY is q with
 | .core=>pre.all (fl pt q).contains
 | .alloc=>pre.all fun a=>iI is a q
 | .pure=>(pre.all fun a=>(fl pt q).contains a || iI is a q) && iB is (fl pt q) pre
 | .load=>(pre.all fun a=>(fl pt q).contains a || iI is a q) && iB is (fl pt q) pre &&
  decide (gd is (pre.filter fun a=> !(fl pt q).contains a)≤b)
def pC (is:List AI) (af pt:List (List Nat)):List Nat→List (Nat×Nat)→Bool
 | _,[]=>true
 | pre,(q,b)::r=>ll is pt pre q b && !pre.contains q && ((fl af q).all fun j=>j != q && !(r.map (·.1)).contains j) && pC is af pt (q::pre) r
def rU (af pt:List (List Nat)):Nat→Bool
 | 0=>true
 | i+1=>((fl pt i).all fun j=>(fl af i).contains j || (fl af i).any fun k=>(fl pt k).contains j) && rU af pt i
def Ba (is:List AI) (af pt:List (List Nat)) (jf:List (Nat×Nat)):Bool:=
 rU af pt is.length && pC is af pt [] jf && (List.range is.length).all (jf.map (·.1)).contains && jf.all (fun p=>decide (p.1<is.length)) &&
  (List.range is.length).all fun i=>(fl af i).all fun j=>decide (j<is.length)
def jS (o:Oper):List Nat:=(o.after.toList.filter (Region.binds .any)).map (·.on)
def Bb:List (List Nat)→List (List Nat)→List (List Nat)
 | done,[]=>done
 | done,es::r=>Bb (done++ [(es.flatMap fun k=>fl done k).foldl (fun l j=>if l.contains j then l else l++ [j]) es]) r
def LN (is:List AI) (pt:List (List Nat)):List Nat→List Nat→List Nat→List Nat
 | [],rest,out=>out++((rest.filter fun j=>fY is j == .alloc)++rest.filter fun j=> !(fY is j == .alloc))
 | c::cs,rest,out=>
  let Jr:=rest.filter fun j=>(fl pt c).contains j
  LN is pt cs (rest.filter fun j=> !(Jr.contains j) && j != c) (out++((Jr.filter fun j=>fY is j == .alloc)++(Jr.filter fun j=> !(fY is j == .alloc))++ [c]))
def LO (is:List AI) (pt:List (List Nat)):List Nat→List Nat→List (Nat×Nat)
 | _,[]=> []
 | pre,q::r=>(q,if fY is q == .load then gd is (pre.filter fun a=> !(fl pt q).contains a)else 0)::LO is pt (q::pre) r
def GF (is:List AI) (af:List (List Nat)):List (Nat×Nat):=
 let pt:=Bb [] af
 let all:=List.range is.length
 LO is pt [] (LN is pt (all.filter fun i=>fY is i == .core) all [])
def D.row:D→Option (List D)
 | .agg cs=>some cs
 | .junk=>none
 | .tuple _=>none
 | d=>some [d]
def part (cs:List D) (off:Nat) (agg:Bool) (size:Nat):Option D:=
 match agg with
 | true=>if off+size≤cs.length then some (.agg ((cs.drop off).take size))else none
 | false=>cs[off]?
def gw (cs:List D) (off:Nat) (r:List D):List D:=cs.take off++r++cs.drop (off+r.length)
def mV (cells:List D):List (Nat×Nat×D)→Option (List D)
 | []=>some cells
 | (off,size,d)::rest=>
  match d.row with
  | none=>none
  | some r=>if r.length=size∧off+size≤cells.length then mV (gw cells off r) rest else none
def fN (zero:List D):Nat→List (List D)
 | 0=> []
 | n+1=>zero::fN zero n
def gB (size:Nat) (rows:List (List D)):List (Nat×D)→Option (List (List D))
 | []=>some rows
 | (i,d)::rest=>
  match d.row with
  | none=>none
  | some r=>if r.length=size∧i<rows.length then gB size (rows.set i r) rest else none
def bytesLess:List UInt8→List UInt8→Bool:=Op.bytesLess
def bt:Nat:=1099511627776
def eD (op:BinOp) (k:IntKind) (a b:Int):Option D:=
 match op with
 | .add=>some (.int k (k.wrap (a+b)))
 | .sub=>some (.int k (k.wrap (a - b)))
 | .mul=>some (.int k (k.wrap (a*b)))
 | .quo=>if b=0 then none else some (.int k (k.wrap (a.tdiv b)))
 | .rem=>if b=0 then none else some (.int k (a.tmod b))
 | .eql=>some (.bool (a==b))
 | .neq=>some (.bool (a != b))
 | .lss=>some (.bool (decide (a<b)))
 | .leq=>some (.bool (decide (a≤b)))
 | .gtr=>some (.bool (decide (a > b)))
 | .geq=>some (.bool (decide (a≥b)))
 | _=>none
def kD (op:BinOp) (a b:List UInt8):Option D:=
 match op with
 | .add=>if a.length+b.length≤bt then some (.str (a++b))else none
 | .eql=>some (.bool (a==b))
 | .neq=>some (.bool (!(a==b)))
 | .lss=>some (.bool (bytesLess a b))
 | _=>none
def rb (op:BinOp) (x y:D):Option D:=
 match x,y with
 | .int k a, .int k' b=>if k=k' then eD op k a b else none
 | .str a, .str b=>kD op a b
 | _,_=>none
def jT:Nat→D→D→Option Bool
 | 0, .int k a, .int k' b=>if k=k' then some (a==b)else none
 | 1, .bool a, .bool b=>some (a==b)
 | 2, .str a, .str b=>some (a==b)
 | _,_,_=>none
def iJ:List Nat→List D→List D→Option Bool
 | [],[],[]=>some true
 | k::ks,x::xs,y::ys=>
  match jT k x y with
  | none=>none
  | some true=>iJ ks xs ys
  | some false=>some false
 | _,_,_=>none
def Bc (op:UnOp) (x:D):Option D:=
 match op,x with
 | .neg, .int k n=>some (.int k (k.wrap (0 - n)))
 | .not, .bool b=>some (.bool (!b))
 | _,_=>none
def zi:List D→Option UInt8
 | [.int .u8 n]=>some (UInt8.ofNat n.toNat)
 | _=>none
def kR:List (List D)→Option (List UInt8)
 | []=>some []
 | r::rs=>
  match zi r,kR rs with
  | some b,some bs=>some (b::bs)
  | _,_=>none
def Tag.cut (g:Tag) (whole:Bool):Tag:=
 match g with
 | .full=>if whole then .full else .shared
 | g=>g
def tY (lo:Option D):Option Int:=
 match lo with
 | none=>some 0
 | some (.int _ n)=>some n
 | _=>none
def tZ (hi:Option D) (len:Nat):Option Int:=
 match hi with
 | none=>some len
 | some (.int _ n)=>some n
 | _=>none
def jC (size bytes:Nat) (x y:D) (s:St):Option (D×St):=
 match x,y with
 | .slice g z rows, .slice _ z' new=>
  if(rows = []∨z=size)∧(new = []∨z'=size)∧(rows.length+new.length)*(bytes+1)≤bt then
   match new with
   | []=>some (.slice g z rows,s)
   | _::_=>
    match g with
    | .full=>some (.slice (.tok s.aw.length) size (rows++new),{s with aw:=s.aw++ [some (rows.length+new.length)]})
    | .shared=>none
    | .tok _ true=>none
    | .tok t false=>if z=size∧s.aw[t]? = some (some rows.length)then some (.slice (.tok t) size (rows++new),{s with aw:=s.aw.set t (some (rows.length+new.length))})else none
  else none
 | _,_=>none
def ub (x y:D) (s:St):Option (D×St):=
 match x,y with
 | .slice g z rows, .slice _ z' new=>
  if(rows = []∨z=1)∧(new = []∨z'=1)∧(rows.length+new.length)*2≤bt then
   match new with
   | []=>some (.slice g z rows,s)
   | _::_=>
    match g with
    | .full=>some (.slice (.tok s.aw.length true) 1 (rows++new),{s with aw:=s.aw++ [some (rows.length+new.length)]})
    | .shared=>none
    | .tok t y=>if z=1∧s.aw[t]? = some (some rows.length)then some (.slice (.tok t y) 1 (rows++new),{s with aw:=s.aw.set t (some (rows.length+new.length))})else none
  else none
 | _,_=>none
def sC (key:List UInt8) (zero:D):List D→Option D
 | []=>some zero
 | .str k::d::r=>if k==key then some d else sC key zero r
 | _=>none
def rf (key:List UInt8) (v:D):List D→Option (List D)
 | []=>some [.str key,v]
 | .str k::d::r=>if k==key then some (.str k::v::r)else match rf key v r with | some r'=>some (.str k::d::r') | none=>none
 | _=>none
def aK (o:AO) (tm:Tm) (s:St):Option (D×St):=
 match o with
 | .mv x=>some (x.ev tm,s)
 | .pick c a b=>
  match c.ev tm with
  | .bool t=>some (if t then a.ev tm else b.ev tm,s)
  | _=>none
 | .alloc zero=>some (.ptr s.av.length 0,{s with av:=s.av++ [zero]})
 | .box x=>
  match (x.ev tm).row with
  | some r=>some (.ptr s.av.length 0,{s with av:=s.av++ [r]})
  | none=>none
 | .build zero parts=>
  match mV zero (parts.map fun p=>(p.1,p.2.1,p.2.2.ev tm))with
  | some cs=>some (.agg cs,s)
  | none=>none
 | .c7 zero size n parts=>
  match gB size (fN zero n) (parts.map fun p=>(p.1,p.2.ev tm))with
  | some rows=>some (.slice .full size rows,s)
  | none=>none
 | .p6 zero size n parts=>
  match gB size (fN zero n) (parts.map fun p=>(p.1,p.2.ev tm))with
  | some rows=>some (.slice (.tok s.aw.length) size rows,{s with aw:=s.aw++ [some rows.length]})
  | none=>none
 | .tT x=>
  match x.ev tm with
  | .slice (.tok t _) z rows=>if rows≠ []∧s.aw[t]? = some (some rows.length)then some (.slice .shared z rows,{s with aw:=s.aw.set t none})else none
  | _=>none
 | .load x agg size=>
  match x.ev tm with
  | .ptr o off=>
   match s.av[o]? with
   | some cs=>match part cs off agg size with | some d=>some (d,s) | none=>none
   | none=>none
  | .dc row off=>match part row off agg size with | some d=>some (d,s) | none=>none
  | _=>none
 | .store p x size=>
  match p.ev tm,(x.ev tm).row with
  | .ptr o off,some r=>
   match s.av[o]? with
   | some cs=>if r.length=size∧off+size≤cs.length then some (.tuple [],{s with av:=s.av.set o (gw cs off r)})else none
   | none=>none
  | _,_=>none
 | .fU x=>
  match x.ev tm with
  | .ptr o off=>some (.ptr o off,s)
  | .dc row off=>some (.dc row off,s)
  | _=>none
 | .bin op x y=>match rb op (x.ev tm) (y.ev tm)with | some d=>some (d,s) | none=>none
 | .zh neg x y=>
  match x.ev tm,y.ev tm with
  | .bool a, .bool b=>some (.bool (if neg then !(a==b)else a==b),s)
  | _,_=>none
 | .eqs neg ks x y=>
  match x.ev tm,y.ev tm with
  | .agg a, .agg b=>match iJ ks a b with | some e=>some (.bool (if neg then !e else e),s) | none=>none
  | _,_=>none
 | .A7 neg x y=>
  match x.ev tm,y.ev tm with
  | .ei, .ei=>some (.bool (!neg),s)
  | .ptr _ _, .ei=>some (.bool neg,s)
  | .dc _ _, .ei=>some (.bool neg,s)
  | _,_=>none
 | .un op x=>match Bc op (x.ev tm)with | some d=>some (d,s) | none=>none
 | .conv k x=>match x.ev tm with | .int _ n=>some (.int k (k.wrap n),s) | _=>none
 | .wY x=>
  match x.ev tm with
  | .slice _ _ rows=>match kR rows with | some b=>some (.str b,s) | none=>none
  | _=>none
 | .rS x=>
  match x.ev tm with
  | .str l=>some (.slice .shared 1 (l.map fun c=> [.int .u8 c.toNat]),s)
  | _=>none
 | .A8 size x lo hi=>
  match x.ev tm with
  | .slice g z rows=>
   match tY (lo.map (·.ev tm)),tZ (hi.map (·.ev tm)) rows.length with
   | some l,some h=>
    if(rows = []∨z=size)∧0≤l∧l≤h∧h≤rows.length then
     some (.slice (if l=0 then g.cut (h=rows.length)else .shared) z ((rows.take h.toNat).drop l.toNat),s)else none
   | _,_=>none
  | _=>none
 | .A9 x lo hi=>
  match x.ev tm with
  | .str t=>
   match tY (lo.map (·.ev tm)),tZ (hi.map (·.ev tm)) t.length with
   | some l,some h=>if 0≤l∧l≤h∧h≤t.length then some (.str ((t.take h.toNat).drop l.toNat),s)else none
   | _,_=>none
  | _=>none
 | .ay x off=>
  match x.ev tm with
  | .ptr o k=>some (.ptr o (k+off),s)
  | .dc row k=>some (.dc row (k+off),s)
  | _=>none
 | .rT x off agg size=>
  match x.ev tm with
  | .agg cs=>match part cs off agg size with | some d=>some (d,s) | none=>none
  | _=>none
 | .bX x i size=>
  match x.ev tm,i.ev tm with
  | .slice _ z rows, .int _ n=>
   if 0≤n∧z=size then
    match rows[n.toNat]? with
    | some row=>some (.dc row 0,s)
    | none=>none
   else none
  | _,_=>none
 | .tU x i=>
  match x.ev tm,i.ev tm with
  | .str t, .int _ n=>
   if 0≤n then
    match t[n.toNat]? with
    | some c=>some (.int .u8 c.toNat,s)
    | none=>none
   else none
  | _,_=>none
 | .ext x i=>
  match x.ev tm with
  | .tuple ds=>match ds[i]? with | some d=>some (d,s) | none=>none
  | _=>none
 | .p7 x=>
  match x.ev tm with
  | .str t=>some (.int .i64 t.length,s)
  | _=>none
 | .len x=>
  match x.ev tm with
  | .slice _ _ rows=>some (.int .i64 rows.length,s)
  | _=>none
 | .app size bytes x y=>jC size bytes (x.ev tm) (y.ev tm) s
 | .mm isMax x y=>
  match x.ev tm,y.ev tm with
  | .int k a, .int k' b=>if k=k' then some (.int k (if isMax then(if b > a then b else a)else(if b<a then b else a)),s)else none
  | _,_=>none
 | .oC zero T=>
  match zero with
  | .ei::r=>some (.ptr s.av.length 0,{s with av:=s.av++ [.eo T s.av.length::r]})
  | _=>none
 | .tV x T=>
  match (x.ev tm).row with
  | some (.ei::r)=>some (.ptr s.av.length 0,{s with av:=s.av++ [.eo T s.av.length::r]})
  | _=>none
 | .tW x y=>ub (x.ev tm) (y.ev tm) s
 | .apps x y=>
  match y.ev tm with
  | .str l=>ub (x.ev tm) (.slice .shared 1 (l.map fun c=> [.int .u8 c.toNat])) s
  | _=>none
 | .pH f xs=>some (.fi f (xs.map (·.ev tm)),s)
 | .pI=>some (.ff s.av.length,{s with av:=s.av++ [[]]})
 | .sB m k v=>
  match m.ev tm,k.ev tm,v.ev tm with
  | .ff o, .str key, .slice g z rows=>
   match s.av[o]? with
   | some cs=>match rf key (.slice g z rows) cs with | some gi=>some (.tuple [],{s with av:=s.av.set o gi}) | none=>none
   | none=>none
  | _,_,_=>none
 | .qy m k zero=>
  match m.ev tm,k.ev tm with
  | .ff o, .str key=>
   match s.av[o]? with
   | some cs=>match sC key zero cs with | some d=>some (d,s) | none=>none
   | none=>none
  | _,_=>none
def Js (b:ByteArray):List UInt8:=b.data.toList
def nV:Value→Option D
 | .int k n=>some (.int k n)
 | .bool b=>some (.bool b)
 | .string b=>some (.str (Js b))
 | .pointer none=>some .ei
 | .slice none 0 0=>some (.slice .full 0 [])
 | .nilIface=>some (.val .nilIface)
 | _=>none
def kn:List Value→Option (List D)
 | []=>some []
 | v::r=>match nV v,kn r with | some d,some ds=>some (d::ds) | _,_=>none
def wg:Value→Option D
 | .slice none 0 0=>some (.val (.slice none 0 0))
 | v=>nV v
def qz:List Value→Option (List D)
 | []=>some []
 | v::r=>match wg v,qz r with | some d,some ds=>some (d::ds) | _,_=>none
def Ea:Value→Option D
 | .agg cs=>(kn cs.toList).map .agg
 | .tuple ⟨[]⟩=>some (.tuple [])
 | v=>nV v
def cX:Operand→Option X
 | .tmp t=>some (.s t)
 | .const v=>(Ea v).map .k
 | .func f=>some (.k (.fi f []))
 | _=>none
def rV:List Operand→Option (List X)
 | []=>some []
 | x::r=>match cX x,rV r with | some d,some ds=>some (d::ds) | _,_=>none
def LP:Option Operand→Option (Option X)
 | none=>some none
 | some x=>(cX x).map some
section
variable (P:Program)
def oD (t:TypeId):Option Bool:=
 match P.underlying t with
 | some (.struct _) | some (.array _ _)=>some true
 | some _=>some false
 | none=>none
def zeroOf (t:TypeId):Option (List D):=
 match P.info? t with
 | some i=>match i.zero with | some z=>if z.cells.size=i.size then kn z.cells.toList else none | none=>none
 | none=>none
def jD (t:TypeId) (f:Nat):Option (Nat×Nat×Bool):=
 match P.underlying t with
 | some (.struct fs)=>
  match fs[f]? with
  | some fd=>match P.info? fd.type,oD P fd.type with
   | some i,some a=>if i.size=0 then none else some (fd.offset,i.size,a)
   | _,_=>none
  | none=>none
 | _=>none
def GG (t u:TypeId):Bool:=
 match P.underlying u with
 | some (.pointer e)=>e==t
 | _=>false
def OG (t:TypeId):Bool:=
 match P.underlying t with
 | some (.struct fs)=>
  match fs[0]? with
  | some f=>GG P t f.type
  | none=>false
 | _=>false
def Eb (t:TypeId):Bool:=
 match P.underlying t with
 | some (.struct fs)=>
  match fs[0]? with
  | some f=>GG P t f.type || OG P f.type
  | none=>false
 | _=>false
def Ec (self:Bool) (l:List Value):Option (List D):=if self then qz l else kn l
def sD (t:TypeId):Option (List D):=
 match P.info? t with
 | some i=>match i.zero with | some z=>if z.cells.size=i.size then Ec (Eb P t) z.cells.toList else none | none=>none
 | none=>none
def uc (t:TypeId):List (Nat×Operand)→Option (List (Nat×Nat×X))
 | []=>some []
 | (i,x)::r=>match jD P t i,cX x,uc t r with
  | some (off,size,_),some x',some r'=>some ((off,size,x')::r')
  | _,_,_=>none
def Bd:List (Nat×Operand)→Option (List (Nat×X))
 | []=>some []
 | (i,x)::r=>match cX x,Bd r with
  | some x',some r'=>some ((i,x')::r')
  | _,_=>none
def jU (t:TypeId):Option Nat:=
 match P.underlying t with
 | some (.int _)=>some 0
 | some .bool=>some 1
 | some .string=>some 2
 | _=>none
def vk:Nat→List Field→Option (List Nat)
 | _,[]=>some []
 | n,f::fs=>
  if f.offset=n∧f.name≠ "_" then
   match jU P f.type,vk (n+1) fs with
   | some k,some ks=>some (k::ks)
   | _,_=>none
  else none
def ma (t:TypeId):Option (List Nat):=
 match P.underlying t with
 | some (.struct fs)=>if P.eqGuardType P.depth t=false∧P.stoodInHeld t=false then vk P 0 fs.toList else none
 | _=>none
def w6 (o:Oper):Option AO:=
 match o.op with
 | .move x | .assign x=>(cX x).map .mv
 | .pick c a b=>match cX c,cX a,cX b with | some c,some a,some b=>some (.pick c a b) | _,_,_=>none
 | .alloc t=>if Eb P t then(sD P t).map (.oC · t)else(zeroOf P t).map .alloc
 | .box t x=>if Eb P t then(cX x).map (.tV · t)else(cX x).map .box
 | .build t parts=>
  match P.underlying t,sD P t,uc P t parts.toList with
  | some (.struct fs),some z,some ps=>if fs.toList.all fun f=>(P.info? f.type).isSome then some (.build z ps)else none
  | _,_,_=>none
 | .buildSlice t n parts=>
  match P.underlying t with
  | some (.slice e)=>
   match P.info? e,zeroOf P e,Bd parts.toList with
   | some i,some z,some ps=>if 0<i.size∧n*i.size≤65536 then some (.c7 z i.size n ps)else none
   | _,_,_=>none
  | _=>none
 | .load t x=>
  match cX x,oD P t,P.info? t with
  | some x,some a,some i=>some (.load x a i.size)
  | _,_,_=>none
 | .store t a x=>
  match cX a,cX x,P.info? t with
  | some a,some x,some i=>some (.store a x i.size)
  | _,_,_=>none
 | .nilCheck x=>(cX x).map .fU
 | .binOp op t x y _=>
  match cX x,cX y with
  | some x,some y=>
   match P.underlying t,op with
   | some (.int _),_=>some (.bin op x y)
   | some .string,_=>some (.bin op x y)
   | some .bool, .eql=>some (.zh false x y)
   | some .bool, .neq=>some (.zh true x y)
   | some (.pointer _), .eql=>some (.A7 false x y)
   | some (.pointer _), .neq=>some (.A7 true x y)
   | some (.struct _), .eql=>(ma P t).map (.eqs false · x y)
   | some (.struct _), .neq=>(ma P t).map (.eqs true · x y)
   | _,_=>none
  | _,_=>none
 | .unOp op _ x=>(cX x).map (.un op)
 | .convert src dst x=>
  match cX x,P.underlying src,P.underlying dst with
  | some x,some (.int _),some (.int k)=>some (.conv k x)
  | some x,some (.slice e),some .string=>match P.underlying e with | some (.int .u8)=>some (.wY x) | _=>none
  | some x,some (.slice e),some (.slice _)=>match P.underlying e with | some (.int .u8)=>if src=dst then some (.tT x)else none | _=>none
  | some x,some .string,some (.slice e)=>match P.underlying e,P.info? e with | some (.int .u8),some i=>if i.size=1 then some (.rS x)else none | _,_=>none
  | _,_,_=>none
 | .slice t x lo hi none=>
  match cX x,LP lo,LP hi,P.underlying t with
  | some x,some lo,some hi,some .string=>some (.A9 x lo hi)
  | some x,some lo,some hi,some (.slice e)=>match P.info? e with | some i=>some (.A8 i.size x lo hi) | none=>none
  | _,_,_,_=>none
 | .fieldAddr t x f=>match cX x,jD P t f with | some x,some (off,_,_)=>some (.ay x off) | _,_=>none
 | .field t x f=>match cX x,jD P t f with | some x,some (off,size,a)=>some (.rT x off a size) | _,_=>none
 | .indexAddr t x i=>
  match cX x,cX i,P.underlying t with
  | some x,some i,some (.slice e)=>match P.info? e with | some j=>if 0<j.size then some (.bX x i j.size)else none | none=>none
  | _,_,_=>none
 | .index t x i=>match cX x,cX i,P.underlying t with | some x,some i,some .string=>some (.tU x i) | _,_,_=>none
 | .extract x i=>(cX x).map (.ext · i)
 | .call {callee:= .builtin .len,args,argTypes}=>
  match args.toList,argTypes.toList with
  | [x],[t]=>match P.underlying t with
   | some .string=>(cX x).map .p7
   | some (.slice _)=>(cX x).map .len
   | _=>none
  | _,_=>none
 | .call {callee:= .builtin .append,args,argTypes}=>
  match args.toList,argTypes.toList with
  | [x,y],[t,u]=>match P.underlying t,P.underlying u,cX x,cX y with
   | some (.slice e),some (.slice _),some x,some y=>match P.info? e,zeroOf P e with
    | some i,some _=>if 0<i.size then some (if e=lL∧i.size=1∧i.bytes=1 then .tW x y else .app i.size i.bytes x y)else none
    | _,_=>none
   | some (.slice e),some .string,some x,some y=>match P.info? e,zeroOf P e with
    | some i,some _=>if e=lL∧i.size=1∧i.bytes=1 then some (.apps x y)else none
    | _,_=>none
   | _,_,_,_=>none
  | _,_=>none
 | .call {callee:= .builtin .max,args, ..}=>
  match args.toList with
  | [x,y]=>match cX x,cX y with | some x,some y=>some (.mm true x y) | _,_=>none
  | _=>none
 | .call {callee:= .builtin .min,args, ..}=>
  match args.toList with
  | [x,y]=>match cX x,cX y with | some x,some y=>some (.mm false x y) | _,_=>none
  | _=>none
 | .makeFunc (.func f) first captured=>if first.size=0 then(rV captured.toList).map (.pH f)else none
 | .makeMap t none=>match P.underlying t with | some (.map _ _)=>some .pI | _=>none
 | .mapUpdate t m k v=>
  match P.underlying t,cX m,cX k,cX v with
  | some (.map kt _),some m,some k,some v=>match P.underlying kt with | some .string=>some (.sB m k v) | _=>none
  | _,_,_,_=>none
 | .lookup t m k false=>
  match P.underlying t,cX m,cX k with
  | some (.map kt e),some m,some k=>
   match P.underlying kt,P.info? e with
   | some .string,some i=>match i.zero with | some z=>(nV z).map (.qy m k) | none=>none
   | _,_=>none
  | _,_,_=>none
 | _=>none
def p9 (ops:Array Oper):Option (Nat×Bool)→Option (Option (Nat×Bool))
 | none=>some none
 | some (j,b)=>
  match (ops[j]?).bind (·.dst)with
  | some t=>some (some (t,b))
  | none=>none
def enters (f:FuncId):Bool:=
 match P.funcs[f]? with
 | some fn=>fn.body.isSome && !(fn.name == "runtime.NumGoroutine")
 | none=>false
def frozenIn (ops:Array Oper) (dst:Option Nat):Bool:=
 ops.toList.any fun o=>match o.op,dst with
  | .convert s d (.tmp t),some t'=>t==t' && s==d
  | _,_=>false
def yo (o:Oper):Option (Bool×X):=
 match o.op with
 | .binOp op t x (.const (.slice none 0 0)) _=>
  match P.underlying t,op,cX x with
  | some (.slice _), .eql,some x=>some (false,x)
  | some (.slice _), .neq,some x=>some (true,x)
  | _,_,_=>none
 | _=>none
def LQ (nt:Nat) (dst:Option Nat):Bool:=
 match dst with
 | some d=>decide (d<nt)
 | none=>true
def om (ops:Array Oper) (o:Oper) (g:Option (Nat×Bool)):Option AI:=
 match o.op with
 | .call {callee:= .value (.func f),args, ..}=>if enters P f then(rV args.toList).map (.call o.dst g f)else none
 | .call {callee:= .value (.tmp t),args, ..}=>(rV args.toList).map (.fX o.dst g t)
 | _=>
  match yo P o with
  | some (neg,x)=>some (.nil o.dst g neg x)
  | none=>
   match w6 P o with
   | some (.c7 z k n ps)=>some (.op o.dst g (if frozenIn ops o.dst then .p6 z k n ps else .c7 z k n ps))
   | some ao=>some (.op o.dst g ao)
   | none=>none
def cI (nt:Nat) (ops:Array Oper) (o:Oper):Option AI:=
 match p9 ops o.guard with
 | none=>none
 | some g=>if LQ nt o.dst=true then om P ops o g else none
def mW (nt:Nat) (ops:Array Oper):List Oper→Option (List AI)
 | []=>some []
 | o::r=>match cI P nt ops o,mW nt ops r with | some i,some is=>some (i::is) | _,_=>none
def LR (is:List AI) (af:List (List Nat)):Option AC:=
 if Ba is af (Bb [] af) (GF is af)then some (.par is (GF is af))else none
def cC (nt:Nat):Code→Option AC
 | .skip=>some .skip
 | .region _ ops false=>(mW P nt ops ops.toList).map .run
 | .region _ ops true=>if P.follows .mixedOrders then(mW P nt ops ops.toList).bind (LR · (ops.toList.map jS))else none
 | .seq a b=>match cC nt a,cC nt b with | some a,some b=>some (.seq a b) | _,_=>none
 | .cond x a b=>match cX x,cC nt a,cC nt b with | some x,some a,some b=>some (.cond x a b) | _,_,_=>none
 | .block id a=>(cC nt a).map (.block id)
 | .loop a=>(cC nt a).map .loop
 | .exit id=>some (.exit id)
 | .scope a=>(cC nt a).map .scope
 | .label l=>some (.label l)
 | .goto l=>some (.goto l)
 | .ret=>some .ret
 | _=>none
def wh:List ResultVar→Option (List (Nat×Option (Bool×Nat)))
 | []=>some []
 | .tmp t::r=>(wh r).map ((t,none):: ·)
 | .cell a t::r=>match oD P t,P.info? t,wh r with
  | some g,some i,some r'=>some ((a,some (g,i.size))::r')
  | _,_,_=>none
def cF (fn:Func):Option AF:=
 match fn.body with
 | some c=>match cC P fn.ntmps c,wh P fn.results.toList with
  | some b,some r=>some ⟨fn.ntmps,r,b⟩
  | _,_=>none
 | none=>none
end
end Go.Abs

/-! Rel -/

namespace Go.Abs
theorem iC {w:World} {b:Nat} {vs:Array Value} {T:TypeId} {fr:Nat×Nat} (h:w.heap[b]? = some (.cells vs T fr)) (o:Nat):w.cell? ⟨b,o,none⟩=vs[o]? :=by
 simp [World.cell?,h]
theorem jm {w:World} {b:Nat} {o:Obj} (h:w.heap[b]? = some o):b<w.heap.size:=(Array.getElem?_eq_some_iff.1 h).1
section
variable {M:Map} {s:St} {w:World}
theorem Rel.yp (r:Rel M s w) {b o:Nat} {v:Value} (h:M.G b o=some v):b<w.heap.size:=World.block_lt_of_cell? w _ (r.comm b o v h).1
theorem Rel.LS (r:Rel M s w) {b:Nat} (h:w.heap.size≤b) (o:Nat):M.G b o=none:=by
 cases e:M.G b o with
 | none=>rfl
 | some v=>have:=r.yp e;omega
theorem Rel.mX (r:Rel M s w) {o:Nat} (h:o<s.av.length):M.mu o<w.heap.size:=by
 obtain⟨vs,T,hh,_⟩:=r.obj o _ (List.getElem?_eq_getElem h)
 exact hh.lt
theorem Rel.pJ (r:Rel M s w) {t b c z:Nat} (h:s.live t) (e:M.be t=some (b,c,z)):b<w.heap.size:=by
 obtain⟨n,hn⟩:=h
 rcases r.tok t n hn with ⟨h1,_⟩ | ⟨b',cap,size,vs,T,h1,h2,_⟩
 ·rw [e]at h1;cases h1
 ·rw [e]at h1;cases h1;exact jm h2
theorem Rel.of_heap (r:Rel M s w) {w':World} (h:w'.heap=w.heap):Rel M s w':=by
 refine⟨fun b o v e=> ?_,fun o ds e=> ?_,r.iO,r.inj,fun t n e=> ?_,r.dW,r.eW⟩
 ·obtain⟨h1,h2⟩:=r.comm b o v e
  refine⟨?_,h2⟩
  rw [← h1];simp [World.cell?,h]
 ·rw [h];exact r.obj o ds e
 ·rw [h];exact r.tok t n e
theorem Ext.of_heap {w':World} (h:w'.heap=w.heap) (h1:w'.os=w.os) (h2:w'.tape=w.tape) (h3:w'.output=w.output):Ext M s w M s w':=
 ⟨Le.refl M s,fun _ _ _ _=>by rw [h],fun o h h'=>by omega,fun t b c z h e=> .inl ⟨h,c,z,e⟩,fun _ _ h=>(h rfl).elim,by rw [h];exact Nat.le_refl _,h1,h2,h3⟩
def Map.c9 (M:Map) (n b:Nat) (x:Ob:= .any):Map:= {M with loc:=fun o=>if o=n then(b,x)else M.loc o}
theorem qa (s:St) (b:Nat) (ds:List D) (x:Ob:= .any):Le M s (M.c9 s.av.length b x) {s with av:=s.av++ [ds]}:=
 ⟨fun _ _ _ h=>h,by simp,fun o ho=>by simp [Map.c9];omega,Nat.le_refl _,fun t n _ h=>⟨n,h,Nat.le_refl _,fun _=>rfl⟩⟩
theorem Rel.GH (r:Rel M s w) (ds:List D) (ob:Obj) (vs:Array Value) (T:TypeId) (x:Ob) (rW:jO (some ob) x vs T) (hx : ∀ T',x.ty? = some T'→T'=T) (hl:vs.size=ds.length) (h1 : ∀ v∈vs,v.oneCell'=true)
 (h2 : ∀ (i:Nat) (d:D) (v:Value),ds[i]? = some d→vs[i]? = some v→RD (M.c9 s.av.length w.heap.size x) {s with av:=s.av++ [ds]} d v) :
 Rel (M.c9 s.av.length w.heap.size x) {s with av:=s.av++ [ds]} (w.alloc ob)∧
 Ext M s w (M.c9 s.av.length w.heap.size x) {s with av:=s.av++ [ds]} (w.alloc ob):=by
 have le:=qa (M:=M) s w.heap.size ds x
 have mI : ∀ o,o<s.av.length→(M.c9 s.av.length w.heap.size x).mu o=M.mu o:=le.mu
 have de:(M.c9 s.av.length w.heap.size x).mu s.av.length=w.heap.size:=by simp [Map.c9,Map.mu]
 have RM:(M.c9 s.av.length w.heap.size x).ty s.av.length=x.ty? :=by simp [Map.c9,Map.ty]
 have RN:(M.c9 s.av.length w.heap.size x).ob s.av.length=x:=by simp [Map.c9,Map.ob]
 refine⟨⟨fun b o v e=> ?_,fun o kZ e=> ?_,fun o ho off=> ?_,fun o o' ho ki e=> ?_,fun t n e=> ?_,fun t b c z o hl e ho=> ?_,fun t t' b c z c' z' h h' e e'=>r.eW t t' b c z c' z' h h' e e'⟩, ?_⟩
 ·obtain⟨h3,h4⟩:=r.comm b o v e
  refine⟨?_,h4⟩
  rw [World.cell?_alloc_lt]
  ·exact h3
  ·exact r.yp e
 ·rcases Nat.lt_or_ge o s.av.length with ho | ho
  ·rw [List.getElem?_append_left ho]at e
   obtain⟨ew,T',h3,h4,h5,h6⟩:=r.obj o kZ e
   refine⟨ew,T', ?_,h4,⟨h5.1,by rw [le.ty o ho];exact h5.2⟩,fun i d v e1 e2=>(h6 i d v e1 e2).mono le⟩
   rw [mI o ho,le.ob o ho,heap_alloc_old w _ _ h3.lt];exact h3
  ·rw [List.getElem?_append_right ho]at e
   have:o=s.av.length:=by
    have:=(List.getElem?_eq_some_iff.1 e).1
    simp at this;omega
   subst this
   simp at e;subst e
   refine⟨vs,T, ?_,hl,⟨h1,by rw [RM];exact hx⟩,fun i d v e1 e2=>h2 i d v e1 e2⟩
   rw [de,RN,heap_alloc_new];exact rW
 ·simp at ho
  rcases Nat.lt_or_ge o s.av.length with h3 | h3
  ·rw [mI o h3];exact r.iO o h3 off
  ·have:o=s.av.length:=by omega
   subst this
   rw [de];exact r.LS (Nat.le_refl _) off
 ·simp at ho ki
  rcases Nat.lt_or_ge o s.av.length with h3 | h3 <;> rcases Nat.lt_or_ge o' s.av.length with h4 | h4
  ·rw [mI o h3,mI o' h4]at e;exact r.inj o o' h3 h4 e
  ·have:o'=s.av.length:=by omega
   subst this
   rw [mI o h3,de]at e
   have:=r.mX h3;omega
  ·have:o=s.av.length:=by omega
   subst this
   rw [mI o' h4,de]at e
   have:=r.mX h4;omega
  ·omega
 ·rcases r.tok t n e with h3 | ⟨b,cap,size,ew,T',h3,h4,h5⟩
  ·exact .inl h3
  ·exact .inr ⟨b,cap,size,ew,T',h3,by rw [heap_alloc_old w _ _ (jm h4)];exact h4,h5⟩
 ·simp at ho
  rcases Nat.lt_or_ge o s.av.length with h3 | h3
  ·rw [mI o h3];exact r.dW t b c z o hl e h3
  ·have:o=s.av.length:=by omega
   subst this
   rw [de]
   have:=r.pJ hl e;omega
 ·refine⟨le,fun b hb _ _=>heap_alloc_old w _ b hb,fun o h3 h4=> ?_,fun t b c z h e=> .inl ⟨h,c,z,e⟩,fun _ _ h=>(h rfl).elim,by simp,rfl,rfl,rfl⟩
  simp at h4
  have:o=s.av.length:=by omega
  subst this
  rw [de];exact Nat.le_refl _
theorem Rel.Be (r:Rel M s w) (ds:List D) (vs:Array Value) (T:TypeId) (x:Ob) (hk:x≠ .map) (hx : ∀ T',x.ty? = some T'→T'=T) (hl:vs.size=ds.length) (h1 : ∀ v∈vs,v.oneCell'=true)
 (h2 : ∀ (i:Nat) (d:D) (v:Value),ds[i]? = some d→vs[i]? = some v→RD (M.c9 s.av.length w.heap.size x) {s with av:=s.av++ [ds]} d v) :
 Rel (M.c9 s.av.length w.heap.size x) {s with av:=s.av++ [ds]} (w.alloc (.cells vs T))∧
 Ext M s w (M.c9 s.av.length w.heap.size x) {s with av:=s.av++ [ds]} (w.alloc (.cells vs T)):=
 r.GH ds _ vs T x (jO.of rfl hk) hx hl h1 h2
theorem Rel.c9 (r:Rel M s w) (ds:List D) (vs:Array Value) (T:TypeId) (hl:vs.size=ds.length) (h1 : ∀ v∈vs,v.oneCell'=true)
 (h2 : ∀ (i:Nat) (d:D) (v:Value),ds[i]? = some d→vs[i]? = some v→RD M s d v) :
 Rel (M.c9 s.av.length w.heap.size) {s with av:=s.av++ [ds]} (w.alloc (.cells vs T))∧
 Ext M s w (M.c9 s.av.length w.heap.size) {s with av:=s.av++ [ds]} (w.alloc (.cells vs T)):=
 r.Be ds vs T .any (by simp) (fun _ h=>by cases h) hl h1 fun i d v e1 e2=>(h2 i d v e1 e2).mono (qa s w.heap.size ds)
theorem qA (cs:List D) (off:Nat) (r:List D) (h:off+r.length≤cs.length) (i:Nat) :
 (gw cs off r)[i]? = if i<off then cs[i]? else if i<off+r.length then r[i - off]? else cs[i]? :=by
 unfold gw
 have hl:(cs.take off).length=off:=by simp;omega
 split
 ·rename_i h1
  rw [List.append_assoc,List.getElem?_append_left (by omega),List.getElem?_take_of_lt h1]
 ·rename_i h1
  rw [List.append_assoc,List.getElem?_append_right (by omega),hl]
  split
  ·rename_i h2
   rw [List.getElem?_append_left (by omega)]
  ·rename_i h2
   rw [List.getElem?_append_right (by omega),List.getElem?_drop]
   congr 1;omega
theorem tf (cs:List D) (off:Nat) (r:List D) (h:off+r.length≤cs.length):(gw cs off r).length=cs.length:=by
 unfold gw;simp;omega
theorem Rel.Ui (P:Program) (r:Rel M s w) {o off:Nat} {cs:List D} (he:s.av[o]? = some cs) (hk:M.ob o≠ .map) (row:List D) (us:List Value) (hu:us.length=row.length) (gY:off+row.length≤cs.length)
 (h1 : ∀ u∈us,u.oneCell'=true) (h2 : ∀ (i:Nat) (d:D) (v:Value),row[i]? = some d→us[i]? = some v→RD M s d v) :
 ∃ w',(storeCells (⟨M.mu o,off,none⟩:Addr) us).run P w = .ok () w'∧Rel M {s with av:=s.av.set o (gw cs off row)} w'∧Ext M s w M {s with av:=s.av.set o (gw cs off row)} w':=by
 obtain⟨vs,T,hh,hs,⟨iP,LU⟩,mc⟩:=r.obj o cs he
 replace hh:=hh.cells hk
 have ho:o<s.av.length:=(List.getElem?_eq_some_iff.1 he).1
 have vL:=run_storeCells_at P (M.mu o) off T us 0 vs w hh (by omega) h1
 simp only [Nat.add_zero]at vL
 have le:Le M s M {s with av:=s.av.set o (gw cs off row)}:=
  ⟨fun _ _ _ h=>h,by simp,fun _ _=>rfl,Nat.le_refl _,fun t n _ h=>⟨n,h,Nat.le_refl _,fun _=>rfl⟩⟩
 generalize de:(vs.toList.take off++us++vs.toList.drop (off+us.length)).toArray=qB at vL
 have Jt:qB.size=vs.size:=by rw [← de];simp;omega
 have hJ : ∀ i,qB[i]? = if i<off then vs[i]? else if i<off+row.length then us[i - off]? else vs[i]? :=by
  intro i
  rw [← de]
  simp only [List.getElem?_toArray]
  have hl:(vs.toList.take off).length=off:=by simp;omega
  split
  ·rename_i h3
   rw [List.append_assoc,List.getElem?_append_left (by omega),List.getElem?_take_of_lt h3];simp
  ·rename_i h3
   rw [List.append_assoc,List.getElem?_append_right (by omega),hl]
   split
   ·rename_i h4
    rw [List.getElem?_append_left (by omega)]
   ·rename_i h4
    rw [List.getElem?_append_right (by omega),List.getElem?_drop]
    rw [show off+us.length+(i - off - us.length)=i by omega];simp
 have jn : ∀ b,b≠M.mu o→(w.setRow (M.mu o) qB).heap[b]? = w.heap[b]? :=fun b hb=>setRow_other w (M.mu o) b _ hb
 refine⟨_,vL,⟨fun b q v e=> ?_,fun o' ds e=> ?_,fun q hq rh=>r.iO q (by simpa using hq) rh,fun q q' hq nR e=>r.inj q q' (by simpa using hq) (by simpa using nR) e,fun t n e=> ?_,
  fun t b c z q hl e hq=>r.dW t b c z q hl e (by simpa using hq),fun t t' b c z c' z' h h' e e'=>r.eW t t' b c z c' z' h h' e e'⟩, ?_⟩
 ·obtain⟨h3,h4⟩:=r.comm b q v e
  refine⟨?_,h4⟩
  have hb:b≠M.mu o:=fun eq=>by subst eq;rw [r.iO o ho q]at e;cases e
  rw [← h3]
  simp [World.cell?,jn b hb]
 ·rw [List.getElem?_set]at e
  split at e
  ·rename_i heq
   subst heq
   simp at e
   obtain⟨_,rfl⟩:=e
   refine⟨qB,T,jO.of (setRow_heap w (M.mu o) vs qB T (0,0) hh) hk,by rw [Jt,hs,tf cs off row gY],⟨fun v hv=> ?_,LU⟩,fun i d v e1 e2=> ?_⟩
   ·rw [← de]at hv
    simp at hv
    rcases hv with hv | hv | hv
    ·exact iP v (Array.mem_toList_iff.1 (List.mem_of_mem_take hv))
    ·exact h1 v hv
    ·exact iP v (Array.mem_toList_iff.1 (List.mem_of_mem_drop hv))
   ·rw [qA cs off row gY]at e1
    rw [hJ]at e2
    split at e1
    ·rename_i h3;simp only [h3,if_true]at e2;exact(mc i d v e1 e2).mono le
    ·rename_i h3
     simp only [h3,if_false]at e2
     split at e1
     ·rename_i h4;simp only [h4,if_true]at e2;exact(h2 _ d v e1 e2).mono le
     ·rename_i h4;simp only [h4,if_false]at e2;exact(mc i d v e1 e2).mono le
  ·rename_i dP
   obtain⟨ew,T',h3,h4,h5,h6⟩:=r.obj o' ds e
   have ki:o'<s.av.length:=(List.getElem?_eq_some_iff.1 e).1
   refine⟨ew,T', ?_,h4,h5,fun i d v e1 e2=>(h6 i d v e1 e2).mono le⟩
   rw [jn _ (fun eq=>dP (r.inj o o' ho ki eq.symm))];exact h3
 ·rcases r.tok t n e with h3 | ⟨b,cap,size,ew,T',h3,h4,h5⟩
  ·exact .inl h3
  ·refine .inr ⟨b,cap,size,ew,T',h3, ?_,h5⟩
   rw [jn b (fun eq=>r.dW t b cap size o ⟨n,e⟩ h3 ho eq.symm)];exact h4
 ·refine⟨le,fun b hb h3 _=>jn b (fun eq=>h3 o ho eq.symm),fun q h3 h4=> ?_,fun t b c z h e=> .inl ⟨h,c,z,e⟩,fun _ _ h=>(h rfl).elim,by simp,rfl,rfl,rfl⟩
  simp at h4;omega
def Map.dZ (M:Map) (b n:Nat) (vs:Array Value):Map:= {M with G:=fun b' o=>if b'=b then(if o<n then vs[o]? else none)else M.G b' o}
theorem GK (r:Rel M s w) (n:Nat) (vs:Array Value):Le M s (M.dZ w.heap.size n vs) s:=
 ⟨fun b o v h=>by
  have hb:b≠w.heap.size:=fun e=>by have:=r.yp h;omega
  simp [Map.dZ,hb,h],Nat.le_refl _,fun _ _=>rfl,Nat.le_refl _,fun t n _ h=>⟨n,h,Nat.le_refl _,fun _=>rfl⟩⟩
theorem Rel.dZ (r:Rel M s w) (n:Nat) (vs:Array Value) (T:TypeId) (fr:Nat×Nat) (h1 : ∀ v∈vs,v.oneCell'=true) :
 Rel (M.dZ w.heap.size n vs) s (w.alloc (.cells vs T fr))∧Ext M s w (M.dZ w.heap.size n vs) s (w.alloc (.cells vs T fr)):=by
 have le:=GK r n vs
 have hold : ∀ b,b<w.heap.size→∀ o,(M.dZ w.heap.size n vs).G b o=M.G b o:=fun b hb o=>by
  have:b≠w.heap.size:=by omega
  simp [Map.dZ,this]
 refine⟨⟨fun b o v e=> ?_,fun o ds e=> ?_,fun o ho off=> ?_,r.inj,fun t k e=> ?_,r.dW,r.eW⟩, ?_⟩
 ·by_cases hb:b=w.heap.size
  ·subst hb
   simp [Map.dZ]at e
   obtain⟨_,e⟩:=e
   refine⟨by rw [iC (heap_alloc_new w _)];exact e,h1 v (Array.mem_of_getElem? e)⟩
  ·simp [Map.dZ,hb]at e
   obtain⟨h3,h4⟩:=r.comm b o v e
   refine⟨?_,h4⟩
   rw [World.cell?_alloc_lt]
   ·exact h3
   ·exact r.yp e
 ·obtain⟨ew,T',h3,h4,h5,h6⟩:=r.obj o ds e
  exact⟨ew,T',by show jO (w.alloc _).heap[M.mu o]? (M.ob o) _ _;rw [heap_alloc_old w _ _ h3.lt];exact h3,h4,h5,fun i d v e1 e2=>(h6 i d v e1 e2).mono le⟩
 ·rw [hold]
  ·exact r.iO o ho off
  ·exact r.mX ho
 ·rcases r.tok t k e with h3 | ⟨b,cap,size,ew,T',h3,h4,h5,h6,h7⟩
  ·exact .inl h3
  ·exact .inr ⟨b,cap,size,ew,T',h3,by rw [heap_alloc_old w _ _ (jm h4)];exact h4,h5,h6,fun off ho=>by rw [hold b (jm h4)];exact h7.1 off ho,h7.2⟩
 ·refine⟨le,fun b hb _ _=>heap_alloc_old w _ b hb,fun o h3 h4=>by omega,fun t b c z h e=> .inl ⟨h,c,z,e⟩,fun b o h=> ?_,by simp,rfl,rfl,rfl⟩
  rcases Nat.lt_or_ge b w.heap.size with hb | hb
  ·exact(h (hold b hb o)).elim
  ·exact .inl hb
def Map.dq (M:Map) (t:Nat) (x:Option (Nat×Nat×Nat)):Map:= {M with be:=fun t'=>if t'=t then x else M.be t'}
theorem Rel.LV (r:Rel M s w) (n b cap size:Nat) (vs:Array Value) (T:TypeId) (hb:w.heap[b]? = some (.cells vs T (0,0))) (dC:vs.size=cap*zs size) (hn:n≤cap) (hy:size=0→T=lL)
 (hG : ∀ off,n*zs size≤off→M.G b off=none) (ho : ∀ o,o<s.av.length→M.mu o≠b) (ht : ∀ t c z,s.live t→M.be t≠some (b,c,z)) :
 Rel (M.dq s.aw.length (some (b,cap,size))) {s with aw:=s.aw++ [some n]} w∧Le M s (M.dq s.aw.length (some (b,cap,size))) {s with aw:=s.aw++ [some n]}:=by
 have fE : ∀ t,St.live {s with aw:=s.aw++ [some n]} t→s.live t∨t=s.aw.length:=by
  rintro t ⟨k,hk⟩
  rcases Nat.lt_or_ge t s.aw.length with h | h
  ·rw [List.getElem?_append_left h]at hk;exact .inl ⟨k,hk⟩
  ·have:=(List.getElem?_eq_some_iff.1 hk).1
   simp at this;exact .inr (by omega)
 have hD : ∀ t,s.live t→t<s.aw.length:=fun t ⟨k,hk⟩=>(List.getElem?_eq_some_iff.1 hk).1
 have hold : ∀ t,t<s.aw.length→(M.dq s.aw.length (some (b,cap,size))).be t=M.be t:=fun t h=>by simp [Map.dq];omega
 have de:(M.dq s.aw.length (some (b,cap,size))).be s.aw.length=some (b,cap,size):=by simp [Map.dq]
 have le:Le M s (M.dq s.aw.length (some (b,cap,size))) {s with aw:=s.aw++ [some n]}:=
  ⟨fun _ _ _ h=>h,Nat.le_refl _,fun _ _=>rfl,by simp,fun t k h e=>by
   rw [List.getElem?_append_left h]at e
   exact⟨k,e,Nat.le_refl _,fun _=>hold t h⟩⟩
 refine⟨⟨r.comm,fun o ds e=> ?_,r.iO,r.inj,fun t k e=> ?_,fun t b' c z o hl e ki=> ?_,fun t t' b' c z c' z' h h' e e'=> ?_⟩,le⟩
 ·obtain⟨ew,T',h3,h4,h5,h6⟩:=r.obj o ds e
  exact⟨ew,T',h3,h4,h5,fun i d v e1 e2=>(h6 i d v e1 e2).mono le⟩
 ·rcases Nat.lt_or_ge t s.aw.length with h | h
  ·rw [List.getElem?_append_left h]at e
   rw [hold t h];exact r.tok t k e
  ·have:=(List.getElem?_eq_some_iff.1 e).1
   simp at this
   have:t=s.aw.length:=by omega
   subst this
   simp at e;subst e
   exact .inr ⟨b,cap,size,vs,T,de,hb,dC,hn,hG,hy⟩
 ·rcases fE t hl with h | h
  ·rw [hold t (hD t h)]at e;exact r.dW t b' c z o h e ki
  ·subst h;rw [de]at e;cases e;exact ho o ki
 ·rcases fE t h with h | h <;> rcases fE t' h' with h' | h'
  ·rw [hold t (hD t h)]at e;rw [hold t' (hD t' h')]at e';exact r.eW t t' b' c z c' z' h h' e e'
  ·subst h';rw [de]at e';cases e';rw [hold t (hD t h)]at e;exact(ht t c z h e).elim
  ·subst h;rw [de]at e;cases e;rw [hold t' (hD t' h')]at e';exact(ht t' c' z' h' e').elim
  ·omega
theorem Rel.RO (r:Rel M s w) (t n n' b cap size:Nat) (vs:Array Value) (T:TypeId) (w8:s.aw[t]? = some (some n)) (hnn:n<n') (hb:w.heap[b]? = some (.cells vs T (0,0))) (dC:vs.size=cap*zs size) (hn:n'≤cap) (hy:size=0→T=lL)
 (hG : ∀ off,n'*zs size≤off→M.G b off=none) (ho : ∀ o,o<s.av.length→M.mu o≠b) (ht : ∀ t c z,s.live t→M.be t≠some (b,c,z)) :
 Rel (M.dq t (some (b,cap,size))) {s with aw:=s.aw.set t (some n')} w∧Le M s (M.dq t (some (b,cap,size))) {s with aw:=s.aw.set t (some n')}:=by
 have GM:t<s.aw.length:=(List.getElem?_eq_some_iff.1 w8).1
 have fE : ∀ q,St.live {s with aw:=s.aw.set t (some n')} q→s.live q:=by
  rintro q ⟨k,hk⟩
  rw [List.getElem?_set]at hk
  split at hk
  ·rename_i h;subst h;exact⟨n,w8⟩
  ·exact⟨k,hk⟩
 have hold : ∀ q,q≠t→(M.dq t (some (b,cap,size))).be q=M.be q:=fun q h=>by simp [Map.dq,h]
 have de:(M.dq t (some (b,cap,size))).be t=some (b,cap,size):=by simp [Map.dq]
 have le:Le M s (M.dq t (some (b,cap,size))) {s with aw:=s.aw.set t (some n')}:=
  ⟨fun _ _ _ h=>h,Nat.le_refl _,fun _ _=>rfl,by simp,fun q k h e=>by
   rw [List.getElem?_set]at e
   split at e
   ·rename_i h2;subst h2
    simp at e;subst e
    exact⟨n,w8,by omega,fun h=>by omega⟩
   ·rename_i h2
    exact⟨k,e,Nat.le_refl _,fun _=>hold q (fun h=>h2 h.symm)⟩⟩
 refine⟨⟨r.comm,fun o ds e=> ?_,r.iO,r.inj,fun q k e=> ?_,fun q b' c z o hl e ki=> ?_,fun q q' b' c z c' z' h h' e e'=> ?_⟩,le⟩
 ·obtain⟨ew,T',h3,h4,h5,h6⟩:=r.obj o ds e
  exact⟨ew,T',h3,h4,h5,fun i d v e1 e2=>(h6 i d v e1 e2).mono le⟩
 ·rw [List.getElem?_set]at e
  split at e
  ·rename_i h2;subst h2
   simp at e;subst e
   exact .inr ⟨b,cap,size,vs,T,de,hb,dC,hn,hG,hy⟩
  ·rename_i h2
   rw [hold q (fun h=>h2 h.symm)];exact r.tok q k e
 ·by_cases h:q=t
  ·subst h;rw [de]at e;cases e;exact ho o ki
  ·rw [hold q h]at e;exact r.dW q b' c z o (fE q hl) e ki
 ·by_cases h1:q=t <;> by_cases h2:q'=t
  ·omega
  ·subst h1;rw [de]at e;cases e;rw [hold q' h2]at e';exact(ht q' c' z' (fE q' h') e').elim
  ·subst h2;rw [de]at e';cases e';rw [hold q h1]at e;exact(ht q c z (fE q h) e).elim
  ·rw [hold q h1]at e;rw [hold q' h2]at e';exact r.eW q q' b' c z c' z' (fE q h) (fE q' h') e e'
def Map.fix (M:Map) (b lo:Nat) (us:List Value):Map:=
 {M with G:=fun b' o=>if b'=b∧lo≤o∧o<lo+us.length then us[o - lo]? else M.G b' o}
theorem Rel.RP (r:Rel M s w) (t n m b cap z size:Nat) (us:List Value) (hz:zs z=size) (w8:s.aw[t]? = some (some n)) (ic:M.be t=some (b,cap,z)) (vM:us.length=m*size) (gU:n+m≤cap) (hm:0<m)
 (h1 : ∀ u∈us,u.oneCell'=true) (vs:Array Value) (T:TypeId) (hh:w.heap[b]? = some (.cells vs T (0,0))) (dC:vs.size=cap*size) (hy:z=0→T=lL) :
 Rel (M.fix b (n*size) us) {s with aw:=s.aw.set t (some (n+m))} (w.setRow b (vs.toList.take (n*size)++us++vs.toList.drop (n*size+us.length)).toArray)∧
 Ext M s w (M.fix b (n*size) us) {s with aw:=s.aw.set t (some (n+m))} (w.setRow b (vs.toList.take (n*size)++us++vs.toList.drop (n*size+us.length)).toArray):=by
 have GM:t<s.aw.length:=(List.getElem?_eq_some_iff.1 w8).1
 have rX:s.live t:=⟨n,w8⟩
 have Ed : ∀ off,n*size≤off→M.G b off=none:=by
  rcases r.tok t n w8 with ⟨h3,_⟩ | ⟨b',Bf,sE,ew,T',h3,h4,h5,h6,h7⟩
  ·rw [ic]at h3;cases h3
  ·rw [ic]at h3;cases h3;rw [← hz];exact h7.1
 have gY:n*size+us.length≤vs.size:=by rw [vM,dC, ← Nat.add_mul];exact Nat.mul_le_mul_right _ gU
 have fE : ∀ q,St.live {s with aw:=s.aw.set t (some (n+m))} q→s.live q:=by
  rintro q ⟨k,hk⟩
  rw [List.getElem?_set]at hk
  split at hk
  ·rename_i h;subst h;exact rX
  ·exact⟨k,hk⟩
 generalize de:(vs.toList.take (n*size)++us++vs.toList.drop (n*size+us.length)).toArray=qB
 have Jt:qB.size=vs.size:=by rw [← de];simp;omega
 have hJ : ∀ i,qB[i]? = if i<n*size then vs[i]? else if i<n*size+us.length then us[i - n*size]? else vs[i]? :=by
  intro i
  rw [← de]
  simp only [List.getElem?_toArray]
  have hl:(vs.toList.take (n*size)).length=n*size:=by simp;omega
  split
  ·rename_i h3
   rw [List.append_assoc,List.getElem?_append_left (by omega),List.getElem?_take_of_lt h3];simp
  ·rename_i h3
   rw [List.append_assoc,List.getElem?_append_right (by omega),hl]
   split
   ·rename_i h4
    rw [List.getElem?_append_left (by omega)]
   ·rename_i h4
    rw [List.getElem?_append_right (by omega),List.getElem?_drop]
    rw [show n*size+us.length+(i - n*size - us.length)=i by omega];simp
 have dj:(w.setRow b qB).heap[b]? = some (.cells qB T (0,0)):=setRow_heap w b vs qB T (0,0) hh
 have jn : ∀ q,q≠b→(w.setRow b qB).heap[q]? = w.heap[q]? :=fun q hq=>setRow_other w b q _ hq
 have le:Le M s (M.fix b (n*size) us) {s with aw:=s.aw.set t (some (n+m))}:=by
  refine⟨fun b' o v h=> ?_,Nat.le_refl _,fun _ _=>rfl,by simp,fun q k h e=> ?_⟩
  ·show(if b'=b∧n*size≤o∧o<n*size+us.length then us[o - n*size]? else M.G b' o)=some v
   rw [if_neg]
   ·exact h
   ·rintro⟨rfl,h3,_⟩;rw [Ed o h3]at h;cases h
  ·rw [List.getElem?_set]at e
   split at e
   ·rename_i h2;subst h2
    simp at e;subst e
    exact⟨n,w8,by omega,fun h=>by omega⟩
   ·exact⟨k,e,Nat.le_refl _,fun _=>rfl⟩
 have oE : ∀ b' o,b'≠b→(M.fix b (n*size) us).G b' o=M.G b' o:=fun b' o h=>by simp [Map.fix,h]
 refine⟨⟨fun b' o v e=> ?_,fun o ds e=> ?_,fun o ho off=> ?_,r.inj,fun q k e=> ?_,fun q b' c z o hl e ki=>r.dW q b' c z o (fE q hl) e ki,
  fun q q' b' c z c' z' h h' e e'=>r.eW q q' b' c z c' z' (fE q h) (fE q' h') e e'⟩, ?_⟩
 ·by_cases hb:b'=b
  ·subst hb
   rw [iC dj,hJ]
   have e':(if b'=b'∧n*size≤o∧o<n*size+us.length then us[o - n*size]? else M.G b' o)=some v:=e
   by_cases h3:n*size≤o
   ·by_cases h4:o<n*size+us.length
    ·rw [if_pos ⟨rfl,h3,h4⟩]at e'
     rw [if_neg (by omega),if_pos h4]
     exact⟨e',h1 v (List.mem_of_getElem? e')⟩
    ·rw [if_neg (fun h=>h4 h.2.2),Ed o h3]at e';cases e'
   ·rw [if_neg (fun h=>h3 h.2.1)]at e'
    obtain⟨h5,h6⟩:=r.comm b' o v e'
    rw [iC hh]at h5
    rw [if_pos (by omega)]
    exact⟨h5,h6⟩
  ·rw [oE b' o hb]at e
   obtain⟨h5,h6⟩:=r.comm b' o v e
   refine⟨?_,h6⟩
   rw [← h5]
   simp [World.cell?,jn b' hb]
 ·obtain⟨ew,T',h3,h4,h5,h6⟩:=r.obj o ds e
  have ho:o<s.av.length:=(List.getElem?_eq_some_iff.1 e).1
  refine⟨ew,T', ?_,h4,h5,fun i d v e1 e2=>(h6 i d v e1 e2).mono le⟩
  show jO (w.setRow b qB).heap[M.mu o]? (M.ob o) _ _
  rw [jn _ (r.dW t b cap z o rX ic ho)];exact h3
 ·show(M.fix b (n*size) us).G (M.mu o) off=none
  rw [oE _ _ (r.dW t b cap z o rX ic ho)];exact r.iO o ho off
 ·rw [List.getElem?_set]at e
  split at e
  ·rename_i h2;subst h2
   simp at e;subst e
   refine .inr ⟨b,cap,z,qB,T,ic,dj,by rw [Jt,dC,hz],gU,fun off ho=> ?_,hy⟩
   rw [hz]at ho
   show(if b=b∧n*size≤off∧off<n*size+us.length then us[off - n*size]? else M.G b off)=none
   rw [Nat.add_mul]at ho
   rw [if_neg (by rintro⟨_,_,h⟩;omega)]
   exact Ed off (by omega)
  ·rename_i h2
   rcases r.tok q k e with h3 | ⟨b',Bf,sE,ew,T',h3,h4,h5,h6,h7⟩
   ·exact .inl h3
   ·have dP:b'≠b:=fun h=>h2 (r.eW t q b cap z Bf sE rX ⟨k,e⟩ ic (by rw [h3,h]))
    exact .inr ⟨b',Bf,sE,ew,T',h3,by rw [jn b' dP];exact h4,h5,h6,fun off ho=>by rw [oE b' off dP];exact h7.1 off ho,h7.2⟩
 ·refine⟨le,fun q _ _ h4=>jn q (fun h=>h4 t cap z rX (by rw [ic,h])),fun o h3 h4=>by simp at h4;omega,fun q b' c z h e=> .inl ⟨fE q h,c,z,e⟩,fun b' o h=> ?_,by simp,rfl,rfl,rfl⟩
  by_cases hb:b'=b
  ·exact .inr ⟨t,cap,z,rX,by rw [ic,hb]⟩
  ·exact(h (oE b' o hb)).elim
theorem Rel.freeze (r:Rel M s w) {b:Nat} (off n:Nat) (ho : ∀ o,o<s.av.length→M.mu o≠b) (ht : ∀ t c z,s.live t→M.be t≠some (b,c,z)) :
 Rel M s (w.freeze ⟨b,off,none⟩ n)∧(∀ q,q≠b→(w.freeze ⟨b,off,none⟩ n).heap[q]? = w.heap[q]?)∧(w.freeze ⟨b,off,none⟩ n).heap.size=w.heap.size∧
 (w.freeze ⟨b,off,none⟩ n).os=w.os∧(w.freeze ⟨b,off,none⟩ n).tape=w.tape∧(w.freeze ⟨b,off,none⟩ n).output=w.output:=by
 by_cases hn:n=0
 ·simp [World.freeze,hn,r]
 ·have hh : ∀ q,q≠b→(w.freeze ⟨b,off,none⟩ n).heap[q]? = w.heap[q]? :=fun q hq=>by
   simp [World.freeze,hn,Array.getElem?_modify,Ne.symm hq]
  have qC : ∀ q o,(w.freeze ⟨b,off,none⟩ n).cell? ⟨q,o,none⟩=w.cell? ⟨q,o,none⟩:=by
   intro q o
   by_cases hq:q=b
   ·subst hq
    unfold World.cell?
    simp only [World.freeze,hn,if_false,Array.getElem?_modify,if_true]
    cases h:w.heap[q]? with
    | none=>rfl
    | some x=>cases x <;> rfl
   ·simp [World.cell?,hh q hq]
  refine⟨⟨fun q o v e=> ?_,fun o ds e=> ?_,r.iO,r.inj,fun t k e=> ?_,r.dW,r.eW⟩,hh,by simp [World.freeze,hn],by simp [World.freeze,hn],by simp [World.freeze,hn],by simp [World.freeze,hn]⟩
  ·rw [qC];exact r.comm q o v e
  ·rw [hh _ (ho o (List.getElem?_eq_some_iff.1 e).1)];exact r.obj o ds e
  ·rcases r.tok t k e with h3 | ⟨b',cap,size,vs,T,h3,h4,h5⟩
   ·exact .inl h3
   ·refine .inr ⟨b',cap,size,vs,T,h3, ?_,h5⟩
    rw [hh]
    ·exact h4
    ·rintro rfl;exact ht t cap size ⟨k,e⟩ h3
theorem Rel.RQ (r:Rel M s w) (t:Nat):Rel M {s with aw:=s.aw.set t none} w∧Le M s M {s with aw:=s.aw.set t none}:=by
 have fE : ∀ q,St.live {s with aw:=s.aw.set t none} q→s.live q:=by
  rintro q ⟨k,hk⟩
  rw [List.getElem?_set]at hk
  split at hk
  ·split at hk <;> simp at hk
  ·exact⟨k,hk⟩
 have o5 : ∀ (q k:Nat),(s.aw.set t none)[q]? = some (some k)→s.aw[q]? = some (some k):=by
  intro q k e
  rw [List.getElem?_set]at e
  split at e
  ·split at e <;> simp at e
  ·exact e
 have le:Le M s M {s with aw:=s.aw.set t none}:=
  ⟨fun _ _ _ h=>h,Nat.le_refl _,fun _ _=>rfl,by simp,fun q k _ e=>⟨k,o5 q k e,Nat.le_refl _,fun _=>rfl⟩⟩
 refine⟨⟨r.comm,fun o ds e=> ?_,r.iO,r.inj,fun q k e=>r.tok q k (o5 q k e),fun q b' c z o hl e ki=>r.dW q b' c z o (fE q hl) e ki,
  fun q q' b' c z c' z' h h' e e'=>r.eW q q' b' c z c' z' (fE q h) (fE q' h') e e'⟩,le⟩
 obtain⟨ew,T',h3,h4,h5,h6⟩:=r.obj o ds e
 exact⟨ew,T',h3,h4,h5,fun i d v e1 e2=>(h6 i d v e1 e2).mono le⟩
end
end Go.Abs

/-! Sound -/

namespace Go.Abs
section
variable {M:Map} {s:St} {w:World}
theorem RD.gC {k:IntKind} {n:Int} {v:Value} (h:RD M s (.int k n) v):v = .int k n:=by cases h;rfl
theorem RD.ko {b:Bool} {v:Value} (h:RD M s (.bool b) v):v = .bool b:=by cases h;rfl
theorem RD.iK {l:List UInt8} {v:Value} (h:RD M s (.str l) v):v = .string ⟨⟨l⟩⟩:=by cases h;rfl
theorem RD.nY {v:Value} (h:RD M s .ei v):v = .pointer none:=by cases h;rfl
theorem RD.nZ {o off:Nat} {v:Value} (h:RD M s (.ptr o off) v):v = .pointer (some ⟨M.mu o,off,none⟩)∧o<s.av.length:=by
 cases h with | ptr _ _ h hm=>exact⟨rfl,h⟩
theorem RD.ud {o off:Nat} {v:Value} (h:RD M s (.ptr o off) v):M.ob o≠ .map:=by cases h with | ptr _ _ h hm=>exact hm
theorem RD.Bg {o:Nat} {v:Value} (h:RD M s (.ff o) v):v = .map (some (M.mu o))∧o<s.av.length∧M.ob o = .map:=by cases h with | ff _ h hm=>exact⟨rfl,h,hm⟩
theorem RD.DD {f:Nat} {ds:List D} {v:Value} (h:RD M s (.fi f ds) v) : ∃ vs:Array Value,v = .func (.func f) #[] vs∧ds.length=vs.size∧
 ∀ (i:Nat) (d:D) (v:Value),ds[i]? = some d→vs[i]? = some v→RD M s d v:=by
 cases h with | fi _ _ vs h1 h2=>exact⟨vs,rfl,h1,h2⟩
theorem RD.sF {row:List D} {off:Nat} {v:Value} (h:RD M s (.dc row off) v) : ∃ b k,v = .pointer (some ⟨b,k+off,none⟩)∧
 (∀ (i:Nat) (d:D),row[i]? = some d→∃ u,M.G b (k+i)=some u)∧(∀ (i:Nat) (d:D) (u:Value),row[i]? = some d→M.G b (k+i)=some u→RD M s d u):=by
 cases h with | dc _ _ b k h1 h2=>exact⟨b,k,rfl,h1,h2⟩
theorem RD.yq {ds:List D} {v:Value} (h:RD M s (.agg ds) v) : ∃ vs:Array Value,v = .agg vs∧ds.length=vs.size∧(∀ v∈vs,v.oneCell'=true)∧
 ∀ (i:Nat) (d:D) (v:Value),ds[i]? = some d→vs[i]? = some v→RD M s d v:=by
 cases h with | agg _ vs h1 h2 h3=>exact⟨vs,rfl,h1,h2,h3⟩
theorem RD.zj {ds:List D} {v:Value} (h:RD M s (.tuple ds) v) : ∃ vs:Array Value,v = .tuple vs∧ds.length=vs.size∧
 ∀ (i:Nat) (d:D) (v:Value),ds[i]? = some d→vs[i]? = some v→RD M s d v:=by
 cases h with | tuple _ vs h1 h2=>exact⟨vs,rfl,h1,h2⟩
theorem RD.undef:RD M s (.tuple []) Go.undef:= .tuple [] #[] rfl (fun i d v h=>by simp at h)
theorem RD.fR {g:Tag} {z:Nat} {rows:List (List D)} {v:Value} (h:RD M s (.slice g z rows) v) :
 (rows = []∧v = .slice none 0 0∧fI M s g z 0 none 0)∨(rows = []∧g = .shared∧∃ a cap,v = .slice (some a) 0 cap)∨
 ∃ b k cap,v = .slice (some ⟨b,k,none⟩) rows.length cap∧rows.length≤cap∧(∀ row∈rows,row.length=z)∧
  (∀ (i:Nat) (row:List D) (j:Nat) (d:D),rows[i]? = some row→row[j]? = some d→∃ u,M.G b (k+(i*z+j))=some u)∧
  (∀ (i:Nat) (row:List D) (j:Nat) (d:D) (u:Value),rows[i]? = some row→row[j]? = some d→M.G b (k+(i*z+j))=some u→RD M s d u)∧
  fI M s g z rows.length (some (b,k)) cap:=by
 cases h with
 | gA _ _ cap hc ht=>subst hc;exact .inl ⟨rfl,rfl,ht⟩
 | km _ a cap=>exact .inr (.inl ⟨rfl,rfl,a,cap,rfl⟩)
 | slice _ _ _ b k cap hl hs h1 h2 ht=>exact .inr (.inr ⟨b,k,cap,rfl,hl,hs,h1,h2,ht⟩)
theorem RD.row {d:D} {v:Value} (h:RD M s d v) {r:List D} (hr:d.row=some r):v.cells.size=r.length∧(∀ u∈v.cells,u.oneCell'=true)∧
 ∀ (i:Nat) (d':D) (u:Value),r[i]? = some d'→v.cells[i]? = some u→RD M s d' u:=by
 have one : ∀ (x:Value),x.oneCell'=true→x.cells = #[x]:=by intro x hx;cases x <;> first | rfl | (simp [Value.oneCell']at hx)
 have go : ∀ (x:Value),x.oneCell'=true→RD M s d x→d.row=some [d]→x.cells.size=r.length∧(∀ u∈x.cells,u.oneCell'=true)∧
  ∀ (i:Nat) (d':D) (u:Value),r[i]? = some d'→x.cells[i]? = some u→RD M s d' u:=by
  intro x hx hd h1
  rw [h1]at hr;cases hr
  rw [one x hx]
  refine⟨rfl,by simp [hx],fun i d' u e1 e2=> ?_⟩
  cases i with
  | zero=>simp at e1 e2;subst e1;subst e2;exact hd
  | succ i=>simp at e1
 cases h with
 | junk v=>cases hr
 | int k n=>exact go _ rfl (.int k n) rfl
 | bool b=>exact go _ rfl (.bool b) rfl
 | str l=>exact go _ rfl (.str l) rfl
 | ei=>exact go _ rfl .ei rfl
 | val v hv=>exact go _ hv (.val v hv) rfl
 | eo T o v h ht hv=>exact go _ (by rcases hv with rfl | rfl <;> rfl) (.eo T o v h ht hv) rfl
 | ptr o off h hm=>exact go _ rfl (.ptr o off h hm) rfl
 | fi f ds vs hl h=>exact go _ rfl (.fi f ds vs hl h) rfl
 | ff o h hm=>exact go _ rfl (.ff o h hm) rfl
 | dc row off b k h1 h2=>exact go _ rfl (.dc row off b k h1 h2) rfl
 | gA g z cap hc ht=>exact go _ rfl (.gA g z cap hc ht) rfl
 | km z a cap=>exact go _ rfl (.km z a cap) rfl
 | slice g z rows b k cap hl hs h1 h2 ht=>exact go _ rfl (.slice g z rows b k cap hl hs h1 h2 ht) rfl
 | agg cells vs hl h1 h2=>cases hr;exact⟨hl.symm,h1,h2⟩
 | tuple ds vs hl h1=>cases hr
theorem ml {v:Value} {d:D} (h:nV v=some d):RD M s d v∧v.oneCell'=true:=by
 unfold nV at h
 split at h <;> first | (cases h;done) | skip
 ·cases h;exact⟨.int _ _,rfl⟩
 ·cases h;exact⟨.bool _,rfl⟩
 ·cases h;exact⟨.str _,rfl⟩
 ·cases h;exact⟨.ei,rfl⟩
 ·cases h;exact⟨.gA _ _ 0 rfl rfl,rfl⟩
 ·cases h;exact⟨.val _ rfl,rfl⟩
theorem iL : ∀ {vs:List Value} {ds:List D},kn vs=some ds→ds.length=vs.length∧(∀ v∈vs,v.oneCell'=true)∧
 ∀ (i:Nat) (d:D) (v:Value),ds[i]? = some d→vs[i]? = some v→RD M s d v
 | [],ds,h=>by cases h;exact⟨rfl,by simp,by simp⟩
 | v::r,ds,h=>by
  unfold kn at h
  split at h
  ·rename_i d kZ h1 h2
   cases h
   obtain⟨a,b⟩:=ml (M:=M) (s:=s) h1
   obtain⟨i1,i2,i3⟩:=iL h2
   refine⟨by simp [i1],fun u hu=> ?_,fun i d' u e1 e2=> ?_⟩
   ·rcases List.mem_cons.1 hu with rfl | hu
    ·exact b
    ·exact i2 u hu
   ·cases i with
    | zero=>simp at e1 e2;subst e1;subst e2;exact a
    | succ i=>simp at e1 e2;exact i3 i d' u e1 e2
  ·cases h
theorem yr {v:Value} {d:D} (h:wg v=some d):RD M s d v∧v.oneCell'=true:=by
 unfold wg at h
 split at h
 ·cases h;exact⟨.val _ rfl,rfl⟩
 ·exact ml h
theorem qD : ∀ {vs:List Value} {ds:List D},qz vs=some ds→ds.length=vs.length∧(∀ v∈vs,v.oneCell'=true)∧
 ∀ (i:Nat) (d:D) (v:Value),ds[i]? = some d→vs[i]? = some v→RD M s d v
 | [],ds,h=>by cases h;exact⟨rfl,by simp,by simp⟩
 | v::r,ds,h=>by
  unfold qz at h
  split at h
  ·rename_i d kZ h1 h2
   cases h
   obtain⟨g1,g2⟩:=yr (M:=M) (s:=s) h1
   obtain⟨k1,k2,k3⟩:=qD h2
   refine⟨by simp [k1],fun u hu=> ?_,fun i d' u e1 e2=> ?_⟩
   ·rcases List.mem_cons.1 hu with rfl | hu
    ·exact g2
    ·exact k2 u hu
   ·cases i with
    | zero=>simp at e1 e2;subst e1;subst e2;exact g1
    | succ i=>exact k3 i d' u (by simpa using e1) (by simpa using e2)
  ·cases h
theorem vN {b:Bool} {vs:List Value} {ds:List D} (h:Ec b vs=some ds):ds.length=vs.length∧(∀ v∈vs,v.oneCell'=true)∧
 ∀ (i:Nat) (d:D) (v:Value),ds[i]? = some d→vs[i]? = some v→RD M s d v:=by
 unfold Ec at h
 split at h
 ·exact qD h
 ·exact iL h
theorem Ee {v:Value} {d:D} (h:Ea v=some d):RD M s d v:=by
 unfold Ea at h
 split at h
 ·rename_i cs
  cases hc:kn cs.toList with
  | none=>rw [hc]at h;cases h
  | some ds=>
   rw [hc]at h;cases h
   obtain⟨h1,h2,h3⟩:=iL (M:=M) (s:=s) hc
   exact .agg ds cs (by simpa using h1) (fun v hv=>h2 v (by simpa using hv)) (fun i d v e1 e2=>h3 i d v e1 (by simpa using e2))
 ·cases h;exact .undef
 ·exact(ml h).1
def jo (M:Map) (s:St) (tm:Tm) (tmps:Array Value):Prop:=∀ t,RD M s (tm.get t) (tmps.getD t Go.undef)
theorem jo.mono {M':Map} {s':St} {tm:Tm} {tmps:Array Value} (h:jo M s tm tmps) (le:Le M s M' s'):jo M' s' tm tmps:=fun t=>(h t).mono le
theorem bA {x:Operand} {y:X} (h:cX x=some y) {tm:Tm} {act:Act} (hr:jo M s tm act.tmps):RD M s (y.ev tm) (act.eval x):=by
 unfold cX at h
 split at h
 ·cases h;exact hr _
 ·rename_i v
  cases hv:Ea v with
  | none=>rw [hv]at h;cases h
  | some d=>rw [hv]at h;cases h;exact Ee hv
 ·cases h;exact .fi _ [] #[] rfl (by simp)
 ·cases h
theorem Tm.yu (tm:Tm) (t:Nat) (d:D) (u:Nat):(tm.set t d).get u=if u=t then d else tm.get u:=by
 induction tm with
 | nil=>
  simp only [Tm.set,Tm.get]
  by_cases h:t=u
  ·simp [h]
  ·rw [if_neg h,if_neg (fun e=>h e.symm)]
 | cons p r ih=>
  obtain⟨k,e⟩:=p
  simp only [Tm.set]
  split
  ·rename_i h
   subst h
   simp only [Tm.get]
   by_cases h:k=u
   ·simp [h]
   ·rw [if_neg h,if_neg (fun e=>h e.symm),if_neg h]
  ·rename_i h
   simp only [Tm.get,ih]
   by_cases h1:k=u
   ·subst h1;simp [h]
   ·simp [h1]
theorem jo.put {tm:Tm} {act:Act} (h:jo M s tm act.tmps) {dst:Option Nat} (hd : ∀ t,dst=some t→t<act.tmps.size) {d:D} {v:Value} (hv:RD M s d v) :
 jo M s (tm.put dst d) (act.put dst v).tmps:=by
 intro u
 cases dst with
 | none=>exact h u
 | some t=>
  simp only [Tm.put,Act.put,Tm.yu]
  have ht:=hd t rfl
  by_cases hu:u=t
  ·subst hu
   simp [ht];exact hv
  ·rw [if_neg hu]
   have:=h u
   simpa [Array.getElem?_setIfInBounds_ne (fun e=>hu e.symm)]using this
theorem fD (P:Program) {t:TypeId} {i:TypeInfo} (h:P.info? t=some i) (w:World):(typeInfo t).run P w = .ok i w:=by
 simp [typeInfo,h]
theorem n3 (b o n:Nat):Addr.add ⟨b,o,none⟩ n = ⟨b,o+n,none⟩:=Addr.add_lit b o n
theorem wi (P:Program) {t:TypeId} {i:TypeInfo} {agg:Bool} (hi:P.info? t=some i) (ha:oD P t=some agg) (b k:Nat) (us:List Value)
 (hl:us.length=if agg then i.size else 1) (h : ∀ (j:Nat) (u:Value),us[j]? = some u→w.cell? ⟨b,k+j,none⟩=some u) :
 (loadVar t ⟨b,k,none⟩).run P w = .ok (if agg then .agg us.toArray else us.getD 0 Go.undef) w:=by
 have uf:(isAgg t).run P w = .ok agg w:=by
  unfold oD at ha
  unfold isAgg
  cases hu:P.underlying t with
  | none=>rw [hu]at ha;cases ha
  | some d=>
   rw [hu]at ha
   simp only [Sem.run_bind,run_underlying hu,Result.andThen_ok]
   cases d <;> simp_all
 cases agg with
 | true=>
  simp only [if_true]at hl ⊢
  have hc:=run_loadCells_list (P:=P) w ⟨b,k,none⟩ us (fun j v e=>by rw [n3];exact h j v e)
  simp [loadVar,uf,sizeOf,fD P hi, ← hl,hc]
 | false=>
  simp only [Bool.false_eq_true,if_false]at hl ⊢
  match us,hl with
  | [u],_=>
   have:=h 0 u rfl
   simp only [Nat.add_zero]at this
   simp [loadVar,uf,this]
theorem oF {cs:List D} {off:Nat} {agg:Bool} {size:Nat} {d:D} (h:part cs off agg size=some d) :
 (agg=true∧off+size≤cs.length∧d = .agg ((cs.drop off).take size))∨(agg=false∧cs[off]? = some d):=by
 unfold part at h
 split at h
 ·split at h
  ·cases h;exact .inl ⟨rfl, ‹_›,rfl⟩
  ·cases h
 ·exact .inr ⟨rfl,h⟩
theorem pK {cs:List D} {off size:Nat} {agg:Bool} {d:D} (h:part cs off agg size=some d) (us:List Value) (hl:us.length=if agg then size else 1)
 (iP:agg=true→∀ u∈us,u.oneCell'=true)
 (hr : ∀ (j:Nat) (d:D) (u:Value),cs[off+j]? = some d→us[j]? = some u→RD M s d u):RD M s d (if agg then .agg us.toArray else us.getD 0 Go.undef):=by
 rcases oF h with ⟨rfl,h1,rfl⟩ | ⟨rfl,h1⟩
 ·simp only [if_true]at hl ⊢
  refine .agg _ _ (by simp [hl];omega) (fun v hv=>iP rfl v (by simpa using hv)) (fun i d v e1 e2=> ?_)
  rw [List.getElem?_take]at e1
  split at e1
  ·rw [List.getElem?_drop]at e1
   exact hr i d v e1 (by simpa using e2)
  ·cases e1
 ·simp only [Bool.false_eq_true,if_false]at hl ⊢
  match us,hl with
  | [u],_=>exact hr 0 d u (by simpa using h1) rfl
end
end Go.Abs

/-! Sound2 -/

namespace Go.Abs
def cw (P:Program) (M:Map) (s:St) (w:World) (x:Sem Next) (d:D) (s':St):Prop:=
 ∃ v w' M',(x.run P w = .ok (.value v) w'∨(x.run P w = .ok .skip w'∧v=Go.undef))∧Rel M' s' w'∧RD M' s' d v∧Ext M s w M' s' w'
section
variable {P:Program} {M:Map} {s:St} {w:World}
theorem cw.pure {x:Sem Next} {d:D} {v:Value} (r:Rel M s w) (h:x.run P w = .ok (.value v) w) (hd:RD M s d v):cw P M s w x d s:=
 ⟨v,w,M, .inl h,r,hd,Ext.refl M s w⟩
theorem Ef (r:Rel M s w) {t:TypeId} {z:List D} (hz:zeroOf P t=some z) :
 cw P M s w (do pure (.value (← Instr.alloc t true (.tuple #[])))) (.ptr s.av.length 0) {s with av:=s.av++ [z]}:=by
 unfold zeroOf at hz
 split at hz
 ·rename_i i hi
  split at hz
  ·rename_i v hv
   split at hz
   ·rename_i dC
    obtain⟨h1,h2,h3⟩:=iL (M:=M) (s:=s) hz
    obtain⟨r',e'⟩:=r.c9 z v.cells t (by rw [h1];simp) (fun u hu=>h2 u (by simpa using hu)) (fun i d u e1 e2=>h3 i d u e1 (by simpa using e2))
    refine⟨_,_,_, .inl ?_,r', .ptr _ _ (by simp) (by simp [Map.c9,Map.ob]),e'⟩
    simp [Instr.alloc,zeroValue,fD P hi,hv,newVar,newRow,Map.c9,Map.mu]
   ·cases hz
  ·cases hz
 ·cases hz
theorem CZ (r:Rel M s w) {t:TypeId} {z:List D} (hz:sD P t=some (.ei::z)) :
 cw P M s w (do pure (.value (← Instr.alloc t true (.tuple #[])))) (.ptr s.av.length 0) {s with av:=s.av++ [.eo t s.av.length::z]}:=by
 unfold sD at hz
 split at hz
 ·rename_i i hi
  split at hz
  ·rename_i v hv
   split at hz
   ·rename_i dC
    obtain⟨h1,h2,h3⟩:=vN (M:=M) (s:=s) hz
    obtain⟨r',e'⟩:=r.Be (.eo t s.av.length::z) v.cells t (.ty t) (by simp) (fun _ h=>by cases h;rfl) (by simp at h1 ⊢;omega) (fun u hu=>h2 u (by simpa using hu)) (fun i d u e1 e2=>by
     cases i with
     | zero=>
      simp at e1;subst e1
      have:=(h3 0 .ei u rfl (by simpa using e2)).nY
      exact .eo t _ u (by simp) (by simp [Map.c9,Map.ty,Ob.ty?]) (.inl this)
     | succ i=>exact(h3 (i+1) d u (by simpa using e1) (by simpa using e2)).mono (qa s w.heap.size _ _))
    refine⟨_,_,_, .inl ?_,r', .ptr _ _ (by simp) (by simp [Map.c9,Map.ob]),e'⟩
    simp [Instr.alloc,zeroValue,fD P hi,hv,newVar,newRow,Map.c9,Map.mu]
   ·cases hz
  ·cases hz
 ·cases hz
theorem Ju (r:Rel M s w) {t:TypeId} {d:D} {v:Value} {row:List D} (hd:RD M s d v) (hr:d.row=some row) :
 cw P M s w (do pure (.value (← Instr.box t v))) (.ptr s.av.length 0) {s with av:=s.av++ [row]}:=by
 obtain⟨h1,h2,h3⟩:=hd.row hr
 obtain⟨r',e'⟩:=r.c9 row v.cells t h1 h2 h3
 refine⟨_,_,_, .inl ?_,r', .ptr _ _ (by simp) (by simp [Map.c9,Map.ob]),e'⟩
 simp [Instr.box,newVar,newRow,Map.c9,Map.mu]
theorem GN (r:Rel M s w) {t:TypeId} {d:D} {v:Value} {row:List D} (hd:RD M s d v) (hr:d.row=some (.ei::row)) :
 cw P M s w (do pure (.value (← Instr.box t v))) (.ptr s.av.length 0) {s with av:=s.av++ [.eo t s.av.length::row]}:=by
 obtain⟨h1,h2,h3⟩:=hd.row hr
 obtain⟨r',e'⟩:=r.Be (.eo t s.av.length::row) v.cells t (.ty t) (by simp) (fun _ h=>by cases h;rfl) (by simp at h1 ⊢;omega) h2 (fun i d u e1 e2=>by
  cases i with
  | zero=>
   simp at e1;subst e1
   have:=(h3 0 .ei u rfl e2).nY
   exact .eo t _ u (by simp) (by simp [Map.c9,Map.ty,Ob.ty?]) (.inl this)
  | succ i=>exact(h3 (i+1) d u (by simpa using e1) e2).mono (qa s w.heap.size _ _))
 refine⟨_,_,_, .inl ?_,r', .ptr _ _ (by simp) (by simp [Map.c9,Map.ob]),e'⟩
 simp [Instr.box,newVar,newRow,Map.c9,Map.mu]
theorem Ap (r:Rel M s w) {t:TypeId} {i:TypeInfo} {agg:Bool} (hi:P.info? t=some i) (ha:oD P t=some agg) {o off:Nat} {cs:List D} {d:D}
 (ho:s.av[o]? = some cs) (hk:M.ob o≠ .map) (hp:part cs off agg i.size=some d) :
 cw P M s w (do pure (.value (← Instr.loadAt t (.pointer (some ⟨M.mu o,off,none⟩))))) d s:=by
 obtain⟨vs,T,hh,dC,⟨iP,_⟩,mc⟩:=r.obj o cs ho
 replace hh:=hh.cells hk
 let n:=if agg then i.size else 1
 have gY:off+n≤vs.size:=by
  rcases oF hp with ⟨rfl,h1,_⟩ | ⟨rfl,h1⟩
  ·simp [n];omega
  ·have:=(List.getElem?_eq_some_iff.1 h1).1;simp [n];omega
 have hlen:((vs.toList.drop off).take n).length=n:=by simp;omega
 have hJ : ∀ (j:Nat) (u:Value),((vs.toList.drop off).take n)[j]? = some u→vs[off+j]? = some u:=by
  intro j u h
  rw [List.getElem?_take]at h
  split at h
  ·rw [List.getElem?_drop]at h;simpa using h
  ·cases h
 have dd:=wi (w:=w) P hi ha (M.mu o) off ((vs.toList.drop off).take n) hlen (fun j u h=>by rw [iC hh];exact hJ j u h)
 refine cw.pure (v:=if agg then .agg ((vs.toList.drop off).take n).toArray else((vs.toList.drop off).take n).getD 0 Go.undef) r (by simp [Instr.loadAt,Instr.sureAddr,dd]) ?_
 refine pK hp _ hlen (fun _ u hu=>iP u ?_) (fun j d u e1 e2=>mc _ d u e1 (hJ j u e2))
 exact Array.mem_toList_iff.1 (List.mem_of_mem_drop (List.mem_of_mem_take hu))
theorem sH {b:Nat} : ∀ (n k:Nat),(∀ j,j<n→∃ u,M.G b (k+j)=some u)→∃ us:List Value,us.length=n∧∀ (j:Nat) (u:Value),us[j]? = some u→M.G b (k+j)=some u
 | 0,_,_=>⟨[],rfl,fun j u h=>by simp at h⟩
 | n+1,k,h=>by
  obtain⟨u0,h0⟩:=h 0 (by omega)
  obtain⟨us,h1,h2⟩:=sH n (k+1) (fun j hj=>by obtain⟨u,hu⟩:=h (j+1) (by omega);exact⟨u,by rw [show k+1+j=k+(j+1) by omega];exact hu⟩)
  refine⟨u0::us,by simp [h1],fun j u hj=> ?_⟩
  cases j with
  | zero=>simp at hj;subst hj;exact h0
  | succ j=>simp at hj;have:=h2 j u hj;rw [show k+(j+1)=k+1+j by omega];exact this
theorem Aq (r:Rel M s w) {t:TypeId} {i:TypeInfo} {agg:Bool} (hi:P.info? t=some i) (ha:oD P t=some agg) {row:List D} {off b k:Nat} {d:D}
 (h1 : ∀ (i:Nat) (d:D),row[i]? = some d→∃ u,M.G b (k+i)=some u) (h2 : ∀ (i:Nat) (d:D) (u:Value),row[i]? = some d→M.G b (k+i)=some u→RD M s d u)
 (hp:part row off agg i.size=some d) :
 cw P M s w (do pure (.value (← Instr.loadAt t (.pointer (some ⟨b,k+off,none⟩))))) d s:=by
 let n:=if agg then i.size else 1
 have gY:off+n≤row.length:=by
  rcases oF hp with ⟨rfl,h1,_⟩ | ⟨rfl,h1⟩
  ·simp [n];omega
  ·have:=(List.getElem?_eq_some_iff.1 h1).1;simp [n];omega
 obtain⟨us,hl,vM⟩:=sH (M:=M) (b:=b) n (k+off) (fun j hj=>by
  obtain⟨d,hd⟩ : ∃ d,row[off+j]? = some d:=⟨_,List.getElem?_eq_getElem (by omega)⟩
  obtain⟨u,hu⟩:=h1 _ d hd
  exact⟨u,by rw [show k+off+j=k+(off+j) by omega];exact hu⟩)
 have dd:=wi (w:=w) P hi ha b (k+off) us hl (fun j u h=>(r.comm _ _ _ (vM j u h)).1)
 refine cw.pure (v:=if agg then .agg us.toArray else us.getD 0 Go.undef) r (by simp [Instr.loadAt,Instr.sureAddr,dd]) ?_
 refine pK hp us hl (fun _ u hu=> ?_) (fun j d u e1 e2=>h2 _ d u e1 (by rw [show k+(off+j)=k+off+j by omega];exact vM j u e2))
 obtain⟨j,hj⟩:=List.mem_iff_getElem?.1 hu
 exact(r.comm _ _ _ (vM j u hj)).2
theorem Eg (r:Rel M s w) {t:TypeId} {i:TypeInfo} (hi:P.info? t=some i) {o off:Nat} {cs row:List D} {d:D} {v:Value} (ho:s.av[o]? = some cs) (hk:M.ob o≠ .map)
 (hd:RD M s d v) (hr:d.row=some row) (hl:row.length=i.size) (gY:off+i.size≤cs.length) :
 cw P M s w (do Instr.storeAt t (.pointer (some ⟨M.mu o,off,none⟩)) v;pure .skip) (.tuple []) {s with av:=s.av.set o (gw cs off row)}:=by
 obtain⟨h1,h2,h3⟩:=hd.row hr
 obtain⟨w',dd,r',e'⟩:=r.Ui P ho hk row v.cells.toList (by simpa using h1) (by rw [hl];exact gY) (fun u hu=>h2 u (by simpa using hu)) (fun i d u e1 e2=>h3 i d u e1 (by simpa using e2))
 refine⟨Go.undef,w',M, .inr ⟨?_,rfl⟩,r', .undef,e'⟩
 have dC:v.cells.size=i.size:=by omega
 simp [Instr.storeAt,Instr.sureAddr,storeVar,sizeOf,fD P hi,dC,dd]
theorem w9 (r:Rel M s w) {d:D} {a:Addr} (hd:RD M s d (.pointer (some a))) :
 cw P M s w (pure (.value (.pointer (some a)))) d s:=cw.pure r rfl hd
theorem zk {t:TypeId} {f off size:Nat} {agg:Bool} (h:jD P t f=some (off,size,agg)) (b k:Nat) :
 (Instr.fieldAt t (.pointer (some ⟨b,k,none⟩)) f).run P w = .ok (.pointer (some ⟨b,k+off,none⟩)) w:=by
 unfold jD at h
 split at h
 ·rename_i fs hu
  split at h
  ·rename_i fd hf
   split at h
   ·rename_i i a hi ha
    split at h
    ·cases h
    ·rename_i dP
     cases h
     simp [Instr.fieldAt,run_underlying hu,hf,Instr.sureAddr,fieldPlace,sizeOf,fD P hi,dP,n3]
   ·cases h
  ·cases h
 ·cases h
theorem GO {t:TypeId} {f off size:Nat} {agg:Bool} (h:jD P t f=some (off,size,agg)) (vs:Array Value) (us:List Value) (hl:us.length=if agg then size else 1)
 (hg : ∀ j,j<us.length→vs[off+j]? = us[j]?) :
 (Instr.field t (.agg vs) f).run P w = .ok (if agg then .agg us.toArray else us.getD 0 Go.undef) w:=by
 unfold jD at h
 split at h
 ·rename_i fs hu
  split at h
  ·rename_i fd hf
   split at h
   ·rename_i i a hi ha
    split at h
    ·cases h
    ·rename_i dP
     cases h
     have uf:(isAgg fd.type).run P w = .ok agg w:=by
      unfold oD at ha
      unfold isAgg
      cases hu:P.underlying fd.type with
      | none=>rw [hu]at ha;cases ha
      | some d=>
       rw [hu]at ha
       simp only [Sem.run_bind,run_underlying hu,Result.andThen_ok]
       cases d <;> simp_all
     cases agg with
     | true=>
      simp only [if_true]at hl ⊢
      have:vs.extract fd.offset (fd.offset+i.size)=us.toArray:=by
       apply Array.ext_getElem?
       intro j
       rw [Array.getElem?_extract]
       by_cases hj:j<us.length
       ·rw [← hl,if_pos (by
         have h1:=hg j hj
         rw [List.getElem?_eq_getElem hj]at h1
         have:=(Array.getElem?_eq_some_iff.1 h1).1
         have h2:=hg (us.length - 1) (by omega)
         rw [List.getElem?_eq_getElem (by omega)]at h2
         have:=(Array.getElem?_eq_some_iff.1 h2).1
         omega),hg j hj]
        simp
       ·have hn:us.toArray[j]? = none:=by simp;omega
        rw [hn,if_neg (by omega)]
      simp [Instr.field,run_underlying hu,hf,asAgg,Go.part,uf,sizeOf,fD P hi,this]
     | false=>
      simp only [Bool.false_eq_true,if_false]at hl ⊢
      match us,hl with
      | [u],_=>
       have:=hg 0 (by simp)
       simp at this
       simp [Instr.field,run_underlying hu,hf,asAgg,Go.part,uf,this]
   ·cases h
  ·cases h
 ·cases h
end
end Go.Abs

/-! Sound3 -/

namespace Go.Abs
section
variable {P:Program} {M:Map} {s:St} {w:World}
theorem Eh {op : BinOp} {t : TypeId} {k : IntKind} {a b : Int} {d : D} (h : eD op k a b = some d) :
   ∃ v, (binOp op t (.int k a) (.int k b)).run P w = .ok v w ∧ RD M s d v := by
 cases op <;> simp only [eD] at h <;> first
   | (cases h; done)
   | (split at h
      · cases h
      · cases h
        exact ⟨_, by simp [binOp, Op.intDiv, *], .int _ _⟩)
   | (cases h; exact ⟨_, by simp [binOp, Op.intArith], .int _ _⟩)
   | (cases h; exact ⟨_, by simp [binOp, Op.intCmp], .bool _⟩)
theorem Ei {op:BinOp} {t:TypeId} {a b:List UInt8} {d:D} (h:kD op a b=some d) :
 ∃ v,(binOp op t (.string ⟨⟨a⟩⟩) (.string ⟨⟨b⟩⟩)).run P w = .ok v w∧RD M s d v:=by
 have sz : ∀ l:List UInt8,(⟨⟨l⟩⟩:ByteArray).size=l.length:=fun _=>rfl
 cases op <;> simp only [kD]at h <;> first
  | (cases h;done)
  | skip
 case add=>
  split at h
  ·rename_i hl
   cases h
   refine⟨.string ⟨⟨a++b⟩⟩, ?_, .str _⟩
   have h1 : ¬ ((((⟨⟨a⟩⟩:ByteArray).size+(⟨⟨b⟩⟩:ByteArray).size:Nat):Int) > IntKind.i64.max):=by
    rw [sz,sz,IntKind.max_i64];simp only [bt]at hl;omega
   simp only [binOp,Op.stringOp,h1,if_false]
   simp only [Sem.run_pure]
   congr 2
  ·cases h
 case eql=>cases h;exact⟨_,by simp [binOp,Op.stringOp], .bool _⟩
 case neq=>cases h;exact⟨_,by simp [binOp,Op.stringOp], .bool _⟩
 case lss=>cases h;exact⟨_,by simp [binOp,Op.stringOp,bytesLess], .bool _⟩
theorem kE {op:BinOp} {t:TypeId} {x y:Operand} {a b:Value} (h:(∀ vs,a≠ .agg vs)∧a≠ .nilIface):(eqGuard op t x y a b).run P w = .ok () w:=by
 obtain⟨h1,h2⟩:=h
 cases a <;> first
  | exact(h2 rfl).elim
  | exact(h1 _ rfl).elim
  | (cases op <;> simp [eqGuard])
theorem Jv (r:Rel M s w) {op:BinOp} {t:TypeId} {x y:Operand} {dx dy d:D} {a b:Value} (ha:RD M s dx a) (hb:RD M s dy b) (h:rb op dx dy=some d) :
 cw P M s w (do pure (.value (← (do eqGuard op t x y a b;binOp op t a b)))) d s:=by
 unfold rb at h
 split at h
 ·rename_i k n k' m
  split at h
  ·rename_i hk;subst hk
   rw [ha.gC,hb.gC]
   obtain⟨v,hv,hd⟩:=Eh (P:=P) (M:=M) (s:=s) (w:=w) (t:=t) h
   exact cw.pure r (by simp [kE (P:=P) (w:=w) (op:=op) (t:=t) (x:=x) (y:=y) (a:= .int k n) (b:= .int k m) ⟨by simp,by simp⟩,hv]) hd
  ·cases h
 ·rename_i l m
  rw [ha.iK,hb.iK]
  obtain⟨v,hv,hd⟩:=Ei (P:=P) (M:=M) (s:=s) (w:=w) (t:=t) h
  exact cw.pure r (by simp [kE (P:=P) (w:=w) (op:=op) (t:=t) (x:=x) (y:=y) (a:= .string ⟨⟨l⟩⟩) (b:= .string ⟨⟨m⟩⟩) ⟨by simp,by simp⟩,hv]) hd
 ·cases h
theorem Jw (r:Rel M s w) {neg:Bool} {t:TypeId} {x y:Operand} {p q:Bool} (ht:P.underlying t=some .bool) :
 cw P M s w (do pure (.value (← (do eqGuard (if neg then .neq else .eql) t x y (.bool p) (.bool q);binOp (if neg then .neq else .eql) t (.bool p) (.bool q))))) (.bool (if neg then !(p==q)else p==q)) s:=by
 refine cw.pure (v:= .bool (if neg then !(p==q)else p==q)) r ?_ (.bool _)
 have hg:=kE (P:=P) (w:=w) (op:=if neg then .neq else .eql) (t:=t) (x:=x) (y:=y) (a:= .bool p) (b:= .bool q) ⟨by simp,by simp⟩
 have he:(Op.equal t (.bool p) (.bool q)).run P w = .ok (p==q) w:=by
  exact run_equalIn_bool w 9999 t p q ht
 cases neg
 ·simp only [Bool.false_eq_true,if_false]at hg ⊢
  simp [hg,binOp,he]
 ·simp only [if_true]at hg ⊢
  simp [hg,binOp,he]
theorem C0 (n:Nat) {t e:TypeId} {a:Option Addr} (ht:P.underlying t=some (.pointer e)):(Op.equalIn (n+1) t (.pointer a) (.pointer none)).run P w = .ok a.isNone w:=by
 cases a <;> simp [Op.equalIn,run_underlying ht]
theorem wj (r:Rel M s w) {neg:Bool} {t e:TypeId} {x y:Operand} {a:Option Addr} (ht:P.underlying t=some (.pointer e)) :
 cw P M s w (do pure (.value (← (do eqGuard (if neg then .neq else .eql) t x y (.pointer a) (.pointer none);binOp (if neg then .neq else .eql) t (.pointer a) (.pointer none))))) (.bool (if neg then !a.isNone else a.isNone)) s:=by
 refine cw.pure (v:= .bool (if neg then !a.isNone else a.isNone)) r ?_ (.bool _)
 have hg:=kE (P:=P) (w:=w) (op:=if neg then .neq else .eql) (t:=t) (x:=x) (y:=y) (a:= .pointer a) (b:= .pointer none) ⟨by simp,by simp⟩
 have he:(Op.equal t (.pointer a) (.pointer none)).run P w = .ok a.isNone w:=by
  exact C0 9999 ht
 cases neg
 ·simp only [Bool.false_eq_true,if_false]at hg ⊢
  simp [hg,binOp,he]
 ·simp only [if_true]at hg ⊢
  simp [hg,binOp,he]
theorem Ej (n:Nat) {t:TypeId} {k:Nat} (hk:jU P t=some k) {x y:D} {v u:Value} (rv:RD M s x v) (ru:RD M s y u) {b:Bool} (h:jT k x y=some b) :
 (Op.equalIn (n+1) t v u).run P w = .ok b w:=by
 unfold jU at hk
 split at hk <;> first | (cases hk;done) | skip
 ·rename_i kk hu
  cases hk
  cases x <;> cases y <;> simp [jT]at h
  obtain⟨rfl,rfl⟩:=h
  rw [rv.gC,ru.gC]
  exact run_equalIn_int w n t _ _ _ _ hu
 ·rename_i hu
  cases hk
  cases x <;> cases y <;> simp [jT]at h
  subst h
  rw [rv.ko,ru.ko]
  exact run_equalIn_bool w n t _ _ hu
 ·rename_i hu
  cases hk
  cases x <;> cases y <;> simp [jT]at h
  subst h
  rw [rv.iK,ru.iK]
  rw [run_equalIn_string w n t _ _ hu]
  simp
theorem ug (n:Nat) : ∀ (fs:List Field) (off:Nat) (ks:List Nat) (xs ys:List D) (vs us:Array Value) (e:Bool),
 vk P off fs=some ks→(∀ (i:Nat) (d:D) (v:Value),xs[i]? = some d→vs[off+i]? = some v→RD M s d v)→(∀ i,i<xs.length→(vs[off+i]?).isSome)→
 (∀ (i:Nat) (d:D) (v:Value),ys[i]? = some d→us[off+i]? = some v→RD M s d v)→(∀ i,i<ys.length→(us[off+i]?).isSome)→
 iJ ks xs ys=some e→(Op.eqFields (n+1) vs us fs).run P w = .ok e w
 | [],off,ks,xs,ys,vs,us,e,hk,_,_,_,_,h=>by
  cases hk
  cases xs <;> cases ys <;> simp [iJ]at h
  subst h;rfl
 | f::fs,off,ks,xs,ys,vs,us,e,hk,h1,h2,h3,h4,h=>by
  unfold vk at hk
  split at hk
  ·rename_i hf
   obtain⟨ho,RR⟩:=hf
   split at hk
   ·rename_i k WN vO bE
    cases hk
    match xs,ys with
    | [],[]=>cases h
    | [],_::_=>cases h
    | _::_,[]=>cases h
    | x::xs,y::ys=>
     obtain⟨v,hv⟩:=Option.isSome_iff_exists.1 (h2 0 (by simp))
     obtain⟨u,hu⟩:=Option.isSome_iff_exists.1 (h4 0 (by simp))
     simp only [Nat.add_zero]at hv hu
     have rv:=h1 0 x v rfl hv
     have ru:=h3 0 y u rfl hu
     have uf:(isAgg f.type).run P w = .ok false w:=by
      unfold isAgg
      unfold jU at vO
      cases hu:P.underlying f.type with
      | none=>rw [hu]at vO;simp at vO
      | some d=>simp only [Sem.run_bind,run_underlying hu,Result.andThen_ok];rw [hu]at vO;cases d <;> simp_all
     have pv:(Go.part f.type vs f.offset).run P w = .ok v w:=by simp [Go.part,uf,ho,hv]
     have pu:(Go.part f.type us f.offset).run P w = .ok u w:=by simp [Go.part,uf,ho,hu]
     cases hc:jT k x y with
     | none=>simp [iJ,hc]at h
     | some b=>
      have hb:=Ej (w:=w) n vO rv ru hc
      simp only [iJ,hc]at h
      simp only [Op.eqFields,if_pos RR,Sem.run_bind,pv,pu,hb,Result.andThen_ok,Sem.run_ite,Sem.run_pure]
      cases b with
      | false=>cases h;rfl
      | true=>
       have:=ug n fs (off+1) WN xs ys vs us e bE
        (fun i d v e1 e2=>h1 (i+1) d v (by simpa using e1) (by rw [show off+(i+1)=off+1+i by omega];exact e2))
        (fun i hi=>by have:=h2 (i+1) (by simpa using hi);rwa [show off+(i+1)=off+1+i by omega]at this)
        (fun i d v e1 e2=>h3 (i+1) d v (by simpa using e1) (by rw [show off+(i+1)=off+1+i by omega];exact e2))
        (fun i hi=>by have:=h4 (i+1) (by simpa using hi);rwa [show off+(i+1)=off+1+i by omega]at this) h
       simp [this]
   ·cases hk
  ·cases hk
theorem Jy (r:Rel M s w) {neg:Bool} {t:TypeId} {x y:Operand} {ks:List Nat} {xs ys:List D} {a b:Value} {e:Bool} (ht:ma P t=some ks) (ha:RD M s (.agg xs) a) (hb:RD M s (.agg ys) b) (he:iJ ks xs ys=some e) :
 cw P M s w (do pure (.value (← (do eqGuard (if neg then .neq else .eql) t x y a b;binOp (if neg then .neq else .eql) t a b)))) (.bool (if neg then !e else e)) s:=by
 obtain⟨vs,rfl,hl,_,h1⟩:=ha.yq
 obtain⟨us,rfl,lU,_,h2⟩:=hb.yq
 unfold ma at ht
 split at ht
 ·rename_i fs hu
  split at ht
  ·rename_i hg
   obtain⟨GR,WO⟩:=hg
   have hf:P.fieldsOf t=fs:=by simp [Program.fieldsOf,hu]
   have dd:(Op.equalIn 10000 t (.agg vs) (.agg us)).run P w = .ok e w:=by
    rw [run_equalIn_struct w 9999 t vs us (by rw [hf];exact hu) WO,hf]
    exact ug 9998 fs.toList 0 ks xs ys vs us e ht (fun i d v e1 e2=>h1 i d v e1 (by simpa using e2)) (fun i hi=>by simp;omega)
     (fun i d v e1 e2=>h2 i d v e1 (by simpa using e2)) (fun i hi=>by simp;omega) he
   have zl:=run_eqGuard_agg (P:=P) w (if neg then .neq else .eql) t x y vs us GR
   refine cw.pure (v:= .bool (if neg then !e else e)) r ?_ (.bool _)
   cases neg
   ·simp only [Bool.false_eq_true,if_false]at zl ⊢
    simp only [Sem.run_bind,zl,Result.andThen_ok,run_eql_struct,dd,Sem.run_pure]
   ·simp only [if_true]at zl ⊢
    simp only [Sem.run_bind,zl,Result.andThen_ok,run_neq_struct,dd,Sem.run_pure]
  ·cases ht
 ·cases ht
end
end Go.Abs

/-! Sound4 -/

namespace Go.Abs
section
variable {P:Program} {M:Map} {s:St} {w:World}
theorem vl (l:List UInt8):(⟨⟨l⟩⟩:ByteArray).size=l.length:=rfl
theorem extract_mk (l:List UInt8) (a b:Nat):(⟨⟨l⟩⟩:ByteArray).extract a b = ⟨⟨(l.take b).drop a⟩⟩:=by
 apply ByteArray.ext
 rw [ByteArray.data_extract]
 apply Array.ext'
 simp [List.drop_take]
theorem getElem?_mk (l:List UInt8) (n:Nat):(⟨⟨l⟩⟩:ByteArray)[n]? = l[n]? :=by
 by_cases h:n<l.length
 ·rw [getElem?_pos (⟨⟨l⟩⟩:ByteArray) n h,List.getElem?_eq_getElem h];rfl
 ·rw [List.getElem?_eq_none (by omega)]
  rw [getElem?_neg (c:=(⟨⟨l⟩⟩:ByteArray)) (i:=n)]
  show ¬ n<(⟨⟨l⟩⟩:ByteArray).size
  rw [vl];omega
theorem GU (r:Rel M s w) {t:TypeId} {l:List UInt8} {k:IntKind} {n:Int} {c:UInt8} (ht:P.underlying t=some .string) (h0:0≤n) (hc:l[n.toNat]? = some c) :
 cw P M s w (do pure (.value (← Instr.index t (.string ⟨⟨l⟩⟩) (.int k n)))) (.int .u8 c.toNat) s:=by
 refine cw.pure (v:= .int .u8 c.toNat) r ?_ (.int _ _)
 simp [Instr.index,asIntOf,run_underlying ht,h0,getElem?_mk,hc]
theorem Bh (r:Rel M s w) {t ty:TypeId} {l:List UInt8} (ht:P.underlying t=some .string) :
 cw P M s w (do pure (.value (← Builtin.len_ #[t] ty #[.string ⟨⟨l⟩⟩]))) (.int .i64 l.length) s:=by
 refine cw.pure (v:= .int .i64 l.length) r ?_ (.int _ _)
 simp [Builtin.len_,run_underlying ht,goInt,vl]
theorem n4 (r:Rel M s w) {t ty e:TypeId} {a:Option Addr} {n c:Nat} (ht:P.underlying t=some (.slice e)) :
 cw P M s w (do pure (.value (← Builtin.len_ #[t] ty #[.slice a n c]))) (.int .i64 n) s:=by
 refine cw.pure (v:= .int .i64 n) r ?_ (.int _ _)
 simp [Builtin.len_,run_underlying ht,goInt]
theorem Ek (r:Rel M s w) {t e:TypeId} {i:TypeInfo} {g:Tag} {rows:List (List D)} {row:List D} {v:Value} {k:IntKind} {n:Int} (ht:P.underlying t=some (.slice e)) (hi:P.info? e=some i)
 (hd:RD M s (.slice g i.size rows) v) (h0:0≤n) (hr:rows[n.toNat]? = some row) :
 cw P M s w (do pure (.value (← Instr.indexAt t v (.int k n)))) (.dc row 0) s:=by
 have hD:=(List.getElem?_eq_some_iff.1 hr).1
 rcases hd.fR with ⟨rfl,_,_⟩ | ⟨rfl,_,_⟩ | ⟨b,q,cap,rfl,hl,hs,h1,h2,_⟩
 ·simp at hr
 ·simp at hr
 ·refine cw.pure (v:= .pointer (some ⟨b,q+n.toNat*i.size+0,none⟩)) r ?_ ?_
  ·have:n<(rows.length:Int):=by omega
   simp [Instr.indexAt,asIntOf,run_underlying ht,h0,this,sizeOf,fD P hi,n3]
  ·refine .dc row 0 b (q+n.toNat*i.size) (fun j d hj=> ?_) (fun j d u hj hu=> ?_)
   ·obtain⟨u,hu⟩:=h1 n.toNat row j d hr hj
    exact⟨u,by rw [Nat.add_assoc];exact hu⟩
   ·exact h2 n.toNat row j d u hr hj (by rw [← Nat.add_assoc];exact hu)
def LW (lv:Option Value) (l:Int):Prop:=(lv=none∧l=0)∨∃ k,lv=some (.int k l)
def LX (hv:Option Value) (len:Nat) (h:Int):Prop:=(hv=none∧h=len)∨∃ k,hv=some (.int k h)
theorem pL {isSlice:Bool} {lv hv:Option Value} {len cap:Nat} {l h:Int} (h1:LW lv l) (h2:LX hv len h) (a:0≤l) (b:l≤h) (c:h≤len) (d:len≤cap) :
 (Instr.sliceBounds isSlice len cap lv hv none).run P w = .ok (l.toNat,h.toNat,cap) w:=by
 have h0:0≤h:=by omega
 have hc:h≤cap:=by omega
 rcases h1 with ⟨rfl,rfl⟩ | ⟨k,rfl⟩ <;> rcases h2 with ⟨rfl,rfl⟩ | ⟨k',rfl⟩
 ·simp [Instr.sliceBounds]
 ·simp [Instr.sliceBounds,run_sliceBound w _ _ _ _ h0 hc]
 ·simp [Instr.sliceBounds,run_sliceBound w _ _ _ _ a b]
 ·have e:(h.toNat:Int)=h:=Int.toNat_of_nonneg h0
  simp [Instr.sliceBounds,run_sliceBound w _ _ _ _ h0 hc,run_sliceBound w _ _ _ _ a (show l≤(h.toNat:Int) by omega)]
theorem GV (r:Rel M s w) {t:TypeId} {lv hv:Option Value} {x:List UInt8} {l h:Int} (ht:P.underlying t=some .string) (h1:LW lv l) (h2:LX hv x.length h) (a:0≤l) (b:l≤h) (c:h≤x.length) :
 cw P M s w (do pure (.value (← Instr.sliceAt t (.string ⟨⟨x⟩⟩) lv hv none))) (.str ((x.take h.toNat).drop l.toNat)) s:=by
 have hb:=pL (P:=P) (w:=w) (isSlice:=false) (cap:=x.length) h1 h2 a b c (Nat.le_refl _)
 refine cw.pure (v:= .string ⟨⟨(x.take h.toNat).drop l.toNat⟩⟩) r ?_ (.str _)
 simp [Instr.sliceAt,run_underlying ht,Instr.slice,vl,hb,extract_mk]
theorem fI.cut {g:Tag} {z len Jz cap:Nat} {base:Option (Nat×Nat)} (h:fI M s g z len base cap) (hl:Jz≤len) (whole:Bool) (hw:whole=true→Jz=len):fI M s (g.cut whole) z Jz base cap:=by
 cases g with
 | full=>
  cases whole with
  | true=>rw [hw rfl];exact h
  | false=>trivial
 | shared=>trivial
 | tok t y=>
  obtain⟨x1,x2⟩:=h
  refine⟨x1,fun n hn=>⟨Nat.le_trans hl (x2 n hn).1,fun e=> ?_⟩⟩
  have:len=n:=by have:=(x2 n hn).1;omega
  exact(x2 n hn).2 this
theorem JB (r:Rel M s w) {t e:TypeId} {i:TypeInfo} {g:Tag} {z:Nat} {lv hv:Option Value} {rows:List (List D)} {v:Value} {l h:Int} (ht:P.underlying t=some (.slice e)) (GX:P.info? e=some i) (hz:rows = []∨z=i.size)
 (hd:RD M s (.slice g z rows) v) (h1:LW lv l) (h2:LX hv rows.length h) (a:0≤l) (b:l≤h) (c:h≤rows.length) :
 cw P M s w (do pure (.value (← Instr.sliceAt t v lv hv none))) (.slice (if l=0 then g.cut (h=rows.length)else .shared) z ((rows.take h.toNat).drop l.toNat)) s:=by
 have hlen:((rows.take h.toNat).drop l.toNat).length=h.toNat - l.toNat:=by simp;omega
 have tag : ∀ base cap,fI M s g z rows.length base cap→fI M s (if l=0 then g.cut (h=rows.length)else .shared) z ((rows.take h.toNat).drop l.toNat).length base cap:=by
  intro base cap kT
  split
  ·exact kT.cut (by omega) _ (fun hh=>by simp at hh;omega)
  ·trivial
 rcases hd.fR with ⟨rfl,rfl,kT⟩ | ⟨rfl,rfl,a',cap,rfl⟩ | ⟨b',q,cap,rfl,hl,hs,g1,g2,kT⟩
 ·have hb:=pL (P:=P) (w:=w) (isSlice:=true) (cap:=0) h1 h2 a b c (Nat.le_refl _)
  have DE:l=0:=by simp at c;omega
  have OI:h=0:=by simp at c;omega
  subst DE;subst OI
  refine cw.pure (v:= .slice none 0 0) r ?_ ?_
  ·simp at hb
   simp [Instr.sliceAt,run_underlying ht,Instr.slice,hb,sizeOf,fD P GX]
  ·have:=tag _ _ kT
   simp only [Int.toNat_zero,List.take_nil,List.drop_nil,List.length_nil]at this ⊢
   exact .gA _ _ 0 rfl this
 ·have hb:=pL (P:=P) (w:=w) (isSlice:=true) (cap:=cap) h1 h2 a b c (Nat.zero_le _)
  have DE:l=0:=by simp at c;omega
  have OI:h=0:=by simp at c;omega
  subst DE;subst OI
  simp only [List.length_nil]at hb
  have dd : ∃ a2:Addr,(Instr.sliceAt t (.slice (some a') 0 cap) lv hv none).run P w = .ok (.slice (some a2) 0 cap) w:=by
   refine⟨if cap=(0:Int).toNat then a' else a'.add ((0:Int).toNat*i.size), ?_⟩
   simp only [Instr.sliceAt,Sem.run_bind,run_underlying ht,Result.andThen_ok,Instr.slice,hb,sizeOf,fD P GX,Sem.run_pure]
   split <;> simp
  obtain⟨a2,dd⟩:=dd
  refine cw.pure (v:= .slice (some a2) 0 cap) r (by simp [dd]) ?_
  simp only [↓reduceIte,Int.toNat_zero,List.take_nil,List.drop_nil]
  have:Tag.cut .shared (decide ((0:Int)=(([] : List (List D)).length:Int))) = .shared:=rfl
  rw [this]
  exact .km _ a2 cap
 ·have hb:=pL (P:=P) (w:=w) (isSlice:=true) (cap:=cap) h1 h2 a b c hl
  have dd:(Instr.sliceAt t (.slice (some ⟨b',q,none⟩) rows.length cap) lv hv none).run P w = .ok (.slice (some (if cap=l.toNat then⟨b',q,none⟩else⟨b',q+l.toNat*i.size,none⟩)) (h.toNat - l.toNat) (cap - l.toNat)) w:=by
   simp only [Instr.sliceAt,Sem.run_bind,run_underlying ht,Result.andThen_ok,Instr.slice,hb,sizeOf,fD P GX,Sem.run_pure]
   split <;> simp [n3]
  by_cases DE:l=0
  ·subst DE
   have e:(if cap=(0:Int).toNat then(⟨b',q,none⟩:Addr)else⟨b',q+(0:Int).toNat*i.size,none⟩) = ⟨b',q,none⟩:=by simp
   rw [e]at dd
   refine cw.pure (v:= .slice (some ⟨b',q,none⟩) ((rows.take h.toNat).drop (0:Int).toNat).length cap) r (by simp [dd];omega) ?_
   refine .slice _ z _ b' q cap (by omega) (fun row hr=>hs row ?_) (fun i row j d e1 e2=> ?_) (fun i row j d u e1 e2 eu=> ?_) (tag _ _ kT)
   ·simp at hr;exact List.mem_of_mem_take hr
   ·simp [List.getElem?_take]at e1;exact g1 i row j d e1.2 e2
   ·simp [List.getElem?_take]at e1;exact g2 i row j d u e1.2 e2 eu
  ·rw [if_neg DE]
   by_cases o6:cap=l.toNat
   ·have:(rows.take h.toNat).drop l.toNat = []:=List.eq_nil_of_length_eq_zero (by omega)
    rw [this]
    rw [if_pos o6]at dd
    refine cw.pure (v:= .slice (some ⟨b',q,none⟩) ([] : List (List D)).length (cap - l.toNat)) r (by simp [dd];omega) ?_
    exact .slice _ z [] b' q _ (by simp) (by simp) (by simp) (by simp) trivial
   ·rw [if_neg o6]at dd
    refine cw.pure (v:= .slice (some ⟨b',q+l.toNat*i.size,none⟩) ((rows.take h.toNat).drop l.toNat).length (cap - l.toNat)) r (by simp [dd];omega) ?_
    have dj : ∀ (k:Nat) (row:List D),((rows.take h.toNat).drop l.toNat)[k]? = some row→rows[l.toNat+k]? = some row:=by
     intro k row e
     rw [List.getElem?_drop,List.getElem?_take]at e
     split at e
     ·exact e
     ·cases e
    have Tp : ∀ (k:Nat) (row:List D),((rows.take h.toNat).drop l.toNat)[k]? = some row→z=i.size:=by
     intro k row e
     rcases hz with rfl | hz
     ·simp at e
     ·exact hz
    refine .slice _ z _ b' _ _ (by omega) (fun row hr=>hs row (List.mem_of_mem_take (List.mem_of_mem_drop hr))) (fun k row j d e1 e2=> ?_) (fun k row j d u e1 e2 eu=> ?_) trivial
    ·obtain⟨u,hu⟩:=g1 _ row j d (dj k row e1) e2
     refine⟨u, ?_⟩
     rw [← hu, ← Tp k row e1]
     congr 1
     rw [Nat.add_mul];omega
    ·refine g2 _ row j d u (dj k row e1) e2 ?_
     rw [← eu, ← Tp k row e1]
     congr 1
     rw [Nat.add_mul];omega
theorem qE (off:Nat) : ∀ (l:List Value) (k:Nat) (cells:Array Value) (i:Nat),
 ((l.zipIdx k).foldl (fun cs p=>cs.setIfInBounds (off+p.2) p.1) cells).size=cells.size∧
 (off+k+l.length≤cells.size→((l.zipIdx k).foldl (fun cs p=>cs.setIfInBounds (off+p.2) p.1) cells)[i]? = if off+k≤i∧i<off+k+l.length then l[i - (off+k)]? else cells[i]?)
 | [],k,cells,i=>by simp;intro _ h1 h2;omega
 | v::l,k,cells,i=>by
  obtain⟨h1,h2⟩:=qE off l (k+1) (cells.setIfInBounds (off+k) v) i
  simp only [List.zipIdx_cons,List.foldl_cons]
  refine⟨by rw [h1];simp,fun gY=> ?_⟩
  simp only [List.length_cons]at gY
  rw [h2 (by simp;omega)]
  rw [Array.getElem?_setIfInBounds]
  by_cases hi:off+k=i
  ·subst hi
   rw [if_neg (by omega),if_pos rfl,if_pos (by omega),if_pos (by simp)]
   simp
  ·rw [if_neg hi]
   by_cases hr:off+(k+1)≤i∧i<off+(k+1)+l.length
   ·rw [if_pos hr,if_pos (by simp;omega)]
    rw [show i - (off+k)=(i - (off+(k+1)))+1 by omega]
    simp
   ·rw [if_neg hr,if_neg (by simp;omega)]
def oG (M:Map) (s:St) (ds:List D) (vs:Array Value):Prop:=vs.size=ds.length∧(∀ v∈vs,v.oneCell'=true)∧∀ (i:Nat) (d:D) (v:Value),ds[i]? = some d→vs[i]? = some v→RD M s d v
theorem oG.gw {ds:List D} {vs:Array Value} (h:oG M s ds vs) {d:D} {v:Value} {row:List D} (hd:RD M s d v) (hr:d.row=some row) {off:Nat} (gY:off+row.length≤ds.length) :
 oG M s (gw ds off row) (v.cells.zipIdx.foldl (fun cs (p:Value×Nat)=>cs.setIfInBounds (off+p.2) p.1) vs):=by
 obtain⟨h1,h2,h3⟩:=hd.row hr
 obtain⟨g1,g2,g3⟩:=h
 have e:v.cells.zipIdx.foldl (fun cs (p:Value×Nat)=>cs.setIfInBounds (off+p.2) p.1) vs=(v.cells.toList.zipIdx 0).foldl (fun cs p=>cs.setIfInBounds (off+p.2) p.1) vs:=by
  rw [← Array.foldl_toList];simp
 rw [e]
 have hl:v.cells.toList.length=row.length:=by simpa using h1
 have fs:=fun i=>qE off v.cells.toList 0 vs i
 have get : ∀ i,((v.cells.toList.zipIdx 0).foldl (fun cs p=>cs.setIfInBounds (off+p.2) p.1) vs)[i]? = if off≤i∧i<off+row.length then v.cells.toList[i - off]? else vs[i]? :=by
  intro i
  have:=(fs i).2 (by omega)
  rw [hl]at this
  simpa using this
 refine⟨by rw [(fs 0).1,g1,tf ds off row gY],fun u hu=> ?_,fun i d' u e1 e2=> ?_⟩
 ·obtain⟨i,hi⟩:=Array.mem_iff_getElem?.1 hu
  rw [get]at hi
  split at hi
  ·exact h2 u (Array.mem_toList_iff.1 (List.mem_of_getElem? hi))
  ·exact g2 u (Array.mem_of_getElem? hi)
 ·rw [qA ds off row gY]at e1
  rw [get]at e2
  by_cases h5:off≤i
  ·by_cases h6:i<off+row.length
   ·rw [if_pos ⟨h5,h6⟩]at e2
    rw [if_neg (by omega),if_pos h6]at e1
    exact h3 _ d' u e1 (by simpa using e2)
   ·rw [if_neg (fun h=>h6 h.2)]at e2
    rw [if_neg (by omega),if_neg h6]at e1
    exact g3 i d' u e1 e2
  ·rw [if_neg (fun h=>h5 h.1)]at e2
   rw [if_pos (by omega)]at e1
   exact g3 i d' u e1 e2
theorem Bi {place:Nat→Option (Nat×Nat)} : ∀ (vp:List (Nat×Value)) (dp:List (Nat×Nat×D)) (ds:List D) (vs:Array Value) (kZ:List D),oG M s ds vs→
 dp.length=vp.length→(∀ (j:Nat) (i:Nat) (v:Value) (off size:Nat) (d:D),vp[j]? = some (i,v)→dp[j]? = some (off,size,d)→place i=some (off,size)∧RD M s d v)→
 mV ds dp=some kZ→∃ ew,Instr.fill place vs vp=some ew∧oG M s kZ ew
 | [],[],ds,vs,kZ,h,_,_,e=>by cases e;exact⟨vs,rfl,h⟩
 | [],_::_,_,_,_,_,hl,_,_=>by simp at hl
 | _::_,[],_,_,_,_,hl,_,_=>by simp at hl
 | (i,v)::vp,(off,size,d)::dp,ds,vs,kZ,h,hl,hp,e=>by
  obtain⟨h1,h2⟩:=hp 0 i v off size d rfl rfl
  unfold mV at e
  split at e
  ·cases e
  ·rename_i row hr
   split at e
   ·rename_i hc
    obtain⟨c1,c2⟩:=hc
    have dC:=(h2.row hr).1
    obtain⟨ew,f1,f2⟩:=Bi vp dp (gw ds off row) _ kZ (h.gw h2 hr (by omega)) (by simpa using hl)
     (fun j i v off size d e1 e2=>hp (j+1) i v off size d (by simpa using e1) (by simpa using e2)) e
    refine⟨ew, ?_,f2⟩
    unfold Instr.fill
    simp only [h1]
    rw [if_neg]
    ·exact f1
    ·simp;exact⟨by omega,by have:=h.1;omega⟩
   ·cases e
end
end Go.Abs

/-! Sound5 -/

namespace Go.Abs
section
variable {P:Program} {M:Map} {s:St} {w:World}
def jP (M:Map) (s:St) (size:Nat) (rows:List (List D)) (vs:Array Value):Prop:=
 rows.length*size≤vs.size∧(∀ row∈rows,row.length=size)∧(∀ v∈vs,v.oneCell'=true)∧
 ∀ (i:Nat) (row:List D) (j:Nat) (d:D) (v:Value),rows[i]? = some row→row[j]? = some d→vs[i*size+j]? = some v→RD M s d v
theorem uh {size:Nat} {rows:List (List D)} (hs : ∀ row∈rows,row.length=size) {i:Nat} {row:List D} {j:Nat} {d:D} (h1:rows[i]? = some row) (h2:row[j]? = some d):i*size+j<rows.length*size:=by
 have hi:=(List.getElem?_eq_some_iff.1 h1).1
 have hj:=(List.getElem?_eq_some_iff.1 h2).1
 have:=hs row (List.mem_of_getElem? h1)
 have:i*size+size≤rows.length*size:=by rw [← Nat.succ_mul];exact Nat.mul_le_mul_right _ hi
 omega
theorem jP.fixed {size:Nat} {rows:List (List D)} {vs:Array Value} (h:jP M s size rows vs) {M':Map} {s':St} (le:Le M s M' s') {b:Nat}
 (hG : ∀ o,o<rows.length*size→M'.G b o=vs[o]?) :
 (∀ (i:Nat) (row:List D) (j:Nat) (d:D),rows[i]? = some row→row[j]? = some d→∃ u,M'.G b (0+(i*size+j))=some u)∧
 (∀ (i:Nat) (row:List D) (j:Nat) (d:D) (u:Value),rows[i]? = some row→row[j]? = some d→M'.G b (0+(i*size+j))=some u→RD M' s' d u):=by
 obtain⟨h1,h2,h3,h4⟩:=h
 refine⟨fun i row j d e1 e2=> ?_,fun i row j d u e1 e2 eu=> ?_⟩
 ·have hD:=uh h2 e1 e2
  rw [Nat.zero_add,hG _ hD]
  exact⟨_,Array.getElem?_eq_getElem (by omega)⟩
 ·have hD:=uh h2 e1 e2
  rw [Nat.zero_add,hG _ hD]at eu
  exact(h4 i row j d u e1 e2 eu).mono le
theorem k6 (z:List D) : ∀ n,(fN z n).length=n
 | 0=>rfl
 | n+1=>by simp [fN,k6 z n]
theorem mY (z:List D) : ∀ n,∀ row∈fN z n,row=z
 | 0,_,h=>by cases h
 | n+1,row,h=>by
  rcases List.mem_cons.1 h with rfl | h
  ·rfl
  ·exact mY z n row h
theorem jP.zero {z:List D} {zs:Array Value} (h:oG M s z zs) (hp:0<z.length) (n:Nat):jP M s z.length (fN z n) ((Array.range (n*z.length)).map (zs[· % zs.size]!)):=by
 obtain⟨h1,h2,h3⟩:=h
 have get : ∀ q,q<n*z.length→((Array.range (n*z.length)).map (zs[· % zs.size]!))[q]? = zs[q % z.length]? :=by
  intro q hq
  have:q % z.length<zs.size:=by rw [h1];exact Nat.mod_lt _ hp
  simp only [Array.getElem?_map,Array.getElem?_range,hq,if_true,Option.map_some]
  rw [h1,getElem!_pos zs (q % z.length) this,Array.getElem?_eq_getElem this]
 refine⟨by simp [k6],fun row hr=>by rw [mY z n row hr],fun v hv=> ?_,fun i row j d v e1 e2 e3=> ?_⟩
 ·obtain⟨q,hq⟩:=Array.mem_iff_getElem?.1 hv
  have hD:q<n*z.length:=by have:=(Array.getElem?_eq_some_iff.1 hq).1;simpa using this
  rw [get q hD]at hq
  exact h2 v (Array.mem_of_getElem? hq)
 ·have dj:=mY z n row (List.mem_of_getElem? e1)
  subst dj
  have hD:=uh (size:=row.length) (fun r hr=>by rw [mY row n r hr]) e1 e2
  rw [k6]at hD
  rw [get _ hD]at e3
  have hj:=(List.getElem?_eq_some_iff.1 e2).1
  rw [Nat.mul_comm,Nat.mul_add_mod,Nat.mod_eq_of_lt hj]at e3
  exact h3 j d v e2 e3
theorem jP.set {size:Nat} {rows:List (List D)} {vs:Array Value} (h:jP M s size rows vs) {d:D} {v:Value} {row:List D} (hd:RD M s d v) (hr:d.row=some row) (hl:row.length=size) {i:Nat} (hi:i<rows.length) :
 jP M s size (rows.set i row) (v.cells.zipIdx.foldl (fun cs (p:Value×Nat)=>cs.setIfInBounds (i*size+p.2) p.1) vs):=by
 obtain⟨h1,h2,h3⟩:=hd.row hr
 obtain⟨g1,g2,g3,g4⟩:=h
 have e:v.cells.zipIdx.foldl (fun cs (p:Value×Nat)=>cs.setIfInBounds (i*size+p.2) p.1) vs=(v.cells.toList.zipIdx 0).foldl (fun cs p=>cs.setIfInBounds (i*size+p.2) p.1) vs:=by
  rw [← Array.foldl_toList];simp
 rw [e]
 have k7:v.cells.toList.length=size:=by simp [h1,hl]
 have gY:i*size+size≤vs.size:=by
  have:(i+1)*size≤rows.length*size:=Nat.mul_le_mul_right _ hi
  rw [Nat.succ_mul]at this;omega
 have fs:=fun q=>qE (i*size) v.cells.toList 0 vs q
 have get : ∀ q,((v.cells.toList.zipIdx 0).foldl (fun cs p=>cs.setIfInBounds (i*size+p.2) p.1) vs)[q]? = if i*size≤q∧q<i*size+size then v.cells.toList[q - i*size]? else vs[q]? :=by
  intro q
  have:=(fs q).2 (by omega)
  rw [k7]at this
  simpa using this
 refine⟨by rw [(fs 0).1];simpa using g1,fun r GY=> ?_,fun u hu=> ?_,fun i' kU j d' u e1 e2 e3=> ?_⟩
 ·rcases List.mem_or_eq_of_mem_set GY with h | rfl
  ·exact g2 r h
  ·exact hl
 ·obtain⟨q,hq⟩:=Array.mem_iff_getElem?.1 hu
  rw [get]at hq
  split at hq
  ·exact h2 u (Array.mem_toList_iff.1 (List.mem_of_getElem? hq))
  ·exact g3 u (Array.mem_of_getElem? hq)
 ·rw [List.getElem?_set]at e1
  rw [get]at e3
  split at e1
  ·rename_i heq;subst heq
   simp at e1
   obtain⟨_,rfl⟩:=e1
   have hj:=(List.getElem?_eq_some_iff.1 e2).1
   rw [if_pos (by omega)]at e3
   rw [show i*size+j - i*size=j by omega]at e3
   exact h3 j d' u e2 (by simpa using e3)
  ·rename_i dP
   have hj:=(List.getElem?_eq_some_iff.1 e2).1
   have GZ:=g2 kU (List.mem_of_getElem? e1)
   rw [if_neg]at e3
   ·exact g4 i' kU j d' u e1 e2 e3
   ·rintro⟨a,b⟩
    rcases Nat.lt_or_gt_of_ne dP with h | h
    ·have:(i+1)*size≤i'*size:=Nat.mul_le_mul_right _ h
     rw [Nat.succ_mul]at this;omega
    ·have:(i'+1)*size≤i*size:=Nat.mul_le_mul_right _ h
     rw [Nat.succ_mul]at this;omega
theorem ui {size:Nat} : ∀ (vp:List (Nat×Value)) (dp:List (Nat×D)) (rows:List (List D)) (vs:Array Value) (oo:List (List D)),jP M s size rows vs→
 dp.length=vp.length→(∀ (j:Nat) (i:Nat) (v:Value) (i':Nat) (d:D),vp[j]? = some (i,v)→dp[j]? = some (i',d)→i'=i∧RD M s d v)→
 gB size rows dp=some oo→∃ ew,Instr.fill (fun i=>some (i*size,size)) vs vp=some ew∧jP M s size oo ew∧oo.length=rows.length∧ew.size=vs.size
 | [],[],rows,vs,oo,h,_,_,e=>by cases e;exact⟨vs,rfl,h,rfl,rfl⟩
 | [],_::_,_,_,_,_,hl,_,_=>by simp at hl
 | _::_,[],_,_,_,_,hl,_,_=>by simp at hl
 | (i,v)::vp,(i',d)::dp,rows,vs,oo,h,hl,hp,e=>by
  obtain⟨h1,h2⟩:=hp 0 i v i' d rfl rfl
  subst h1
  unfold gB at e
  split at e
  ·cases e
  ·rename_i row hr
   split at e
   ·rename_i hc
    obtain⟨c1,c2⟩:=hc
    have dC:=(h2.row hr).1
    have RS:=h.set h2 hr c1 c2
    obtain⟨ew,f1,f2,f3,f4⟩:=ui vp dp (rows.set i' row) _ oo RS (by simpa using hl)
     (fun j i v i' d e1 e2=>hp (j+1) i v i' d (by simpa using e1) (by simpa using e2)) e
    have gY:i'*size+size≤vs.size:=by
     have:(i'+1)*size≤rows.length*size:=Nat.mul_le_mul_right _ c2
     have:=h.1
     rw [Nat.succ_mul]at *;omega
    refine⟨ew, ?_,f2,by rw [f3];simp, ?_⟩
    ·unfold Instr.fill
     simp only
     rw [if_neg]
     ·exact f1
     ·simp;exact⟨by omega,by omega⟩
    ·rw [f4]
     have:=(qE (i'*size) v.cells.toList 0 vs 0).1
     rw [← this, ← Array.foldl_toList];simp
   ·cases e
theorem Em (r:Rel M s w) {size:Nat} {rows:List (List D)} {vs:Array Value} (T:TypeId) (h:jP M s size rows vs) :
 RD (M.dZ w.heap.size vs.size vs) s (.slice .full size rows) (.slice (some ⟨w.heap.size,0,none⟩) rows.length rows.length)∧
 Rel (M.dZ w.heap.size vs.size vs) s (w.alloc (.cells vs T))∧Ext M s w (M.dZ w.heap.size vs.size vs) s (w.alloc (.cells vs T)):=by
 obtain⟨r',e'⟩:=r.dZ vs.size vs T (0,0) h.2.2.1
 obtain⟨g1,g2⟩:=h.fixed e'.le (b:=w.heap.size) (fun o ho=>by
  have:o<vs.size:=Nat.lt_of_lt_of_le ho h.1
  simp [Map.dZ,this])
 exact⟨.slice .full size rows w.heap.size 0 rows.length (Nat.le_refl _) h.2.1 g1 g2 rfl,r',e'⟩
theorem mw {t u ty e:TypeId} {i:TypeInfo} (ht:P.underlying t=some (.slice e)) (hi:P.info? e=some i) {base:Option Addr} {len cap:Nat} {y:Value} (hs:Src P i.size u y 0 [] w) (hc:len≤cap) :
 (Builtin.append_ #[t,u] ty #[.slice base len cap,y]).run P w = .ok (.slice base len cap) w:=by
 have jq:=hs.cells
 rcases hs.kind with ⟨e',hk⟩ | hk <;> cases base <;> simp [Builtin.append_,run_underlying ht,run_underlying hk,sizeOf,typeInfo,hi,hs.len,hc,jq,storeCells]
theorem zm (r:Rel M s w) {u e':TypeId} (hu:P.underlying u=some (.slice e')) {g:Tag} {size:Nat} {rows:List (List D)} {y:Value} (hy:RD M s (.slice g size rows) y) :
 ∃ news:List Value,Src P size u y rows.length news w∧
  (∀ (i:Nat) (row:List D) (j:Nat) (d:D) (v:Value),rows[i]? = some row→row[j]? = some d→news[i*size+j]? = some v→RD M s d v)∧
  ∀ (b q n c:Nat),y = .slice (some ⟨b,q,none⟩) n c→∀ o,o<rows.length*size→M.G b (q+o)=news[o]? :=by
 rcases hy.fR with ⟨rfl,rfl,_⟩ | ⟨rfl,_,a,cap,rfl⟩ | ⟨b,q,cap,rfl,hl,hs,g1,g2,_⟩
 ·exact⟨[],Src.ofNil w hu 0,by simp,by simp⟩
 ·exact⟨[],Src.ofSlice w hu a 0 cap [] (by simp) (by simp) (by simp),by simp,by simp⟩
 ·obtain⟨us,hlen,vM⟩:=sH (M:=M) (b:=b) (rows.length*size) q (fun k hk=>by
   have hz:0<size:=by
    rcases Nat.eq_zero_or_pos size with h | h
    ·subst h;simp at hk
    ·exact h
   have hi:k / size<rows.length:=by rw [Nat.div_lt_iff_lt_mul hz];exact hk
   obtain⟨row,dj⟩ : ∃ row,rows[k / size]? = some row:=⟨_,List.getElem?_eq_getElem hi⟩
   have GZ:=hs row (List.mem_of_getElem? dj)
   have hj:k % size<row.length:=by rw [GZ];exact Nat.mod_lt _ hz
   obtain⟨u,hu⟩:=g1 _ row _ _ dj (List.getElem?_eq_getElem hj)
   refine⟨u, ?_⟩
   rw [← hu,Nat.mul_comm (k / size) size,Nat.div_add_mod])
  refine⟨us,Src.ofSlice w hu ⟨b,q,none⟩ rows.length cap us hlen (fun j u h=>by rw [n3];exact(r.comm _ _ _ (vM j u h)).1) (fun u hu=> ?_),fun i row j d v e1 e2 e3=>g2 i row j d v e1 e2 (vM _ v e3),
   fun b' q' n c heq o ho=>by
    cases heq
    rw [vM o _ (List.getElem?_eq_getElem (by omega)),List.getElem?_eq_getElem (by omega)]⟩
  obtain⟨j,hj⟩:=List.mem_iff_getElem?.1 hu
  exact(r.comm _ _ _ (vM j u hj)).2
theorem xc {size:Nat} {rows new:List (List D)} {lX news:List Value} (zn : ∀ row∈rows,row.length=size) (DF : ∀ row∈new,row.length=size)
 (l1:lX.length=rows.length*size) (l2:news.length=new.length*size) (o1 : ∀ u∈lX,u.oneCell'=true) (o2 : ∀ u∈news,u.oneCell'=true)
 (h1 : ∀ (i:Nat) (row:List D) (j:Nat) (d:D) (v:Value),rows[i]? = some row→row[j]? = some d→lX[i*size+j]? = some v→RD M s d v)
 (h2 : ∀ (i:Nat) (row:List D) (j:Nat) (d:D) (v:Value),new[i]? = some row→row[j]? = some d→news[i*size+j]? = some v→RD M s d v)
 (z:Array Value) (hz : ∀ v∈z,v.oneCell'=true):jP M s size (rows++new) ((lX++news).toArray++z):=by
 have hs : ∀ row∈rows++new,row.length=size:=fun row h=>(List.mem_append.1 h).elim (zn row) (DF row)
 refine⟨by simp [l1,l2,Nat.add_mul],hs,fun v hv=> ?_,fun i row j d v e1 e2 e3=> ?_⟩
 ·simp at hv
  rcases hv with (h | h) | h
  ·exact o1 v h
  ·exact o2 v h
  ·exact hz v h
 ·have hD:=uh hs e1 e2
  rw [List.length_append,Nat.add_mul]at hD
  rw [Array.getElem?_append_left (by simp [l1,l2];omega),List.getElem?_toArray]at e3
  by_cases hi:i<rows.length
  ·rw [List.getElem?_append_left hi]at e1
   have:=uh zn e1 e2
   rw [List.getElem?_append_left (by omega)]at e3
   exact h1 i row j d v e1 e2 e3
  ·rw [List.getElem?_append_right (by omega)]at e1
   have DG:rows.length*size≤i*size:=Nat.mul_le_mul_right _ (by omega)
   rw [List.getElem?_append_right (by omega),l1]at e3
   refine h2 (i - rows.length) row j d v e1 e2 ?_
   rw [← e3]
   congr 1
   rw [Nat.sub_mul];omega
theorem Au {z:Array Value} (h : ∀ v∈z,v.oneCell'=true) (n:Nat) : ∀ v∈Builtin.zeroCells z n,v.oneCell'=true:=by
 intro v hv
 unfold Builtin.zeroCells at hv
 obtain⟨q,hq,rfl⟩:=Array.mem_map.1 hv
 have hD:q<n*z.size:=by simpa using hq
 have hz:0<z.size:=by
  rcases Nat.eq_zero_or_pos z.size with h | h
  ·rw [h]at hD;simp at hD
  ·exact h
 have:=Nat.mod_lt q hz
 rw [getElem!_pos z (q % z.size) this]
 exact h _ (Array.getElem_mem this)
def yv (eb:Bool) (size bytes:Nat) (x y:D) (s:St):Option (D×St):=
 match x,y with
 | .slice g z rows, .slice _ z' new=>
  if(rows = []∨z=size)∧(new = []∨z'=size)∧(rows.length+new.length)*(bytes+1)≤bt then
   match new with
   | []=>some (.slice g z rows,s)
   | _::_=>
    match g with
    | .full=>some (.slice (.tok s.aw.length eb) size (rows++new),{s with aw:=s.aw++ [some (rows.length+new.length)]})
    | .shared=>none
    | .tok t y=>if(y=true→eb=true)∧z=size∧s.aw[t]? = some (some rows.length)then some (.slice (.tok t y) size (rows++new),{s with aw:=s.aw.set t (some (rows.length+new.length))})else none
  else none
 | _,_=>none
theorem OM {size bytes:Nat} {x y d:D} {s s':St} (h:jC size bytes x y s=some (d,s')):yv false size bytes x y s=some (d,s'):=by
 unfold jC at h
 unfold yv
 split at h
 ·split at h
  ·rename_i hc
   simp only [hc,and_self,if_true]
   split at h
   ·exact h
   ·split at h
    ·exact h
    ·exact h
    ·cases h
    ·split at h
     ·rename_i hq
      simp only [hq,and_self,Bool.false_eq_true,false_imp_iff,if_true]
      exact h
     ·cases h
  ·cases h
 ·cases h
theorem G0 {x y d:D} {s s':St} (h:ub x y s=some (d,s')):yv true 1 1 x y s=some (d,s'):=by
 unfold ub at h
 unfold yv
 split at h
 ·split at h
  ·rename_i hc
   simp only [hc,and_self,if_true]
   split at h
   ·exact h
   ·split at h
    ·exact h
    ·exact h
    ·split at h
     ·rename_i hq
      simp only [hq,and_self,imp_true_iff,if_true]
      exact h
     ·cases h
  ·cases h
 ·cases h
theorem LY {b:Bool} {n:Nat} (h:b=true→n=1) (hn:0<n):zs (bz b n)=n:=by
 cases b
 ·show(if n=0 then 1 else n)=n
  rw [if_neg (by omega)]
 ·simp [zs,bz,h rfl]
theorem wk (eb:Bool) (r:Rel M s w) {t u ty e:TypeId} {i:TypeInfo} {z:Value} (ht:P.underlying t=some (.slice e)) (hi:P.info? e=some i) (hz:i.zero=some z)
 (vP:z.cells.size=i.size) (Bk : ∀ v∈z.cells,v.oneCell'=true) {dx dy d:D} {x y:Value} {s':St} (hx:RD M s dx x) (LZ:eb=true→e=lL∧i.size=1) (uj:0<i.size) (he:yv eb i.size i.bytes dx dy s=some (d,s'))
 (src : ∀ (g:Tag) (size:Nat) (rows:List (List D)),dy = .slice g size rows→(rows = []→Src P i.size u y 0 [] w)∧(rows≠ []→size=i.size→(∀ row∈rows,row.length=i.size)∧∃ news:List Value,Src P i.size u y rows.length news w∧
  (∀ (k:Nat) (row:List D) (j:Nat) (d:D) (v:Value),rows[k]? = some row→row[j]? = some d→news[k*i.size+j]? = some v→RD M s d v))) :
 ∃ v w' M',(Builtin.append_ #[t,u] ty #[x,y]).run P w = .ok v w'∧Rel M' s' w'∧RD M' s' d v∧Ext M s w M' s' w':=by
 unfold yv at he
 split at he
 case h_2=>cases he
 rename_i g zx rows g' zy new
 split at he
 case isFalse=>cases he
 rename_i hc
 obtain⟨oI,OO,L0⟩:=hc
 cases new with
 | nil=>
  simp only at he
  cases he
  have OP:Src P i.size u y 0 [] w:=(src _ _ _ rfl).1 rfl
  rcases hx.fR with ⟨_,hv,_⟩ | ⟨_,_,a,cap,hv⟩ | ⟨b,q,cap,hv,hl,_⟩
  ·refine⟨x,w,M, ?_,r,hx,Ext.refl M s w⟩
   rw [hv]
   exact mw ht hi OP (Nat.le_refl _)
  ·refine⟨x,w,M, ?_,r,hx,Ext.refl M s w⟩
   rw [hv]
   exact mw ht hi OP (Nat.zero_le _)
  ·refine⟨x,w,M, ?_,r,hx,Ext.refl M s w⟩
   rw [hv]
   exact mw ht hi OP hl
 | cons n0 new=>
  have dP:(n0::new)≠ []:=by simp
  generalize de:n0::new=fG at *
  have WR:zy=i.size:=OO.resolve_left dP
  subst WR
  obtain⟨L1,news,hs,L2⟩:=(src _ _ _ rfl).2 dP rfl
  have hm:0<fG.length:=List.length_pos_iff.2 dP
  have xe:(rows.length+fG.length)*i.bytes≤140737488355328:=by rw [Nat.mul_succ]at L0;simp only [bt]at L0;omega
  have WS:rows.length+fG.length≤1099511627776:=by rw [Nat.mul_succ]at L0;simp only [bt]at L0;omega
  -- what the first argument reads as
  obtain⟨base,cap,lX,WT,hle,lV,WU,L3,OQ,Tq,WV,kT⟩ : ∃ (base:Option Addr) (cap:Nat) (lX:List Value),x = .slice base rows.length cap∧rows.length≤cap∧lX.length=rows.length*i.size∧
   (Builtin.firstCells i.size rows.length (.slice base rows.length cap)).run P w.drew = .ok lX.toArray w.drew∧(∀ u∈lX,u.oneCell'=true)∧
   (∀ (k:Nat) (row:List D) (j:Nat) (d:D) (v:Value),rows[k]? = some row→row[j]? = some d→lX[k*i.size+j]? = some v→RD M s d v)∧(∀ row∈rows,row.length=i.size)∧
   (∀ b q,base=some ⟨b,q,none⟩→∀ o,o<rows.length*i.size→M.G b (q+o)=lX[o]?)∧
   ((base=none∧rows = []∧fI M s g zx 0 none cap)∨∃ b q,base=some ⟨b,q,none⟩∧fI M s g zx rows.length (some (b,q)) cap):=by
   rcases oI with h0 | h0
   ·subst h0
    rcases hx.fR with ⟨_,hv,kT⟩ | ⟨_,rfl,_⟩ | ⟨b,q,cap,hv,hl,_,_,_,kT⟩
    ·exact⟨none,0,[],hv,Nat.le_refl _,by simp,by simp [Builtin.firstCells],by simp,by simp,by simp,by simp, .inl ⟨rfl,rfl,kT⟩⟩
    ·exfalso;simp only [← de]at he;cases he
    ·exact⟨some ⟨b,q,none⟩,cap,[],hv,hl,by simp,by simp [Builtin.firstCells,loadCells,loadCellsFrom],by simp,by simp,by simp,by simp, .inr ⟨b,q,rfl,kT⟩⟩
   ·subst h0
    obtain⟨lX,DH,Tr,WW⟩:=zm r ht hx
    rcases hx.fR with ⟨h0,hv,kT⟩ | ⟨_,rfl,_⟩ | ⟨b,q,cap,hv,hl,lp,_,_,kT⟩
    ·subst h0
     refine⟨none,0,lX,hv,Nat.le_refl _,DH.newsLen, ?_,DH.one,Tr,by simp,by simp, .inl ⟨rfl,rfl,kT⟩⟩
     have:=DH.cellsD;rw [hv]at this;exact this
    ·exfalso;simp only [← de]at he;cases he
    ·refine⟨some ⟨b,q,none⟩,cap,lX,hv,hl,DH.newsLen, ?_,DH.one,Tr,lp,fun b' q' heq o ho=> ?_, .inr ⟨b,q,rfl,kT⟩⟩
     ·have:=DH.cellsD;rw [hv]at this;exact this
     ·cases heq;exact WW b q _ cap hv o ho
  subst WT
  -- the way that makes a new row
  have grow : ∀ (hg:cap<rows.length+fG.length),∃ (w':World) (M1:Map) (vs:Array Value) (lq:Nat),
   (Builtin.append_ #[t,u] ty #[.slice base rows.length cap,y]).run P w = .ok (.slice (some ⟨w.heap.size,0,none⟩) (rows.length+fG.length) lq) w'∧
   w'.heap[w.heap.size]? = some (.cells vs e (0,0))∧vs.size=lq*i.size∧rows.length+fG.length≤lq∧M1=M.dZ w.heap.size ((rows.length+fG.length)*i.size) vs∧
   jP M s i.size (rows++fG) vs∧Rel M1 s w'∧Ext M s w M1 s w':=by
   intro hg
   have DG:=grownCap_ge w (rows.length+fG.length) cap e
   have dd:=run_append_grow_src (P:=P) w t u ty e i z ht hi hz base rows.length cap lX WU y fG.length news hs hg (by omega) (growslice_fits hg xe)
   have dj:=xc (M:=M) (s:=s) Tq L1 lV hs.newsLen L3 hs.one OQ L2 (Builtin.zeroCells z.cells (grownCap w (rows.length+fG.length) cap e - (rows.length+fG.length))) (Au Bk _)
   obtain⟨r1,e1⟩:=(r.of_heap (w':=w.drew) rfl).dZ ((rows.length+fG.length)*i.size) _ e (0,0) dj.2.2.1
   refine⟨_,_,_,_,dd,heap_alloc_new w.drew _, ?_,DG,rfl,dj,r1,(Ext.of_heap (M:=M) (s:=s) (w:=w) (w':=w.drew) rfl rfl rfl rfl).trans e1⟩
   simp only [Array.size_append,List.size_toArray,List.length_append,size_zeroCells,vP,lV,hs.newsLen, ← Nat.add_mul]
   congr 1;omega
  have hlen:(rows++fG).length=rows.length+fG.length:=by simp
  cases g with
  | shared=>simp only [← de]at he;cases he
  | full=>
   have o6:cap=rows.length:=by
    rcases kT with ⟨_,h0,h1⟩ | ⟨_,_,_,h1⟩
    ·subst h0;exact h1
    ·exact h1
   obtain⟨w',M1,vs,lq,dd,hh,dC,hn,xf,dj,r1,e1⟩:=grow (by omega)
   simp only [← de]at he
   simp only [de]at he
   cases he
   have Bl:zs (bz eb i.size)=i.size:=LY (fun h=>(LZ h).2) uj
   have L4:bz eb i.size=0→e=lL:=fun h0=>by
    cases eb with
    | true=>exact(LZ rfl).1
    | false=>simp [bz]at h0;omega
   obtain⟨r2,l2⟩:=r1.LV (rows.length+fG.length) w.heap.size lq (bz eb i.size) vs e hh (by rw [Bl];exact dC) hn L4
    (fun off ho=>by rw [Bl]at ho;rw [xf];simp [Map.dZ];omega)
    (fun o ho=>by have:=r.mX ho;rw [xf];show M.mu o≠_;omega) (fun q c z' hl heq=>by
     have:M.be q=some (w.heap.size,c,z'):=by rw [xf]at heq;exact heq
     have:=r.pJ hl this;omega)
   refine⟨_,w',_,dd,r2, ?_, ?_⟩
   ·obtain⟨f1,f2⟩:=dj.fixed (e1.le.trans l2) (b:=w.heap.size) (fun o ho=>by
     rw [xf,hlen]at *
     simp [Map.dq,Map.dZ,ho])
    have key:=RD.slice (M:=M1.dq s.aw.length (some (w.heap.size,lq,bz eb i.size))) (s:= {s with aw:=s.aw++ [some (rows.length+fG.length)]}) (.tok s.aw.length eb) i.size (rows++fG) w.heap.size 0 lq (by rw [hlen];exact hn) dj.2.1 f1 f2
     ⟨by simp,fun n rZ=>by
      simp at rZ
      subst rZ
      exact⟨by rw [hlen];exact Nat.le_refl _,fun _=> .inr ⟨_,rfl,by simp [Map.dq]⟩⟩⟩
    rw [hlen]at key
    exact key
   ·refine⟨e1.le.trans l2,e1.kept,e1.mT,fun q b c z' hl heq=> ?_,e1.o4,e1.size,e1.os,e1.tape,e1.output⟩
    obtain⟨k,hk⟩:=hl
    rcases Nat.lt_or_ge q s.aw.length with h | h
    ·have Bm:M1.be q=some (b,c,z'):=by
      have:(M1.dq s.aw.length (some (w.heap.size,lq,bz eb i.size))).be q=M1.be q:=by simp [Map.dq];omega
      rw [this]at heq;exact heq
     simp only [List.getElem?_append_left h]at hk
     exact e1.mU q b c z' ⟨k,hk⟩ Bm
    ·have:=(List.getElem?_eq_some_iff.1 hk).1
     simp at this
     have:q=s.aw.length:=by omega
     subst this
     have:(M1.dq s.aw.length (some (w.heap.size,lq,bz eb i.size))).be s.aw.length=some (w.heap.size,lq,bz eb i.size):=by simp [Map.dq]
     rw [this]at heq;cases heq
     exact .inr (Nat.le_refl _)
  | tok q yb=>
   simp only [← de]at he
   simp only [de]at he
   split at he
   case isFalse=>cases he
   rename_i hq
   obtain⟨L4,WX,hq⟩:=hq
   cases he
   have Bl:zs (bz yb i.size)=i.size:=LY (fun h=>(LZ (L4 h)).2) uj
   have Uj:bz yb i.size=0→e=lL:=fun h0=>by
    cases yb with
    | true=>exact(LZ (L4 rfl)).1
    | false=>simp [bz]at h0;omega
   have En : ∀ (hg:cap<rows.length+fG.length),∃ v w' M',(Builtin.append_ #[t,u] ty #[.slice base rows.length cap,y]).run P w = .ok v w'∧Rel M' {s with aw:=s.aw.set q (some (rows.length+fG.length))} w'∧
    RD M' {s with aw:=s.aw.set q (some (rows.length+fG.length))} (.slice (.tok q yb) i.size (rows++fG)) v∧Ext M s w M' {s with aw:=s.aw.set q (some (rows.length+fG.length))} w':=by
    intro hg
    obtain⟨w',M1,vs,lq,dd,hh,dC,hn,xf,dj,r1,e1⟩:=grow hg
    have G2:q<s.aw.length:=(List.getElem?_eq_some_iff.1 hq).1
    obtain⟨r2,l2⟩:=r1.RO q rows.length (rows.length+fG.length) w.heap.size lq (bz yb i.size) vs e hq (by omega) hh (by rw [Bl];exact dC) hn Uj
     (fun off ho=>by rw [Bl]at ho;rw [xf];simp [Map.dZ];omega)
     (fun o ho=>by have:=r.mX ho;rw [xf];show M.mu o≠_;omega) (fun q c z' hl heq=>by
      have:M.be q=some (w.heap.size,c,z'):=by rw [xf]at heq;exact heq
      have:=r.pJ hl this;omega)
    refine⟨_,w',_,dd,r2, ?_, ?_⟩
    ·obtain⟨f1,f2⟩:=dj.fixed (e1.le.trans l2) (b:=w.heap.size) (fun o ho=>by
      rw [xf,hlen]at *
      simp [Map.dq,Map.dZ,ho])
     have key:=RD.slice (M:=M1.dq q (some (w.heap.size,lq,bz yb i.size))) (s:= {s with aw:=s.aw.set q (some (rows.length+fG.length))}) (.tok q yb) i.size (rows++fG) w.heap.size 0 lq (by rw [hlen];exact hn) dj.2.1 f1 f2
      ⟨by simp [G2],fun n rZ=>by
       simp [G2]at rZ
       subst rZ
       exact⟨by rw [hlen];exact Nat.le_refl _,fun _=> .inr ⟨_,rfl,by simp [Map.dq]⟩⟩⟩
     rw [hlen]at key
     exact key
    ·refine⟨e1.le.trans l2,e1.kept,e1.mT,fun q' b c z' hl heq=> ?_,e1.o4,e1.size,e1.os,e1.tape,e1.output⟩
     obtain⟨k,hk⟩:=hl
     by_cases h:q'=q
     ·subst h
      have:(M1.dq q' (some (w.heap.size,lq,bz yb i.size))).be q'=some (w.heap.size,lq,bz yb i.size):=by simp [Map.dq]
      rw [this]at heq;cases heq
      exact .inr (Nat.le_refl _)
     ·have Bm:M1.be q'=some (b,c,z'):=by
       have:(M1.dq q (some (w.heap.size,lq,bz yb i.size))).be q'=M1.be q':=by simp [Map.dq,h]
       rw [this]at heq;exact heq
      simp only [List.getElem?_set_ne (Ne.symm h)]at hk
      exact e1.mU q' b c z' ⟨k,hk⟩ Bm
   rcases kT with ⟨rfl,rfl,h1⟩ | ⟨b,k,rfl,h1⟩
   ·obtain⟨_,h2⟩:=h1
    obtain⟨_,h3⟩:=h2 _ hq
    rcases h3 rfl with ⟨_,h4⟩ | ⟨b,h4,_⟩
    ·exact En (by simp;omega)
    ·cases h4
   ·obtain⟨_,h2⟩:=h1
    obtain⟨_,h3⟩:=h2 _ hq
    rcases h3 rfl with ⟨_,h4⟩ | ⟨b2,h4,ic⟩
    ·exact En (by omega)
    cases h4
    subst WX
    by_cases gU:rows.length+fG.length≤cap
    ·rcases r.tok q rows.length hq with ⟨h4,_⟩ | ⟨b',Bf,sE,vs,T,h4,h5,h6,h7,h8⟩
     ·rw [ic]at h4;cases h4
     ·rw [ic]at h4;cases h4
      rw [Bl]at h6
      obtain⟨r2,e2⟩:=r.RP q rows.length fG.length b cap (bz yb i.size) i.size news Bl hq ic hs.newsLen gU hm hs.one vs T h5 h6 h8.2
      have gY:rows.length*i.size+news.length≤vs.size:=by rw [hs.newsLen,h6, ← Nat.add_mul];exact Nat.mul_le_mul_right _ gU
      have vL:=run_storeCells_at P b (rows.length*i.size) T news 0 vs w h5 (by simpa using gY) hs.one
      simp only [Nat.add_zero]at vL
      have dd:(Builtin.append_ #[t,u] ty #[.slice (some ⟨b,0,none⟩) rows.length cap,y]).run P w = .ok (.slice (some ⟨b,0,none⟩) (rows.length+fG.length) cap) (w.setRow b (vs.toList.take (rows.length*i.size)++news++vs.toList.drop (rows.length*i.size+news.length)).toArray):=by
       rcases hs.kind with ⟨GD,hk⟩ | hk <;> simp [Builtin.append_,run_underlying ht,run_underlying hk,sizeOf,typeInfo,hi,hs.len,gU,hs.cells,Addr.add_lit,vL]
      refine⟨_,_,_,dd,r2, ?_,e2⟩
      have hG : ∀ o,o<(rows++fG).length*i.size→(M.fix b (rows.length*i.size) news).G b o=(lX++news).toArray[o]? :=by
       intro o ho
       rw [hlen,Nat.add_mul]at ho
       rw [List.getElem?_toArray]
       by_cases h9:o<rows.length*i.size
       ·rw [List.getElem?_append_left (by omega)]
        have:(M.fix b (rows.length*i.size) news).G b o=M.G b o:=by simp [Map.fix];omega
        rw [this]
        have:=WV b 0 rfl o h9
        rwa [Nat.zero_add]at this
       ·rw [List.getElem?_append_right (by omega),lV]
        have:(M.fix b (rows.length*i.size) news).G b o=news[o - rows.length*i.size]? :=by
         simp only [Map.fix];rw [if_pos ⟨trivial,by omega,by rw [hs.newsLen];omega⟩]
        rw [this]
      have dj:=xc (M:=M) (s:=s) Tq L1 lV hs.newsLen L3 hs.one OQ L2 #[] (by simp)
      rw [Array.append_empty]at dj
      obtain⟨f1,f2⟩:=dj.fixed e2.le (b:=b) hG
      have G2:q<s.aw.length:=(List.getElem?_eq_some_iff.1 hq).1
      have key:=RD.slice (M:=M.fix b (rows.length*i.size) news) (s:= {s with aw:=s.aw.set q (some (rows.length+fG.length))}) (.tok q yb) i.size (rows++fG) b 0 cap (by rw [hlen];exact gU) dj.2.1 f1 f2
       ⟨by simp [G2],fun n rZ=>by
        simp [G2]at rZ
        subst rZ
        exact⟨by rw [hlen];exact Nat.le_refl _,fun _=> .inr ⟨_,rfl,ic⟩⟩⟩
      rw [hlen]at key
      exact key
    ·exact En (by omega)
theorem DI (r:Rel M s w) {u e':TypeId} {i:TypeInfo} (hu:P.underlying u=some (.slice e')) {y:Value} {dy:D} (hy:RD M s dy y) (g:Tag) (size:Nat) (rows:List (List D)) (OR:dy = .slice g size rows) :
 (rows = []→Src P i.size u y 0 [] w)∧(rows≠ []→size=i.size→(∀ row∈rows,row.length=i.size)∧∃ news:List Value,Src P i.size u y rows.length news w∧
  (∀ (k:Nat) (row:List D) (j:Nat) (d:D) (v:Value),rows[k]? = some row→row[j]? = some d→news[k*i.size+j]? = some v→RD M s d v)):=by
 subst OR
 refine⟨fun h0=> ?_,fun dP dC=> ?_⟩
 ·subst h0
  rcases hy.fR with ⟨_,rfl,_⟩ | ⟨_,_,a,cap,rfl⟩ | ⟨b,q,cap,rfl,_⟩
  ·exact Src.ofNil w hu 0
  ·exact Src.ofSlice w hu a 0 cap [] (by simp) (by simp) (by simp)
  ·exact Src.ofSlice w hu ⟨b,q,none⟩ 0 cap [] (by simp) (by simp) (by simp)
 ·subst dC
  obtain⟨news,h1,h2,_⟩:=zm r hu hy
  refine⟨?_,news,h1,h2⟩
  rcases hy.fR with ⟨h0,_⟩ | ⟨h0,_⟩ | ⟨_,_,_,_,_,h,_⟩
  ·exact(dP h0).elim
  ·exact(dP h0).elim
  ·exact h
theorem G3 (r:Rel M s w) {t u ty e e':TypeId} {i:TypeInfo} {z:Value} (ht:P.underlying t=some (.slice e)) (hu:P.underlying u=some (.slice e')) (hi:P.info? e=some i) (hz:i.zero=some z)
 (vP:z.cells.size=i.size) (Bk : ∀ v∈z.cells,v.oneCell'=true) {dx dy d:D} {x y:Value} {s':St} (hx:RD M s dx x) (hy:RD M s dy y) (uj:0<i.size) (he:jC i.size i.bytes dx dy s=some (d,s')) :
 ∃ v w' M',(Builtin.append_ #[t,u] ty #[x,y]).run P w = .ok v w'∧Rel M' s' w'∧RD M' s' d v∧Ext M s w M' s' w':=
 wk false r ht hi hz vP Bk hx (fun h=>by cases h) uj (OM he) (DI r hu hy)
theorem Eo (r:Rel M s w) {t u ty e':TypeId} {i:TypeInfo} {z:Value} (ht:P.underlying t=some (.slice lL)) (hu:P.underlying u=some (.slice e')) (hi:P.info? lL=some i) (hz:i.zero=some z) (h1:i.size=1) (h2:i.bytes=1)
 (vP:z.cells.size=i.size) (Bk : ∀ v∈z.cells,v.oneCell'=true) {dx dy d:D} {x y:Value} {s':St} (hx:RD M s dx x) (hy:RD M s dy y) (he:ub dx dy s=some (d,s')) :
 ∃ v w' M',(Builtin.append_ #[t,u] ty #[x,y]).run P w = .ok v w'∧Rel M' s' w'∧RD M' s' d v∧Ext M s w M' s' w':=
 wk true r ht hi hz vP Bk hx (fun _=>⟨rfl,h1⟩) (by omega) (by rw [h1,h2];exact G0 he) (DI r hu hy)
theorem Ep (r:Rel M s w) {t u ty:TypeId} {i:TypeInfo} {z:Value} (ht:P.underlying t=some (.slice lL)) (hu:P.underlying u=some .string) (hi:P.info? lL=some i) (hz:i.zero=some z) (h1:i.size=1) (h2:i.bytes=1)
 (vP:z.cells.size=i.size) (Bk : ∀ v∈z.cells,v.oneCell'=true) {dx d:D} {x:Value} {l:List UInt8} {s':St} (hx:RD M s dx x) (he:ub dx (.slice .shared 1 (l.map fun c=> [.int .u8 c.toNat])) s=some (d,s')) :
 ∃ v w' M',(Builtin.append_ #[t,u] ty #[x, .string ⟨⟨l⟩⟩]).run P w = .ok v w'∧Rel M' s' w'∧RD M' s' d v∧Ext M s w M' s' w':=by
 have hs:Src P i.size u (.string ⟨⟨l⟩⟩) l.length (l.map fun c=> .int .u8 c.toNat) w:=by
  rw [h1]
  exact Src.ofString w hu ⟨⟨l⟩⟩
 refine wk true r ht hi hz vP Bk hx (fun _=>⟨rfl,h1⟩) (by omega) (by rw [h1,h2];exact G0 he) fun g size rows OR=> ?_
 cases OR
 refine⟨fun h0=> ?_,fun dP dC=> ?_⟩
 ·have:l = []:=by simpa using h0
  subst this
  exact hs
 ·refine⟨fun row hr=> ?_,_,by simpa using hs,fun k row j d v e1 e2 e3=> ?_⟩
  ·obtain⟨c,_,rfl⟩:=List.mem_map.1 hr
   rw [h1];rfl
  ·rw [List.getElem?_map,Option.map_eq_some_iff]at e1
   obtain⟨c,e1,rfl⟩:=e1
   cases j with
   | zero=>
    simp at e2
    subst e2
    simp [h1,e1]at e3
    subst e3
    exact .int _ _
   | succ j=>simp at e2
end
end Go.Abs

/-! Sound6 -/

namespace Go.Abs
section
variable {P:Program} {M:Map} {s:St} {w:World}
theorem map_some {α β:Type} {f:α→β} {x:Option α} {y:β} (h:x.map f=some y) : ∃ a,x=some a∧y=f a:=by
 cases x with
 | none=>cases h
 | some a=>cases h;exact⟨a,rfl,rfl⟩
theorem ri {t:TypeId} {z:List D} (h:zeroOf P t=some z) : ∃ i v,P.info? t=some i∧i.zero=some v∧v.cells.size=i.size∧kn v.cells.toList=some z:=by
 unfold zeroOf at h
 split at h
 ·rename_i i hi
  split at h
  ·rename_i v hv
   split at h
   ·exact⟨i,v,hi,hv, ‹_›,h⟩
   ·cases h
  ·cases h
 ·cases h
theorem qb {z:List D} {v:Value} (h:kn v.cells.toList=some z):oG M s z v.cells:=by
 obtain⟨h1,h2,h3⟩:=iL (M:=M) (s:=s) h
 exact⟨by simpa using h1.symm,fun u hu=>h2 u (by simpa using hu),fun i d u e1 e2=>h3 i d u e1 (by simpa using e2)⟩
theorem Er {t:TypeId} {z:List D} (h:sD P t=some z) : ∃ i v,P.info? t=some i∧i.zero=some v∧v.cells.size=i.size∧oG M s z v.cells:=by
 unfold sD at h
 split at h
 ·rename_i i hi
  split at h
  ·rename_i v hv
   split at h
   ·refine⟨i,v,hi,hv, ‹_›, ?_⟩
    obtain⟨h1,h2,h3⟩:=vN (M:=M) (s:=s) h
    exact⟨by simpa using h1.symm,fun u hu=>h2 u (by simpa using hu),fun i d u e1 e2=>h3 i d u e1 (by simpa using e2)⟩
   ·cases h
  ·cases h
 ·cases h
theorem uk {t:TypeId} {tm:Tm} {act:Act} (hr:jo M s tm act.tmps) : ∀ {l:List (Nat×Operand)} {ps:List (Nat×Nat×X)},uc P t l=some ps→
 (ps.map fun p=>(p.1,p.2.1,p.2.2.ev tm)).length=(l.map fun p=>(p.1,act.eval p.2)).length∧
 ∀ (j:Nat) (i:Nat) (v:Value) (off size:Nat) (d:D),(l.map fun p=>(p.1,act.eval p.2))[j]? = some (i,v)→(ps.map fun p=>(p.1,p.2.1,p.2.2.ev tm))[j]? = some (off,size,d)→
  (∃ a,jD P t i=some (off,size,a))∧RD M s d v
 | [],ps,h=>by cases h;exact⟨rfl,by simp⟩
 | (i0,x)::l,ps,h=>by
  unfold uc at h
  split at h
  ·rename_i off size a x' r' h1 h2 h3
   cases h
   obtain⟨g1,g2⟩:=uk hr h3
   refine⟨by simpa using g1,fun j i v rh sE d e1 e2=> ?_⟩
   cases j with
   | zero=>
    simp at e1 e2
    obtain⟨rfl,rfl⟩:=e1
    obtain⟨rfl,rfl,rfl⟩:=e2
    exact⟨⟨a,h1⟩,bA h2 hr⟩
   | succ j=>exact g2 j i v rh sE d (by simpa using e1) (by simpa using e2)
  ·cases h
theorem xg {tm:Tm} {act:Act} (hr:jo M s tm act.tmps) : ∀ {l:List (Nat×Operand)} {ps:List (Nat×X)},Bd l=some ps→
 (ps.map fun p=>(p.1,p.2.ev tm)).length=(l.map fun p=>(p.1,act.eval p.2)).length∧
 ∀ (j:Nat) (i:Nat) (v:Value) (i':Nat) (d:D),(l.map fun p=>(p.1,act.eval p.2))[j]? = some (i,v)→(ps.map fun p=>(p.1,p.2.ev tm))[j]? = some (i',d)→i'=i∧RD M s d v
 | [],ps,h=>by cases h;exact⟨rfl,by simp⟩
 | (i0,x)::l,ps,h=>by
  unfold Bd at h
  split at h
  ·rename_i x' r' h1 h2
   cases h
   obtain⟨g1,g2⟩:=xg hr h2
   refine⟨by simpa using g1,fun j i v i' d e1 e2=> ?_⟩
   cases j with
   | zero=>
    simp at e1 e2
    obtain⟨rfl,rfl⟩:=e1
    obtain⟨rfl,rfl⟩:=e2
    exact⟨rfl,bA h1 hr⟩
   | succ j=>exact g2 j i v i' d (by simpa using e1) (by simpa using e2)
  ·cases h
theorem xh : ∀ (l:List Field),(∀ f∈l,(P.info? f.type).isSome)→
 ∃ ps:List (Nat×Nat),(l.mapM fun f=>do pure (f.offset, ← sizeOf f.type):Sem (List (Nat×Nat))).run P w = .ok ps w∧
  ∀ (j:Nat) (f:Field) (i:TypeInfo),l[j]? = some f→P.info? f.type=some i→ps[j]? = some (f.offset,i.size)
 | [],_=>⟨[],rfl,by simp⟩
 | f::l,h=>by
  obtain⟨i,hi⟩:=Option.isSome_iff_exists.1 (h f (by simp))
  obtain⟨ps,h1,h2⟩:=xh l (fun g hg=>h g (by simp [hg]))
  refine⟨(f.offset,i.size)::ps, ?_,fun j g i' e1 e2=> ?_⟩
  ·rw [List.mapM_cons]
   simp only [Sem.run_bind,sizeOf,fD P hi,Result.andThen_ok,Sem.run_pure]at h1 ⊢
   simp only [h1,Result.andThen_ok]
  ·cases j with
   | zero=>simp at e1;subst e1;rw [hi]at e2;cases e2;rfl
   | succ j=>exact h2 j g i' (by simpa using e1) e2
theorem Es (r:Rel M s w) {t:TypeId} {fs:Array Field} {z:List D} {l:List (Nat×Operand)} {ps:List (Nat×Nat×X)} {tm:Tm} {act:Act} {cs:List D} (hr:jo M s tm act.tmps)
 (ht:P.underlying t=some (.struct fs)) (xi:(fs.toList.all fun f=>(P.info? f.type).isSome)=true) (hz:sD P t=some z) (hp:uc P t l=some ps) (hf:mV z (ps.map fun p=>(p.1,p.2.1,p.2.2.ev tm))=some cs) :
 cw P M s w (do pure (.value (← Instr.build t (l.toArray.map fun(i,x)=>(i,act.eval x))))) (.agg cs) s:=by
 obtain⟨i,v,h1,h2,h3,hc⟩:=Er (M:=M) (s:=s) hz
 obtain⟨g1,g2⟩:=uk hr hp
 obtain⟨pl,p1,p2⟩:=xh (P:=P) (w:=w) fs.toList (fun f L5=>by simpa using List.all_eq_true.1 xi f L5)
 have Nc:(fs.mapM fun f=>do pure (f.offset, ← sizeOf f.type):Sem (Array (Nat×Nat))).run P w = .ok pl.toArray w:=by
  rw [Array.mapM_eq_mapM_toList,Sem.run_map,p1];rfl
 obtain⟨vs,f1,f2⟩:=Bi (place:=(pl.toArray[·]?)) (l.map fun p=>(p.1,act.eval p.2)) _ z v.cells cs hc g1 (fun j i v off size d e1 e2=>by
  obtain⟨⟨a,ha⟩,hd⟩:=g2 j i v off size d e1 e2
  refine⟨?_,hd⟩
  unfold jD at ha
  rw [ht]at ha
  simp only at ha
  split at ha
  ·rename_i fd WY
   split at ha
   ·rename_i i' a' gj _
    split at ha
    ·cases ha
    ·cases ha
     simpa using p2 i fd i' (by simpa using WY) gj
   ·cases ha
  ·cases ha) hf
 refine cw.pure (v:= .agg vs) r ?_ (.agg _ _ f2.1.symm f2.2.1 f2.2.2)
 have sa:(l.toArray.map fun(i,x)=>(i,act.eval x)).toList=l.map fun p=>(p.1,act.eval p.2):=by simp
 unfold Instr.build
 simp only [Sem.run_bind,zeroValue,fD P h1,h2,Result.andThen_ok,Sem.run_pure,run_underlying ht,Nc,sa,f1]
theorem vQ (r:Rel M s w) {t e:TypeId} {i:TypeInfo} {z:List D} {n:Nat} {l:List (Nat×Operand)} {ps:List (Nat×X)} {tm:Tm} {act:Act} {rows:List (List D)} (hr:jo M s tm act.tmps)
 (ht:P.underlying t=some (.slice e)) (hi:P.info? e=some i) (hz:zeroOf P e=some z) (uj:0<i.size) (hn:n*i.size≤65536) (hp:Bd l=some ps)
 (hf:gB i.size (fN z n) (ps.map fun p=>(p.1,p.2.ev tm))=some rows) :
 ∃ (vs:Array Value) (T:TypeId),jP M s i.size rows vs∧rows.length=n∧vs.size=n*i.size∧
  (Instr.buildSlice t n (l.toArray.map fun(i,x)=>(i,act.eval x))).run P w = .ok (.slice (some ⟨w.heap.size,0,none⟩) n n) (w.alloc (.cells vs T)):=by
 obtain⟨i',v,h1,h2,h3,h4⟩:=ri hz
 rw [hi]at h1;cases h1
 have hc:=qb (M:=M) (s:=s) h4
 have WZ:z.length=i.size:=by rw [← hc.1,h3]
 have G4:=jP.zero hc (by omega) n
 rw [WZ]at G4
 obtain⟨g1,g2⟩:=xg hr hp
 obtain⟨vs,f1,f2,f3,f4⟩:=ui (l.map fun p=>(p.1,act.eval p.2)) _ _ _ rows G4 g1 g2 hf
 have W0:=k6 z n
 refine⟨vs,e,f2,by rw [f3,W0],by rw [f4];simp, ?_⟩
 have xe : ¬ (n*i.size > 2 ^ 24):=by omega
 have sa:(l.toArray.map fun(i,x)=>(i,act.eval x)).toList=l.map fun p=>(p.1,act.eval p.2):=by simp
 by_cases h0:n*i.size=0
 ·have jq:(Array.range (n*i.size)).map ((#[] : Array Value)[· % (#[] : Array Value).size]!)=(Array.range (n*i.size)).map (v.cells[· % v.cells.size]!):=by rw [h0];simp
  unfold Instr.buildSlice
  simp only [Sem.run_bind,run_underlying ht,Result.andThen_ok,sizeOf,fD P hi,Sem.run_pure,if_neg xe,if_pos h0,jq,sa,f1,newRow,run_newObj]
  rfl
 ·unfold Instr.buildSlice
  simp only [Sem.run_bind,run_underlying ht,Result.andThen_ok,sizeOf,fD P hi,Sem.run_pure,if_neg xe,if_neg h0,zeroValue,h2,sa,f1,newRow,run_newObj]
  rfl
end
end Go.Abs

/-! Sound7 -/

namespace Go.Abs
section
variable {P:Program} {M:Map} {s:St} {w:World}
theorem foldl_push (ns:List Int) : ∀ r:ByteArray,ns.foldl (fun r n=>r.push (UInt8.ofNat n.toNat)) r = ⟨r.data++(ns.map fun n=>UInt8.ofNat n.toNat).toArray⟩:=by
 induction ns with
 | nil=>intro r;simp
 | cons n ns ih=>intro r;simp only [List.foldl_cons];rw [ih];simp [ByteArray.push]
theorem qc : ∀ {rows:List (List D)} {l:List UInt8},kR rows=some l→∃ ns:List Int,rows=ns.map (fun n=> [.int .u8 n])∧l=ns.map fun n=>UInt8.ofNat n.toNat
 | [],l,h=>by cases h;exact⟨[],rfl,rfl⟩
 | r::rs,l,h=>by
  unfold kR at h
  split at h
  ·rename_i b bs h1 h2
   cases h
   obtain⟨ns,g1,g2⟩:=qc h2
   unfold zi at h1
   split at h1
   ·rename_i n
    cases h1
    exact⟨n::ns,by rw [g1];rfl,by rw [g2];rfl⟩
   ·cases h1
  ·cases h
theorem Et (r:Rel M s w) {src dst e:TypeId} {g:Tag} {z:Nat} {rows:List (List D)} {v:Value} {l:List UInt8} (hs:P.underlying src=some (.slice e)) (he:P.underlying e=some (.int .u8)) (hd:P.underlying dst=some .string)
 (hv:RD M s (.slice g z rows) v) (hb:kR rows=some l):cw P M s w (do pure (.value (← convert src dst v))) (.str l) s:=by
 obtain⟨ns,rfl,rfl⟩:=qc hb
 refine cw.pure (v:= .string ⟨⟨ns.map fun n=>UInt8.ofNat n.toNat⟩⟩) r ?_ (.str _)
 rcases hv.fR with ⟨h0,rfl,_⟩ | ⟨h0,_,a,cap,rfl⟩ | ⟨b,q,cap,rfl,hl,dC,g1,g2,_⟩
 ·have:ns = []:=by simpa using h0
  subst this
  have:=run_convert_bytes_string w src dst e none 0 0 hs he hd
  simp only [Sem.run_bind,this,Conv.bytesToString,Sem.run_pure,Result.andThen_ok]
  rfl
 ·have:ns = []:=by simpa using h0
  subst this
  have h2:=run_convert_bytes_string w src dst e (some a) 0 cap hs he hd
  simp only [Sem.run_bind,h2,Conv.bytesToString,Sem.run_pure,Result.andThen_ok]
  rfl
 ·have jq:=run_loadCells_list (P:=P) w ⟨b,q,none⟩ (ns.map (Value.int .u8)) (fun j v hj=>by
   rw [n3]
   simp only [List.getElem?_map,Option.map_eq_some_iff]at hj
   obtain⟨n,hn,rfl⟩:=hj
   have dj:(ns.map (fun n=> [D.int .u8 n]))[j]? = some [.int .u8 n]:=by simp [hn]
   have hz:z=1:=by have:=dC [.int .u8 n] (List.mem_of_getElem? dj);simpa using this.symm
   subst hz
   obtain⟨u,hu⟩:=g1 j _ 0 _ dj rfl
   have:=g2 j _ 0 _ u dj rfl hu
   rw [this.gC]at hu
   have:=(r.comm _ _ _ hu).1
   simpa using this)
  simp only [List.length_map]at jq ⊢
  have h1:=run_bytesToString (P:=P) w ⟨b,q,none⟩ ns.length cap ns jq
  have h2:=run_convert_bytes_string w src dst e (some ⟨b,q,none⟩) ns.length cap hs he hd
  simp only [Sem.run_bind,h2,h1,Sem.run_pure,Result.andThen_ok,foldl_push]
  congr 3
  simp [ByteArray.empty,ByteArray.emptyWithCapacity]
  rfl
theorem Bn (r:Rel M s w) {src dst e:TypeId} {l:List UInt8} (hs:P.underlying src=some .string) (hd:P.underlying dst=some (.slice e)) (he:P.underlying e=some (.int .u8)) :
 cw P M s w (do pure (.value (← convert src dst (.string ⟨⟨l⟩⟩)))) (.slice .shared 1 (l.map fun c=> [.int .u8 c.toNat])) s:=by
 have dd:=run_bytes_of_string (P:=P) w src dst e ⟨⟨l⟩⟩ hs hd he
 generalize o6:grownCap w (ByteArray.size ⟨⟨l⟩⟩) 0 e=cap at dd
 have DG:l.length≤cap:=by rw [← o6];exact grownCap_ge w l.length 0 e
 have dj : ∀ j,j<l.length→(bytesRow ⟨⟨l⟩⟩ cap)[j]? = some (.int .u8 ((l[j]?.getD 0).toNat:Int)):=by
  intro j hj
  unfold bytesRow
  rw [Array.getElem?_append_left (by simpa using hj)]
  simp [hj]
 have dC:(bytesRow ⟨⟨l⟩⟩ cap).size=cap:=by simp [bytesRow,vl];omega
 have iP : ∀ v∈bytesRow ⟨⟨l⟩⟩ cap,v.oneCell'=true:=by
  intro v hv
  unfold bytesRow at hv
  simp at hv
  rcases hv with ⟨a,_,rfl⟩ | ⟨_,rfl⟩ <;> rfl
 have hR:jP M s 1 (l.map fun c=> [D.int .u8 c.toNat]) (bytesRow ⟨⟨l⟩⟩ cap):=by
  refine⟨by simp [dC];omega,by simp,iP,fun i row j d v e1 e2 e3=> ?_⟩
  simp only [List.getElem?_map,Option.map_eq_some_iff]at e1
  obtain⟨c,hc,rfl⟩:=e1
  cases j with
  | zero=>
   simp at e2;subst e2
   have hi:=(List.getElem?_eq_some_iff.1 hc).1
   rw [show i*1+0=i by omega,dj i hi,hc]at e3
   cases e3
   exact .int _ _
  | succ j=>simp at e2
 obtain⟨r1,e1⟩:=(r.of_heap (w':=w.drew) rfl).dZ l.length (bytesRow ⟨⟨l⟩⟩ cap) e ((bytesRow ⟨⟨l⟩⟩ cap).size,(bytesRow ⟨⟨l⟩⟩ cap).size+1) iP
 obtain⟨f1,f2⟩:=hR.fixed e1.le (b:=w.heap.size) (fun o ho=>by simp at ho;simp [Map.dZ,ho])
 refine⟨.slice (some ⟨w.heap.size,0,none⟩) l.length cap,_,_, .inl (by simp only [Sem.run_bind,dd,Result.andThen_ok,Sem.run_pure];rfl),r1, ?_,(Ext.of_heap (M:=M) (s:=s) (w:=w) (w':=w.drew) rfl rfl rfl rfl).trans e1⟩
 have key:=RD.slice (M:=M.dZ w.heap.size l.length (bytesRow ⟨⟨l⟩⟩ cap)) (s:=s) .shared 1 (l.map fun c=> [D.int .u8 c.toNat]) w.heap.size 0 cap (by simpa using DG) hR.2.1 f1 f2 trivial
 simp only [List.length_map]at key
 exact key
theorem JD (r:Rel M s w) {t e:TypeId} {q z:Nat} {yb:Bool} {rows:List (List D)} {v:Value} (ht:P.underlying t=some (.slice e)) (he:P.underlying e=some (.int .u8)) (hv:RD M s (.slice (.tok q yb) z rows) v) (dP:rows≠ []) (hq:s.aw[q]? = some (some rows.length)) :
 cw P M s w (do pure (.value (← convert t t v))) (.slice .shared z rows) {s with aw:=s.aw.set q none}:=by
 rcases hv.fR with ⟨h0,_,_⟩ | ⟨h0,_,_⟩ | ⟨b,k,cap,rfl,hl,dC,g1,g2,kT⟩
 ·exact(dP h0).elim
 ·exact(dP h0).elim
 ·obtain⟨_,h2⟩:=kT
  obtain⟨_,h3⟩:=h2 _ hq
  rcases h3 rfl with ⟨_,h4,_⟩ | ⟨b2,h4,ic⟩
  ·subst h4
   exact(dP (List.eq_nil_of_length_eq_zero (Nat.le_zero.1 hl))).elim
  cases h4
  obtain⟨r1,l1⟩:=r.RQ q
  rcases r.tok q rows.length hq with ⟨h4,_⟩ | ⟨b',Bf,sE,vs,T,h4,h5,h6,h7,h8⟩
  ·rw [ic]at h4;cases h4
  ·rw [ic]at h4;cases h4
   have fE : ∀ p,St.live {s with aw:=s.aw.set q none} p→p≠q∧s.live p:=by
    rintro p ⟨n,hn⟩
    rw [List.getElem?_set]at hn
    split at hn
    ·simp at hn
    ·rename_i dP;exact⟨fun h=>dP h.symm,n,hn⟩
   obtain⟨r2,hh,lp,ho,xj,JE⟩:=r1.freeze (b:=b) vs.size 1 (fun o ho=>r.dW q b cap _ o ⟨_,hq⟩ ic ho)
    (fun p c y hp heq=>(fE p hp).1 (r.eW p q b c y cap _ (fE p hp).2 ⟨_,hq⟩ heq ic))
   have OS:w.shape? b=some (T,vs.size):=by simp [World.shape?,h5]
   refine⟨.slice (some ⟨b,0,none⟩) rows.length cap,_,M, .inl ?_,r2, ?_, ?_⟩
   ·simp [convert,run_underlying ht,run_underlying he,markStringish,OS]
   ·have h9:=(RD.slice (M:=M) (s:=s) .shared z rows b 0 cap hl dC g1 g2 trivial).mono l1
    exact h9
   ·refine⟨l1,fun p _ _ h4=>hh p (fun e=>h4 q cap (bz yb z) ⟨_,hq⟩ (by rw [ic,e])),fun o h3 h4=> ?_,fun p b' c y hp heq=> .inl ⟨(fE p hp).2,c,y,heq⟩,fun _ _ h=>(h rfl).elim,by rw [lp];exact Nat.le_refl _,ho,xj,JE⟩
    simp at h4;omega
theorem G5 (r:Rel M s w) {size:Nat} {rows:List (List D)} {vs:Array Value} (T:TypeId) (h:jP M s size rows vs) (dC:vs.size=rows.length*size) (uj:0<size) :
 ∃ M',RD M' {s with aw:=s.aw++ [some rows.length]} (.slice (.tok s.aw.length) size rows) (.slice (some ⟨w.heap.size,0,none⟩) rows.length rows.length)∧
 Rel M' {s with aw:=s.aw++ [some rows.length]} (w.alloc (.cells vs T))∧Ext M s w M' {s with aw:=s.aw++ [some rows.length]} (w.alloc (.cells vs T)):=by
 obtain⟨r1,e1⟩:=r.dZ vs.size vs T (0,0) h.2.2.1
 have vP:zs size=size:=by show(if size=0 then 1 else size)=size;rw [if_neg (by omega)]
 obtain⟨r2,l2⟩:=r1.LV rows.length w.heap.size rows.length size vs T (heap_alloc_new w _) (by rw [vP];exact dC) (Nat.le_refl _) (fun h=>by omega)
  (fun off ho=>by rw [vP]at ho;simp [Map.dZ];omega) (fun o ho=>by have:=r.mX ho;show M.mu o≠_;omega)
  (fun q c z' hl heq=>by have:=r.pJ hl (show M.be q=some (w.heap.size,c,z')from heq);omega)
 obtain⟨f1,f2⟩:=h.fixed (e1.le.trans l2) (b:=w.heap.size) (fun o ho=>by
  have:o<vs.size:=Nat.lt_of_lt_of_le ho h.1
  simp [Map.dq,Map.dZ,this])
 refine⟨_, ?_,r2, ?_⟩
 ·exact .slice _ size rows w.heap.size 0 rows.length (Nat.le_refl _) h.2.1 f1 f2 ⟨by simp,fun n hn=>by
   simp at hn;subst hn
   exact⟨Nat.le_refl _,fun _=> .inr ⟨_,rfl,by simp [Map.dq,bz]⟩⟩⟩
 ·refine⟨e1.le.trans l2,e1.kept,e1.mT,fun q b c z' hl heq=> ?_,e1.o4,e1.size,e1.os,e1.tape,e1.output⟩
  obtain⟨k,hk⟩:=hl
  rcases Nat.lt_or_ge q s.aw.length with h' | h'
  ·have Bm:M.be q=some (b,c,z'):=by
    have:((M.dZ w.heap.size vs.size vs).dq s.aw.length (some (w.heap.size,rows.length,size))).be q=M.be q:=by simp [Map.dq,Map.dZ];omega
    rw [this]at heq;exact heq
   simp only [List.getElem?_append_left h']at hk
   exact .inl ⟨⟨k,hk⟩,c,z',Bm⟩
  ·have:=(List.getElem?_eq_some_iff.1 hk).1
   simp at this
   have:q=s.aw.length:=by omega
   subst this
   have:((M.dZ w.heap.size vs.size vs).dq s.aw.length (some (w.heap.size,rows.length,size))).be s.aw.length=some (w.heap.size,rows.length,size):=by simp [Map.dq]
   rw [this]at heq;cases heq
   exact .inr (Nat.le_refl _)
end
end Go.Abs

/-! SoundM -/

namespace Go.Abs
open Go.MapKept
section
variable {P:Program} {M:Map} {s:St} {w:World}
theorem qF : ∀ (a b:List MapEntry),fv (a++b)=fv a++fv b
 | [],b=>rfl
 | e::a,b=>by simp only [List.cons_append,fv,qF a b]
theorem zo : ∀ (a:List MapEntry) (j:Nat) (e:MapEntry) (k v:Value),a[j]? = some e→e.key=k→fv (a.set j {e with key:=k,val:=v})=(fv a).set (2*j+1) v
 | [],j,e,k,v,h,_=>by simp at h
 | x::a,0,e,k,v,h,hk=>by
  simp at h;subst h;subst hk
  simp [fv]
 | x::a,j+1,e,k,v,h,hk=>by
  have:=zo a j e k v (by simpa using h) hk
  simp only [List.set_cons_succ,fv,this]
  rw [show 2*(j+1)=(2*j+1)+1 by omega,List.set_cons_succ]
theorem JF (a b:List UInt8):((⟨⟨a⟩⟩:ByteArray) == ⟨⟨b⟩⟩)=(a==b):=by
 show((⟨a⟩:Array UInt8) == ⟨b⟩)=(a==b)
 simp
theorem find_spec {key:List UInt8} : ∀ (es:List MapEntry) (cs:List D) (i:Nat),(fv es).length=cs.length→(∀ (i:Nat) (d:D) (v:Value),cs[i]? = some d→(fv es)[i]? = some v→RD M s d v)→
 (∀ z d,sC key z cs=some d→(Instr.findNow .string (.string ⟨⟨key⟩⟩) es i=some none∧d=z)∨∃ (j:Nat) (e:MapEntry),Instr.findNow .string (.string ⟨⟨key⟩⟩) es i=some (some (i+j,e.val))∧RD M s d e.val)∧
 (∀ d gi,rf key d cs=some gi→(Instr.findNow .string (.string ⟨⟨key⟩⟩) es i=some none∧gi=cs++ [.str key,d])∨
  ∃ (j:Nat) (e:MapEntry),Instr.findNow .string (.string ⟨⟨key⟩⟩) es i=some (some (i+j,e.val))∧es[j]? = some e∧e.key = .string ⟨⟨key⟩⟩∧gi=cs.set (2*j+1) d)
 | [],cs,i,hl,hr=>by
  have:cs = []:=by cases cs <;> simp [fv]at hl;rfl
  subst this
  refine⟨fun z d h=> .inl ⟨rfl,by simp [sC]at h;exact h.symm⟩,fun d gi h=> .inl ⟨rfl,by simp [rf]at h;simp [← h]⟩⟩
 | x::es,cs,i,hl,hr=>by
  match cs,hl with
  | [],hl=>simp [fv]at hl
  | [_],hl=>simp [fv]at hl
  | c0::c1::r,hl=>
   simp only [fv,List.length_cons]at hl hr
   have h0:=hr 0 c0 x.key rfl rfl
   have h1:=hr 1 c1 x.val rfl rfl
   obtain⟨W1,W2⟩:=find_spec es r (i+1) (by omega) (fun j d v e1 e2=>hr (j+2) d v (by simpa using e1) (by simpa using e2))
   have Ts : ∀ k,c0 = .str k→x.key = .string ⟨⟨k⟩⟩∧Instr.findNow .string (.string ⟨⟨key⟩⟩) (x::es) i=if key==k then some (some (i,x.val))else Instr.findNow .string (.string ⟨⟨key⟩⟩) es (i+1):=by
    intro k hk
    subst hk
    have hx:=h0.iK
    refine⟨hx, ?_⟩
    simp only [Instr.findNow,hx,Instr.sameNow,JF]
    cases hb:key==k <;> simp
   refine⟨fun z d h=> ?_,fun d gi h=> ?_⟩
   ·cases c0 <;> simp only [sC]at h <;> try (cases h;done)
    rename_i k
    obtain⟨k1,k2⟩:=Ts k rfl
    rw [k2]
    by_cases tg:k=key
    ·subst tg
     simp at h
     subst h
     exact .inr ⟨0,x,by simp,h1⟩
    ·have e1:(k==key)=false:=by simpa using tg
     have e2:(key==k)=false:=by simpa using fun e:key=k=>tg (Eq.symm e)
     rw [e1]at h
     rw [e2]
     simp only [Bool.false_eq_true, ↓reduceIte]at h ⊢
     rcases W1 z d h with h2 | ⟨j,e,h2,h3⟩
     ·exact .inl h2
     ·exact .inr ⟨j+1,e,by rw [h2];congr 3;omega,h3⟩
   ·cases c0 <;> simp only [rf]at h <;> try (cases h;done)
    rename_i k
    obtain⟨k1,k2⟩:=Ts k rfl
    rw [k2]
    by_cases tg:k=key
    ·subst tg
     simp at h
     subst h
     exact .inr ⟨0,x,by simp,rfl,k1,by simp⟩
    ·have e1:(k==key)=false:=by simpa using tg
     have e2:(key==k)=false:=by simpa using fun e:key=k=>tg (Eq.symm e)
     rw [e1]at h
     rw [e2]
     simp only [Bool.false_eq_true, ↓reduceIte]at h ⊢
     split at h
     ·rename_i r' GY
      cases h
      rcases W2 d r' GY with ⟨h2,h3⟩ | ⟨j,e,h2,h3,h4,h5⟩
      ·exact .inl ⟨h2,by rw [h3];rfl⟩
      ·refine .inr ⟨j+1,e,by rw [h2];congr 3;omega,by simpa using h3,h4, ?_⟩
       rw [h5,show 2*(j+1)+1=(2*j+1)+1+1 by omega]
       simp only [List.set_cons_succ]
     ·cases h
theorem Rel.OT (r:Rel M s w) {o:Nat} {cs gi:List D} (he:s.av[o]? = some cs) (hk:M.ob o = .map) (ti:Array MapEntry) (ck:Nat) (hl:(fv ti.toList).length=gi.length)
 (h1 : ∀ v∈fv ti.toList,v.oneCell'=true) (h2 : ∀ (i:Nat) (d:D) (v:Value),gi[i]? = some d→(fv ti.toList)[i]? = some v→RD M s d v) :
 Rel M {s with av:=s.av.set o gi} {w with heap:=w.heap.setIfInBounds (M.mu o) (.map ti ck)}∧Ext M s w M {s with av:=s.av.set o gi} {w with heap:=w.heap.setIfInBounds (M.mu o) (.map ti ck)}:=by
 obtain⟨vs,T,hh,hs,⟨iP,LU⟩,mc⟩:=r.obj o cs he
 rw [hk]at hh
 obtain⟨es,ck0,hh,lr⟩:=hh
 have ho:o<s.av.length:=(List.getElem?_eq_some_iff.1 he).1
 obtain⟨RU,jn⟩:=heap_set (w:=w) (o':= .map ti ck) hh
 have le:Le M s M {s with av:=s.av.set o gi}:=
  ⟨fun _ _ _ h=>h,by simp,fun _ _=>rfl,Nat.le_refl _,fun t n _ h=>⟨n,h,Nat.le_refl _,fun _=>rfl⟩⟩
 refine⟨⟨fun b q v e=> ?_,fun o' ds e=> ?_,fun q hq rh=>r.iO q (by simpa using hq) rh,fun q q' hq nR e=>r.inj q q' (by simpa using hq) (by simpa using nR) e,fun t n e=> ?_,
  fun t b c z q hl e hq=>r.dW t b c z q hl e (by simpa using hq),fun t t' b c z c' z' h h' e e'=>r.eW t t' b c z c' z' h h' e e'⟩, ?_⟩
 ·obtain⟨h3,h4⟩:=r.comm b q v e
  refine⟨?_,h4⟩
  have hb:b≠M.mu o:=fun eq=>by subst eq;rw [r.iO o ho q]at e;cases e
  rw [← h3]
  simp [World.cell?,jn b hb]
 ·rw [List.getElem?_set]at e
  split at e
  ·rename_i heq
   subst heq
   simp at e
   obtain⟨_,rfl⟩:=e
   refine⟨⟨fv ti.toList⟩,0, ?_,by simpa using hl,⟨fun v hv=>h1 v (by simpa using hv),fun T' h=> ?_⟩,fun i d v e1 e2=>(h2 i d v e1 (by simpa using e2)).mono le⟩
   ·rw [hk];exact⟨ti,ck,RU,rfl⟩
   ·have:M.ty o=none:=by
     have:(M.loc o).2 = .map:=hk
     simp [Map.ty,this,Ob.ty?]
    rw [this]at h;cases h
  ·rename_i dP
   obtain⟨ew,T',h3,h4,h5,h6⟩:=r.obj o' ds e
   have ki:o'<s.av.length:=(List.getElem?_eq_some_iff.1 e).1
   refine⟨ew,T', ?_,h4,h5,fun i d v e1 e2=>(h6 i d v e1 e2).mono le⟩
   show jO (w.heap.setIfInBounds (M.mu o) (.map ti ck))[M.mu o']? (M.ob o') _ _
   rw [jn _ (fun eq=>dP (r.inj o o' ho ki eq.symm))];exact h3
 ·rcases r.tok t n e with h3 | ⟨b,cap,size,ew,T',h3,h4,h5⟩
  ·exact .inl h3
  ·refine .inr ⟨b,cap,size,ew,T',h3, ?_,h5⟩
   show(w.heap.setIfInBounds (M.mu o) (.map ti ck))[b]? = _
   rw [jn b (fun eq=>r.dW t b cap size o ⟨n,e⟩ h3 ho eq.symm)];exact h4
 ·refine⟨le,fun b hb h3 _=>jn b (fun eq=>h3 o ho eq.symm),fun q h3 h4=> ?_,fun t b c z h e=> .inl ⟨h,c,z,e⟩,fun _ _ h=>(h rfl).elim,by simp,rfl,rfl,rfl⟩
  simp at h4;omega
theorem oJ (l:List UInt8):IsKey .string (.string ⟨⟨l⟩⟩):=by simp [IsKey]
theorem Eu (r:Rel M s w) {t kt e:TypeId} (ht:P.underlying t=some (.map kt e)):cw P M s w (do pure (.value (← Instr.makeMap t none))) (.ff s.av.length) {s with av:=s.av++ [[]]}:=by
 obtain⟨r',e'⟩:=r.GH [] (.map #[] 0) #[] 0 .map ⟨#[],0,rfl,rfl⟩ (fun _ h=>by cases h) rfl (by simp) (by simp)
 have hm:(M.c9 s.av.length w.heap.size .map).mu s.av.length=w.heap.size:=by simp [Map.c9,Map.mu]
 have hv:=RD.ff (M:=M.c9 s.av.length w.heap.size .map) (s:= {s with av:=s.av++ [[]]}) s.av.length (by simp) (by simp [Map.c9,Map.ob])
 rw [hm]at hv
 refine⟨_,_,_, .inl ?_,r',hv,e'⟩
 simp only [Instr.makeMap,newObj,Sem.run_bind,Sem.run_pure,Sem.run,Result.andThen_ok]
 rfl
theorem Ev (r:Rel M s w) {t kt e:TypeId} {i:TypeInfo} {z:Value} {zd:D} (ht:P.underlying t=some (.map kt e)) (hk:P.underlying kt=some .string) (hi:P.info? e=some i) (hz:i.zero=some z) (OU:nV z=some zd)
 {o:Nat} {key:List UInt8} {cs:List D} {d:D} (rW:M.ob o = .map) (ho:s.av[o]? = some cs) (hg:sC key zd cs=some d) :
 cw P M s w (do pure (.value (← Instr.lookup t (.map (some (M.mu o))) (.string ⟨⟨key⟩⟩) false))) d s:=by
 obtain⟨vs,T,hh,hs,⟨iP,LU⟩,mc⟩:=r.obj o cs ho
 rw [rW]at hh
 obtain⟨es,ck,hh,lr⟩:=hh
 have wo : ∀ (i:Nat) (d:D) (v:Value),cs[i]? = some d→(fv es.toList)[i]? = some v→RD M s d v:=fun i d v e1 e2=>mc i d v e1 (by rw [← lr]at e2;simpa using e2)
 have W3:(zeroValue e).run P w = .ok z w:=by simp [zeroValue,fD P hi,hz]
 rcases(find_spec es.toList cs 0 (by rw [← lr];simpa using hs) wo).1 zd d hg with ⟨h1,rfl⟩ | ⟨j,en,h1,h2⟩
 ·refine cw.pure (v:=z) r ?_ (ml OU).1
  simp [Instr.lookup,run_underlying ht,MapKept.run_getObj_map hh,run_checkKey hk (oJ key),run_findKey hk h1,W3]
 ·refine cw.pure (v:=en.val) r ?_ h2
  simp [Instr.lookup,run_underlying ht,MapKept.run_getObj_map hh,run_checkKey hk (oJ key),run_findKey hk h1]
theorem G6 (r:Rel M s w) {t kt e:TypeId} (ht:P.underlying t=some (.map kt e)) (hk:P.underlying kt=some .string)
 {o:Nat} {key:List UInt8} {cs gi:List D} {d:D} {v:Value} (rW:M.ob o = .map) (ho:s.av[o]? = some cs) (hv:RD M s d v) (xk:v.oneCell'=true) (hg:rf key d cs=some gi) :
 cw P M s w (do Instr.mapUpdate t (.map (some (M.mu o))) (.string ⟨⟨key⟩⟩) v;pure .skip) (.tuple []) {s with av:=s.av.set o gi}:=by
 obtain⟨vs,T,hh,hs,⟨iP,LU⟩,mc⟩:=r.obj o cs ho
 rw [rW]at hh
 obtain⟨es,ck,hh,lr⟩:=hh
 have wo : ∀ (i:Nat) (d:D) (v:Value),cs[i]? = some d→(fv es.toList)[i]? = some v→RD M s d v:=fun i d v e1 e2=>mc i d v e1 (by rw [← lr]at e2;simpa using e2)
 have hl:(fv es.toList).length=cs.length:=by rw [← lr];simpa using hs
 have AU : ∀ v∈fv es.toList,v.oneCell'=true:=fun v hv=>iP v (by rw [← lr]at hv;simpa using hv)
 rcases(find_spec es.toList cs 0 hl wo).2 d gi hg with ⟨h1,rfl⟩ | ⟨j,en,h1,h2,h3,rfl⟩
 ·obtain⟨r',e'⟩:=r.OT (gi:=cs++ [.str key,d]) ho rW (es.push {key:= .string ⟨⟨key⟩⟩,val:=v,born:=ck}) (ck+1) (by simp [qF,fv,hl]) (fun u hu=>by
   simp only [Array.toList_push,qF,fv,List.mem_append,List.mem_cons,List.not_mem_nil,or_false]at hu
   rcases hu with hu | rfl | rfl
   ·exact AU u hu
   ·rfl
   ·exact xk) (fun i d' u e1 e2=>by
   simp only [Array.toList_push,qF,fv]at e2
   rcases Nat.lt_or_ge i cs.length with hi | hi
   ·rw [List.getElem?_append_left hi]at e1
    rw [List.getElem?_append_left (by omega)]at e2
    exact wo i d' u e1 e2
   ·rw [List.getElem?_append_right hi]at e1
    rw [List.getElem?_append_right (by omega),hl]at e2
    match i - cs.length,e1,e2 with
    | 0,e1,e2=>simp at e1 e2;subst e1 e2;exact .str _
    | 1,e1,e2=>simp at e1 e2;subst e1 e2;exact hv
    | k+2,e1,e2=>simp at e1)
  refine⟨Go.undef,_,M, .inr ⟨?_,rfl⟩,r', .undef,e'⟩
  simp [Instr.mapUpdate,run_underlying ht,MapKept.run_getObj_map hh,run_checkKey hk (oJ key),run_findKey hk h1,MapKept.run_setObj_map _ hh]
 ·simp only [Nat.zero_add]at h1
  have hj:es[j]? = some en:=by simpa using h2
  have JG:(es.modify j fun e=> {e with key:= .string ⟨⟨key⟩⟩,val:=v}).toList=es.toList.set j {en with key:= .string ⟨⟨key⟩⟩,val:=v}:=by
   apply List.ext_getElem?
   intro i
   rw [Array.getElem?_toList,Array.getElem?_modify,List.getElem?_set]
   by_cases L6:j=i
   ·subst L6
    have:j<es.size:=by have:=(List.getElem?_eq_some_iff.1 h2).1;simpa using this
    simp [hj,this]
    have:=(Array.getElem?_eq_some_iff.1 hj).2
    rw [this]
   ·simp [L6]
  have jV:=zo es.toList j en (.string ⟨⟨key⟩⟩) v h2 h3
  obtain⟨r',e'⟩:=r.OT (gi:=cs.set (2*j+1) d) ho rW (es.modify j fun e=> {e with key:= .string ⟨⟨key⟩⟩,val:=v}) ck (by rw [JG,jV];simp [hl]) (fun u hu=>by
   rw [JG,jV]at hu
   rcases List.mem_or_eq_of_mem_set hu with hu | rfl
   ·exact AU u hu
   ·exact xk) (fun i d' u e1 e2=>by
   rw [JG,jV,List.getElem?_set]at e2
   rw [List.getElem?_set]at e1
   by_cases hi:2*j+1=i
   ·rw [if_pos hi]at e1 e2
    split at e1
    ·split at e2
     ·cases e1;cases e2;exact hv
     ·cases e2
    ·cases e1
   ·rw [if_neg hi]at e1 e2
    exact wo i d' u e1 e2)
  refine⟨Go.undef,_,M, .inr ⟨?_,rfl⟩,r', .undef,e'⟩
  simp [Instr.mapUpdate,run_underlying ht,MapKept.run_getObj_map hh,run_checkKey hk (oJ key),run_findKey hk h1,hj,h3,run_keyThatStays (oJ key),MapKept.run_setObj_map _ hh]
end
end Go.Abs

/-! Sound8 -/

namespace Go.Abs
section
variable {P:Program} {M:Map} {s:St} {w:World}
theorem DJ {tm:Tm} {act:Act} (hr:jo M s tm act.tmps) : ∀ {l:List Operand} {xs:List X},rV l=some xs→
 xs.length=l.length∧∀ (i:Nat) (d:D) (v:Value),(xs.map (·.ev tm))[i]? = some d→(l.map act.eval)[i]? = some v→RD M s d v
 | [],xs,h=>by cases h;exact⟨rfl,by simp⟩
 | x::l,xs,h=>by
  unfold rV at h
  split at h
  ·rename_i x' r' h1 h2
   cases h
   obtain⟨g1,g2⟩:=DJ hr h2
   refine⟨by simp [g1],fun i d v e1 e2=> ?_⟩
   cases i with
   | zero=>simp at e1 e2;subst e1;subst e2;exact bA h1 hr
   | succ i=>exact g2 i d v (by simpa using e1) (by simpa using e2)
  ·cases h
theorem G7 {lo:Option Operand} {zp:Option X} {tm:Tm} {act:Act} (hr:jo M s tm act.tmps) (h:LP lo=some zp) {l:Int} (hl:tY (zp.map (·.ev tm))=some l):LW (lo.map act.eval) l:=by
 cases lo with
 | none=>cases h;simp only [Option.map_none,tY,Option.some.injEq]at hl;exact .inl ⟨rfl,hl.symm⟩
 | some x=>
  obtain⟨y,hy,rfl⟩:=map_some (f:=some) h
  have:=bA hy hr
  simp only [Option.map_some]at hl ⊢
  cases hd:y.ev tm <;> rw [hd]at hl this <;> simp only [tY]at hl <;> try (cases hl;done)
  cases hl
  rw [this.gC]
  exact .inr ⟨_,rfl⟩
theorem G8 {hi:Option Operand} {gj:Option X} {tm:Tm} {act:Act} (hr:jo M s tm act.tmps) (h:LP hi=some gj) {len:Nat} {l:Int} (hl:tZ (gj.map (·.ev tm)) len=some l):LX (hi.map act.eval) len l:=by
 cases hi with
 | none=>cases h;simp only [Option.map_none,tZ,Option.some.injEq]at hl;exact .inl ⟨rfl,hl.symm⟩
 | some x=>
  obtain⟨y,hy,rfl⟩:=map_some (f:=some) h
  have:=bA hy hr
  simp only [Option.map_some]at hl ⊢
  cases hd:y.ev tm <;> rw [hd]at hl this <;> simp only [tZ]at hl <;> try (cases hl;done)
  cases hl
  rw [this.gC]
  exact .inr ⟨_,rfl⟩
theorem Ew {t:TypeId} {f off size:Nat} {agg:Bool} (h:jD P t f=some (off,size,agg)) {cs:List D} {vs:Array Value} (hl:cs.length=vs.size) (h1 : ∀ v∈vs,v.oneCell'=true)
 (h2 : ∀ (i:Nat) (d:D) (v:Value),cs[i]? = some d→vs[i]? = some v→RD M s d v) {d:D} (hp:part cs off agg size=some d) (r:Rel M s w) :
 cw P M s w (do pure (.value (← Instr.field t (.agg vs) f))) d s:=by
 let n:=if agg then size else 1
 have gY:off+n≤vs.size:=by
  rcases oF hp with ⟨rfl,h1,_⟩ | ⟨rfl,h1⟩
  ·simp [n];omega
  ·have:=(List.getElem?_eq_some_iff.1 h1).1;simp [n];omega
 have hlen:((vs.toList.drop off).take n).length=n:=by simp;omega
 have hJ : ∀ (j:Nat),j<((vs.toList.drop off).take n).length→vs[off+j]? = ((vs.toList.drop off).take n)[j]? :=by
  intro j h
  rw [hlen]at h
  rw [List.getElem?_take,if_pos h,List.getElem?_drop];simp
 refine cw.pure (v:=if agg then .agg ((vs.toList.drop off).take n).toArray else((vs.toList.drop off).take n).getD 0 Go.undef) r (by simp only [Sem.run_bind,GO h vs _ hlen hJ,Result.andThen_ok,Sem.run_pure]) ?_
 refine pK hp _ hlen (fun _ u hu=>h1 u (Array.mem_toList_iff.1 (List.mem_of_mem_drop (List.mem_of_mem_take hu)))) (fun j d u e1 e2=>h2 _ d u e1 ?_)
 rw [hJ j (List.getElem?_eq_some_iff.1 e2).1];exact e2
theorem oq {o:Oper} {ao:AO} {tm:Tm} {act:Act} {d:D} {s':St} (hc:w6 P o=some ao) (r:Rel M s w) (hr:jo M s tm act.tmps) (he:aK ao tm s=some (d,s')) :
 cw P M s w (execOp act.eval o) d s':=by
 obtain⟨dst,op,type,pos,after,guard⟩:=o
 unfold w6 at hc
 simp only at hc
 cases op with
 | move x=>
  obtain⟨y,hy,rfl⟩:=map_some hc
  cases he
  exact cw.pure r rfl (bA hy hr)
 | assign x=>
  obtain⟨y,hy,rfl⟩:=map_some hc
  cases he
  exact cw.pure r rfl (bA hy hr)
 | pick c a b=>
  simp only at hc
  split at hc
  ·rename_i c' a' b' h1 h2 h3
   cases hc
   simp only [aK]at he
   split at he
   ·rename_i t ht
    cases he
    have Tt:=bA h1 hr
    rw [ht]at Tt
    have:=Tt.ko
    refine cw.pure (v:=if t then act.eval a else act.eval b) r ?_ ?_
    ·simp only [execOp,this,asBool]
     simp
    ·cases t
     ·exact bA h3 hr
     ·exact bA h2 hr
   ·cases he
  ·cases hc
 | alloc t=>
  simp only at hc
  split at hc
  ·obtain⟨z,hz,rfl⟩:=map_some hc
   simp only [aK]at he
   split at he
   ·cases he;exact CZ r hz
   ·cases he
  ·obtain⟨z,hz,rfl⟩:=map_some hc
   cases he
   exact Ef r hz
 | box t x=>
  simp only at hc
  split at hc
  ·obtain⟨y,hy,rfl⟩:=map_some hc
   simp only [aK]at he
   split at he
   ·rename_i row dj
    cases he
    exact GN r (bA hy hr) dj
   ·cases he
  ·obtain⟨y,hy,rfl⟩:=map_some hc
   simp only [aK]at he
   split at he
   ·rename_i row dj
    cases he
    exact Ju r (bA hy hr) dj
   ·cases he
 | build t parts=>
  simp only at hc
  split at hc
  ·rename_i fs z ps h1 h2 h3
   split at hc
   ·rename_i xi
    cases hc
    simp only [aK]at he
    split at he
    ·rename_i cs nS
     cases he
     have:=Es r hr h1 xi h2 h3 nS
     simpa [execOp]using this
    ·cases he
   ·cases hc
  ·cases hc
 | buildSlice t n parts=>
  simp only at hc
  split at hc
  ·rename_i e hu
   split at hc
   ·rename_i i z ps h1 h2 h3
    split at hc
    ·rename_i jE
     cases hc
     simp only [aK]at he
     split at he
     ·rename_i rows iX
      cases he
      obtain⟨vs,T,g1,g2,g3,g4⟩:=vQ r hr hu h1 h2 jE.1 jE.2 h3 iX
      obtain⟨f1,f2,f3⟩:=Em r T g1
      refine⟨_,_,_, .inl ?_,f2,f1,f3⟩
      simp only [Array.toArray_toList]at g4
      simp only [execOp,Sem.run_bind,g4,Result.andThen_ok,Sem.run_pure]
      rw [g2]
     ·cases he
    ·cases hc
   ·cases hc
  ·cases hc
 | load t x=>
  simp only at hc
  split at hc
  ·rename_i y a i h1 h2 h3
   cases hc
   have hx:=bA h1 hr
   simp only [aK]at he
   split at he
   ·rename_i o off ho
    rw [ho]at hx
    have Bo:=hx.ud
    obtain⟨hv,_⟩:=hx.nZ
    split at he
    ·rename_i cs nS
     split at he
     ·rename_i d' mJ
      cases he
      have:=Ap r h3 h2 nS Bo mJ
      simp only [execOp,hv]
      exact this
     ·cases he
    ·cases he
   ·rename_i row off ho
    rw [ho]at hx
    obtain⟨b,k,hv,g1,g2⟩:=hx.sF
    split at he
    ·rename_i d' mJ
     cases he
     have:=Aq r h3 h2 g1 g2 mJ
     simp only [execOp,hv]
     exact this
    ·cases he
   ·cases he
  ·cases hc
 | store t a x=>
  simp only at hc
  split at hc
  ·rename_i a' x' i h1 h2 h3
   cases hc
   have ha:=bA h1 hr
   have hx:=bA h2 hr
   simp only [aK]at he
   split at he
   ·rename_i o off row ho dj
    rw [ho]at ha
    have Bo:=ha.ud
    obtain⟨hv,_⟩:=ha.nZ
    split at he
    ·rename_i cs nS
     split at he
     ·rename_i gY
      cases he
      have:=Eg r h3 nS Bo hx dj gY.1 gY.2
      simp only [execOp,hv]
      exact this
     ·cases he
    ·cases he
   ·cases he
  ·cases hc
 | nilCheck x=>
  obtain⟨y,hy,rfl⟩:=map_some hc
  have hx:=bA hy hr
  simp only [aK]at he
  split at he
  ·rename_i o off ho
   cases he
   rw [ho]at hx
   have hv:=hx.nZ.1
   rw [hv]at hx
   simp only [execOp,hv]
   exact w9 r hx
  ·rename_i row off ho
   cases he
   rw [ho]at hx
   obtain⟨b,k,hv,_⟩:=hx.sF
   rw [hv]at hx
   simp only [execOp,hv]
   exact w9 r hx
  ·cases he
 | binOp op t x y yt=>
  simp only at hc
  split at hc
  ·rename_i x' y' h1 h2
   have hx:=bA h1 hr
   have hy:=bA h2 hr
   have fin : ∀ d',rb op (x'.ev tm) (y'.ev tm)=some d'→(d',s)=(d,s')→cw P M s w (execOp act.eval ⟨dst, .binOp op t x y yt,type,pos,after,guard⟩) d s':=by
    intro d' mJ heq
    cases heq
    exact Jv r hx hy mJ
   have OV:(match rb op (x'.ev tm) (y'.ev tm)with | some d=>some (d,s) | none=>none)=some (d,s')→cw P M s w (execOp act.eval ⟨dst, .binOp op t x y yt,type,pos,after,guard⟩) d s':=by
    intro h
    split at h
    ·rename_i d' mJ
     exact fin d' mJ (by cases h;rfl)
    ·cases h
   have OW : ∀ neg,op=(if neg then .neq else .eql)→P.underlying t=some .bool→aK (.zh neg x' y') tm s=some (d,s')→cw P M s w (execOp act.eval ⟨dst, .binOp op t x y yt,type,pos,after,guard⟩) d s':=by
    intro neg jL ht h
    simp only [aK]at h
    split at h
    ·rename_i p q hp hq
     cases h
     rw [hp]at hx;rw [hq]at hy
     simp only [execOp,hx.ko,hy.ko,jL]
     exact Jw r ht
    ·cases h
   have OX : ∀ neg e,op=(if neg then .neq else .eql)→P.underlying t=some (.pointer e)→aK (.A7 neg x' y') tm s=some (d,s')→cw P M s w (execOp act.eval ⟨dst, .binOp op t x y yt,type,pos,after,guard⟩) d s':=by
    intro neg e jL ht h
    simp only [aK]at h
    split at h
    ·rename_i hp hq
     cases h
     rw [hp]at hx;rw [hq]at hy
     simp only [execOp,hx.nY,hy.nY,jL]
     have:=wj r (neg:=neg) (x:=x) (y:=y) (a:=none) ht
     cases neg <;> simpa using this
    ·rename_i o off hp hq
     cases h
     rw [hp]at hx;rw [hq]at hy
     simp only [execOp,hx.nZ.1,hy.nY,jL]
     have:=wj r (neg:=neg) (x:=x) (y:=y) (a:=some ⟨M.mu o,off,none⟩) ht
     cases neg <;> simpa using this
    ·rename_i row off hp hq
     cases h
     rw [hp]at hx;rw [hq]at hy
     obtain⟨b,k,hv,_⟩:=hx.sF
     simp only [execOp,hv,hy.nY,jL]
     have:=wj r (neg:=neg) (x:=x) (y:=y) (a:=some ⟨b,k+off,none⟩) ht
     cases neg <;> simpa using this
    ·cases h
   have OY : ∀ neg ks,op=(if neg then .neq else .eql)→ma P t=some ks→aK (.eqs neg ks x' y') tm s=some (d,s')→cw P M s w (execOp act.eval ⟨dst, .binOp op t x y yt,type,pos,after,guard⟩) d s':=by
    intro neg ks jL ht h
    simp only [aK]at h
    split at h
    ·rename_i p q hp hq
     split at h
     ·rename_i e' W4
      cases h
      rw [hp]at hx;rw [hq]at hy
      simp only [execOp,jL]
      exact Jy r ht hx hy W4
     ·cases h
    ·cases h
   split at hc
   ·cases hc;exact OV he
   ·cases hc;exact OV he
   ·rename_i hu;cases hc;exact OW false rfl hu he
   ·rename_i hu;cases hc;exact OW true rfl hu he
   ·rename_i hu;cases hc;exact OX false _ rfl hu he
   ·rename_i hu;cases hc;exact OX true _ rfl hu he
   ·obtain⟨ks,hk,rfl⟩:=map_some hc;exact OY false ks rfl hk he
   ·obtain⟨ks,hk,rfl⟩:=map_some hc;exact OY true ks rfl hk he
   ·cases hc
  ·cases hc
 | unOp op t x=>
  obtain⟨y,hy,rfl⟩:=map_some hc
  have hx:=bA hy hr
  simp only [aK]at he
  split at he
  ·rename_i d' mJ
   cases he
   unfold Bc at mJ
   split at mJ
   ·rename_i k n hk
    cases mJ
    rw [hk]at hx
    exact cw.pure (v:= .int k (k.wrap (0 - n))) r (by simp [execOp,hx.gC,Op.unary,Op.intArith]) (.int _ _)
   ·rename_i b hb
    cases mJ
    rw [hb]at hx
    exact cw.pure (v:= .bool (!b)) r (by simp [execOp,hx.ko,Op.unary]) (.bool _)
   ·cases mJ
  ·cases he
 | convert src adX x=>
  simp only at hc
  split at hc
  ·rename_i y k1 k h1 h2 h3
   cases hc
   have hx:=bA h1 hr
   simp only [aK]at he
   split at he
   ·rename_i k2 n hn
    cases he
    rw [hn]at hx
    refine cw.pure (v:= .int k (k.wrap n)) r ?_ (.int _ _)
    simp [execOp,hx.gC,convert,run_underlying h2,run_underlying h3,Conv.intToInt]
   ·cases he
  ·rename_i y e h1 h2 h3
   split at hc
   ·rename_i h4
    cases hc
    have hx:=bA h1 hr
    simp only [aK]at he
    split at he
    ·rename_i g z rows iX
     split at he
     ·rename_i b hb
      cases he
      rw [iX]at hx
      exact Et r h2 h4 h3 hx hb
     ·cases he
    ·cases he
   ·cases hc
  ·rename_i y e e2 h1 h2 h3
   split at hc
   ·rename_i h4
    split at hc
    ·rename_i L7
     cases hc
     subst L7
     have hx:=bA h1 hr
     simp only [aK]at he
     split at he
     ·rename_i t z rows iX
      split at he
      ·rename_i jE
       cases he
       rw [iX]at hx
       exact JD r h2 h4 hx jE.1 jE.2
      ·cases he
     ·cases he
    ·cases hc
   ·cases hc
  ·rename_i y e h1 h2 h3
   split at hc
   ·rename_i i h4 h5
    split at hc
    ·cases hc
     have hx:=bA h1 hr
     simp only [aK]at he
     split at he
     ·rename_i l hl
      cases he
      rw [hl]at hx
      simp only [execOp,hx.iK]
      exact Bn r h2 h3 h4
     ·cases he
    ·cases hc
   ·cases hc
  ·cases hc
 | slice t x lo hi mx=>
  cases mx with
  | some m=>cases hc
  | none=>
   simp only at hc
   split at hc
   ·rename_i y zp gj h1 h2 h3 h4
    cases hc
    have hx:=bA h1 hr
    simp only [aK]at he
    split at he
    ·rename_i u hu
     rw [hu]at hx
     split at he
     ·rename_i l h hl hh
      split at he
      ·rename_i jE
       cases he
       have:=GV r h4 (G7 hr h2 hl) (G8 hr h3 hh) jE.1 jE.2.1 jE.2.2
       simp only [execOp,hx.iK,Option.map_none]
       exact this
      ·cases he
     ·cases he
    ·cases he
   ·rename_i y zp gj e h1 h2 h3 h4
    split at hc
    ·rename_i i GX
     cases hc
     have hx:=bA h1 hr
     simp only [aK]at he
     split at he
     ·rename_i g z rows iX
      rw [iX]at hx
      split at he
      ·rename_i l h hl hh
       split at he
       ·rename_i jE
        cases he
        have:=JB r h4 GX jE.1 hx (G7 hr h2 hl) (G8 hr h3 hh) jE.2.1 jE.2.2.1 jE.2.2.2
        simp only [execOp,Option.map_none]
        exact this
       ·cases he
      ·cases he
     ·cases he
    ·cases hc
   ·cases hc
 | fieldAddr t x f=>
  simp only at hc
  split at hc
  ·rename_i y off size a h1 h2
   cases hc
   have hx:=bA h1 hr
   simp only [aK]at he
   split at he
   ·rename_i o k ho
    cases he
    rw [ho]at hx
    have Bo:=hx.ud
    obtain⟨hv,hD⟩:=hx.nZ
    refine cw.pure (v:= .pointer (some ⟨M.mu o,k+off,none⟩)) r ?_ (.ptr _ _ hD Bo)
    simp only [execOp,hv,Sem.run_bind,zk h2,Result.andThen_ok,Sem.run_pure]
   ·rename_i row k ho
    cases he
    rw [ho]at hx
    obtain⟨b,q,hv,g1,g2⟩:=hx.sF
    refine cw.pure (v:= .pointer (some ⟨b,q+(k+off),none⟩)) r ?_ (.dc _ _ _ _ g1 g2)
    simp only [execOp,hv,Sem.run_bind,zk h2,Result.andThen_ok,Sem.run_pure,Nat.add_assoc]
   ·cases he
  ·cases hc
 | field t x f=>
  simp only at hc
  split at hc
  ·rename_i y off size a h1 h2
   cases hc
   have hx:=bA h1 hr
   simp only [aK]at he
   split at he
   ·rename_i cs nS
    split at he
    ·rename_i d' mJ
     cases he
     rw [nS]at hx
     obtain⟨vs,hv,g1,g2,g3⟩:=hx.yq
     simp only [execOp,hv]
     exact Ew h2 g1 g2 g3 mJ r
    ·cases he
   ·cases he
  ·cases hc
 | indexAddr t x i=>
  simp only at hc
  split at hc
  ·rename_i y j e h1 h2 h3
   split at hc
   ·rename_i inf JH
    split at hc
    ·cases hc
     have hx:=bA h1 hr
     have hj:=bA h2 hr
     simp only [aK]at he
     split at he
     ·rename_i g z rows k n iX hn
      split at he
      ·rename_i jE
       obtain⟨Bp,hz⟩:=jE
       subst hz
       split at he
       ·rename_i row dj
        cases he
        rw [iX]at hx;rw [hn]at hj
        simp only [execOp,hj.gC]
        exact Ek r h3 JH hx Bp dj
       ·cases he
      ·cases he
     ·cases he
    ·cases hc
   ·cases hc
  ·cases hc
 | index t x i=>
  simp only at hc
  split at hc
  ·rename_i y j h1 h2 h3
   cases hc
   have hx:=bA h1 hr
   have hj:=bA h2 hr
   simp only [aK]at he
   split at he
   ·rename_i l k n hl hn
    split at he
    ·rename_i Bp
     split at he
     ·rename_i c OZ
      cases he
      rw [hl]at hx;rw [hn]at hj
      simp only [execOp,hj.gC,hx.iK]
      exact GU r h3 Bp OZ
     ·cases he
    ·cases he
   ·cases he
  ·cases hc
 | extract x i=>
  obtain⟨y,hy,rfl⟩:=map_some hc
  have hx:=bA hy hr
  simp only [aK]at he
  split at he
  ·rename_i ds xl
   split at he
   ·rename_i d' mJ
    cases he
    rw [xl]at hx
    obtain⟨vs,hv,g1,g2⟩:=hx.zj
    have hD:=(List.getElem?_eq_some_iff.1 mJ).1
    have Bq:vs[i]? = some vs[i]:=Array.getElem?_eq_getElem (by omega)
    refine cw.pure (v:=vs[i]) r ?_ (g2 i _ _ mJ Bq)
    simp [execOp,hv,Instr.extract,Bq]
   ·cases he
  ·cases he
 | call c=>
  obtain⟨callee,args,kG⟩:=c
  cases callee with
  | value f=>cases hc
  | invoke f m=>cases hc
  | builtin bi=>
   have two : ∀ {x y:Operand} {x' y':X} {isMax:Bool},cX x=some x'→cX y=some y'→bi=(if isMax then .max else .min)→args.toList = [x,y]→aK (.mm isMax x' y') tm s=some (d,s')→
    cw P M s w (execOp act.eval ⟨dst, .call ⟨.builtin bi,args,kG⟩,type,pos,after,guard⟩) d s':=by
    intro x y x' y' isMax h1 h2 hb ha h
    have kV:args = #[x,y]:=by rw [← Array.toArray_toList (xs:=args),ha]
    subst kV
    have hx:=bA h1 hr
    have hy:=bA h2 hr
    simp only [aK]at h
    split at h
    ·rename_i k a k' b zq Bo
     split at h
     ·rename_i tg
      subst tg
      cases h
      rw [zq]at hx;rw [Bo]at hy
      refine cw.pure (v:= .int k (if isMax then(if b > a then b else a)else(if b<a then b else a))) r ?_ (.int _ _)
      subst hb
      cases isMax
      ·simp [execOp,resolve,invoke,builtin,Builtin.min_,Builtin.min2,hx.gC,hy.gC]
      ·simp [execOp,resolve,invoke,builtin,Builtin.max_,Builtin.max2,hx.gC,hy.gC]
     ·cases h
    ·cases h
   cases bi <;> simp only at hc <;> try (cases hc;done)
   case append=>
    split at hc
    ·rename_i x y t u ha tj
     split at hc
     ·rename_i e e' x' y' h1 h2 h3 h4
      split at hc
      ·rename_i i z hi hz
       split at hc
       ·rename_i uj
        cases hc
        have kV:args = #[x,y]:=by rw [← Array.toArray_toList (xs:=args),ha]
        have Br:kG = #[t,u]:=by rw [← Array.toArray_toList (xs:=kG),tj]
        subst kV;subst Br
        obtain⟨i',v,g1,g2,g3,g4⟩:=ri hz
        rw [hi]at g1;cases g1
        have L8:=qb (M:=M) (s:=s) g4
        split at he
        ·rename_i hb
         obtain⟨rfl,xm,O0⟩:=hb
         obtain⟨v',w',M',f1,f2,f3,f4⟩:=Eo (ty:=type) r h1 h2 hi g2 xm O0 g3 L8.2.1 (bA h3 hr) (bA h4 hr) he
         refine⟨v',w',M', .inl ?_,f2,f3,f4⟩
         simp [execOp,resolve,invoke,builtin,f1]
        ·obtain⟨v',w',M',f1,f2,f3,f4⟩:=G3 (ty:=type) r h1 h2 hi g2 g3 L8.2.1 (bA h3 hr) (bA h4 hr) uj he
         refine⟨v',w',M', .inl ?_,f2,f3,f4⟩
         simp [execOp,resolve,invoke,builtin,f1]
       ·cases hc
      ·cases hc
     ·rename_i e x' y' h1 h2 h3 h4
      split at hc
      ·rename_i i z hi hz
       split at hc
       ·rename_i hb
        cases hc
        obtain⟨rfl,xm,O0⟩:=hb
        have kV:args = #[x,y]:=by rw [← Array.toArray_toList (xs:=args),ha]
        have Br:kG = #[t,u]:=by rw [← Array.toArray_toList (xs:=kG),tj]
        subst kV;subst Br
        obtain⟨i',v,g1,g2,g3,g4⟩:=ri hz
        rw [hi]at g1;cases g1
        have L8:=qb (M:=M) (s:=s) g4
        have hy:=bA h4 hr
        simp only [aK]at he
        split at he
        ·rename_i l hl
         rw [hl]at hy
         obtain⟨v',w',M',f1,f2,f3,f4⟩:=Ep (ty:=type) r h1 h2 hi g2 xm O0 g3 L8.2.1 (bA h3 hr) he
         refine⟨v',w',M', .inl ?_,f2,f3,f4⟩
         simp [execOp,resolve,invoke,builtin,hy.iK,f1]
        ·cases he
       ·cases hc
      ·cases hc
     ·cases hc
    ·cases hc
   case len=>
    split at hc
    ·rename_i x t ha tj
     have kV:args = #[x]:=by rw [← Array.toArray_toList (xs:=args),ha]
     have Br:kG = #[t]:=by rw [← Array.toArray_toList (xs:=kG),tj]
     subst kV;subst Br
     have hex:execOp act.eval ⟨dst, .call ⟨.builtin .len, #[x], #[t]⟩,type,pos,after,guard⟩=(do pure (.value (← Builtin.len_ #[t] type #[act.eval x]))):=by
      simp [execOp,resolve,invoke,builtin]
     rw [hex]
     split at hc
     ·rename_i ht
      obtain⟨y,hy,rfl⟩:=map_some hc
      have hx:=bA hy hr
      simp only [aK]at he
      split at he
      ·rename_i l hl
       cases he
       rw [hl]at hx
       rw [hx.iK]
       exact Bh r ht
      ·cases he
     ·rename_i e ht
      obtain⟨y,hy,rfl⟩:=map_some hc
      have hx:=bA hy hr
      simp only [aK]at he
      split at he
      ·rename_i g z rows iX
       cases he
       rw [iX]at hx
       rcases hx.fR with ⟨h0,hv,_⟩ | ⟨h0,_,a,cap,hv⟩ | ⟨b,q,cap,hv,_⟩
       ·rw [hv,h0];exact n4 r ht
       ·rw [hv,h0];exact n4 r ht
       ·rw [hv];exact n4 r ht
      ·cases he
     ·cases hc
    ·cases hc
   case max=>
    split at hc
    ·rename_i x y ha
     split at hc
     ·rename_i x' y' h1 h2
      cases hc
      exact two (isMax:=true) h1 h2 rfl ha he
     ·cases hc
    ·cases hc
   case min=>
    split at hc
    ·rename_i x y ha
     split at hc
     ·rename_i x' y' h1 h2
      cases hc
      exact two (isMax:=false) h1 h2 rfl ha he
     ·cases hc
    ·cases hc
 | makeFunc fn first captured=>
  cases fn <;> simp only at hc <;> try (cases hc;done)
  split at hc
  ·rename_i f h0
   obtain⟨xs,k8,rfl⟩:=map_some hc
   simp only [aK,Option.some.injEq,Prod.mk.injEq]at he
   obtain⟨rfl,rfl⟩:=he
   obtain⟨c1,c2⟩:=DJ hr k8
   have hf:first = #[]:=Array.eq_empty_of_size_eq_zero h0
   subst hf
   refine cw.pure (v:= .func (.func f) #[] (captured.map act.eval)) r ?_ (.fi _ _ _ (by simp [c1]) (fun i d v e1 e2=>c2 i d v e1 (by simpa using e2)))
   simp [execOp,Instr.makeFunc]
  ·cases hc
 | makeMap t rv=>
  cases rv with
  | none=>
   simp only at hc
   split at hc
   ·rename_i ht
    cases hc
    simp only [aK,Option.some.injEq,Prod.mk.injEq]at he
    obtain⟨rfl,rfl⟩:=he
    simp only [execOp,Option.map_none]
    exact Eu r ht
   ·cases hc
  | some x=>cases hc
 | mapUpdate t m k v=>
  simp only at hc
  split at hc
  ·rename_i kt et m' k' v' ht h1 h2 h3
   split at hc
   ·rename_i O1
    cases hc
    have hm:=bA h1 hr
    have hk:=bA h2 hr
    have hv:=bA h3 hr
    simp only [aK]at he
    split at he
    ·rename_i o key g z rows ho JI iX
     rw [ho]at hm;rw [JI]at hk;rw [iX]at hv
     obtain⟨O2,hD,rW⟩:=hm.Bg
     split at he
     ·rename_i cs nS
      split at he
      ·rename_i gi Ul
       cases he
       have xk:(act.eval v).oneCell'=true:=by
        rcases hv.fR with ⟨_,h,_⟩ | ⟨_,_,a,cap,h⟩ | ⟨b,q,cap,h,_⟩ <;> rw [h] <;> rfl
       simp only [execOp,O2,hk.iK]
       exact G6 r ht O1 rW nS hv xk Ul
      ·cases he
     ·cases he
    ·cases he
   ·cases hc
  ·cases hc
 | lookup t m k ok=>
  cases ok <;> simp only at hc <;> try (cases hc;done)
  split at hc
  ·rename_i kt et m' k' ht h1 h2
   split at hc
   ·rename_i i O1 hi
    split at hc
    ·rename_i z hz
     obtain⟨zd,OU,rfl⟩:=map_some hc
     have hm:=bA h1 hr
     have hk:=bA h2 hr
     simp only [aK]at he
     split at he
     ·rename_i o key ho JI
      rw [ho]at hm;rw [JI]at hk
      obtain⟨O2,hD,rW⟩:=hm.Bg
      split at he
      ·rename_i cs nS
       split at he
       ·rename_i d' mJ
        cases he
        simp only [execOp,O2,hk.iK]
        exact Ev r ht O1 hi hz OU rW nS mJ
       ·cases he
      ·cases he
     ·cases he
    ·cases hc
   ·cases hc
  ·cases hc
 | _=>cases hc
theorem sJ {o:Oper} {z:List D} {k n:Nat} {ps:List (Nat×X)} {tm:Tm} {act:Act} {d:D} {s':St} (hc:w6 P o=some (.c7 z k n ps)) (r:Rel M s w) (hr:jo M s tm act.tmps) (he:aK (.p6 z k n ps) tm s=some (d,s')) :
 cw P M s w (execOp act.eval o) d s':=by
 obtain⟨dst,op,type,pos,after,guard⟩:=o
 unfold w6 at hc
 simp only at hc
 cases op with
 | buildSlice t n' parts=>
  simp only at hc
  split at hc
  ·rename_i e hu
   split at hc
   ·rename_i i z ps h1 h2 h3
    split at hc
    ·rename_i jE
     cases hc
     simp only [aK]at he
     split at he
     ·rename_i rows iX
      cases he
      obtain⟨vs,T,g1,g2,g3,g4⟩:=vQ r hr hu h1 h2 jE.1 jE.2 h3 iX
      obtain⟨M',f1,f2,f3⟩:=G5 r T g1 (by rw [g3,g2]) jE.1
      refine⟨_,_,_, .inl ?_,f2,f1,f3⟩
      simp only [Array.toArray_toList]at g4
      simp only [execOp,Sem.run_bind,g4,Result.andThen_ok,Sem.run_pure]
      rw [g2]
     ·cases he
    ·cases hc
   ·cases hc
  ·cases hc
 | _=>
  exfalso
  revert hc
  try simp only
  repeat' split
  all_goals (first | (intro h;cases h;done) | (intro h;obtain⟨_,_,h⟩:=map_some h;cases h;done) | contradiction | (simp;done) | (intro h;simp_all;done))
end
end Go.Abs

/-! Code -/

namespace Go.Abs
structure fw where
 M:Map
 s:St
 w:World
 laid:Laid M s w
 W6 : ∀ b o v,M.G b o=some v→b<w.heap.size
def Holds (B:fw) (nt:Nat) (tm:Tm) (s:St) (act:Act) (w:World):Prop:=
 ∃ M,Ext B.M B.s B.w M s w∧Rel M s w∧jo M s tm act.tmps∧act.tmps.size=nt∧act.defers = []
def lY (B:fw) (nt:Nat) (Q:Exit→Tm→St→Prop):Exit→Act→World→Prop:=fun e act w=>∃ tm s,Q e tm s∧Holds B nt tm s act w
def dJ (P:Program) (f:FuncId) (args:List D) (s:St) (Q:D→St→Prop):Prop:=
 ∀ (M:Map) (w:World) (eZ:Array Value),Rel M s w→Laid M s w→eZ.size=args.length→(∀ (i:Nat) (d:D) (v:Value),args[i]? = some d→eZ[i]? = some v→RD M s d v)→
  Calls P f eZ w fun e w'=>∃ M' d v s',e = .returned v∧Q d s'∧Ext M s w M' s' w'∧Rel M' s' w'∧RD M' s' d v
theorem dJ.mono {P:Program} {f:FuncId} {args:List D} {s:St} {Q Q':D→St→Prop} (h:dJ P f args s Q) (hq : ∀ d s',Q d s'→Q' d s'):dJ P f args s Q':=
 fun M w eZ r hd hl ha=>(h M w eZ r hd hl ha).mono fun _ _ ⟨M',d,v,s',h1,h2,h3⟩=>⟨M',d,v,s',h1,hq _ _ h2,h3⟩
def guarded (g:Option (Nat×Bool)) (tm:Tm) (A B:Prop):Prop:=
 match g with
 | none=>A
 | some (t,want)=>
  match tm.get t with
  | .bool b=>(b=want→A)∧(b=(!want)→B)
  | .tuple _=>B
  | _=>False
def fM (P:Program):List AI→(Tm→St→Prop)→Tm→St→Prop
 | [],K,tm,s=>K tm s
 | .op dst g o::r,K,tm,s=>
  guarded g tm (match aK o tm s with | some (d,s')=>fM P r K (tm.put dst d) s' | none=>False) (fM P r K (tm.put dst (.tuple [])) s)
 | .call dst g f xs::r,K,tm,s=>
  guarded g tm (dJ P f (xs.map (·.ev tm)) s fun d s'=>fM P r K (tm.put dst d) s') (fM P r K (tm.put dst (.tuple [])) s)
 | .nil dst g neg x::r,K,tm,s=>
  guarded g tm (match x.ev tm with
   | .slice _ _ rows=>∀ b:Bool,(rows≠ []→b=false)→fM P r K (tm.put dst (.bool (if neg then !b else b))) s
   | _=>False) (fM P r K (tm.put dst (.tuple [])) s)
 | .fX dst g t xs::r,K,tm,s=>
  guarded g tm (match tm.get t with
   | .fi f kl=>enters P f=true∧dJ P f (xs.map (·.ev tm)++kl) s fun d s'=>fM P r K (tm.put dst d) s'
   | _=>False) (fM P r K (tm.put dst (.tuple [])) s)
section
variable {P:Program}
theorem um {f:FuncId} (h:enters P f=true) (args:Array Value) (w:World):(callFunc f args).run P w = .ok (.enter f args) w:=by
 unfold enters at h
 split at h
 ·rename_i fn hf
  simp only [Bool.and_eq_true,Bool.not_eq_true']at h
  obtain⟨h1,h2⟩:=h
  have h3:fn.body.isNone=false:=by cases hb:fn.body <;> simp_all
  simp only [callFunc,Sem.run_bind,run_program,Result.andThen_ok,hf,h2,h3]
  simp
 ·cases h
theorem rj (ρ:Operand→Value) (dst:Option Tmp) (f:FuncId) (args:Array Operand) (kG:Array TypeId) (ty:TypeId) (pos:String) (after:Array Edge) (g:Option (Nat×Bool))
 (hρ:ρ (.func f) = .func (.func f) #[] #[]) (h:enters P f=true) (w:World) :
 (execOp ρ ⟨dst, .call ⟨.value (.func f),args,kG⟩,ty,pos,after,g⟩).run P w = .ok (.enter f (args.map ρ)) w:=by
 simp [execOp,resolve,hρ,Deferred.ofValue,invoke,um h]
theorem uq (ρ:Operand→Value) (dst:Option Tmp) (x:Operand) (f:FuncId) (kl:Array Value) (args:Array Operand) (kG:Array TypeId) (ty:TypeId) (pos:String) (after:Array Edge) (g:Option (Nat×Bool))
 (hρ:ρ x = .func (.func f) #[] kl) (h:enters P f=true) (w:World) :
 (execOp ρ ⟨dst, .call ⟨.value x,args,kG⟩,ty,pos,after,g⟩).run P w = .ok (.enter f (args.map ρ++kl)) w:=by
 simp [execOp,resolve,hρ,Deferred.ofValue,invoke,um h]
theorem qG {M:Map} {s:St} {tm:Tm} {act:Act} (hr:jo M s tm act.tmps) : ∀ {l:List Operand} {xs:List X},rV l=some xs→
 xs.length=l.length∧∀ (i:Nat) (d:D) (v:Value),(xs.map (·.ev tm))[i]? = some d→(l.map act.eval)[i]? = some v→RD M s d v
 | [],xs,h=>by cases h;exact⟨rfl,by simp⟩
 | x::l,xs,h=>by
  unfold rV at h
  split at h
  ·rename_i x' r' h1 h2
   cases h
   obtain⟨g1,g2⟩:=qG hr h2
   refine⟨by simp [g1],fun i d v e1 e2=> ?_⟩
   cases i with
   | zero=>simp at e1 e2;subst e1;subst e2;exact bA h1 hr
   | succ i=>exact g2 i d v (by simpa using e1) (by simpa using e2)
  ·cases h
theorem zr {M:Map} {s:St} {tm:Tm} {act:Act} {args:Array Operand} {xs:List X} {kl:List D} {vs:Array Value} (k8:rV args.toList=some xs) (ht:jo M s tm act.tmps) (hlen:kl.length=vs.size)
 (xn : ∀ (i:Nat) (d:D) (v:Value),kl[i]? = some d→vs[i]? = some v→RD M s d v) :
 (args.map act.eval++vs).size=(xs.map (·.ev tm)++kl).length∧∀ (i:Nat) (d:D) (v:Value),(xs.map (·.ev tm)++kl)[i]? = some d→(args.map act.eval++vs)[i]? = some v→RD M s d v:=by
 obtain⟨c1,c2⟩:=qG ht k8
 refine⟨by simp [c1,hlen],fun i d v e1 e2=> ?_⟩
 rcases Nat.lt_or_ge i args.size with ur | ur
 ·rw [List.getElem?_append_left (by simp [c1];exact ur)]at e1
  rw [Array.getElem?_append_left (by simp;exact ur)]at e2
  exact c2 i d v e1 (by simpa using e2)
 ·rw [List.getElem?_append_right (by simp [c1];exact ur)]at e1
  rw [Array.getElem?_append_right (by simp;exact ur)]at e2
  simp only [List.length_map,c1,Array.size_map,Array.length_toList]at e1 e2
  exact xn _ d v e1 e2
theorem tn {M:Map} {s:St} {w:World} {o:Oper} {neg:Bool} {x:X} {tm:Tm} {act:Act} (hc:yo P o=some (neg,x)) (hr:jo M s tm act.tmps) {g:Tag} {z:Nat} {rows:List (List D)} (hx:x.ev tm = .slice g z rows) :
 ∃ b:Bool,(rows≠ []→b=false)∧(execOp act.eval o).run P w = .ok (.value (.bool (if neg then !b else b))) w:=by
 obtain⟨dst,op,type,pos,after,guard⟩:=o
 unfold yo at hc
 split at hc
 ·rename_i op t y yt heq
  simp only at heq
  subst heq
  have fin : ∀ e,P.underlying t=some (.slice e)→cX y=some x→op=(if neg then .neq else .eql)→∃ b:Bool,(rows≠ []→b=false)∧
   (execOp act.eval ⟨dst, .binOp op t y (.const (.slice none 0 0)) yt,type,pos,after,guard⟩).run P w = .ok (.value (.bool (if neg then !b else b))) w:=by
   intro e ht hy jL
   have hv:=bA hy hr
   rw [hx]at hv
   have key : ∀ (a:Option Addr) (n c:Nat),act.eval y = .slice a n c→(execOp act.eval ⟨dst, .binOp op t y (.const (.slice none 0 0)) yt,type,pos,after,guard⟩).run P w = .ok (.value (.bool (if neg then !a.isNone else a.isNone))) w:=by
    intro a n c mZ
    have hg:=kE (P:=P) (w:=w) (op:=op) (t:=t) (x:=y) (y:= .const (.slice none 0 0)) (a:= .slice a n c) (b:= .slice none 0 0) ⟨by simp,by simp⟩
    have he:(Op.equal t (.slice a n c) (.slice none 0 0)).run P w = .ok a.isNone w:=by
     have : ∀ d,(Op.equalIn (d+1) t (.slice a n c) (.slice none 0 0)).run P w = .ok a.isNone w:=by
      intro d
      cases a <;> simp [Op.equalIn,run_underlying ht]
     exact this 9999
    have Un:act.eval (.const (.slice none 0 0)) = .slice none 0 0:=rfl
    simp only [execOp,mZ,Un]
    rw [jL]at hg ⊢
    cases neg
    ·simp only [Bool.false_eq_true,if_false]at hg ⊢
     simp [hg,binOp,he]
    ·simp only [if_true]at hg ⊢
     simp [hg,binOp,he]
   rcases hv.fR with ⟨h0,mZ,_⟩ | ⟨_,_,a,cap,mZ⟩ | ⟨b,q,cap,mZ,_⟩
   ·exact⟨true,fun h=>(h h0).elim,key none 0 0 mZ⟩
   ·exact⟨false,fun _=>rfl,key _ _ _ mZ⟩
   ·exact⟨false,fun _=>rfl,key _ _ _ mZ⟩
  split at hc
  ·cases hc
   exact fin _ ‹_› ‹_› rfl
  ·cases hc
   exact fin _ ‹_› ‹_› rfl
  ·cases hc
 ·cases hc
variable {B:fw} {nt:Nat}
theorem Holds.put {tm:Tm} {s:St} {act:Act} {w:World} {M':Map} {s':St} {w':World} {M:Map} (e:Ext B.M B.s B.w M s w) (ht:jo M s tm act.tmps) (hn:act.tmps.size=nt) (hd:act.defers = [])
 {dst:Option Nat} (my : ∀ t,dst=some t→t<nt) {d:D} {v:Value} (e':Ext M s w M' s' w') (r':Rel M' s' w') (hv:RD M' s' d v):Holds B nt (tm.put dst d) s' (act.put dst v) w':=by
 refine⟨M',e.trans e',r',(ht.mono e'.le).put (fun t h=>by rw [hn];exact my t h) hv, ?_, ?_⟩
 ·cases dst <;> simp [Act.put,hn]
 ·cases dst <;> simp [Act.put,hd]
theorem sb {ops:Array Oper} {o:Oper} {ai:AI} (h:cI P nt ops o=some ai) : ∀ t,o.dst=some t→t<nt:=by
 intro t ht
 unfold cI at h
 split at h
 ·cases h
 ·split at h
  ·rename_i hD;rw [ht]at hD;simpa [LQ]using hD
  ·cases h
theorem gJ {ops:Array Oper} {o:Oper} {g:Option (Nat×Bool)} (hg:p9 ops o.guard=some g) {M:Map} {s:St} {tm:Tm} {act:Act} (hr:jo M s tm act.tmps) {A C:Prop} (h:guarded g tm A C) :
 (Region.wanted o (yielded ops act.tmps)=true∧A)∨(Region.wanted o (yielded ops act.tmps)=false∧C):=by
 unfold p9 at hg
 split at hg
 ·rename_i hn
  cases hg
  exact .inl ⟨by simp [Region.wanted,hn],h⟩
 ·rename_i j want hn
  split at hg
  ·rename_i t ht
   cases hg
   have L9:=hr t
   unfold guarded at h
   simp only at h
   split at h
   ·rename_i b hb
    rw [hb]at L9
    have hv:=L9.ko
    have RW:act.tmps[t]? = some (.bool b):=by
     cases hc:act.tmps[t]? with
     | none=>simp [Array.getD_eq_getD_getElem?,hc,Go.undef]at hv
     | some v=>simp [Array.getD_eq_getD_getElem?,hc]at hv;rw [hv]
    have hy:yielded ops act.tmps j=some b:=by simp [yielded,ht,RW]
    have hw:Region.wanted o (yielded ops act.tmps)=(some b==some want):=by simp [Region.wanted,hn,hy]
    by_cases O3:b=want
    ·exact .inl ⟨by rw [hw,O3];simp,h.1 O3⟩
    ·refine .inr ⟨by rw [hw];simp [O3],h.2 ?_⟩
     cases b <;> cases want <;> simp_all
   ·rename_i ds xl
    rw [xl]at L9
    obtain⟨vs,hv,_⟩:=L9.zj
    refine .inr ⟨?_,h⟩
    have hy:yielded ops act.tmps j=none:=by
     unfold yielded
     rw [ht]
     cases hc:act.tmps[t]? with
     | none=>simp [hc]
     | some v=>simp [Array.getD_eq_getD_getElem?,hc]at hv;simp [hc,hv]
    simp [Region.wanted,hn,hy]
   ·exact h.elim
  ·cases hg
theorem uu {ops:Array Oper} {Q:Exit→Tm→St→Prop} : ∀ (l:List Nat) (ol:List Oper) (is:List AI),l.map (ops[·]?)=ol.map some→mW P nt ops ol=some is→
 ∀ (tm:Tm) (s:St) (act:Act) (w:World),fM P is (Q .normal) tm s→Holds B nt tm s act w→wpOps P ops (lY B nt Q) l act w
 | [],[],is,_,hc,tm,s,act,w,h,hh=>by cases hc;exact⟨tm,s,h,hh⟩
 | [],_::_,_,hl,_,_,_,_,_,_,_=>by simp at hl
 | _::_,[],_,hl,_,_,_,_,_,_,_=>by simp at hl
 | i::l,o::ol,is,hl,hc,tm,s,act,w,h,hh=>by
  simp only [List.map_cons,List.cons.injEq]at hl
  obtain⟨hi,hl⟩:=hl
  unfold mW at hc
  split at hc
  ·rename_i ai Hb h1 h2
   cases hc
   obtain⟨M,e,r,ht,hn,hd⟩:=hh
   have my:=sb h1
   have ih:=fun tm s act w=>uu (Q:=Q) l ol Hb hl h2 tm s act w
   have skip : ∀ (x:Prop),fM P Hb (Q .normal) (tm.put o.dst (.tuple [])) s→wpOps P ops (lY B nt Q) l (act.put o.dst Go.undef) w:=fun _ hk=>
    ih _ _ _ _ hk (Holds.put e ht hn hd my (Ext.refl M s w) r .undef)
   simp only [wpOps,hi]
   unfold cI at h1
   split at h1
   ·cases h1
   ·rename_i g hg
    split at h1
    ·unfold om at h1
     split at h1
     ·-- a call
      rename_i f args kG jL
      split at h1
      ·rename_i sK
       obtain⟨xs,k8,rfl⟩:=map_some h1
       unfold fM at h
       rcases gJ hg ht h with ⟨hw,hA⟩ | ⟨hw,hB⟩
       ·simp only [hw,if_true]
        left
        have hex:(execOp act.eval o).run P w = .ok (.enter f (args.map act.eval)) w:=by
         obtain⟨dst,op,type,pos,after,guard⟩:=o
         simp only at jL
         subst jL
         exact rj act.eval dst f args kG type pos after guard rfl sK w
        obtain⟨c1,c2⟩:=qG ht k8
        unfold Oper.wp
        rw [hex,Oper.upon_enter]
        refine(hA M w (args.map act.eval) r (B.laid.ext e) (by simp [c1]) (fun i d v e1 e2=>c2 i d v e1 (by simpa using e2))).mono ?_
        rintro en w' ⟨M',d,v,s',rfl,hk,e',r',hv⟩
        exact ih _ _ _ _ hk (Holds.put e ht hn hd my e' r' hv)
       ·simp only [hw]
        exact skip True hB
      ·cases h1
     ·-- what a slot holds is called
      rename_i t args kG jL
      obtain⟨xs,k8,rfl⟩:=map_some h1
      unfold fM at h
      rcases gJ hg ht h with ⟨hw,hA⟩ | ⟨hw,hB⟩
      ·simp only [hw,if_true]
       left
       split at hA
       ·rename_i f kl Bs
        obtain⟨sK,hA⟩:=hA
        have Hc:=ht t
        rw [Bs]at Hc
        obtain⟨vs,lr,hlen,xn⟩:=Hc.DD
        have hex:(execOp act.eval o).run P w = .ok (.enter f (args.map act.eval++vs)) w:=by
         obtain⟨dst,op,type,pos,after,guard⟩:=o
         simp only at jL
         subst jL
         exact uq act.eval dst (.tmp t) f vs args kG type pos after guard lr sK w
        unfold Oper.wp
        rw [hex,Oper.upon_enter]
        have cc:=zr k8 ht hlen xn
        refine(hA M w (args.map act.eval++vs) r (B.laid.ext e) cc.1 cc.2).mono ?_
        rintro en w' ⟨M',d,v,s',rfl,hk,e',r',hv⟩
        exact ih _ _ _ _ hk (Holds.put e ht hn hd my e' r' hv)
       ·exact hA.elim
      ·simp only [hw]
       exact skip True hB
     ·split at h1
      ·-- a slice held against nil
       rename_i neg x Bt
       cases h1
       unfold fM at h
       rcases gJ hg ht h with ⟨hw,hA⟩ | ⟨hw,hB⟩
       ·simp only [hw,if_true]
        left
        split at hA
        ·rename_i g' z rows hx
         obtain⟨b,hb,hex⟩:=tn (w:=w) Bt ht hx
         unfold Oper.wp
         rw [hex,Oper.upon_value]
         exact ih _ _ _ _ (hA b hb) (Holds.put e ht hn hd my (Ext.refl M s w) r (.bool _))
        ·exact hA.elim
       ·simp only [hw]
        exact skip True hB
      ·-- any other operation
       have fin : ∀ ao,ai = .op o.dst g ao→(∀ d s',aK ao tm s=some (d,s')→cw P M s w (execOp act.eval o) d s')→
        (if Region.wanted o (yielded ops act.tmps)=true then o.wp P act w (wpOps P ops (lY B nt Q) l) (lY B nt Q)∨(o.asks P act w∧LetsOut (lY B nt Q))else wpOps P ops (lY B nt Q) l (act.put o.dst Go.undef) w):=by
        intro ao qH O5
        subst qH
        unfold fM at h
        rcases gJ hg ht h with ⟨hw,hA⟩ | ⟨hw,hB⟩
        ·simp only [hw,if_true]
         left
         split at hA
         ·rename_i d s' mK
          obtain⟨v,w',M',dd,r',hv,e'⟩:=O5 d s' mK
          unfold Oper.wp
          rcases dd with dd | ⟨dd,rfl⟩
          ·rw [dd,Oper.upon_value]
           exact ih _ _ _ _ hA (Holds.put e ht hn hd my e' r' hv)
          ·rw [dd,Oper.upon_skip]
           exact ih _ _ _ _ hA (Holds.put e ht hn hd my e' r' hv)
         ·exact hA.elim
        ·simp only [hw]
         exact skip True hB
       split at h1
       ·rename_i z k n ps kH
        cases h1
        refine fin _ rfl (fun d s' mK=> ?_)
        split at mK
        ·exact sJ kH r ht mK
        ·exact oq kH r ht mK
       ·rename_i ao kH
        cases h1
        exact fin _ rfl (fun d s' mK=>oq kH r ht mK)
       ·cases h1
    ·cases h1
  ·cases hc
end
end Go.Abs

/-! Flow -/

namespace Go.Abs
def Turned (P:Program) (nt:Nat):AC→Code→Prop
 | .skip,c=>c = .skip
 | .run is,c=>∃ id ops,c = .region id ops false∧mW P nt ops ops.toList=some is
 | .par is jf,c=>∃ id ops,c = .region id ops true∧mW P nt ops ops.toList=some is∧P.follows .mixedOrders=true∧∃ pt,Ba is (ops.toList.map jS) pt jf=true
 | .seq a b,c=>∃ x y,c = .seq x y∧cC P nt x=some a∧cC P nt y=some b
 | .cond x a b,c=>∃ o p q,c = .cond o p q∧cX o=some x∧cC P nt p=some a∧cC P nt q=some b
 | .block id a,c=>∃ x,c = .block id x∧cC P nt x=some a
 | .loop a,c=>∃ x,c = .loop x∧cC P nt x=some a
 | .exit id,c=>c = .exit id
 | .scope a,c=>∃ x,c = .scope x∧cC P nt x=some a
 | .label l,c=>c = .label l
 | .goto l,c=>c = .goto l
 | .ret,c=>c = .ret
theorem jr {P:Program} {nt:Nat} {c:Code} {ac:AC} (h:cC P nt c=some ac):Turned P nt ac c:=by
 cases c with
 | skip=>cases h;rfl
 | region id ops draw=>
  cases draw
  ·obtain⟨is,h1,rfl⟩:=map_some (x:=mW P nt ops ops.toList) (f:=AC.run) (by simpa [cC]using h)
   exact⟨id,ops,rfl,h1⟩
  ·simp only [cC]at h
   split at h
   ·rename_i hm
    obtain⟨is,h1,h2⟩:=Option.bind_eq_some_iff.1 h
    unfold LR at h2
    split at h2
    ·rename_i hp
     cases h2
     exact⟨id,ops,rfl,h1,hm,_,hp⟩
    ·cases h2
   ·cases h
 | seq a b=>
  simp only [cC]at h
  split at h
  ·rename_i a' b' h1 h2;cases h;exact⟨a,b,rfl,h1,h2⟩
  ·cases h
 | cond x a b=>
  simp only [cC]at h
  split at h
  ·rename_i x' a' b' h1 h2 h3;cases h;exact⟨x,a,b,rfl,h1,h2,h3⟩
  ·cases h
 | block id a=>
  obtain⟨a',h1,rfl⟩:=map_some (x:=cC P nt a) (f:=AC.block id) (by simpa [cC]using h)
  exact⟨a,rfl,h1⟩
 | loop a=>
  obtain⟨a',h1,rfl⟩:=map_some (x:=cC P nt a) (f:=AC.loop) (by simpa [cC]using h)
  exact⟨a,rfl,h1⟩
 | rangeFunc f p a b=>simp [cC]at h
 | exit id=>cases h;rfl
 | scope a=>
  obtain⟨a',h1,rfl⟩:=map_some (x:=cC P nt a) (f:=AC.scope) (by simpa [cC]using h)
  exact⟨a,rfl,h1⟩
 | label l=>cases h;rfl
 | goto l=>cases h;rfl
 | ret=>cases h;rfl
 | refuse w=>simp [cC]at h
def Sem (P:Program) (B:fw) (nt:Nat) (ac:AC) (Q:Exit→Tm→St→Prop) (tm:Tm) (s:St):Prop:=
 ∀ c,cC P nt c=some ac→∀ act w,Holds B nt tm s act w→c.wp P (lY B nt Q) act w
def na (next:Tm→St→Prop) (Q:Exit→Tm→St→Prop):Exit→Tm→St→Prop
 | .normal,tm,s=>next tm s
 | e,tm,s=>Q e tm s
def lu (id:Nat) (Q:Exit→Tm→St→Prop):Exit→Tm→St→Prop
 | .exit i,tm,s=>if i=id then Q .normal tm s else Q (.exit i) tm s
 | e,tm,s=>Q e tm s
section
variable {P:Program} {B:fw} {nt:Nat} {Q:Exit→Tm→St→Prop} {tm:Tm} {s:St}
theorem Sem.mono {ac:AC} {Q':Exit→Tm→St→Prop} (h:Sem P B nt ac Q tm s) (hq : ∀ e tm s,Q e tm s→Q' e tm s):Sem P B nt ac Q' tm s:=
 fun c hc act w hh=>wp_mono (h c hc act w hh) fun _ _ _ ⟨tm,s,h1,h2⟩=>⟨tm,s,hq _ _ _ h1,h2⟩
theorem Sem.skip (h:Q .normal tm s):Sem P B nt .skip Q tm s:=by
 intro c hc act w hh
 cases jr hc
 exact wp_skip ⟨tm,s,h,hh⟩
theorem Sem.label {l:Nat} (h:Q .normal tm s):Sem P B nt (.label l) Q tm s:=by
 intro c hc act w hh
 cases jr hc
 exact wp_label ⟨tm,s,h,hh⟩
theorem Sem.exit {id:Nat} (h:Q (.exit id) tm s):Sem P B nt (.exit id) Q tm s:=by
 intro c hc act w hh
 cases jr hc
 exact wp_exit ⟨tm,s,h,hh⟩
theorem Sem.goto {l:Nat} (h:Q (.goto l) tm s):Sem P B nt (.goto l) Q tm s:=by
 intro c hc act w hh
 cases jr hc
 exact wp_goto ⟨tm,s,h,hh⟩
theorem Sem.ret (h:Q .ret tm s):Sem P B nt .ret Q tm s:=by
 intro c hc act w hh
 cases jr hc
 exact wp_ret ⟨tm,s,h,hh⟩
theorem uv (ops:Array Oper):(List.range ops.size).map (ops[·]?)=ops.toList.map some:=by
 apply List.ext_getElem?
 intro i
 by_cases h:i<ops.size
 ·simp [h]
 ·simp [h]
theorem Sem.run {is:List AI} (h:fM P is (Q .normal) tm s):Sem P B nt (.run is) Q tm s:=by
 intro c hc act w hh
 obtain⟨id,ops,rfl,hi⟩:=jr hc
 exact wp_region (uu (Q:=Q) (List.range ops.size) ops.toList is (uv ops) hi tm s act w h hh)
theorem Sem.seq {a b:AC} (h:Sem P B nt a (na (Sem P B nt b Q) Q) tm s):Sem P B nt (.seq a b) Q tm s:=by
 intro c hc act w hh
 obtain⟨x,y,rfl,h1,h2⟩:=jr hc
 refine wp_seq (wp_mono (h x h1 act w hh) fun e act w hp=> ?_)
 obtain⟨bm,s',hq,jt⟩:=hp
 cases e with
 | normal=>exact hq y h2 act w jt
 | exit id=>exact⟨bm,s',hq,jt⟩
 | goto l=>exact⟨bm,s',hq,jt⟩
 | ret=>exact⟨bm,s',hq,jt⟩
 | panic ch=>exact⟨bm,s',hq,jt⟩
 | outgrown=>exact⟨bm,s',hq,jt⟩
theorem Sem.cond {x:X} {a b:AC} {t:Bool} (hx:x.ev tm = .bool t) (h1:t=true→Sem P B nt a Q tm s) (h2:t=false→Sem P B nt b Q tm s):Sem P B nt (.cond x a b) Q tm s:=by
 intro c hc act w hh
 obtain⟨o,p,q,rfl,g1,g2,g3⟩:=jr hc
 have jt:=hh
 obtain⟨M,e,r,ht,hn,hd⟩:=hh
 have hv:=bA g1 ht
 rw [hx]at hv
 exact wp_cond_split hv.ko (fun h=>h1 h p g2 act w jt) (fun h=>h2 h q g3 act w jt)
theorem Sem.block {id:Nat} {a:AC} (h:Sem P B nt a (lu id Q) tm s):Sem P B nt (.block id a) Q tm s:=by
 intro c hc act w hh
 obtain⟨x,rfl,h1⟩:=jr hc
 refine wp_block (wp_mono (h x h1 act w hh) fun e act w hp=> ?_)
 obtain⟨bm,s',hq,jt⟩:=hp
 cases e with
 | exit i=>
  simp only [lu]at hq
  simp only [Exit.inBlock]
  split at hq
  ·rename_i h;rw [if_pos h];exact⟨bm,s',hq,jt⟩
  ·rename_i h;rw [if_neg h];exact⟨bm,s',hq,jt⟩
 | normal=>exact⟨bm,s',hq,jt⟩
 | goto l=>exact⟨bm,s',hq,jt⟩
 | ret=>exact⟨bm,s',hq,jt⟩
 | panic ch=>exact⟨bm,s',hq,jt⟩
 | outgrown=>exact⟨bm,s',hq,jt⟩
def sL (P:Program) (c:Code) (Q:Exit→Act→World→Prop) (a:Act) (w:World):Prop:=
 ∀ (b:Frame) (k:List Item) (cs:List Frame),∃ e a' w',Q e a' w'∧Arrives P (lone (b.at a (.code c:: .inLoop c::k)) cs w) b k cs e a' w'
theorem sL.wp {c:Code} {Q:Exit→Act→World→Prop} {a:Act} {w:World} (h:sL P c Q a w):(Code.loop c).wp P Q a w:=fun b k cs=>
 let ⟨e,a',w',hq,kV⟩:=h b k cs
 ⟨e,a',w',hq, .of_steps (.one step_loop) kV⟩
theorem sL.once {c:Code} {Q:Exit→Act→World→Prop} {a:Act} {w:World} (h:c.wp P (Exit.then (sL P c Q) Q) a w):sL P c Q a w:=by
 intro b k cs
 obtain⟨e,a₁,w₁,hq,kV⟩:=h b (.inLoop c::k) cs
 cases e with
 | normal=>
  obtain⟨e₂,a₂,w₂,W7,RX⟩:=hq b k cs
  exact⟨e₂,a₂,w₂,W7, .of_steps (Steps.trans kV (.one step_inLoop)) RX⟩
 | exit id=>exact⟨_,a₁,w₁,hq, .pass (x:= .inLoop c) rfl (fun _ _=> .inl (by simp)) kV⟩
 | goto l=>exact⟨_,a₁,w₁,hq, .pass (x:= .inLoop c) rfl (fun _ _=> .inl (by simp)) kV⟩
 | ret=>exact⟨_,a₁,w₁,hq, .pass (x:= .inLoop c) rfl (fun _ _=> .inl (by simp)) kV⟩
 | panic ch=>exact⟨_,a₁,w₁,hq, .pass (x:= .inLoop c) rfl (fun _ _=> .inl (by simp)) kV⟩
 | outgrown=>exact⟨_,a₁,w₁,hq, .pass (x:= .inLoop c) rfl (fun _ _=> .inl (by simp)) kV⟩
def bq (P:Program) (B:fw) (nt:Nat) (ac:AC) (Q:Exit→Tm→St→Prop) (tm:Tm) (s:St):Prop:=
 ∀ c,cC P nt c=some ac→∀ act w,Holds B nt tm s act w→sL P c (lY B nt Q) act w
theorem Sem.loop {a:AC} (h:bq P B nt a Q tm s):Sem P B nt (.loop a) Q tm s:=by
 intro c hc act w hh
 obtain⟨x,rfl,h1⟩:=jr hc
 exact(h x h1 act w hh).wp
theorem bq.once {a:AC} (h:Sem P B nt a (na (bq P B nt a Q) Q) tm s):bq P B nt a Q tm s:=by
 intro c hc act w hh
 refine sL.once (wp_mono (h c hc act w hh) fun e act w hp=> ?_)
 obtain⟨bm,s',hq,jt⟩:=hp
 cases e with
 | normal=>exact hq c hc act w jt
 | exit id=>exact⟨bm,s',hq,jt⟩
 | goto l=>exact⟨bm,s',hq,jt⟩
 | ret=>exact⟨bm,s',hq,jt⟩
 | panic ch=>exact⟨bm,s',hq,jt⟩
 | outgrown=>exact⟨bm,s',hq,jt⟩
def xo (P:Program) (c r:Code) (Q:Exit→Act→World→Prop) (a:Act) (w:World):Prop:=
 ∀ (b:Frame) (k:List Item) (cs:List Frame),∃ e a' w',Q e a' w'∧Arrives P (lone (b.at a (.code r:: .inScope c::k)) cs w) b k cs e a' w'
def adJ (P:Program) (c:Code) (Q:Exit→Act→World→Prop):Exit→Act→World→Prop
 | .goto l,a,w=>∃ rest,findLabel c l=some rest∧xo P c rest Q a w
 | e,a,w=>Q e a w
theorem xo.wp {c:Code} {Q:Exit→Act→World→Prop} {a:Act} {w:World} (h:xo P c c Q a w):(Code.scope c).wp P Q a w:=fun b k cs=>
 let ⟨e,a',w',hq,kV⟩:=h b k cs
 ⟨e,a',w',hq, .of_steps (.one step_scope) kV⟩
def Ey:AC→Nat→Option AC
 | .seq a b,l=>
  match Ey a l with
  | some r=>some (.seq r b)
  | none=>Ey b l
 | .label l',l=>if l'==l then some .skip else none
 | _,_=>none
def Ez (P:Program) (B:fw) (nt:Nat) (ac r:AC) (Q:Exit→Tm→St→Prop) (tm:Tm) (s:St):Prop:=
 ∀ c rest,cC P nt c=some ac→cC P nt rest=some r→∀ act w,Holds B nt tm s act w→xo P c rest (lY B nt Q) act w
def EA (P:Program) (B:fw) (nt:Nat) (ac:AC) (Q:Exit→Tm→St→Prop):Exit→Tm→St→Prop
 | .goto l,tm,s=>∃ r,Ey ac l=some r∧Ez P B nt ac r Q tm s
 | e,tm,s=>Q e tm s
theorem Sem.scope {a:AC} (h:Ez P B nt a a Q tm s):Sem P B nt (.scope a) Q tm s:=by
 intro c hc act w hh
 obtain⟨x,rfl,h1⟩:=jr hc
 exact(h x x h1 h1 act w hh).wp
def Tag.fg (m:Nat):Tag→Tag
 | .tok t y=>if t<m then .tok t y else .shared
 | g=>g
mutual
def D.fg (n m:Nat):D→D
 | .ptr o off=>if o<n then .ptr o off else .junk
 | .dc row off=> .dc (D.fA n m row) off
 | .slice g z rows=> .slice (g.fg m) z (D.ie n m rows)
 | .agg cs=> .agg (D.fA n m cs)
 | .tuple ds=> .tuple (D.fA n m ds)
 | .junk=> .junk
 | .int k x=> .int k x
 | .bool b=> .bool b
 | .str l=> .str l
 | .ei=> .ei
 | .val v=> .val v
 | .eo T o=>if o<n then .eo T o else .junk
 | .fi f cs=> .fi f (D.fA n m cs)
 | .ff o=>if o<n then .ff o else .junk
def D.fA (n m:Nat):List D→List D
 | []=> []
 | d::r=>D.fg n m d::D.fA n m r
def D.ie (n m:Nat):List (List D)→List (List D)
 | []=> []
 | d::r=>D.fA n m d::D.ie n m r
end
theorem kI (n m:Nat) : ∀ l,D.fA n m l=l.map (D.fg n m)
 | []=>by simp [D.fA]
 | d::r=>by simp [D.fA,kI n m r]
theorem Hd (n m:Nat) : ∀ l,D.ie n m l=l.map (D.fA n m)
 | []=>by simp [D.ie]
 | d::r=>by simp [D.ie,Hd n m r]
def St.cut (s:St) (n m:Nat):St:=⟨(s.av.take n).map (D.fA n m),s.aw.take m⟩
def Tm.fg (n m:Nat) (tm:Tm):Tm:=tm.map fun p=>(p.1,p.2.fg n m)
def Tm.keep (ks:List Nat) (tm:Tm):Tm:=tm.filter fun p=>ks.contains p.1
theorem mz (s:St) (n m:Nat):(s.cut n m).av.length=min n s.av.length:=by simp [St.cut]
theorem fI.fg {M:Map} {g:Tag} {z len cap:Nat} {base:Option (Nat×Nat)} (n m:Nat) (h:fI M s g z len base cap):fI M (s.cut n m) (g.fg m) z len base cap:=by
 cases g with
 | full=>exact h
 | shared=>exact h
 | tok t y=>
  simp only [Tag.fg]
  split
  ·rename_i ht
   obtain⟨h1,h2⟩:=h
   refine⟨by simp [St.cut];omega,fun k hk=>h2 k ?_⟩
   simpa [St.cut,List.getElem?_take_of_lt ht]using hk
  ·trivial
theorem RD.fg {M:Map} {d:D} {v:Value} (n m:Nat) (h:RD M s d v):RD M (s.cut n m) (d.fg n m) v:=by
 induction h with
 | junk v=>simp only [D.fg];exact .junk v
 | int k x=>simp only [D.fg];exact .int k x
 | bool b=>simp only [D.fg];exact .bool b
 | str l=>simp only [D.fg];exact .str l
 | ei=>simp only [D.fg];exact .ei
 | val v hv=>simp only [D.fg];exact .val v hv
 | eo T o v h ht hv=>
  simp only [D.fg]
  split
  ·exact .eo T o v (by rw [mz];omega) ht hv
  ·exact .junk _
 | ff o h hm=>
  simp only [D.fg]
  split
  ·exact .ff o (by rw [mz];omega) hm
  ·exact .junk _
 | fi f ds vs hl _ ih=>
  simp only [D.fg,kI]
  refine .fi f _ vs (by simpa using hl) (fun i d v e1 e2=> ?_)
  simp only [List.getElem?_map,Option.map_eq_some_iff]at e1
  obtain⟨d',e1,rfl⟩:=e1
  exact ih i d' v e1 e2
 | ptr o off h hm=>
  simp only [D.fg]
  split
  ·exact .ptr o off (by rw [mz];omega) hm
  ·exact .junk _
 | dc row off b k h1 h2 ih=>
  simp only [D.fg,kI]
  refine .dc _ off b k (fun i d e=> ?_) (fun i d u e eu=> ?_)
  ·simp only [List.getElem?_map,Option.map_eq_some_iff]at e
   obtain⟨d',e,rfl⟩:=e
   exact h1 i d' e
  ·simp only [List.getElem?_map,Option.map_eq_some_iff]at e
   obtain⟨d',e,rfl⟩:=e
   exact ih i d' u e eu
 | gA g z cap hc ht=>simp only [D.fg,D.ie];exact .gA _ z cap hc (ht.fg n m)
 | km z a cap=>simp only [D.fg,D.ie,Tag.fg];exact .km z a cap
 | slice g z rows b k cap hl hs h1 h2 ht ih=>
  simp only [D.fg,Hd]
  have hlen:(rows.map (D.fA n m)).length=rows.length:=by simp
  have key:=RD.slice (M:=M) (s:=s.cut n m) (g.fg m) z (rows.map (D.fA n m)) b k cap (by rw [hlen];exact hl) (fun row hr=>by
   obtain⟨kU,h',rfl⟩:=List.mem_map.1 hr
   rw [kI,List.length_map];exact hs kU h')
   (fun i row j d e1 e2=>by
    simp only [List.getElem?_map,Option.map_eq_some_iff]at e1
    obtain⟨kU,e1,rfl⟩:=e1
    rw [kI]at e2
    simp only [List.getElem?_map,Option.map_eq_some_iff]at e2
    obtain⟨d',e2,rfl⟩:=e2
    exact h1 i kU j d' e1 e2)
   (fun i row j d u e1 e2 eu=>by
    simp only [List.getElem?_map,Option.map_eq_some_iff]at e1
    obtain⟨kU,e1,rfl⟩:=e1
    rw [kI]at e2
    simp only [List.getElem?_map,Option.map_eq_some_iff]at e2
    obtain⟨d',e2,rfl⟩:=e2
    exact ih i kU j d' u e1 e2 eu)
   (by rw [hlen];exact ht.fg n m)
  rw [hlen]at key
  exact key
 | agg cells vs hl h1 _ ih=>
  simp only [D.fg,kI]
  refine .agg _ vs (by simpa using hl) h1 (fun i d v e1 e2=> ?_)
  simp only [List.getElem?_map,Option.map_eq_some_iff]at e1
  obtain⟨d',e1,rfl⟩:=e1
  exact ih i d' v e1 e2
 | tuple ds vs hl _ ih=>
  simp only [D.fg,kI]
  refine .tuple _ vs (by simpa using hl) (fun i d v e1 e2=> ?_)
  simp only [List.getElem?_map,Option.map_eq_some_iff]at e1
  obtain⟨d',e1,rfl⟩:=e1
  exact ih i d' v e1 e2
theorem yx {t k n m:Nat} (h:(s.cut n m).aw[t]? = some (some k)):s.aw[t]? = some (some k):=by
 simp only [St.cut,List.getElem?_take]at h
 split at h
 ·exact h
 ·cases h
theorem qd {t n m:Nat} (h:(s.cut n m).live t):s.live t:=by
 obtain⟨k,hk⟩:=h
 exact⟨k,yx hk⟩
theorem Rel.cut {M:Map} {w:World} (n m:Nat) (r:Rel M s w):Rel M (s.cut n m) w:=by
 have hD : ∀ o,o<(s.cut n m).av.length→o<s.av.length:=fun o h=>by rw [mz]at h;omega
 refine⟨r.comm,fun o ds e=> ?_,fun o ho=>r.iO o (hD o ho),fun o o' h h'=>r.inj o o' (hD o h) (hD o' h'),fun t k e=>r.tok t k (yx e),
  fun t b c z o hl e ho=>r.dW t b c z o (qd hl) e (hD o ho),fun t t' b c z c' z' h h' e e'=>r.eW t t' b c z c' z' (qd h) (qd h') e e'⟩
 simp only [St.cut,List.getElem?_map,Option.map_eq_some_iff,List.getElem?_take]at e
 obtain⟨kZ,e,rfl⟩:=e
 split at e
 ·obtain⟨vs,T,h1,h2,h3,h4⟩:=r.obj o kZ e
  refine⟨vs,T,h1,by rw [kI];simpa using h2,h3,fun i d v e1 e2=> ?_⟩
  rw [kI]at e1
  simp only [List.getElem?_map,Option.map_eq_some_iff]at e1
  obtain⟨d',e1,rfl⟩:=e1
  exact(h4 i d' v e1 e2).fg n m
 ·cases e
theorem Ext.cut {M0 M:Map} {s0:St} {w0 w:World} {n m:Nat} (e:Ext M0 s0 w0 M s w) (hn:s0.av.length≤n) (hm:s0.aw.length≤m):Ext M0 s0 w0 M (s.cut n m) w:=by
 have hD : ∀ o,o<(s.cut n m).av.length→o<s.av.length:=fun o h=>by rw [mz]at h;omega
 refine⟨⟨e.le.G,by rw [mz];have:=e.le.n;omega,e.le.loc,by simp [St.cut];have:=e.le.t;omega,fun t k h1 h2=>e.le.tk t k h1 (yx h2)⟩,e.kept,fun o h1 h2=>e.mT o h1 (hD o h2),fun t b c z h=>e.mU t b c z (qd h),e.o4,e.size,e.os,e.tape,e.output⟩
end
end Go.Abs

/-! Call -/

namespace Go.Abs
def k9:Nat→List D→Tm
 | _,[]=> []
 | n,d::r=>(n,d)::k9 (n+1) r
def az:List (Nat×Option (Bool×Nat))→Tm→St→Option (List D)
 | [],_,_=>some []
 | (t,none)::r,tm,s=>match az r tm s with | some l=>some (tm.get t::l) | none=>none
 | (t,some (agg,size))::r,tm,s=>
  match tm.get t with
  | .ptr o off=>
   match s.av[o]? with
   | some cs=>match part cs off agg size,az r tm s with | some d,some l=>some (d::l) | _,_=>none
   | none=>none
  | _=>none
def aB:List D→D
 | [d]=>d
 | l=> .tuple l
def Uo (B:fw) (res:List (Nat×Option (Bool×Nat))) (Q:D→St→Prop):Exit→Tm→St→Prop
 | .normal,tm,s | .ret,tm,s=>∃ l,az res tm s=some l∧∃ n m,B.s.av.length≤n∧B.s.aw.length≤m∧Q ((aB l).fg n m) (s.cut n m)
 | _,_,_=>False
section
variable {P:Program} {M:Map} {s:St} {w:World}
theorem zt : ∀ (l:List D) (n t:Nat),(k9 n l).get t=if n≤t then(l[t - n]?).getD .junk else .junk
 | [],n,t=>by simp [k9,Tm.get]
 | d::r,n,t=>by
  simp only [k9,Tm.get,zt r (n+1) t]
  by_cases h:n=t
  ·subst h;simp
  ·rw [if_neg h]
   by_cases h2:n+1≤t
   ·rw [if_pos h2,if_pos (by omega),show t - n=(t - (n+1))+1 by omega];simp
   ·rw [if_neg h2,if_neg (by omega)]
def uw (tmps:Array Value):ResultVar→Go.Sem Value
 | .tmp t=>pure (tmps.getD t Go.undef)
 | .cell a t=>do loadVar t (← asAddr (tmps.getD a Go.undef))
theorem wu (r:Rel M s w) {tm:Tm} {tmps:Array Value} (ht:jo M s tm tmps) : ∀ {rs:List ResultVar} {res:List (Nat×Option (Bool×Nat))} {l:List D},wh P rs=some res→az res tm s=some l→
 ∃ vs:List Value,(rs.mapM (uw tmps)).run P w = .ok vs w∧vs.length=l.length∧
  ∀ (i:Nat) (d:D) (v:Value),l[i]? = some d→vs[i]? = some v→RD M s d v
 | [],res,l,hc,hl=>by cases hc;cases hl;exact⟨[],rfl,rfl,by simp⟩
 | .tmp t::rs,res,l,hc,hl=>by
  obtain⟨Up,h1,rfl⟩:=map_some (by simpa [wh]using hc)
  simp only [az]at hl
  split at hl
  ·rename_i l' lU
   cases hl
   obtain⟨vs,g1,g2,g3⟩:=wu r ht h1 lU
   refine⟨tmps.getD t Go.undef::vs, ?_,by simp [g2],fun i d v e1 e2=> ?_⟩
   ·rw [List.mapM_cons]
    simp only [uw,Go.Sem.run_bind,Go.Sem.run_pure,Result.andThen_ok,g1]
   ·cases i with
    | zero=>simp only [List.getElem?_cons_zero,Option.some.injEq]at e1 e2;subst e1;subst e2;exact ht t
    | succ i=>exact g3 i d v (by simpa using e1) (by simpa using e2)
  ·cases hl
 | .cell a t::rs,res,l,hc,hl=>by
  simp only [wh]at hc
  split at hc
  ·rename_i g i Up h1 h2 h3
   cases hc
   simp only [az]at hl
   split at hl
   ·rename_i o off ho
    split at hl
    ·rename_i cs nS
     split at hl
     ·rename_i d l' hd lU
      cases hl
      obtain⟨vs,g1,g2,g3⟩:=wu r ht h3 lU
      have hv:=ht a
      rw [ho]at hv
      have hk:=hv.ud
      obtain⟨hv,_⟩:=hv.nZ
      have RY : ∃ v,(loadVar t ⟨M.mu o,off,none⟩).run P w = .ok v w∧RD M s d v:=by
       obtain⟨ew,T,hh,dC,⟨iP,_⟩,wo⟩:=r.obj o cs nS
       replace hh:=hh.cells hk
       let n:=if g then i.size else 1
       have gY:off+n≤ew.size:=by
        rcases oF hd with ⟨rfl,hq,_⟩ | ⟨rfl,hq⟩
        ·simp [n];omega
        ·have:=(List.getElem?_eq_some_iff.1 hq).1;simp [n];omega
       have hlen:((ew.toList.drop off).take n).length=n:=by simp;omega
       have hJ : ∀ (j:Nat) (u:Value),((ew.toList.drop off).take n)[j]? = some u→ew[off+j]? = some u:=by
        intro j u h
        rw [List.getElem?_take]at h
        split at h
        ·rw [List.getElem?_drop]at h;simpa using h
        ·cases h
       refine⟨_,wi (w:=w) P h2 h1 (M.mu o) off ((ew.toList.drop off).take n) hlen (fun j u h=>by rw [iC hh];exact hJ j u h), ?_⟩
       exact pK hd _ hlen (fun _ u hu=>iP u (Array.mem_toList_iff.1 (List.mem_of_mem_drop (List.mem_of_mem_take hu)))) (fun j d u e1 e2=>wo _ d u e1 (hJ j u e2))
      obtain⟨v,W8,W9⟩:=RY
      refine⟨v::vs, ?_,by simp [g2],fun i d' v' e1 e2=> ?_⟩
      ·rw [List.mapM_cons]
       have iP:(uw tmps (.cell a t)).run P w = .ok v w:=by
        simp only [uw,Go.Sem.run_bind,hv,asAddr,Go.Sem.run_pure,Result.andThen_ok,W8]
       simp only [Go.Sem.run_bind,iP,Result.andThen_ok,g1,Go.Sem.run_pure]
      ·cases i with
       | zero=>simp only [List.getElem?_cons_zero,Option.some.injEq]at e1 e2;subst e1;subst e2;exact W9
       | succ i=>exact g3 i d' v' (by simpa using e1) (by simpa using e2)
     ·cases hl
    ·cases hl
   ·cases hl
  ·cases hc
theorem Av (r:Rel M s w) {tm:Tm} {tmps:Array Value} (ht:jo M s tm tmps) {fn:Func} {res:List (Nat×Option (Bool×Nat))} {l:List D} (hc:wh P fn.results.toList=some res) (hl:az res tm s=some l) :
 ∃ v,(results fn tmps).run P w = .ok v w∧RD M s (aB l) v:=by
 obtain⟨vs,g1,g2,g3⟩:=wu (P:=P) r ht hc hl
 have dd:(results fn tmps).run P w = .ok (if h:vs.toArray.size=1 then vs.toArray[0]else .tuple vs.toArray) w:=by
  have e:results fn tmps=(do let vs ← fn.results.mapM (uw tmps);pure (if h:vs.size=1 then vs[0]else .tuple vs)):=by
   unfold results
   rfl
  rw [e,Array.mapM_eq_mapM_toList]
  simp only [Go.Sem.run_bind,Go.Sem.run_map,g1,Result.andThen_ok,Go.Sem.run_pure]
 refine⟨_,dd, ?_⟩
 clear dd g1 hl
 match l,vs,g2,g3 with
 | [],[],_,_=>exact .tuple [] #[] rfl (by simp)
 | [d],[v],_,g3=>exact g3 0 d v rfl rfl
 | d::d'::l,v::v'::vs,h,g3=>
  have : ¬ ((v::v'::vs).toArray.size=1):=by simp
  rw [dif_neg this]
  exact .tuple _ _ (by simpa using h.symm) (fun i d v e1 e2=>g3 i d v e1 (by simpa using e2))
theorem dJ.intro {f:FuncId} {fn:Func} {af:AF} {args:List D} {Q:D→St→Prop} (hf:P.funcs[f]? = some fn) (hc:cF P fn=some af) (hl:args.length≤af.ntmps)
 (h : ∀ B:fw,B.s=s→Sem P B af.ntmps af.body (Uo B af.results Q) (k9 0 args) s):dJ P f args s Q:=by
 intro M w eZ r iY dC ha
 unfold cF at hc
 split at hc
 ·rename_i c EB
  split at hc
  ·rename_i b res h1 h2
   cases hc
   simp only at h hl
   refine calls_of_wp hf EB ?_
   have hs:=h ⟨M,s,w,iY,fun b o v e=>r.yp e⟩ rfl c h1 {tmps:=eZ++Array.replicate (fn.ntmps - eZ.size) Go.undef,defers:= []} w
    ⟨M,Ext.refl M s w,r,fun t=>by
     rw [zt]
     simp only [Nat.zero_le,if_true,Nat.sub_zero]
     cases hd:args[t]? with
     | none=>exact .junk _
     | some d=>
      have hD:=(List.getElem?_eq_some_iff.1 hd).1
      have hv:eZ[t]? = some eZ[t]:=Array.getElem?_eq_getElem (by omega)
      have:(eZ++Array.replicate (fn.ntmps - eZ.size) Go.undef).getD t Go.undef=eZ[t]:=by
       rw [Array.getD_eq_getD_getElem?,Array.getElem?_append_left (by omega),hv];rfl
      rw [this]
      exact ha t d _ hd hv,by simp;omega,rfl⟩
   refine wp_mono hs fun e act w' hp=> ?_
   obtain⟨tm,s',hq,M',Uq,r',ht,_,Xa⟩:=hp
   have fin:(∃ l,az res tm s'=some l∧∃ n m,s.av.length≤n∧s.aw.length≤m∧Q ((aB l).fg n m) (s'.cut n m))→act.defers = []∧∃ v,(results fn act.tmps).run P w' = .ok v w'∧
    ∃ M' d v' s',Ending.returned v = .returned v'∧Q d s'∧Ext M s w M' s' w'∧Rel M' s' w'∧RD M' s' d v':=by
    rintro⟨l,hl,n,m,hn,hm,hQ⟩
    obtain⟨v,dd,mc⟩:=Av (P:=P) r' ht h2 hl
    exact⟨Xa,v,dd,M',_,v,_,rfl,hQ,Uq.cut hn hm,r'.cut n m,mc.fg n m⟩
   cases e with
   | normal=>exact fin hq
   | ret=>exact fin hq
   | exit id=>exact hq.elim
   | goto l=>exact hq.elim
   | panic ch=>exact hq.elim
   | outgrown=>exact hq.elim
  ·cases hc
 ·cases hc
end
end Go.Abs

/-! Frame -/

namespace Go.Abs
def Tag.ok (m:Nat):Tag→Bool
 | .tok t _=>decide (t<m)
 | _=>true
def Tag.db (ts:List Nat):Tag→Tag
 | .tok t y=>match ts[t]? with | some t'=> .tok t' y | none=> .shared
 | g=>g
mutual
def D.ok (n m:Nat):D→Bool
 | .ptr o _=>decide (o<n)
 | .dc row _=>D.bI n m row
 | .slice g _ rows=>g.ok m && D.ig n m rows
 | .agg cs=>D.bI n m cs
 | .tuple ds=>D.bI n m ds
 | .eo _ o=>decide (o<n)
 | .fi _ cs=>D.bI n m cs
 | .ff o=>decide (o<n)
 | _=>true
def D.bI (n m:Nat):List D→Bool
 | []=>true
 | d::r=>D.ok n m d && D.bI n m r
def D.ig (n m:Nat):List (List D)→Bool
 | []=>true
 | d::r=>D.bI n m d && D.ig n m r
end
mutual
def D.db (os ts:List Nat):D→D
 | .ptr o off=>match os[o]? with | some o'=> .ptr o' off | none=> .junk
 | .dc row off=> .dc (D.fm os ts row) off
 | .slice g z rows=> .slice (g.db ts) z (D.o7 os ts rows)
 | .agg cs=> .agg (D.fm os ts cs)
 | .tuple ds=> .tuple (D.fm os ts ds)
 | .junk=> .junk
 | .int k x=> .int k x
 | .bool b=> .bool b
 | .str l=> .str l
 | .ei=> .ei
 | .val v=> .val v
 | .eo T o=>match os[o]? with | some o'=> .eo T o' | none=> .junk
 | .fi f cs=> .fi f (D.fm os ts cs)
 | .ff o=>match os[o]? with | some o'=> .ff o' | none=> .junk
def D.fm (os ts:List Nat):List D→List D
 | []=> []
 | d::r=>D.db os ts d::D.fm os ts r
def D.o7 (os ts:List Nat):List (List D)→List (List D)
 | []=> []
 | d::r=>D.fm os ts d::D.o7 os ts r
end
theorem eI (os ts:List Nat) : ∀ l,D.fm os ts l=l.map (D.db os ts)
 | []=>by simp [D.fm]
 | d::r=>by simp [D.fm,eI os ts r]
theorem vm (os ts:List Nat) : ∀ l,D.o7 os ts l=l.map (D.fm os ts)
 | []=>by simp [D.o7]
 | d::r=>by simp [D.o7,vm os ts r]
theorem Bu (n m:Nat) : ∀ l,D.bI n m l=l.all (D.ok n m)
 | []=>by simp [D.bI]
 | d::r=>by simp [D.bI,Bu n m r]
theorem Bv (n m:Nat) : ∀ l,D.ig n m l=l.all (D.bI n m)
 | []=>by simp [D.ig]
 | d::r=>by simp [D.ig,Bv n m r]
theorem qe {n m:Nat} {l:List D} (h:D.bI n m l=true) {i:Nat} {d:D} (e:l[i]? = some d):D.ok n m d=true:=by
 rw [Bu]at h;exact List.all_eq_true.1 h d (List.mem_of_getElem? e)
theorem Nf {n m:Nat} {l:List (List D)} (h:D.ig n m l=true) {i:Nat} {d:List D} (e:l[i]? = some d):D.bI n m d=true:=by
 rw [Bv]at h;exact List.all_eq_true.1 h d (List.mem_of_getElem? e)
section
variable {M M0:Map} {s s0:St} {os ts:List Nat}
theorem fI.AV (ic : ∀ (i:Nat) t,ts[i]? = some t→M0.be i=M.be t) (ht : ∀ (i t:Nat),ts[i]? = some t→s0.aw[i]? = s.aw[t]?) (hlen:s0.aw.length=ts.length) {g:Tag} {z len cap:Nat} {base:Option (Nat×Nat)} (zu:g.ok ts.length=true) (h:fI M s (g.db ts) z len base cap):fI M0 s0 g z len base cap:=by
 cases g with
 | full=>exact h
 | shared=>exact h
 | tok t y=>
  have hD:t<ts.length:=by simpa [Tag.ok]using zu
  have e:ts[t]? = some ts[t]:=List.getElem?_eq_getElem hD
  simp only [Tag.db,e]at h
  obtain⟨h1,h2⟩:=h
  refine⟨by omega,fun n hn=> ?_⟩
  rw [ht t _ e]at hn
  rw [ic t _ e]
  exact h2 n hn
theorem RD.AV (hG:M0.G=M.G) (ux : ∀ (i:Nat) o,os[i]? = some o→M0.loc i=M.loc o) (lV:s0.av.length=os.length)
 (ic : ∀ (i:Nat) t,ts[i]? = some t→M0.be i=M.be t) (ht : ∀ (i t:Nat),ts[i]? = some t→s0.aw[i]? = s.aw[t]?) (hlen:s0.aw.length=ts.length) {d:D} {v:Value} (h:RD M s d v) :
 ∀ d0:D,d0.db os ts=d→d0.ok os.length ts.length=true→RD M0 s0 d0 v:=by
 have mI : ∀ (i:Nat) o,os[i]? = some o→M0.mu i=M.mu o:=fun i o h=>congrArg Prod.fst (ux i o h)
 have tag:=fun {g z len cap base}=>@fI.AV M M0 s s0 ts ic ht hlen g z len cap base
 induction h with
 | junk v=>
  intro d0 e ok
  cases d0 <;> simp only [D.db]at e <;> try (cases e;done)
  ·exact .junk v
  ·rename_i o off
   have hD:o<os.length:=by simpa [D.ok]using ok
   rw [List.getElem?_eq_getElem hD]at e;cases e
  ·rename_i T o
   have hD:o<os.length:=by simpa [D.ok]using ok
   rw [List.getElem?_eq_getElem hD]at e;cases e
  ·rename_i o
   have hD:o<os.length:=by simpa [D.ok]using ok
   rw [List.getElem?_eq_getElem hD]at e;cases e
 | val v hv=>intro d0 e ok;cases d0 <;> simp only [D.db]at e <;> first | (cases e;exact .val _ hv) | (split at e <;> cases e) | cases e
 | eo T o v ho ht hv=>
  intro d0 e ok
  cases d0 <;> simp only [D.db]at e <;> first | (split at e <;> cases e;done) | skip
  all_goals try (cases e;done)
  rename_i T0 o0
  have hD:o0<os.length:=by simpa [D.ok]using ok
  rw [List.getElem?_eq_getElem hD]at e
  cases e
  have hl:=ux o0 _ (List.getElem?_eq_getElem hD)
  exact .eo _ o0 v (by omega) ((congrArg (fun x=>x.2.ty?) hl).trans ht) (by rw [mI o0 _ (List.getElem?_eq_getElem hD)];exact hv)
 | int k x=>intro d0 e ok;cases d0 <;> simp only [D.db]at e <;> first | (cases e;exact .int _ _) | (split at e <;> cases e) | cases e
 | bool b=>intro d0 e ok;cases d0 <;> simp only [D.db]at e <;> first | (cases e;exact .bool _) | (split at e <;> cases e) | cases e
 | str l=>intro d0 e ok;cases d0 <;> simp only [D.db]at e <;> first | (cases e;exact .str _) | (split at e <;> cases e) | cases e
 | ei=>intro d0 e ok;cases d0 <;> simp only [D.db]at e <;> first | (cases e;exact .ei) | (split at e <;> cases e) | cases e
 | ff o ho hm=>
  intro d0 e ok
  cases d0 <;> simp only [D.db]at e <;> first | (cases e;done) | skip
  all_goals try (split at e <;> cases e;done)
  rename_i o0
  have hD:o0<os.length:=by simpa [D.ok]using ok
  rw [List.getElem?_eq_getElem hD]at e
  cases e
  rw [← mI o0 _ (List.getElem?_eq_getElem hD)]
  exact RD.ff (s:=s0) o0 (by omega) ((congrArg Prod.snd (ux o0 _ (List.getElem?_eq_getElem hD))).trans hm)
 | fi f ds vs hl _ ih=>
  intro d0 e ok
  cases d0 <;> simp only [D.db]at e <;> first | (split at e <;> cases e;done) | skip
  all_goals try (cases e;done)
  rename_i f0 Hf
  simp only [D.fi.injEq]at e
  obtain⟨rfl,rfl⟩:=e
  simp only [D.ok]at ok
  rw [eI]at hl ih
  refine .fi _ Hf vs (by simpa using hl) (fun i d v e1 e2=>ih i _ v (by rw [List.getElem?_map,e1];rfl) e2 d rfl (qe ok e1))
 | ptr o off ho hm=>
  intro d0 e ok
  cases d0 <;> simp only [D.db]at e <;> first | (cases e;done) | skip
  all_goals try (split at e <;> cases e;done)
  rename_i o0 O8
  have hD:o0<os.length:=by simpa [D.ok]using ok
  rw [List.getElem?_eq_getElem hD]at e
  cases e
  rw [← mI o0 _ (List.getElem?_eq_getElem hD)]
  exact RD.ptr (s:=s0) o0 _ (by omega) (by rw [show M0.ob o0=_ from congrArg Prod.snd (ux o0 _ (List.getElem?_eq_getElem hD))];exact hm)
 | dc row off b k h1 h2 ih=>
  intro d0 e ok
  cases d0 <;> simp only [D.db]at e <;> first | (split at e <;> cases e;done) | skip
  all_goals try (cases e;done)
  rename_i Ur O8
  simp only [D.dc.injEq]at e
  obtain⟨rfl,rfl⟩:=e
  simp only [D.ok]at ok
  rw [eI]at h1 ih
  refine .dc Ur O8 b k (fun i d e=> ?_) (fun i d u e eu=> ?_)
  ·rw [hG];exact h1 i _ (by rw [List.getElem?_map,e];rfl)
  ·rw [hG]at eu;exact ih i _ u (by rw [List.getElem?_map,e];rfl) eu d rfl (qe ok e)
 | gA g z cap hc lW=>
  intro d0 e ok
  cases d0 <;> simp only [D.db]at e <;> first | (split at e <;> cases e;done) | skip
  all_goals try (cases e;done)
  rename_i g0 z0 pN
  simp only [D.slice.injEq]at e
  obtain⟨rfl,rfl,e⟩:=e
  have:pN = []:=by cases pN <;> simp [D.o7]at e;rfl
  subst this
  simp only [D.ok,Bool.and_eq_true]at ok
  exact .gA g0 z0 cap hc (tag ok.1 lW)
 | km z a cap=>
  intro d0 e ok
  cases d0 <;> simp only [D.db]at e <;> first | (split at e <;> cases e;done) | skip
  all_goals try (cases e;done)
  rename_i g0 z0 pN
  simp only [D.slice.injEq]at e
  obtain⟨hg,rfl,e⟩:=e
  have:pN = []:=by cases pN <;> simp [D.o7]at e;rfl
  subst this
  simp only [D.ok,Bool.and_eq_true]at ok
  have:g0 = .shared:=by
   cases g0 with
   | tok t y=>
    have ht:t<ts.length:=by simpa [Tag.ok]using ok.1
    simp [Tag.db,ht]at hg
   | shared=>rfl
   | _=>simp [Tag.db]at hg
  subst this
  exact .km _ a cap
 | slice g z rows b k cap hl hs h1 h2 lW ih=>
  intro d0 e ok
  cases d0 <;> simp only [D.db]at e <;> first | (split at e <;> cases e;done) | skip
  all_goals try (cases e;done)
  rename_i g0 z0 pN
  simp only [D.slice.injEq]at e
  obtain⟨rfl,rfl,rfl⟩:=e
  simp only [D.ok,Bool.and_eq_true]at ok
  rw [vm]at hl hs h1 ih lW
  simp only [vm,List.length_map]at hl lW ⊢
  have dj : ∀ (i:Nat) (row:List D),pN[i]? = some row→(pN.map (D.fm os ts))[i]? = some (D.fm os ts row):=fun i row e=>by rw [List.getElem?_map,e];rfl
  have qC : ∀ (row:List D) (j:Nat) (d:D),row[j]? = some d→(D.fm os ts row)[j]? = some (D.db os ts d):=fun row j d e=>by rw [eI,List.getElem?_map,e];rfl
  refine .slice g0 z0 pN b k cap hl (fun row hr=> ?_) (fun i row j d e1 e2=> ?_) (fun i row j d u e1 e2 eu=> ?_) (tag ok.1 lW)
  ·have:=hs (D.fm os ts row) (List.mem_map.2 ⟨row,hr,rfl⟩)
   rwa [eI,List.length_map]at this
  ·rw [hG];exact h1 i _ j _ (dj i row e1) (qC row j d e2)
  ·rw [hG]at eu;exact ih i _ j _ u (dj i row e1) (qC row j d e2) eu d rfl (qe (Nf ok.2 e1) e2)
 | agg cells vs hl h1 _ ih=>
  intro d0 e ok
  cases d0 <;> simp only [D.db]at e <;> first | (split at e <;> cases e;done) | skip
  all_goals try (cases e;done)
  rename_i Hf
  simp only [D.agg.injEq]at e
  subst e
  simp only [D.ok]at ok
  rw [eI]at hl ih
  refine .agg Hf vs (by simpa using hl) h1 (fun i d v e1 e2=>ih i _ v (by rw [List.getElem?_map,e1];rfl) e2 d rfl (qe ok e1))
 | tuple ds vs hl _ ih=>
  intro d0 e ok
  cases d0 <;> simp only [D.db]at e <;> first | (split at e <;> cases e;done) | skip
  all_goals try (cases e;done)
  rename_i Hf
  simp only [D.tuple.injEq]at e
  subst e
  simp only [D.ok]at ok
  rw [eI]at hl ih
  refine .tuple Hf vs (by simpa using hl) (fun i d v e1 e2=>ih i _ v (by rw [List.getElem?_map,e1];rfl) e2 d rfl (qe ok e1))
theorem RD.db (hG:M0.G=M.G) (ux : ∀ i,i<s0.av.length→∃ o,os[i]? = some o∧o<s.av.length∧M.loc o=M0.loc i)
 (ic : ∀ i,i<s0.aw.length→∃ t,ts[i]? = some t∧t<s.aw.length∧s.aw[t]? = s0.aw[i]? ∧M.be t=M0.be i) {d:D} {v:Value} (h:RD M0 s0 d v):RD M s (d.db os ts) v:=by
 have tag : ∀ {g:Tag} {z len cap:Nat} {base:Option (Nat×Nat)},fI M0 s0 g z len base cap→fI M s (g.db ts) z len base cap:=by
  intro g z len cap base h
  cases g with
  | full=>exact h
  | shared=>exact h
  | tok t y=>
   obtain⟨h1,h2⟩:=h
   obtain⟨t',e,hD,Xb,hb⟩:=ic t h1
   simp only [Tag.db,e]
   refine⟨hD,fun n hn=> ?_⟩
   rw [hb]
   exact h2 n (Xb ▸ hn)
 induction h with
 | junk v=>simp only [D.db];exact .junk v
 | int k x=>simp only [D.db];exact .int k x
 | bool b=>simp only [D.db];exact .bool b
 | str l=>simp only [D.db];exact .str l
 | ei=>simp only [D.db];exact .ei
 | ptr o off ho hk=>
  obtain⟨o',e,hD,hm⟩:=ux o ho
  simp only [D.db,e]
  have hb:M.ob o'=M0.ob o:=congrArg Prod.snd hm
  have hm:M.mu o'=M0.mu o:=congrArg Prod.fst hm
  rw [← hm]
  exact .ptr o' off hD (by rw [hb];exact hk)
 | ff o ho hk=>
  obtain⟨o',e,hD,hm⟩:=ux o ho
  simp only [D.db,e]
  have hb:M.ob o'=M0.ob o:=congrArg Prod.snd hm
  have hm:M.mu o'=M0.mu o:=congrArg Prod.fst hm
  rw [← hm]
  exact .ff o' hD (by rw [hb];exact hk)
 | fi f ds vs hl _ ih=>
  simp only [D.db,eI]
  refine .fi f _ vs (by simpa using hl) (fun i d v e1 e2=> ?_)
  simp only [List.getElem?_map,Option.map_eq_some_iff]at e1
  obtain⟨d',e1,rfl⟩:=e1
  exact ih i d' v e1 e2
 | val v hv=>simp only [D.db];exact .val v hv
 | eo T o v ho ht hv=>
  obtain⟨o',e,hD,hm⟩:=ux o ho
  simp only [D.db,e]
  have h1:M.mu o'=M0.mu o:=congrArg Prod.fst hm
  have h2:M.ty o'=M0.ty o:=congrArg (fun x=>x.2.ty?) hm
  exact .eo T o' v hD (by rw [h2];exact ht) (by rw [h1];exact hv)
 | dc row off b k h1 h2 ih=>
  simp only [D.db,eI]
  refine .dc _ off b k (fun i d e=> ?_) (fun i d u e eu=> ?_)
  ·simp only [List.getElem?_map,Option.map_eq_some_iff]at e
   obtain⟨d',e,rfl⟩:=e
   rw [← hG];exact h1 i d' e
  ·simp only [List.getElem?_map,Option.map_eq_some_iff]at e
   obtain⟨d',e,rfl⟩:=e
   rw [← hG]at eu;exact ih i d' u e eu
 | gA g z cap hc ht=>simp only [D.db,D.o7];exact .gA _ z cap hc (tag ht)
 | km z a cap=>simp only [D.db,D.o7,Tag.db];exact .km z a cap
 | slice g z rows b k cap hl hs h1 h2 ht ih=>
  simp only [D.db,vm]
  have hlen:(rows.map (D.fm os ts)).length=rows.length:=by simp
  have key:=RD.slice (M:=M) (s:=s) (g.db ts) z (rows.map (D.fm os ts)) b k cap (by rw [hlen];exact hl) (fun row hr=>by
   obtain⟨kU,h',rfl⟩:=List.mem_map.1 hr
   rw [eI,List.length_map];exact hs kU h')
   (fun i row j d e1 e2=>by
    simp only [List.getElem?_map,Option.map_eq_some_iff]at e1
    obtain⟨kU,e1,rfl⟩:=e1
    rw [eI]at e2
    simp only [List.getElem?_map,Option.map_eq_some_iff]at e2
    obtain⟨d',e2,rfl⟩:=e2
    rw [← hG];exact h1 i kU j d' e1 e2)
   (fun i row j d u e1 e2 eu=>by
    simp only [List.getElem?_map,Option.map_eq_some_iff]at e1
    obtain⟨kU,e1,rfl⟩:=e1
    rw [eI]at e2
    simp only [List.getElem?_map,Option.map_eq_some_iff]at e2
    obtain⟨d',e2,rfl⟩:=e2
    rw [← hG]at eu;exact ih i kU j d' u e1 e2 eu)
   (by rw [hlen];exact tag ht)
  rw [hlen]at key
  exact key
 | agg cells vs hl h1 _ ih=>
  simp only [D.db,eI]
  refine .agg _ vs (by simpa using hl) h1 (fun i d v e1 e2=> ?_)
  simp only [List.getElem?_map,Option.map_eq_some_iff]at e1
  obtain⟨d',e1,rfl⟩:=e1
  exact ih i d' v e1 e2
 | tuple ds vs hl _ ih=>
  simp only [D.db,eI]
  refine .tuple _ vs (by simpa using hl) (fun i d v e1 e2=> ?_)
  simp only [List.getElem?_map,Option.map_eq_some_iff]at e1
  obtain⟨d',e1,rfl⟩:=e1
  exact ih i d' v e1 e2
def iS {α:Type} : List Nat→List α→List α→List α
 | [],new,l=>l++new
 | _::_,[],l=>l
 | o::os,x::xs,l=>iS os xs (l.set o x)
def ji (os:List Nat) (n k:Nat):List Nat:=os++(List.range k).map (n + ·)
theorem rk {α:Type} : ∀ (os:List Nat) (xs l:List α),os.length≤xs.length→(iS os xs l).length=l.length+(xs.length - os.length)
 | [],xs,l,_=>by simp [iS]
 | o::os,[],l,h=>by simp at h
 | o::os,x::xs,l,h=>by
  simp only [iS]
  rw [rk os xs _ (by simpa using h)]
  simp
theorem wv {α:Type} : ∀ (os:List Nat) (xs l:List α),os.length≤xs.length→os.Nodup→(∀ o∈os,o<l.length)→
 (∀ (i:Nat) (o:Nat),os[i]? = some o→(iS os xs l)[o]? = xs[i]?)∧(∀ o,o<l.length→o∉os→(iS os xs l)[o]? = l[o]?)∧
 (∀ k,(iS os xs l)[l.length+k]? = xs[os.length+k]?)
 | [],xs,l,_,_,_=>by
  refine⟨by simp,fun o ho _=>by simp only [iS];rw [List.getElem?_append_left ho],fun k=>by simp only [iS];rw [List.getElem?_append_right (by omega)];simp⟩
 | o::os,[],l,h,_,_=>by simp at h
 | o::os,x::xs,l,h,hn,hD=>by
  simp only [List.nodup_cons]at hn
  have oK : ∀ q∈os,q<(l.set o x).length:=fun q hq=>by simpa using hD q (by simp [hq])
  obtain⟨h1,h2,h3⟩:=wv os xs (l.set o x) (by simpa using h) hn.2 oK
  have ho:o<l.length:=hD o (by simp)
  simp only [iS]
  refine⟨fun i q e=> ?_,fun q hq Tv=> ?_,fun k=> ?_⟩
  ·cases i with
   | zero=>
    simp only [List.getElem?_cons_zero,Option.some.injEq]at e
    subst e
    rw [h2 o (by simpa using ho) hn.1]
    simp [ho]
   | succ i=>simpa using h1 i q (by simpa using e)
  ·have Ma:q≠o:=fun e=>Tv (by simp [e])
   rw [h2 q (by simpa using hq) (fun h=>Tv (by simp [h])),List.getElem?_set_ne (Ne.symm Ma)]
  ·have:=h3 k
   simp only [List.length_set]at this
   rw [this]
   simp only [List.length_cons]
   rw [show os.length+1+k=(os.length+k)+1 by omega];simp
theorem vR (os:List Nat) (n k i:Nat):(ji os n k)[i]? = if i<os.length then os[i]? else if i<os.length+k then some (n+(i - os.length))else none:=by
 unfold ji
 split
 ·rename_i h;rw [List.getElem?_append_left h]
 ·rename_i h
  rw [List.getElem?_append_right (by omega)]
  split
  ·rename_i h2
   rw [List.getElem?_map,List.getElem?_range (by omega)];rfl
  ·rename_i h2
   rw [List.getElem?_eq_none]
   simp;omega
def posOf:List Nat→Nat→Option Nat
 | [],_=>none
 | x::r,o=>if x=o then some 0 else(posOf r o).map (· + 1)
theorem fJ : ∀ {l:List Nat} {o i:Nat},posOf l o=some i→l[i]? = some o
 | x::r,o,i,h=>by
  simp only [posOf]at h
  split at h
  ·rename_i e;cases h;simp [e]
  ·cases hp:posOf r o with
   | none=>rw [hp]at h;cases h
   | some j=>rw [hp]at h;cases h;simpa using fJ hp
theorem jv : ∀ {l:List Nat} {o i:Nat},l.Nodup→l[i]? = some o→posOf l o=some i
 | x::r,o,i,hn,h=>by
  simp only [List.nodup_cons]at hn
  simp only [posOf]
  cases i with
  | zero=>simp at h;simp [h]
  | succ i=>
   simp at h
   have:x≠o:=fun e=>hn.1 (by rw [e];exact List.mem_of_getElem? h)
   rw [if_neg this,jv hn.2 h];rfl
end
end Go.Abs

/-! Frame2 -/

namespace Go.Abs
theorem tp {l:List Nat} {n k:Nat} (h:l.Nodup) (hl : ∀ o∈l,o<n):(ji l n k).Nodup:=by
 unfold ji
 rw [List.nodup_append]
 refine⟨h, ?_,fun a ha b hb=> ?_⟩
 ·rw [List.nodup_iff_pairwise_ne,List.pairwise_map]
  exact List.Pairwise.imp (fun h=>by omega) (List.nodup_iff_pairwise_ne.1 List.nodup_range)
 ·obtain⟨c,hc,rfl⟩:=List.mem_map.1 hb
  have:=hl a ha
  omega
def gN (M:Map) (os ts:List Nat):Map:=⟨M.G,fun i=>M.loc (os.getD i 0),fun i=>M.be (ts.getD i 0)⟩
def sc (M M0:Map) (os ts:List Nat):Map:=
 ⟨M0.G,fun o=>match posOf os o with | some i=>M0.loc i | none=>M.loc o,fun t=>match posOf ts t with | some i=>M0.be i | none=>M.be t⟩
section
variable {P:Program} {M:Map} {s s0:St} {w:World} {os ts:List Nat}
theorem vn {l:List Nat} {i o:Nat} (h:l[i]? = some o):l.getD i 0=o:=by simp [List.getD,h]
theorem Rel.sub (r:Rel M s w) (zv:os.Nodup) (DK:ts.Nodup) (lV : ∀ o∈os,o<s.av.length)
 (ho:s0.av.length=os.length) (JJ : ∀ (i o:Nat) (ds:List D),os[i]? = some o→s0.av[i]? = some ds→s.av[o]? = some (D.fm os ts ds)∧D.bI os.length ts.length ds=true)
 (ht:s0.aw.length=ts.length) (o5 : ∀ (i t:Nat),ts[i]? = some t→s0.aw[i]? = s.aw[t]?):Rel (gN M os ts) s0 w:=by
 have nth : ∀ i,i<s0.av.length→∃ o,os[i]? = some o∧o<s.av.length:=fun i hi=>⟨os[i],List.getElem?_eq_getElem (by omega),lV _ (List.getElem_mem _)⟩
 have loc : ∀ (i:Nat) o,os[i]? = some o→(gN M os ts).loc i=M.loc o:=fun i o h=>by simp only [gN,vn h]
 have mu : ∀ (i:Nat) o,os[i]? = some o→(gN M os ts).mu i=M.mu o:=fun i o h=>congrArg Prod.fst (loc i o h)
 have be : ∀ (i:Nat) t,ts[i]? = some t→(gN M os ts).be i=M.be t:=fun i t h=>by simp only [gN,vn h]
 have Mb : ∀ t,s0.live t→∃ t',ts[t]? = some t'∧s.live t':=fun t ⟨n,hn⟩=>by
  have hD:=(List.getElem?_eq_some_iff.1 hn).1
  have e:ts[t]? = some ts[t]:=List.getElem?_eq_getElem (by omega)
  exact⟨_,e,n,by rw [← o5 t _ e];exact hn⟩
 refine⟨r.comm,fun i ds e=> ?_,fun i hi off=> ?_,fun i i' hi gj e=> ?_,fun t n e=> ?_,fun t b c z i hl e hi=> ?_,fun t t' b c z c' z' h h' e e'=> ?_⟩
 ·obtain⟨o,h1,_⟩:=nth i (List.getElem?_eq_some_iff.1 e).1
  obtain⟨h2,h3⟩:=JJ i o ds h1 e
  obtain⟨vs,T,g1,g2,g3,g4⟩:=r.obj o _ h2
  refine⟨vs,T,by rw [mu i o h1,show(gN M os ts).ob i=M.ob o from congrArg Prod.snd (loc i o h1)];exact g1,by rw [eI]at g2;simpa using g2,⟨g3.1,by rw [show(gN M os ts).ty i=M.ty o from congrArg (fun x=>x.2.ty?) (loc i o h1)];exact g3.2⟩,fun j d v e1 e2=> ?_⟩
  exact RD.AV (M:=M) (M0:=gN M os ts) (s:=s) rfl loc ho be o5 ht (g4 j (d.db os ts) v (by rw [eI,List.getElem?_map,e1];rfl) e2) d rfl (qe h3 e1)
 ·obtain⟨o,h1,h2⟩:=nth i hi
  rw [mu i o h1];exact r.iO o h2 off
 ·obtain⟨o,h1,h2⟩:=nth i hi
  obtain⟨o',nT,sd⟩:=nth i' gj
  rw [mu i o h1,mu i' o' nT]at e
  have:=r.inj o o' h2 sd e
  subst this
  have a:=jv zv h1
  have b:=jv zv nT
  rw [a]at b;cases b;rfl
 ·obtain⟨t',h1,h2⟩:=Mb t ⟨n,e⟩
  rw [be t t' h1]
  exact r.tok t' n (by rw [← o5 t t' h1];exact e)
 ·obtain⟨t',h1,h2⟩:=Mb t hl
  obtain⟨o,h3,h4⟩:=nth i hi
  rw [be t t' h1]at e
  rw [mu i o h3]
  exact r.dW t' b c z o h2 e h4
 ·obtain⟨q,h1,h2⟩:=Mb t h
  obtain⟨q',nT,sd⟩:=Mb t' h'
  rw [be t q h1]at e
  rw [be t' q' nT]at e'
  have:=r.eW q q' b c z c' z' h2 sd e e'
  subst this
  have a:=jv DK h1
  have b:=jv DK nT
  rw [a]at b;cases b;rfl
end
def St.back (s:St) (os ts:List Nat) (s':St):St:=
 ⟨iS os (s'.av.map (D.fm (ji os s.av.length (s'.av.length - os.length)) (ji ts s.aw.length (s'.aw.length - ts.length)))) s.av,iS ts s'.aw s.aw⟩
def D.back (s:St) (os ts:List Nat) (s':St) (d:D):D:=
 d.db (ji os s.av.length (s'.av.length - os.length)) (ji ts s.aw.length (s'.aw.length - ts.length))
theorem dJ.frame {P:Program} {f:FuncId} {EC args:List D} {s s0:St} {Q0 Q:D→St→Prop} (os ts:List Nat) (h:dJ P f EC s0 Q0) (zv:os.Nodup) (DK:ts.Nodup) (lV : ∀ o∈os,o<s.av.length) (GM : ∀ t∈ts,t<s.aw.length)
 (ho:s0.av.length=os.length) (JJ : ∀ (i o:Nat) (ds:List D),os[i]? = some o→s0.av[i]? = some ds→s.av[o]? = some (D.fm os ts ds)∧D.bI os.length ts.length ds=true)
 (ht:s0.aw.length=ts.length) (o5 : ∀ (i t:Nat),ts[i]? = some t→s0.aw[i]? = s.aw[t]?)
 (AW:args=D.fm os ts EC) (zu:D.bI os.length ts.length EC=true) (k : ∀ d s',Q0 d s'→Q (d.back s os ts s') (s.back os ts s')):dJ P f args s Q:=by
 intro M w eZ r iY dC ha
 have r0:=r.sub zv DK lV ho JJ ht o5
 have loc : ∀ (i:Nat) o,os[i]? = some o→(gN M os ts).loc i=M.loc o:=fun i o h=>by simp only [gN,vn h]
 have mu : ∀ (i:Nat) o,os[i]? = some o→(gN M os ts).mu i=M.mu o:=fun i o h=>congrArg Prod.fst (loc i o h)
 have be : ∀ (i:Nat) t,ts[i]? = some t→(gN M os ts).be i=M.be t:=fun i t h=>by simp only [gN,vn h]
 subst AW
 have O9:Laid (gN M os ts) s0 w:=by
  intro g cs hg
  obtain⟨h1,h2,h3⟩:=iY g cs hg
  refine⟨h1,fun o hD=> ?_,fun t c z hl hb=> ?_⟩
  ·obtain⟨o',ki⟩ : ∃ o',os[o]? = some o':=⟨_,List.getElem?_eq_getElem (by omega)⟩
   rw [mu o o' ki]
   exact h2 o' (lV o' (List.mem_of_getElem? ki))
  ·obtain⟨n,hn⟩:=hl
   have hD:=(List.getElem?_eq_some_iff.1 hn).1
   obtain⟨t',Hg⟩ : ∃ t',ts[t]? = some t':=⟨_,List.getElem?_eq_getElem (by omega)⟩
   rw [be t t' Hg]at hb
   exact h3 t' c z ⟨n,by rw [← o5 t t' Hg];exact hn⟩ hb
 have hc:=h (gN M os ts) w eZ r0 O9 (by rw [dC,eI,List.length_map]) (fun i d v e1 e2=>
  RD.AV (M:=M) (M0:=gN M os ts) (s:=s) rfl loc ho be o5 ht (ha i (d.db os ts) v (by rw [eI,List.getElem?_map,e1];rfl) e2) d rfl (qe zu e1))
 refine hc.mono ?_
 rintro en w' ⟨qI,d,v,s',rfl,hq,e,r',hv⟩
 have Bp:=e.le.n
 have w8:=e.le.t
 generalize ED:ji os s.av.length (s'.av.length - os.length)=jd
 generalize EE:ji ts s.aw.length (s'.aw.length - ts.length)=ly
 have nd:jd.Nodup:=by rw [← ED];exact tp zv lV
 have Tw:ly.Nodup:=by rw [← EE];exact tp DK GM
 have EF : ∀ i,jd[i]? = if i<os.length then os[i]? else if i<s'.av.length then some (s.av.length+(i - os.length))else none:=fun i=>by
  rw [← ED,vR];split
  ·rfl
  ·rw [show os.length+(s'.av.length - os.length)=s'.av.length by omega]
 have EG : ∀ i,ly[i]? = if i<ts.length then ts[i]? else if i<s'.aw.length then some (s.aw.length+(i - ts.length))else none:=fun i=>by
  rw [← EE,vR];split
  ·rfl
  ·rw [show ts.length+(s'.aw.length - ts.length)=s'.aw.length by omega]
 have Xd:s.back os ts s' = ⟨iS os (s'.av.map (D.fm jd ly)) s.av,iS ts s'.aw s.aw⟩:=by simp only [St.back,ED,EE]
 have Xe:d.back s os ts s'=d.db jd ly:=by simp only [D.back,ED,EE]
 have nR:=k d s' hq
 rw [Xd,Xe]at nR
 obtain⟨p1,p2,p3⟩:=wv os (s'.av.map (D.fm jd ly)) s.av (by simp;omega) zv lV
 obtain⟨q1,q2,q3⟩:=wv ts s'.aw s.aw (by omega) DK GM
 have Bw:=rk os (s'.av.map (D.fm jd ly)) s.av (by simp;omega)
 have Bx:=rk ts s'.aw s.aw (by omega)
 simp only [List.length_map]at Bw
 generalize DF:(⟨iS os (s'.av.map (D.fm jd ly)) s.av,iS ts s'.aw s.aw⟩:St)=s2 at nR
 have so:s2.av=iS os (s'.av.map (D.fm jd ly)) s.av:=by rw [← DF]
 have st:s2.aw=iS ts s'.aw s.aw:=by rw [← DF]
 -- the framed objects
 have fo : ∀ (i o:Nat),jd[i]? = some o→o<s2.av.length∧s2.av[o]? = (s'.av[i]?).map (D.fm jd ly)∧i<s'.av.length∧(i<os.length→o<s.av.length∧os[i]? = some o)∧(os.length≤i→s.av.length≤o):=by
  intro i o hi
  rw [EF]at hi
  split at hi
  ·rename_i h1
   have hD:=lV o (List.mem_of_getElem? hi)
   refine⟨by rw [so,Bw];omega,by rw [so,p1 i o hi,List.getElem?_map],by omega,fun _=>⟨hD,hi⟩,fun h=>by omega⟩
  ·split at hi
   ·rename_i h1 h2
    cases hi
    refine⟨by rw [so,Bw];omega, ?_,h2,fun h=>by omega,fun _=>by omega⟩
    rw [so,p3,List.getElem?_map,show os.length+(i - os.length)=i by omega]
   ·cases hi
 have ft : ∀ (i t:Nat),ly[i]? = some t→t<s2.aw.length∧s2.aw[t]? = s'.aw[i]? ∧i<s'.aw.length∧(i<ts.length→t<s.aw.length∧ts[i]? = some t)∧(ts.length≤i→s.aw.length≤t):=by
  intro i t hi
  rw [EG]at hi
  split at hi
  ·rename_i h1
   have hD:=GM t (List.mem_of_getElem? hi)
   refine⟨by rw [st,Bx];omega,by rw [st,q1 i t hi],by omega,fun _=>⟨hD,hi⟩,fun h=>by omega⟩
  ·split at hi
   ·rename_i h1 h2
    cases hi
    refine⟨by rw [st,Bx];omega, ?_,h2,fun h=>by omega,fun _=>by omega⟩
    rw [st,q3,show ts.length+(i - ts.length)=i by omega]
   ·cases hi
 -- all others
 have uo : ∀ o,o<s2.av.length→posOf jd o=none→o<s.av.length∧o∉os∧s2.av[o]? = s.av[o]? :=by
  intro o hD hp
  have lz : ∀ i,jd[i]? ≠some o:=fun i hi=>by rw [jv nd hi]at hp;cases hp
  have h1:o<s.av.length:=by
   rcases Nat.lt_or_ge o s.av.length with h | h
   ·exact h
   ·exfalso
    rw [so,Bw]at hD
    refine lz (os.length+(o - s.av.length)) ?_
    rw [EF,if_neg (by omega),if_pos (by omega)]
    congr 1;omega
  have h2:o∉os:=fun hm=>by
   obtain⟨i,hi⟩:=List.mem_iff_getElem?.1 hm
   have nc:=(List.getElem?_eq_some_iff.1 hi).1
   exact lz i (by rw [EF,if_pos nc];exact hi)
  exact⟨h1,h2,by rw [so,p2 o h1 h2]⟩
 have ut : ∀ t,t<s2.aw.length→posOf ly t=none→t<s.aw.length∧t∉ts∧s2.aw[t]? = s.aw[t]? :=by
  intro t hD hp
  have lz : ∀ i,ly[i]? ≠some t:=fun i hi=>by rw [jv Tw hi]at hp;cases hp
  have h1:t<s.aw.length:=by
   rcases Nat.lt_or_ge t s.aw.length with h | h
   ·exact h
   ·exfalso
    rw [st,Bx]at hD
    refine lz (ts.length+(t - s.aw.length)) ?_
    rw [EG,if_neg (by omega),if_pos (by omega)]
    congr 1;omega
  have h2:t∉ts:=fun hm=>by
   obtain⟨i,hi⟩:=List.mem_iff_getElem?.1 hm
   have nc:=(List.getElem?_eq_some_iff.1 hi).1
   exact lz i (by rw [EG,if_pos nc];exact hi)
  exact⟨h1,h2,by rw [st,q2 t h1 h2]⟩
 generalize Hi:sc M qI jd ly=M2
 have mG:qI.G=M2.G:=by rw [← Hi];rfl
 have lo : ∀ (i o:Nat),jd[i]? = some o→M2.loc o=qI.loc i:=fun i o hi=>by rw [← Hi];simp only [sc,jv nd hi]
 have Mc : ∀ o,posOf jd o=none→M2.loc o=M.loc o:=fun o hp=>by rw [← Hi];simp only [sc,hp]
 have mo : ∀ (i o:Nat),jd[i]? = some o→M2.mu o=qI.mu i:=fun i o hi=>congrArg Prod.fst (lo i o hi)
 have By : ∀ o,posOf jd o=none→M2.mu o=M.mu o:=fun o hp=>congrArg Prod.fst (Mc o hp)
 have mt : ∀ (i t:Nat),ly[i]? = some t→M2.be t=qI.be i:=fun i t hi=>by rw [← Hi];simp only [sc,jv Tw hi]
 have Bz : ∀ t,posOf ly t=none→M2.be t=M.be t:=fun t hp=>by rw [← Hi];simp only [sc,hp]
 have le:Le M s M2 s2:=by
  refine⟨fun b o v hg=>by rw [← mG];exact e.le.G b o v hg,by rw [so,Bw];omega,fun o hD=> ?_,by rw [st,Bx];omega,fun t n' hD rZ=> ?_⟩
  ·cases hp:posOf jd o with
   | none=>exact Mc o hp
   | some i=>
    have hi:=fJ hp
    rw [lo i o hi]
    obtain⟨_,_,_,h1,h2⟩:=fo i o hi
    have nc:i<os.length:=by
     rcases Nat.lt_or_ge i os.length with h | h
     ·exact h
     ·have:=h2 h;omega
    rw [e.le.loc i (by omega),loc i o (h1 nc).2]
  ·cases hp:posOf ly t with
   | none=>
    obtain⟨_,_,h3⟩:=ut t (by rw [st,Bx];omega) hp
    rw [h3]at rZ
    exact⟨n',rZ,Nat.le_refl _,fun _=>Bz t hp⟩
   | some i=>
    have hi:=fJ hp
    obtain⟨_,g1,_,h1,h2⟩:=ft i t hi
    have nc:i<ts.length:=by
     rcases Nat.lt_or_ge i ts.length with h | h
     ·exact h
     ·have:=h2 h;omega
    rw [g1]at rZ
    obtain⟨n,h3,h4,h5⟩:=e.le.tk i n' (by omega) rZ
    refine⟨n,by rw [← o5 i t (h1 nc).2];exact h3,h4,fun eq=> ?_⟩
    rw [mt i t hi,h5 eq,be i t (h1 nc).2]
 have Pa : ∀ {d:D} {v:Value},RD qI s' d v→RD M2 s2 (d.db jd ly) v:=fun hd=>RD.db mG
  (fun i hi=>by
   obtain⟨o,ho⟩ : ∃ o,jd[i]? = some o:=by
    rw [EF];split
    ·rename_i h1;exact⟨_,List.getElem?_eq_getElem h1⟩
    ·exact⟨_,rfl⟩
   exact⟨o,ho,(fo i o ho).1,lo i o ho⟩)
  (fun i hi=>by
   obtain⟨t,ht⟩ : ∃ t,ly[i]? = some t:=by
    rw [EG];split
    ·rename_i h1;exact⟨_,List.getElem?_eq_getElem h1⟩
    ·exact⟨_,rfl⟩
   exact⟨t,ht,(ft i t ht).1,(ft i t ht).2.1,mt i t ht⟩) hd
 -- blocks that the callee did not know
 have AX : ∀ i,s0.live i→∃ t,ts[i]? = some t∧s.live t:=fun i ⟨n,hn⟩=>by
  have hD:=(List.getElem?_eq_some_iff.1 hn).1
  have e1:ts[i]? = some ts[i]:=List.getElem?_eq_getElem (by omega)
  exact⟨_,e1,n,by rw [← o5 i _ e1];exact hn⟩
 have EH : ∀ b,b<w.heap.size→(∀ (i o:Nat),os[i]? = some o→M.mu o≠b)→(∀ (i t:Nat) c z,ts[i]? = some t→s.live t→M.be t≠some (b,c,z))→
  w'.heap[b]? = w.heap[b]? ∧∀ off,qI.G b off=M.G b off:=by
  intro b hb h1 h2
  refine⟨e.kept b hb (fun i hi=> ?_) (fun i c z hl=> ?_),fun off=> ?_⟩
  ·have e1:os[i]? = some os[i]:=List.getElem?_eq_getElem (by omega)
   rw [mu i _ e1];exact h1 i _ e1
  ·obtain⟨t,e1,hD⟩:=AX i hl
   rw [be i t e1];exact h2 i t c z e1 hD
  ·apply Classical.byContradiction
   intro dP
   rcases e.o4 b off dP with h3 | ⟨i,c,z,hl,h3⟩
   ·omega
   ·obtain⟨t,e1,hD⟩:=AX i hl
    rw [be i t e1]at h3
    exact h2 i t c z e1 hD h3
 have Md : ∀ o,o<s.av.length→o∉os→w'.heap[M.mu o]? = w.heap[M.mu o]? ∧∀ off,qI.G (M.mu o) off=M.G (M.mu o) off:=fun o hD lz=>
  EH _ (r.mX hD) (fun i o' h1 h2=>lz (by rw [← r.inj o' o (lV o' (List.mem_of_getElem? h1)) hD h2];exact List.mem_of_getElem? h1))
   (fun i t c z _ hl h2=>r.dW t _ c z o hl h2 hD rfl)
 have RZ : ∀ t b c z,s.live t→t∉ts→M.be t=some (b,c,z)→w'.heap[b]? = w.heap[b]? ∧∀ off,qI.G b off=M.G b off:=fun t b c z hl lz hb=>
  EH b (r.pJ hl hb) (fun i o h1=>r.dW t b c z o hl hb (lV o (List.mem_of_getElem? h1)))
   (fun i t' c' z' h1 lU h2=>lz (by rw [r.eW t t' b c z c' z' hl lU hb h2];exact List.mem_of_getElem? h1))
 have lv : ∀ t,s2.live t→(∃ i,ly[i]? = some t∧s'.live i)∨(posOf ly t=none∧s.live t∧t∉ts):=by
  rintro t ⟨n,hn⟩
  cases hp:posOf ly t with
  | none=>
   obtain⟨h1,h2,h3⟩:=ut t (List.getElem?_eq_some_iff.1 hn).1 hp
   exact .inr ⟨rfl,⟨n,by rw [← h3];exact hn⟩,h2⟩
  | some i=>
   have hi:=fJ hp
   exact .inl ⟨i,hi,n,by rw [← (ft i t hi).2.1];exact hn⟩
 -- where a framed object lies
 have Me : ∀ (i o:Nat),jd[i]? = some o→(o<s.av.length∧o∈os∧qI.mu i=M.mu o)∨w.heap.size≤qI.mu i:=by
  intro i o hi
  obtain⟨_,_,h1,h2,h3⟩:=fo i o hi
  rcases Nat.lt_or_ge i os.length with h | h
  ·refine .inl ⟨(h2 h).1,List.mem_of_getElem? (h2 h).2, ?_⟩
   rw [e.le.mu i (by omega),mu i o (h2 h).2]
  ·exact .inr (e.mT i (by omega) h1)
 have Mf : ∀ (i t b c z:Nat),ly[i]? = some t→s'.live i→qI.be i=some (b,c,z)→(s.live t∧t∈ts∧∃ c' z',M.be t=some (b,c',z'))∨w.heap.size≤b:=by
  intro i t b c z hi hl hb
  rcases e.mU i b c z hl hb with ⟨h1,c',z',h2⟩ | h1
  ·obtain⟨t',e1,hD⟩:=AX i h1
   have nc:=(List.getElem?_eq_some_iff.1 e1).1
   obtain⟨_,_,_,h3,_⟩:=ft i t hi
   have:=(h3 nc).2
   rw [e1]at this;cases this
   rw [be i _ e1]at h2
   exact .inl ⟨hD,List.mem_of_getElem? e1,c',z',h2⟩
  ·exact .inr h1
 refine⟨M2,d.db jd ly,v,s2,rfl,nR, ?_, ?_,Pa hv⟩
 ·-- Ext
  refine⟨le,fun b hb h1 h2=> ?_,fun o h1 h2=> ?_,fun t b c z hl hb=> ?_,fun b off dP=> ?_,e.size,e.os,e.tape,e.output⟩
  ·exact(EH b hb (fun i o h3=>h1 o (lV o (List.mem_of_getElem? h3))) (fun i t c z _ hl=>h2 t c z hl)).1
  ·cases hp:posOf jd o with
   | none=>have:=(uo o h2 hp).1;omega
   | some i=>
    have hi:=fJ hp
    rw [mo i o hi]
    rcases Me i o hi with ⟨h3,_⟩ | h3
    ·omega
    ·exact h3
  ·rcases lv t hl with ⟨i,hi,lU⟩ | ⟨hp,lU,_⟩
   ·rw [mt i t hi]at hb
    rcases Mf i t b c z hi lU hb with ⟨h1,_,h2⟩ | h1
    ·exact .inl ⟨h1,h2⟩
    ·exact .inr h1
   ·rw [Bz t hp]at hb
    exact .inl ⟨lU,c,z,hb⟩
  ·rw [← mG]at dP
   rcases e.o4 b off dP with h1 | ⟨i,c,z,hl,hb⟩
   ·exact .inl h1
   ·obtain⟨t,e1,hD⟩:=AX i hl
    rw [be i t e1]at hb
    exact .inr ⟨t,c,z,hD,hb⟩
 ·-- Rel
  refine⟨fun b o v hg=>r'.comm b o v (by rw [mG];exact hg),fun o ds xl=> ?_,fun o hD off=> ?_,fun o o' hD oK heq=> ?_,fun t n hn=> ?_,fun t b c z o hl hb hD=> ?_,fun t t' b c z c' z' hl lU hb qJ=> ?_⟩
  ·cases hp:posOf jd o with
   | some i=>
    have hi:=fJ hp
    obtain⟨_,g1,_⟩:=fo i o hi
    rw [g1]at xl
    obtain⟨kZ,h1,rfl⟩:=Option.map_eq_some_iff.1 xl
    obtain⟨vs,T,h2,h3,h4,h5⟩:=r'.obj i kZ h1
    refine⟨vs,T,by rw [mo i o hi,show M2.ob o=qI.ob i from congrArg Prod.snd (lo i o hi)];exact h2,by rw [eI];simpa using h3,⟨h4.1,by rw [show M2.ty o=qI.ty i from congrArg (fun x=>x.2.ty?) (lo i o hi)];exact h4.2⟩,fun j d v e1 e2=> ?_⟩
    rw [eI]at e1
    simp only [List.getElem?_map,Option.map_eq_some_iff]at e1
    obtain⟨d',e1,rfl⟩:=e1
    exact Pa (h5 j d' v e1 e2)
   | none=>
    obtain⟨h1,h2,h3⟩:=uo o (List.getElem?_eq_some_iff.1 xl).1 hp
    rw [h3]at xl
    obtain⟨vs,T,g1,g2,g3,g4⟩:=r.obj o ds xl
    exact⟨vs,T,by rw [By o hp,(Md o h1 h2).1,show M2.ob o=M.ob o from congrArg Prod.snd (Mc o hp)];exact g1,g2,⟨g3.1,by rw [show M2.ty o=M.ty o from congrArg (fun x=>x.2.ty?) (Mc o hp)];exact g3.2⟩,fun j d v e1 e2=>(g4 j d v e1 e2).mono le⟩
  ·cases hp:posOf jd o with
   | some i=>
    have hi:=fJ hp
    rw [mo i o hi, ← mG];exact r'.iO i (fo i o hi).2.2.1 off
   | none=>
    obtain⟨h1,h2,h3⟩:=uo o hD hp
    rw [By o hp, ← mG,(Md o h1 h2).2 off];exact r.iO o h1 off
  ·cases hp:posOf jd o with
   | some i=>
    have hi:=fJ hp
    rw [mo i o hi]at heq
    cases la:posOf jd o' with
    | some i'=>
     have gj:=fJ la
     rw [mo i' o' gj]at heq
     have:=r'.inj i i' (fo i o hi).2.2.1 (fo i' o' gj).2.2.1 heq
     subst this
     rw [hi]at gj;cases gj;rfl
    | none=>
     obtain⟨h1,h2,_⟩:=uo o' oK la
     rw [By o' la]at heq
     rcases Me i o hi with ⟨h3,h4,h5⟩ | h3
     ·rw [h5]at heq
      have:=r.inj o o' h3 h1 heq
      subst this;exact(h2 h4).elim
     ·have:=r.mX h1;omega
   | none=>
    obtain⟨h1,h2,_⟩:=uo o hD hp
    rw [By o hp]at heq
    cases la:posOf jd o' with
    | some i'=>
     have gj:=fJ la
     rw [mo i' o' gj]at heq
     rcases Me i' o' gj with ⟨h3,h4,h5⟩ | h3
     ·rw [h5]at heq
      have:=r.inj o o' h1 h3 heq
      subst this;exact(h2 h4).elim
     ·have:=r.mX h1;omega
    | none=>
     obtain⟨nT,_,_⟩:=uo o' oK la
     rw [By o' la]at heq
     exact r.inj o o' h1 nT heq
  ·rcases lv t ⟨n,hn⟩with ⟨i,hi,hl⟩ | ⟨hp,hl,lz⟩
   ·rw [mt i t hi, ← mG]
    exact r'.tok i n (by rw [← (ft i t hi).2.1];exact hn)
   ·obtain⟨_,_,h3⟩:=ut t (List.getElem?_eq_some_iff.1 hn).1 hp
    rw [h3]at hn
    rw [Bz t hp]
    rcases r.tok t n hn with h4 | ⟨b,cap,size,vs,T,g1,g2,g3,g4,g5⟩
    ·exact .inl h4
    ·obtain⟨k1,k2⟩:=RZ t b cap size hl lz g1
     exact .inr ⟨b,cap,size,vs,T,g1,by rw [k1];exact g2,g3,g4,fun off ho=>by rw [← mG,k2 off];exact g5.1 off ho,g5.2⟩
  ·rcases lv t hl with ⟨i,hi,lU⟩ | ⟨hp,lU,lz⟩
   ·rw [mt i t hi]at hb
    cases BA:posOf jd o with
    | some j=>
     have hj:=fJ BA
     rw [mo j o hj]
     exact r'.dW i b c z j lU hb (fo j o hj).2.2.1
    | none=>
     obtain⟨h1,h2,_⟩:=uo o hD BA
     rw [By o BA]
     rcases Mf i t b c z hi lU hb with ⟨h3,_,c',z',h4⟩ | h3
     ·exact r.dW t b c' z' o h3 h4 h1
     ·have:=r.mX h1;omega
   ·rw [Bz t hp]at hb
    cases BA:posOf jd o with
    | some j=>
     have hj:=fJ BA
     rw [mo j o hj]
     rcases Me j o hj with ⟨h3,_,h5⟩ | h3
     ·rw [h5];exact r.dW t b c z o lU hb h3
     ·have:=r.pJ lU hb;omega
    | none=>
     obtain⟨h1,_,_⟩:=uo o hD BA
     rw [By o BA];exact r.dW t b c z o lU hb h1
  ·rcases lv t hl with ⟨i,hi,tq⟩ | ⟨hp,hD,lz⟩
   ·rw [mt i t hi]at hb
    rcases lv t' lU with ⟨i',gj,JM⟩ | ⟨la,oK,Mg⟩
    ·rw [mt i' t' gj]at qJ
     have:=r'.eW i i' b c z c' z' tq JM hb qJ
     subst this
     rw [hi]at gj;cases gj;rfl
    ·rw [Bz t' la]at qJ
     rcases Mf i t b c z hi tq hb with ⟨h3,h4,c2,z2,h5⟩ | h3
     ·have:=r.eW t t' b c2 z2 c' z' h3 oK h5 qJ
      subst this;exact(Mg h4).elim
     ·have:=r.pJ oK qJ;omega
   ·rw [Bz t hp]at hb
    rcases lv t' lU with ⟨i',gj,JM⟩ | ⟨la,oK,Mg⟩
    ·rw [mt i' t' gj]at qJ
     rcases Mf i' t' b c' z' gj JM qJ with ⟨h3,h4,c2,z2,h5⟩ | h3
     ·have:=r.eW t t' b c z c2 z2 hD h3 hb h5
      subst this;exact(lz h4).elim
     ·have:=r.pJ hD hb;omega
    ·rw [Bz t' la]at qJ
     exact r.eW t t' b c z c' z' hD oK hb qJ
end Go.Abs

/-! Walk -/

namespace Go.Abs
def Wk (d d':D):Prop:=∀ (M:Map) (s:St) (v:Value),RD M s d v→RD M s d' v
inductive jW:List D→List D→Prop where
 | nil:jW [] []
 | cons {d d':D} {l l':List D} (h:Wk d d') (t:jW l l'):jW (d::l) (d'::l')
inductive fS:List (List D)→List (List D)→Prop where
 | nil:fS [] []
 | cons {r r':List D} {l l':List (List D)} (h:jW r r') (t:fS l l'):fS (r::l) (r'::l')
theorem Wk.refl (d:D):Wk d d:=fun _ _ _ h=>h
theorem Wk.trans {a b c:D} (h:Wk a b) (k:Wk b c):Wk a c:=fun M s v r=>k M s v (h M s v r)
theorem Wk.junk (d:D):Wk d .junk:=fun _ _ v _=> .junk v
theorem jW.refl : ∀ l,jW l l
 | []=> .nil
 | d::l=> .cons (Wk.refl d) (jW.refl l)
theorem fS.refl : ∀ l,fS l l
 | []=> .nil
 | d::l=> .cons (jW.refl d) (fS.refl l)
theorem jW.len {l l':List D} (h:jW l l'):l.length=l'.length:=by
 induction h with
 | nil=>rfl
 | cons _ _ ih=>simp [ih]
theorem fS.len {l l':List (List D)} (h:fS l l'):l.length=l'.length:=by
 induction h with
 | nil=>rfl
 | cons _ _ ih=>simp [ih]
theorem jW.get {l l':List D} (h:jW l l') : ∀ {i:Nat} {d':D},l'[i]? = some d'→∃ d,l[i]? = some d∧Wk d d':=by
 induction h with
 | nil=>intro i d' e;simp at e
 | cons hd _ ih=>
  intro i d' e
  cases i with
  | zero=>simp at e;subst e;exact⟨_,rfl,hd⟩
  | succ i=>simp at e;simpa using ih e
theorem fS.get {l l':List (List D)} (h:fS l l') : ∀ {i:Nat} {d':List D},l'[i]? = some d'→∃ d,l[i]? = some d∧jW d d':=by
 induction h with
 | nil=>intro i d' e;simp at e
 | cons hd _ ih=>
  intro i d' e
  cases i with
  | zero=>simp at e;subst e;exact⟨_,rfl,hd⟩
  | succ i=>simp at e;simpa using ih e
theorem fS.append {a a' b b':List (List D)} (h:fS a a') (k:fS b b'):fS (a++b) (a'++b'):=by
 induction h with
 | nil=>exact k
 | cons hd _ ih=>exact .cons hd ih
theorem Wk.agg {l l':List D} (h:jW l l'):Wk (.agg l) (.agg l'):=by
 intro M s v r
 cases r with
 | agg _ vs hl h1 hr=>
  refine .agg _ vs (by rw [← hl,h.len]) h1 fun i d' u e e2=> ?_
  obtain⟨d,e1,hw⟩:=h.get e
  exact hw M s u (hr i d u e1 e2)
theorem Wk.tuple {l l':List D} (h:jW l l'):Wk (.tuple l) (.tuple l'):=by
 intro M s v r
 cases r with
 | tuple _ vs hl hr=>
  refine .tuple _ vs (by rw [← hl,h.len]) fun i d' u e e2=> ?_
  obtain⟨d,e1,hw⟩:=h.get e
  exact hw M s u (hr i d u e1 e2)
theorem Wk.rows {g:Tag} {z:Nat} {l l':List (List D)} (h:fS l l'):Wk (.slice g z l) (.slice g z l'):=by
 intro M s v r
 cases r with
 | gA _ _ cap hc ht=>cases h;exact .gA _ _ _ hc ht
 | km _ a cap=>cases h;exact .km _ a cap
 | slice _ _ _ b k cap hl hs h1 h2 ht=>
  rw [h.len]
  refine .slice g z l' b k cap (by rw [← h.len];exact hl) (fun row hm=> ?_) (fun i row j d e e2=> ?_) (fun i row j d u e e2 eu=> ?_) (by rw [← h.len];exact ht)
  ·obtain⟨i,hi,he⟩:=List.mem_iff_getElem.1 hm
   obtain⟨r0,g1,g2⟩:=h.get (i:=i) (by rw [List.getElem?_eq_getElem hi,he])
   rw [← g2.len];exact hs r0 (List.mem_of_getElem? g1)
  ·obtain⟨r0,g1,g2⟩:=h.get e
   obtain⟨d0,g3,_⟩:=g2.get e2
   exact h1 i r0 j d0 g1 g3
  ·obtain⟨r0,g1,g2⟩:=h.get e
   obtain⟨d0,g3,g4⟩:=g2.get e2
   exact g4 M s u (h2 i r0 j d0 u g1 g3 eu)
theorem Wk.shared (g:Tag) (z:Nat) (l:List (List D)):Wk (.slice g z l) (.slice .shared z l):=by
 intro M s v r
 cases r with
 | gA _ _ cap hc ht=>exact .gA _ _ _ hc trivial
 | km _ a cap=>exact .km _ a cap
 | slice _ _ _ b k cap hl hs h1 h2 ht=>exact .slice _ _ _ b k cap hl hs h1 h2 trivial
theorem Wk.slice {g:Tag} {z:Nat} {l l':List (List D)} (h:fS l l'):Wk (.slice g z l) (.slice .shared z l'):=(Wk.shared g z l).trans (Wk.rows h)
theorem Wk.nil (g:Tag) (z z':Nat):Wk (.slice g z []) (.slice .shared z' []):=by
 intro M s v r
 cases r with
 | gA _ _ cap hc ht=>exact .gA _ _ _ hc trivial
 | km _ a cap=>exact .km _ a cap
 | slice _ _ _ b k cap hl hs h1 h2 ht=>exact .slice _ _ [] b k cap hl (by simp) (by simp) (by simp) trivial
theorem Wk.Us (z z':Nat):Wk (.slice .full z []) (.slice .full z' []):=by
 intro M s v r
 cases r with
 | gA _ _ cap hc ht=>exact .gA _ _ _ hc ht
 | slice _ _ _ b k cap hl hs h1 h2 ht=>exact .slice _ _ [] b k cap hl (by simp) (by simp) (by simp) ht
theorem Rel.BB {M:Map} {s:St} {w:World} {av:List (List D)} (r:Rel M s w) (h:fS s.av av):Rel M ⟨av,s.aw⟩ w∧Le M s M ⟨av,s.aw⟩:=by
 have le:Le M s M ⟨av,s.aw⟩:=⟨fun _ _ _ h=>h,Nat.le_of_eq h.len,fun _ _=>rfl,Nat.le_refl _,fun t n' _ e=>⟨n',e,Nat.le_refl _,fun _=>rfl⟩⟩
 have hl:=h.len
 refine⟨⟨r.comm,fun o ds e=> ?_,fun o ho=>r.iO o (by rw [hl];exact ho),fun o o' ho ki=>r.inj o o' (by rw [hl];exact ho) (by rw [hl];exact ki),r.tok,
  fun t b c z o hv e ho=>r.dW t b c z o hv e (by rw [hl];exact ho),r.eW⟩,le⟩
 obtain⟨Tx,g1,g2⟩:=h.get e
 obtain⟨vs,T,h1,h2,h3,h4⟩:=r.obj o Tx g1
 refine⟨vs,T,h1,by rw [h2,g2.len],h3,fun i d v e1 e2=> ?_⟩
 obtain⟨d0,k1,k2⟩:=g2.get e1
 exact(k2 _ _ _ (h4 i d0 v k1 e2)).mono le
theorem Rel.blank {M:Map} {s:St} {w:World} (r:Rel M s w) :
 Rel (M.dq s.aw.length none) {s with aw:=s.aw++ [some 0]} w∧Le M s (M.dq s.aw.length none) {s with aw:=s.aw++ [some 0]}:=by
 have fE : ∀ t,St.live {s with aw:=s.aw++ [some 0]} t→s.live t∨t=s.aw.length:=by
  rintro t ⟨k,hk⟩
  rcases Nat.lt_or_ge t s.aw.length with h | h
  ·rw [List.getElem?_append_left h]at hk;exact .inl ⟨k,hk⟩
  ·have:=(List.getElem?_eq_some_iff.1 hk).1
   simp at this;exact .inr (by omega)
 have hD : ∀ t,s.live t→t<s.aw.length:=fun t ⟨k,hk⟩=>(List.getElem?_eq_some_iff.1 hk).1
 have hold : ∀ t,t<s.aw.length→(M.dq s.aw.length none).be t=M.be t:=fun t h=>by simp [Map.dq];omega
 have de:(M.dq s.aw.length none).be s.aw.length=none:=by simp [Map.dq]
 have le:Le M s (M.dq s.aw.length none) {s with aw:=s.aw++ [some 0]}:=
  ⟨fun _ _ _ h=>h,Nat.le_refl _,fun _ _=>rfl,by simp,fun t k h e=>by
   rw [List.getElem?_append_left h]at e
   exact⟨k,e,Nat.le_refl _,fun _=>hold t h⟩⟩
 refine⟨⟨r.comm,fun o ds e=> ?_,r.iO,r.inj,fun t k e=> ?_,fun t b' c z o hl e ki=> ?_,fun t t' b' c z c' z' h h' e e'=> ?_⟩,le⟩
 ·obtain⟨ew,T',h3,h4,h5,h6⟩:=r.obj o ds e
  exact⟨ew,T',h3,h4,h5,fun i d v e1 e2=>(h6 i d v e1 e2).mono le⟩
 ·rcases Nat.lt_or_ge t s.aw.length with h | h
  ·rw [List.getElem?_append_left h]at e
   rw [hold t h];exact r.tok t k e
  ·have:=(List.getElem?_eq_some_iff.1 e).1
   simp at this
   have:t=s.aw.length:=by omega
   subst this
   simp at e;subst e
   exact .inl ⟨de,rfl⟩
 ·rcases fE t hl with h | h
  ·rw [hold t (hD t h)]at e;exact r.dW t b' c z o h e ki
  ·subst h;rw [de]at e;cases e
 ·rcases fE t h with h | h <;> rcases fE t' h' with h' | h'
  ·rw [hold t (hD t h)]at e;rw [hold t' (hD t' h')]at e';exact r.eW t t' b' c z c' z' h h' e e'
  ·subst h';rw [de]at e';cases e'
  ·subst h;rw [de]at e;cases e
  ·omega
theorem RD.own {M:Map} {s:St} {z z':Nat} {v:Value} (h:RD M s (.slice .full z []) v):RD (M.dq s.aw.length none) {s with aw:=s.aw++ [some 0]} (.slice (.tok s.aw.length) z' []) v:=by
 have key : ∀ base:Option (Nat×Nat),fI (M.dq s.aw.length none) {s with aw:=s.aw++ [some 0]} (.tok s.aw.length) z' 0 base 0:=by
  intro base
  refine⟨by simp,fun n e=> ?_⟩
  simp at e
  subst e
  exact⟨Nat.le_refl _,fun _=> .inl ⟨by simp [Map.dq],rfl,fun h=>by cases h⟩⟩
 cases h with
 | gA _ _ cap hc ht=>subst hc;exact .gA _ _ _ rfl (key none)
 | slice _ _ _ b k cap hl hs h1 h2 ht=>
  have:cap=0:=ht
  subst this
  exact .slice _ _ [] b k 0 (Nat.le_refl _) (by simp) (by simp) (by simp) (key _)
section
variable {P:Program} {B:fw} {nt:Nat} {Q:Exit→Tm→St→Prop} {tm:Tm} {s:St}
theorem zw {M0 M:Map} {s0 s:St} {w0 w:World} (e:Ext M0 s0 w0 M s w) (le:Le M s (M.dq s.aw.length none) {s with aw:=s.aw++ [some 0]}) :
 Ext M0 s0 w0 (M.dq s.aw.length none) {s with aw:=s.aw++ [some 0]} w:=by
 refine e.trans ⟨le,fun _ _ _ _=>rfl,fun o h1 h2=>absurd h2 (Nat.not_lt.2 h1),fun t b c z hl eq=> ?_,fun _ _ h=>(h rfl).elim,Nat.le_refl _,rfl,rfl,rfl⟩
 obtain⟨k,hk⟩:=hl
 rcases Nat.lt_or_ge t s.aw.length with h | h
 ·refine .inl ⟨⟨k,by rw [List.getElem?_append_left h]at hk;exact hk⟩,c,z, ?_⟩
  have:(M.dq s.aw.length none).be t=M.be t:=by simp [Map.dq];omega
  rw [← this];exact eq
 ·have:=(List.getElem?_eq_some_iff.1 hk).1
  simp at this
  have:t=s.aw.length:=by omega
  subst this
  simp [Map.dq]at eq
end
def aI (P:Program) (f:Nat) (args:List D) (s:St) (d:D) (s':St):Prop:=dJ P f args s fun x y=>x=d∧y=s'
def n6 (n m:Nat) (res:List (Nat×Option (Bool×Nat))) (d:D) (s':St):Exit→Tm→St→Prop
 | .normal,tm,s | .ret,tm,s=>∃ l,az res tm s=some l∧Wk ((aB l).fg n m) d∧fS (s.cut n m).av s'.av∧(s.cut n m).aw=s'.aw
 | _,_,_=>False
theorem dJ.BB {P:Program} {f:FuncId} {args xp:List D} {s:St} {Q:D→St→Prop} (ha:jW args xp) (h:dJ P f xp s Q):dJ P f args s Q:=
 fun M w eZ r iY hl hr=>h M w eZ r iY (by rw [hl,ha.len]) fun i d v e1 e2=>by
  obtain⟨d0,g1,g2⟩:=ha.get e1
  exact g2 _ _ _ (hr i d0 v g1 e2)
theorem dJ.Mh {P:Program} {f:FuncId} {args:List D} {s:St} {Q Q':D→St→Prop} (h:dJ P f args s Q) (hq : ∀ d s1,Q d s1→∃ d' s',Wk d d'∧fS s1.av s'.av∧s1.aw=s'.aw∧Q' d' s'):dJ P f args s Q':=
 fun M w eZ r iY hl ha=>(h M w eZ r iY hl ha).mono fun _ _ ⟨M',d,v,s1,h1,h2,h3,h4,h5⟩=>by
  obtain⟨d',s',g1,g2,g3,g4⟩:=hq d s1 h2
  obtain⟨r',le⟩:=h4.BB g2
  have hs:(⟨s'.av,s1.aw⟩:St)=s':=by rw [g3]
  rw [hs]at r' le
  refine⟨M',d',v,s',h1,g4,h3.trans ⟨le,fun _ _ _ _=>rfl,fun o h1 h2=> ?_,fun t b c z hl e=> .inl ⟨by obtain⟨n,hn⟩:=hl;exact⟨n,by rw [g3];exact hn⟩,c,z,e⟩,fun _ _ h=>(h rfl).elim,Nat.le_refl _,rfl,rfl,rfl⟩,r',(g1 _ _ _ h5).mono le⟩
  rw [← g2.len]at h2
  exact absurd h2 (Nat.not_lt.2 h1)
theorem aI.intro {P:Program} {f:FuncId} {af:AF} {args:List D} {s:St} {d:D} {s':St} (h0 : ∃ fn,P.funcs[f]? = some fn∧cF P fn=some af) (hl:args.length≤af.ntmps)
 (h : ∀ B:fw,B.s=s→Sem P B af.ntmps af.body (n6 s.av.length s.aw.length af.results d s') (k9 0 args) s):aI P f args s d s':=by
 obtain⟨fn,hf,hc⟩:=h0
 refine dJ.Mh (dJ.intro (Q:=fun d1 s1=>Wk d1 d∧fS s1.av s'.av∧s1.aw=s'.aw) hf hc hl fun B hB=>(h B hB).mono fun e tm s1 hr=> ?_) fun d1 s1 ⟨h1,h2,h3⟩=>⟨d,s',h1,h2,h3,rfl,rfl⟩
 subst hB
 cases e with
 | normal=>obtain⟨l,h1,h2,h3,h4⟩:=hr;exact⟨l,h1,_,_,Nat.le_refl _,Nat.le_refl _,h2,h3,h4⟩
 | ret=>obtain⟨l,h1,h2,h3,h4⟩:=hr;exact⟨l,h1,_,_,Nat.le_refl _,Nat.le_refl _,h2,h3,h4⟩
 | exit id=>exact hr.elim
 | goto l=>exact hr.elim
 | panic ch=>exact hr.elim
 | outgrown=>exact hr.elim
theorem aI.use {P:Program} {f:FuncId} {args:List D} {s:St} {d:D} {s':St} {Q:D→St→Prop} (h:aI P f args s d s') (hq:Q d s'):dJ P f args s Q:=
 dJ.mono h fun x y ⟨h1,h2⟩=>by subst h1;subst h2;exact hq
mutual
theorem n7 (os ts:List Nat) : ∀ d,D.ok 0 0 d=true→D.db os ts d=d
 | .junk,_=>by simp [D.db]
 | .int k n,_=>by simp [D.db]
 | .bool b,_=>by simp [D.db]
 | .str l,_=>by simp [D.db]
 | .ei,_=>by simp [D.db]
 | .val v,_=>by simp [D.db]
 | .eo T o,h=>by simp [D.ok]at h
 | .ff o,h=>by simp [D.ok]at h
 | .fi f cs,h=>by
  simp only [D.ok]at h
  simp only [D.db,fp os ts cs h]
 | .ptr o f,h=>by simp [D.ok]at h
 | .dc r f,h=>by
  simp only [D.ok]at h
  simp only [D.db,fp os ts r h]
 | .slice g z rows,h=>by
  simp only [D.ok,Bool.and_eq_true]at h
  simp only [D.db,kj os ts rows h.2]
  cases g with
  | tok t y=>simp [Tag.ok]at h
  | full=>rfl
  | shared=>rfl
 | .agg cs,h=>by
  simp only [D.ok]at h
  simp only [D.db,fp os ts cs h]
 | .tuple cs,h=>by
  simp only [D.ok]at h
  simp only [D.db,fp os ts cs h]
theorem fp (os ts:List Nat) : ∀ l,D.bI 0 0 l=true→D.fm os ts l=l
 | [],_=>by simp [D.fm]
 | d::r,h=>by
  simp only [D.bI,Bool.and_eq_true]at h
  simp only [D.fm,n7 os ts d h.1,fp os ts r h.2]
theorem kj (os ts:List Nat) : ∀ l,D.ig 0 0 l=true→D.o7 os ts l=l
 | [],_=>by simp [D.o7]
 | d::r,h=>by
  simp only [D.ig,Bool.and_eq_true]at h
  simp only [D.o7,fp os ts d h.1,kj os ts r h.2]
end
mutual
theorem yz {n m n' m':Nat} (hn:n≤n') (hm:m≤m') : ∀ d,D.ok n m d=true→D.ok n' m' d=true
 | .junk,_=>rfl
 | .int k n,_=>rfl
 | .bool b,_=>rfl
 | .str l,_=>rfl
 | .ei,_=>rfl
 | .val v,_=>rfl
 | .eo T o,h=>by simp [D.ok]at h ⊢;omega
 | .ff o,h=>by simp [D.ok]at h ⊢;omega
 | .fi f cs,h=>by
  simp only [D.ok]at h ⊢
  exact gZ hn hm cs h
 | .ptr o f,h=>by simp only [D.ok,decide_eq_true_eq]at h ⊢;omega
 | .dc r f,h=>by
  simp only [D.ok]at h ⊢
  exact gZ hn hm r h
 | .slice g z rows,h=>by
  simp only [D.ok,Bool.and_eq_true]at h ⊢
  refine⟨?_,mA hn hm rows h.2⟩
  cases g with
  | tok t y=>simp only [Tag.ok,decide_eq_true_eq]at h ⊢;omega
  | full=>rfl
  | shared=>rfl
 | .agg cs,h=>by
  simp only [D.ok]at h ⊢
  exact gZ hn hm cs h
 | .tuple cs,h=>by
  simp only [D.ok]at h ⊢
  exact gZ hn hm cs h
theorem gZ {n m n' m':Nat} (hn:n≤n') (hm:m≤m') : ∀ l,D.bI n m l=true→D.bI n' m' l=true
 | [],_=>rfl
 | d::r,h=>by
  simp only [D.bI,Bool.and_eq_true]at h ⊢
  exact⟨yz hn hm d h.1,gZ hn hm r h.2⟩
theorem mA {n m n' m':Nat} (hn:n≤n') (hm:m≤m') : ∀ l,D.ig n m l=true→D.ig n' m' l=true
 | [],_=>rfl
 | d::r,h=>by
  simp only [D.ig,Bool.and_eq_true]at h ⊢
  exact⟨gZ hn hm d h.1,mA hn hm r h.2⟩
end
def S0:St:=⟨[],[]⟩
section
variable {P:Program} {f:Nat}
theorem aI.pure {args:List D} {d:D} (h:aI P f args S0 d S0) (ha:D.bI 0 0 args=true) (hd:D.ok 0 0 d=true) (s:St):aI P f args s d s:=by
 refine dJ.frame [] [] h List.nodup_nil List.nodup_nil (by simp) (by simp) rfl (by simp) rfl (by simp) (by rw [fp _ _ _ ha]) ha ?_
 rintro _ _ ⟨rfl,rfl⟩
 refine⟨n7 _ _ _ hd, ?_⟩
 simp [St.back,iS,S0]
theorem aI.JN {args row kU:List D} {d:D} (h:aI P f (.ptr 0 0::args) ⟨[row],[]⟩ d ⟨[kU],[]⟩) (ha:D.bI 0 0 args=true) (hr:D.bI 0 0 row=true) (GY:D.bI 0 0 kU=true) (hd:D.ok 0 0 d=true)
 {s:St} {o:Nat} (ho:s.av[o]? = some row):aI P f (.ptr o 0::args) s d ⟨s.av.set o kU,s.aw⟩:=by
 refine dJ.frame [o] [] h (by simp) List.nodup_nil (by simpa using (List.getElem?_eq_some_iff.1 ho).1) (by simp) rfl (fun i o' ds e1 e2=> ?_) rfl (by simp) (by simp [D.fm,D.db,fp _ _ _ ha])
  (by simp [D.bI,D.ok,gZ (Nat.zero_le 1) (Nat.le_refl 0) _ ha]) ?_
 ·cases i with
  | zero=>simp at e1 e2;subst e1;subst e2;exact⟨by rw [fp _ _ _ hr];exact ho,gZ (Nat.zero_le 1) (Nat.le_refl 0) _ hr⟩
  | succ i=>simp at e1
 ·rintro _ _ ⟨rfl,rfl⟩
  refine⟨n7 _ _ _ hd, ?_⟩
  simp [St.back,iS,fp _ _ _ GY]
end
end Go.Abs
