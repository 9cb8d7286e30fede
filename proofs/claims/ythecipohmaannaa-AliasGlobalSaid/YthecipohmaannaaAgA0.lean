/-
  What is proved here: part 0 of the road to the claim (Globs, Abs, Lang, Rel, Sound, Sound2, Sound3, Sound4, Sound5, Sound6, Sound7, SoundM, Sound8, Code, Flow, Call, Frame, Frame2, Walk).
  No conditions.
-/
import GoSem.Core.Value
import Derived.Orders
import Derived.Calls
import Derived.Below
import Derived.Laws.AppendOwn
import Derived.Deep.AppendSrc
import Derived.Laws.StructEq
import Derived.Laws.Slices
import Derived.Laws.Strings
import Derived.Laws.IdiomStrings
import Derived.Laws.BytesString
import Derived.MapKept
import Derived.Scope

set_option linter.unusedSimpArgs false
set_option linter.unusedVariables false

/-! Globs -/

namespace Go.Abs
def MQ:Nat→Option (Array Value):=fun _=>none
def ld:TypeId:=1000000
end Go.Abs

/-! Abs -/

namespace Go.Abs
inductive Tag where
 | full
 | shared
 | tok (t:Nat) (byte:Bool:=false) -- 'byte': its row's block bears the bytes' type
inductive D where
 | junk
 | int (k:IntKind) (n:Int)
 | bool (b:Bool)
 | str (s:List UInt8)
 | dT
 | ptr (o off:Nat)
 | cV (row:List D) (off:Nat)
 | slice (g:Tag) (size:Nat) (rows:List (List D))
 | agg (cells:List D)
 | tuple (vs:List D)
 | val (v:Value)
 | dU (T:TypeId) (o:Nat)
 | eW (f:Nat) (jT:List D) -- a function value with what it captured
 | eR (o:Nat) -- a map, kept as an object: keys and values by turns
instance:Inhabited D:=⟨.junk⟩
inductive Ob where
 | any
 | ty (T:TypeId)
 | map
structure Map where
 G:Nat→Nat→Option Value
 loc:Nat→Nat×Ob
 be:Nat→Option (Nat×Nat×Nat)
def Map.mu (M:Map) (o:Nat):Nat:=(M.loc o).1
def Ob.ty? : Ob→Option TypeId
 | .ty T=>some T
 | _=>none
def Map.ob (M:Map) (o:Nat):Ob:=(M.loc o).2
def Map.ty (M:Map) (o:Nat):Option TypeId:=(M.loc o).2.ty?
structure St where
 au:List (List D)
 av:List (Option Nat)
def zs (z:Nat):Nat:=if z=0 then 1 else z
def bz (byte:Bool) (size:Nat):Nat:=match byte with | true=>0 | false=>size
def fy (M:Map) (s:St) (g:Tag) (size len:Nat) (base:Option (Nat×Nat)) (cap:Nat):Prop:=
 match g with
 | .full=>cap=len
 | .shared=>True
 | .tok t y=>t<s.av.length∧∀ n,s.av[t]? = some (some n)→len≤n∧
  (len=n→(M.be t=none∧cap=0∧(y=true→base=none))∨∃ b,base=some (b,0)∧M.be t=some (b,cap,bz y size))
inductive RD (M:Map) (s:St):D→Value→Prop where
 | junk (v:Value):RD M s .junk v
 | int (k:IntKind) (n:Int):RD M s (.int k n) (.int k n)
 | bool (b:Bool):RD M s (.bool b) (.bool b)
 | str (l:List UInt8):RD M s (.str l) (.string ⟨⟨l⟩⟩)
 | dT:RD M s .dT (.pointer none)
 | ptr (o off:Nat) (h:o<s.au.length) (hm:M.ob o≠ .map):RD M s (.ptr o off) (.pointer (some ⟨M.mu o,off,none⟩))
 | cV (row:List D) (off b k:Nat) (h1 : ∀ (i:Nat) (d:D),row[i]? = some d→∃ u,M.G b (k+i)=some u)
  (h2 : ∀ (i:Nat) (d:D) (u:Value),row[i]? = some d→M.G b (k+i)=some u→RD M s d u) :
  RD M s (.cV row off) (.pointer (some ⟨b,k+off,none⟩))
 | gf (g:Tag) (size cap:Nat) (hc:cap=0) (ht:fy M s g size 0 none cap):RD M s (.slice g size []) (.slice none 0 cap)
 | jU (size:Nat) (a:Addr) (cap:Nat):RD M s (.slice .shared size []) (.slice (some a) 0 cap)
 | slice (g:Tag) (size:Nat) (rows:List (List D)) (b k cap:Nat) (hl:rows.length≤cap)
  (hs : ∀ row∈rows,row.length=size)
  (h1 : ∀ (i:Nat) (row:List D) (j:Nat) (d:D),rows[i]? = some row→row[j]? = some d→∃ u,M.G b (k+(i*size+j))=some u)
  (h2 : ∀ (i:Nat) (row:List D) (j:Nat) (d:D) (u:Value),rows[i]? = some row→row[j]? = some d→M.G b (k+(i*size+j))=some u→RD M s d u)
  (ht:fy M s g size rows.length (some (b,k)) cap) :
  RD M s (.slice g size rows) (.slice (some ⟨b,k,none⟩) rows.length cap)
 | agg (cells:List D) (vs:Array Value) (hl:cells.length=vs.size) (h1 : ∀ v∈vs,v.oneCell'=true)
  (h : ∀ (i:Nat) (d:D) (v:Value),cells[i]? = some d→vs[i]? = some v→RD M s d v):RD M s (.agg cells) (.agg vs)
 | tuple (ds:List D) (vs:Array Value) (hl:ds.length=vs.size)
  (h : ∀ (i:Nat) (d:D) (v:Value),ds[i]? = some d→vs[i]? = some v→RD M s d v):RD M s (.tuple ds) (.tuple vs)
 | val (v:Value) (h:v.oneCell'=true):RD M s (.val v) v
 | dU (T:TypeId) (o:Nat) (v:Value) (h:o<s.au.length) (ht:M.ty o=some T) (hv:v = .pointer none∨v = .pointer (some ⟨M.mu o,0,none⟩)):RD M s (.dU T o) v
 | eW (f:Nat) (ds:List D) (vs:Array Value) (hl:ds.length=vs.size)
  (h : ∀ (i:Nat) (d:D) (v:Value),ds[i]? = some d→vs[i]? = some v→RD M s d v):RD M s (.eW f ds) (.func (.func f) #[] vs)
 | eR (o:Nat) (h:o<s.au.length) (hm:M.ob o = .map):RD M s (.eR o) (.map (some (M.mu o)))
structure Le (M:Map) (s:St) (M':Map) (s':St):Prop where
 G : ∀ b o v,M.G b o=some v→M'.G b o=some v
 n:s.au.length≤s'.au.length
 loc : ∀ o,o<s.au.length→M'.loc o=M.loc o
 t:s.av.length≤s'.av.length
 tk : ∀ t n',t<s.av.length→s'.av[t]? = some (some n')→∃ n,s.av[t]? = some (some n)∧n≤n'∧(n'=n→M'.be t=M.be t)
theorem Le.mu {M:Map} {s:St} {M':Map} {s':St} (h:Le M s M' s') : ∀ o,o<s.au.length→M'.mu o=M.mu o:=fun o ho=>congrArg Prod.fst (h.loc o ho)
theorem Le.ob {M:Map} {s:St} {M':Map} {s':St} (h:Le M s M' s') : ∀ o,o<s.au.length→M'.ob o=M.ob o:=fun o ho=>congrArg Prod.snd (h.loc o ho)
theorem Le.ty {M:Map} {s:St} {M':Map} {s':St} (h:Le M s M' s') : ∀ o,o<s.au.length→M'.ty o=M.ty o:=fun o ho=>congrArg (fun x=>x.2.ty?) (h.loc o ho)
theorem Le.refl (M:Map) (s:St):Le M s M s:=⟨fun _ _ _ h=>h,Nat.le_refl _,fun _ _=>rfl,Nat.le_refl _,fun _ n _ h=>⟨n,h,Nat.le_refl _,fun _=>rfl⟩⟩
theorem Le.trans {M M' Cm:Map} {s s' Fe:St} (h:Le M s M' s') (k:Le M' s' Cm Fe):Le M s Cm Fe:=
 ⟨fun b o v e=>k.G b o v (h.G b o v e),Nat.le_trans h.n k.n,fun o ho=>(k.loc o (Nat.lt_of_lt_of_le ho h.n)).trans (h.loc o ho),Nat.le_trans h.t k.t,
  fun t Rw ht e=>by
   obtain⟨n',e',l,b⟩:=k.tk t Rw (Nat.lt_of_lt_of_le ht h.t) e
   obtain⟨n,Ff,l',b'⟩:=h.tk t n' ht e'
   refine⟨n,Ff,Nat.le_trans l' l,fun eq=> ?_⟩
   have h1:n'=n:=by omega
   have h2:Rw=n':=by omega
   rw [b h2,b' h1]⟩
theorem fy.mono {M M':Map} {s s':St} (h:Le M s M' s') {g:Tag} {size len cap:Nat} {base:Option (Nat×Nat)} (ht:fy M s g size len base cap) :
 fy M' s' g size len base cap:=by
 cases g with
 | full=>exact ht
 | shared=>trivial
 | tok t y=>
  obtain⟨hD,ht⟩:=ht
  refine⟨Nat.lt_of_lt_of_le hD h.t,fun n' e'=> ?_⟩
  obtain⟨n,e,l,b⟩:=h.tk t n' hD e'
  obtain⟨l',b'⟩:=ht n e
  refine⟨Nat.le_trans l' l,fun eq=> ?_⟩
  have h1:n'=n:=by omega
  have h2:len=n:=by omega
  rw [b h1]
  exact b' h2
theorem RD.mono {M M':Map} {s s':St} (h:Le M s M' s') {d:D} {v:Value} (r:RD M s d v):RD M' s' d v:=by
 induction r with
 | junk v=>exact .junk v
 | int k n=>exact .int k n
 | bool b=>exact .bool b
 | str l=>exact .str l
 | dT=>exact .dT
 | ptr o off ho hm=>rw [← h.mu o ho];exact .ptr o off (Nat.lt_of_lt_of_le ho h.n) (by rw [h.ob o ho];exact hm)
 | cV row off b k h1 h2 ih=>
  refine .cV row off b k (fun i d e=> ?_) (fun i d u e eu=> ?_)
  ·obtain⟨u,hu⟩:=h1 i d e;exact⟨u,h.G _ _ _ hu⟩
  ·obtain⟨u',hu⟩:=h1 i d e
   have:=h.G _ _ _ hu
   rw [eu]at this
   cases this
   exact ih i d u e hu
 | gf g size cap hc ht=>exact .gf g size cap hc (ht.mono h)
 | jU size a cap=>exact .jU size a cap
 | slice g size rows b k cap hl hs h1 h2 ht ih=>
  refine .slice g size rows b k cap hl hs (fun i row j d e e2=> ?_) (fun i row j d u e e2 eu=> ?_) (ht.mono h)
  ·obtain⟨u,hu⟩:=h1 i row j d e e2;exact⟨u,h.G _ _ _ hu⟩
  ·obtain⟨u',hu⟩:=h1 i row j d e e2
   have:=h.G _ _ _ hu
   rw [eu]at this
   cases this
   exact ih i row j d u e e2 hu
 | agg cells vs hl h1 _ ih=>exact .agg cells vs hl h1 ih
 | tuple ds vs hl _ ih=>exact .tuple ds vs hl ih
 | val v hv=>exact .val v hv
 | dU T o v ho ht hv=>exact .dU T o v (Nat.lt_of_lt_of_le ho h.n) (by rw [h.ty o ho];exact ht) (by rw [h.mu o ho];exact hv)
 | eW f ds vs hl _ ih=>exact .eW f ds vs hl ih
 | eR o ho hm=>rw [← h.mu o ho];exact .eR o (Nat.lt_of_lt_of_le ho h.n) (by rw [h.ob o ho];exact hm)
def St.live (s:St) (t:Nat):Prop:=∃ n,s.av[t]? = some (some n)
def ff:List MapEntry→List Value
 | []=> []
 | e::l=>e.key::e.val::ff l
def jt (x:Option Obj) (k:Ob) (vs:Array Value) (T:TypeId):Prop:=
 match k with
 | .map=>∃ es ck,x=some (.map es ck)∧vs.toList=ff es.toList
 | _=>x=some (.cells vs T (0,0))
theorem jt.cells {x:Option Obj} {k:Ob} {vs:Array Value} {T:TypeId} (h:jt x k vs T) (hk:k≠ .map):x=some (.cells vs T (0,0)):=by
 cases k with
 | map=>exact absurd rfl hk
 | any=>exact h
 | ty _=>exact h
theorem jt.of {x:Option Obj} {k:Ob} {vs:Array Value} {T:TypeId} (h:x=some (.cells vs T (0,0))) (hk:k≠ .map):jt x k vs T:=by
 cases k with
 | map=>exact absurd rfl hk
 | any=>exact h
 | ty _=>exact h
theorem jt.some {x:Option Obj} {k:Ob} {vs:Array Value} {T:TypeId} (h:jt x k vs T) : ∃ o,x=some o:=by
 cases k with
 | map=>obtain⟨es,ck,h,_⟩:=h;exact⟨_,h⟩
 | any=>exact⟨_,h⟩
 | ty _=>exact⟨_,h⟩
theorem jt.lt {w:World} {b:Nat} {k:Ob} {vs:Array Value} {T:TypeId} (h:jt w.heap[b]? k vs T):b<w.heap.size:=by
 obtain⟨o,h⟩:=h.some
 exact(Array.getElem?_eq_some_iff.1 h).1
structure Rel (M:Map) (s:St) (w:World):Prop where
 comm : ∀ b o v,M.G b o=some v→w.cell? ⟨b,o,none⟩=some v∧v.oneCell'=true
 obj : ∀ (o:Nat) (ds:List D),s.au[o]? = some ds→∃ (vs:Array Value) (T:TypeId),jt w.heap[M.mu o]? (M.ob o) vs T∧vs.size=ds.length∧
  ((∀ v∈vs,v.oneCell'=true)∧∀ T',M.ty o=some T'→T'=T)∧∀ (i:Nat) (d:D) (v:Value),ds[i]? = some d→vs[i]? = some v→RD M s d v
 im : ∀ o,o<s.au.length→∀ off,M.G (M.mu o) off=none
 inj : ∀ o o',o<s.au.length→o'<s.au.length→M.mu o=M.mu o'→o=o'
 tok : ∀ t n,s.av[t]? = some (some n)→(M.be t=none∧n=0)∨∃ (b cap z:Nat) (vs:Array Value) (T:TypeId),M.be t=some (b,cap,z)∧
  w.heap[b]? = some (.cells vs T (0,0))∧vs.size=cap*zs z∧n≤cap∧(∀ off,n*zs z≤off→M.G b off=none)∧(z=0→T=ld)
 dN : ∀ t b c z o,s.live t→M.be t=some (b,c,z)→o<s.au.length→M.mu o≠b
 eC : ∀ t t' b c z c' z',s.live t→s.live t'→M.be t=some (b,c,z)→M.be t'=some (b,c',z')→t=t'
structure Ext (M:Map) (s:St) (w:World) (M':Map) (s':St) (w':World):Prop where
 le:Le M s M' s'
 kept : ∀ b,b<w.heap.size→(∀ o,o<s.au.length→M.mu o≠b)→(∀ t c z,s.live t→M.be t≠some (b,c,z))→w'.heap[b]? = w.heap[b]?
 mj : ∀ o,s.au.length≤o→o<s'.au.length→w.heap.size≤M'.mu o
 ml : ∀ t b c z,s'.live t→M'.be t=some (b,c,z)→(s.live t∧∃ c' z',M.be t=some (b,c',z'))∨w.heap.size≤b
 oB : ∀ b o,M'.G b o≠M.G b o→w.heap.size≤b∨∃ t c z,s.live t∧M.be t=some (b,c,z)
 size:w.heap.size≤w'.heap.size
 os:w'.os=w.os
 tape:w'.tape=w.tape
 output:w'.output=w.output
theorem Ext.refl (M:Map) (s:St) (w:World):Ext M s w M s w:=
 ⟨Le.refl M s,fun _ _ _ _=>rfl,fun o h h'=>by omega,fun t b c z h e=> .inl ⟨h,c,z,e⟩,fun _ _ h=>(h rfl).elim,Nat.le_refl _,rfl,rfl,rfl⟩
theorem Ext.trans {M M' Cm:Map} {s s' Fe:St} {w w' Rx:World} (h:Ext M s w M' s' w') (k:Ext M' s' w' Cm Fe Rx):Ext M s w Cm Fe Rx:=by
 refine⟨h.le.trans k.le,fun b hb ho ht=> ?_,fun o h1 h2=> ?_,fun t b c z h1 e=> ?_,fun b o dS=> ?_,Nat.le_trans h.size k.size,
  k.os.trans h.os,k.tape.trans h.tape,k.output.trans h.output⟩
 ·rw [k.kept b (Nat.lt_of_lt_of_le hb h.size) (fun o hD e=> ?_) (fun t c z hD e=> ?_),h.kept b hb ho ht]
  ·rcases Nat.lt_or_ge o s.au.length with h1 | h1
   ·exact ho o h1 ((h.le.mu o h1).symm.trans e)
   ·have:=h.mj o h1 hD;omega
  ·rcases h.ml t b c z hD e with ⟨h1,c',z',e'⟩ | h1
   ·exact ht t c' z' h1 e'
   ·omega
 ·rcases Nat.lt_or_ge o s'.au.length with h3 | h3
  ·rw [k.le.mu o h3];exact h.mj o h1 h3
  ·exact Nat.le_trans h.size (k.mj o h3 h2)
 ·rcases k.ml t b c z h1 e with ⟨h2,c',z',e'⟩ | h2
  ·exact h.ml t b c' z' h2 e'
  ·exact .inr (Nat.le_trans h.size h2)
 ·by_cases e:M'.G b o=M.G b o
  ·have:Cm.G b o≠M'.G b o:=fun e'=>dS (e'.trans e)
   rcases k.oB b o this with h1 | ⟨t,c,z,h1,h2⟩
   ·exact .inl (Nat.le_trans h.size h1)
   ·rcases h.ml t b c z h1 h2 with ⟨h3,c',z',e'⟩ | h3
    ·exact .inr ⟨t,c',z',h3,e'⟩
    ·exact .inl h3
  ·exact h.oB b o e
def Laid (M:Map) (s:St) (w:World):Prop:=∀ g cs,MQ g=some cs→
 (∃ T fr,w.heap[g]? = some (.cells cs T fr))∧(∀ o,o<s.au.length→M.mu o≠g)∧∀ t c z,s.live t→M.be t≠some (g,c,z)
theorem Laid.ext {M M':Map} {s s':St} {w w':World} (h:Laid M s w) (e:Ext M s w M' s' w'):Laid M' s' w':=by
 intro g cs hg
 obtain⟨⟨T,fr,h1⟩,h2,h3⟩:=h g cs hg
 have hD:g<w.heap.size:=(Array.getElem?_eq_some_iff.1 h1).1
 refine⟨⟨T,fr,by rw [e.kept g hD h2 h3];exact h1⟩,fun o ho=> ?_,fun t c z hl hb=> ?_⟩
 ·rcases Nat.lt_or_ge o s.au.length with h4 | h4
  ·rw [e.le.mu o h4];exact h2 o h4
  ·have:=e.mj o h4 ho;omega
 ·rcases e.ml t g c z hl hb with ⟨h4,c',z',h5⟩ | h4
  ·exact h3 t c' z' h4 h5
  ·omega
end Go.Abs

/-! Lang -/

namespace Go.Abs
abbrev Tm:=List (Nat×D)
def Tm.get:Tm→Nat→D
 | [],_=> .junk
 | (k,d)::r,t=>if k=t then d else Tm.get r t
def Tm.set:Tm→Nat→D→Tm
 | [],t,d=> [(t,d)]
 | (k,e)::r,t,d=>if k=t then(k,d)::r else(k,e)::Tm.set r t d
def Tm.put (tm:Tm) (dst:Option Nat) (d:D):Tm:=
 match dst with
 | some t=>tm.set t d
 | none=>tm
inductive X where
 | s (t:Nat)
 | k (d:D)
def X.ev (tm:Tm):X→D
 | .s t=>tm.get t
 | .k d=>d
inductive AO where
 | mv (x:X)
 | pick (c a b:X)
 | alloc (zero:List D)
 | box (x:X)
 | build (zero:List D) (parts:List (Nat×Nat×X))
 | dc (zero:List D) (size n:Nat) (parts:List (Nat×X))
 | ph (zero:List D) (size n:Nat) (parts:List (Nat×X))
 | s8 (x:X)
 | load (x:X) (agg:Bool) (size:Nat)
 | store (p x:X) (size:Nat)
 | fM (x:X)
 | bin (op:BinOp) (x y:X)
 | yd (neg:Bool) (x y:X)
 | eqs (neg:Bool) (ks:List Nat) (x y:X) -- the fields' kinds: 0 an integer, 1 a bool, 2 a text
 | zS (neg:Bool) (x y:X)
 | un (op:UnOp) (x:X)
 | conv (k:IntKind) (x:X)
 | vX (x:X)
 | ra (x:X)
 | zT (size:Nat) (x:X) (lo hi:Option X)
 | zU (x:X) (lo hi:Option X)
 | aB (x:X) (off:Nat)
 | sD (x:X) (off:Nat) (agg:Bool) (size:Nat)
 | bR (x i:X) (size:Nat)
 | s9 (x i:X)
 | ext (x:X) (i:Nat)
 | len (x:X)
 | pj (x:X)
 | app (size bytes:Nat) (x y:X)
 | mm (isMax:Bool) (x y:X)
 | n8 (zero:List D) (T:TypeId) -- a new object whose first cell is to hold its own address
 | ta (x:X) (T:TypeId)
 | tc (x y:X) -- bytes behind others
 | apps (x y:X) -- a text's bytes behind others
 | oU (f:Nat) (xs:List X) -- a function value
 | oV
 | rN (m k v:X) -- a text's slice in a map
 | pY (m k:X) (zero:D)
inductive AI where
 | fQ (dst:Option Nat) (g:Option (Nat×Bool)) (t:Nat) (xs:List X) -- what a slot holds is called
 | nil (dst:Option Nat) (g:Option (Nat×Bool)) (neg:Bool) (x:X) -- is a slice nil? (of an empty one nothing is known)
 | op (dst:Option Nat) (g:Option (Nat×Bool)) (o:AO)
 | call (dst:Option Nat) (g:Option (Nat×Bool)) (f:Nat) (xs:List X)
inductive AC where
 | skip
 | run (is:List AI)
 | par (is:List AI) (iK:List (Nat×Nat))
 | seq (a b:AC)
 | cond (x:X) (a b:AC)
 | block (id:Nat) (a:AC)
 | loop (a:AC)
 | exit (id:Nat)
 | scope (a:AC)
 | label (l:Nat)
 | goto (l:Nat)
 | ret
structure AF where
 ntmps:Nat
 results:List (Nat×Option (Bool×Nat)) -- a slot; or a slot that holds the address, whether an aggregate, how many cells
 body:AC
inductive AK where
 | pure
 | load
 | alloc
 | core
 deriving DecidableEq
def AO.kind:AO→AK
 | .alloc _=> .core
 | .box _=> .core
 | .ph .. => .core
 | .s8 _=> .core
 | .store .. => .core
 | .app .. => .core
 | .n8 .. => .core
 | .ta .. => .core
 | .tc .. => .core
 | .apps .. => .core
 | .oV=> .core
 | .rN .. => .core
 | .pY .. => .load
 | .load .. => .load
 | _=> .pure
def AI.kind:AI→AK
 | .op (some _) none (.alloc _)=> .alloc
 | .op _ _ o=>o.kind
 | _=> .core
def AI.dst:AI→Option Nat
 | .op d _ _=>d
 | .call d _ _ _=>d
 | .nil d _ _ _=>d
 | .fQ d _ _ _=>d
def X.reads:X→List Nat
 | .s t=> [t]
 | .k _=> []
def ka:List X→List Nat
 | []=> []
 | x::r=>x.reads++ka r
def td:Option X→List Nat
 | none=> []
 | some x=>x.reads
def AO.reads:AO→List Nat
 | .mv x=>x.reads
 | .pick c a b=>c.reads++(a.reads++b.reads)
 | .alloc _=> []
 | .box x=>x.reads
 | .build _ ps=>ka (ps.map (·.2.2))
 | .dc _ _ _ ps=>ka (ps.map (·.2))
 | .ph _ _ _ ps=>ka (ps.map (·.2))
 | .s8 x=>x.reads
 | .load x _ _=>x.reads
 | .store p x _=>p.reads++x.reads
 | .fM x=>x.reads
 | .bin _ x y=>x.reads++y.reads
 | .yd _ x y=>x.reads++y.reads
 | .eqs _ _ x y=>x.reads++y.reads
 | .zS _ x y=>x.reads++y.reads
 | .un _ x=>x.reads
 | .conv _ x=>x.reads
 | .vX x=>x.reads
 | .ra x=>x.reads
 | .zT _ x lo hi=>x.reads++(td lo++td hi)
 | .zU x lo hi=>x.reads++(td lo++td hi)
 | .aB x _=>x.reads
 | .sD x _ _ _=>x.reads
 | .bR x i _=>x.reads++i.reads
 | .s9 x i=>x.reads++i.reads
 | .ext x _=>x.reads
 | .len x=>x.reads
 | .pj x=>x.reads
 | .app _ _ x y=>x.reads++y.reads
 | .mm _ x y=>x.reads++y.reads
 | .n8 _ _=> []
 | .ta x _=>x.reads
 | .tc x y=>x.reads++y.reads
 | .apps x y=>x.reads++y.reads
 | .oU _ xs=>ka xs
 | .oV=> []
 | .rN m k v=>m.reads++(k.reads++v.reads)
 | .pY m k _=>m.reads++k.reads
def pk:Option (Nat×Bool)→List Nat
 | none=> []
 | some (t,_)=> [t]
def AI.reads:AI→List Nat
 | .op _ g o=>pk g++o.reads
 | .call _ g _ xs=>pk g++ka xs
 | .nil _ g _ x=>pk g++x.reads
 | .fQ _ g t xs=>pk g++(t::ka xs)
def vZ (d:Option Nat) (l:List Nat):Bool:=
 match d with
 | none=>true
 | some t=> !l.contains t
def AI.apart (a q:AI):Bool:=
 vZ a.dst q.reads && vZ q.dst a.reads && (match a.dst,q.dst with | some x,some y=>x != y | _,_=>true)
def eZ (l:List (List Nat)) (i:Nat):List Nat:=l.getD i []
def fR (is:List AI) (i:Nat):AK:=
 match is[i]? with
 | some a=>a.kind
 | none=> .core
def ic (is:List AI) (i j:Nat):Bool:=
 match is[i]?,is[j]? with
 | some a,some b=>a.apart b
 | _,_=>false
def eJ:AK→Bool
 | .core=>true
 | .alloc=>true
 | _=>false
def fT (is:List AI) (l:List Nat):Nat:=(l.filter fun i=>eJ (fR is i)).length
def gX (is:List AI) (pq:List Nat):List Nat→Bool
 | []=>true
 | a::r=>(!(fR is a == .alloc && pq.contains a) || r.all pq.contains) && gX is pq r
def kP (is:List AI) (pt:List (List Nat)) (pre:List Nat) (q b:Nat):Bool:=
 match fR is q with
 | .core=>pre.all (eZ pt q).contains
 | .alloc=>pre.all fun a=>ic is a q
 | .pure=>(pre.all fun a=>(eZ pt q).contains a || ic is a q) && gX is (eZ pt q) pre
 | .load=>(pre.all fun a=>(eZ pt q).contains a || ic is a q) && gX is (eZ pt q) pre &&
  decide (fT is (pre.filter fun a=> !(eZ pt q).contains a)≤b)
def oP (is:List AI) (af pt:List (List Nat)):List Nat→List (Nat×Nat)→Bool
 | _,[]=>true
 | pre,(q,b)::r=>kP is pt pre q b && !pre.contains q && ((eZ af q).all fun j=>j != q && !(r.map (·.1)).contains j) && oP is af pt (q::pre) r
def rb (af pt:List (List Nat)):Nat→Bool
 | 0=>true
 | i+1=>((eZ pt i).all fun j=>(eZ af i).contains j || (eZ af i).any fun k=>(eZ pt k).contains j) && rb af pt i
def zV (is:List AI) (af pt:List (List Nat)) (iK:List (Nat×Nat)):Bool:=
 rb af pt is.length && oP is af pt [] iK && (List.range is.length).all (iK.map (·.1)).contains && iK.all (fun p=>decide (p.1<is.length)) &&
  (List.range is.length).all fun i=>(eZ af i).all fun j=>decide (j<is.length)
def jy (o:Oper):List Nat:=(o.after.toList.filter (Region.binds .any)).map (·.on)
def zW:List (List Nat)→List (List Nat)→List (List Nat)
 | done,[]=>done
 | done,es::r=>zW (done++ [(es.flatMap fun k=>eZ done k).foldl (fun l j=>if l.contains j then l else l++ [j]) es]) r
def Kc (is:List AI) (pt:List (List Nat)):List Nat→List Nat→List Nat→List Nat
 | [],rest,out=>out++((rest.filter fun j=>fR is j == .alloc)++rest.filter fun j=> !(fR is j == .alloc))
 | c::cs,rest,out=>
  let HT:=rest.filter fun j=>(eZ pt c).contains j
  Kc is pt cs (rest.filter fun j=> !(HT.contains j) && j != c) (out++((HT.filter fun j=>fR is j == .alloc)++(HT.filter fun j=> !(fR is j == .alloc))++ [c]))
def Kd (is:List AI) (pt:List (List Nat)):List Nat→List Nat→List (Nat×Nat)
 | _,[]=> []
 | pre,q::r=>(q,if fR is q == .load then fT is (pre.filter fun a=> !(eZ pt q).contains a)else 0)::Kd is pt (q::pre) r
def Fg (is:List AI) (af:List (List Nat)):List (Nat×Nat):=
 let pt:=zW [] af
 let all:=List.range is.length
 Kd is pt [] (Kc is pt (all.filter fun i=>fR is i == .core) all [])
def D.row:D→Option (List D)
 | .agg cs=>some cs
 | .junk=>none
 | .tuple _=>none
 | d=>some [d]
def part (cs:List D) (off:Nat) (agg:Bool) (size:Nat):Option D:=
 match agg with
 | true=>if off+size≤cs.length then some (.agg ((cs.drop off).take size))else none
 | false=>cs[off]?
def ga (cs:List D) (off:Nat) (r:List D):List D:=cs.take off++r++cs.drop (off+r.length)
def mn (cells:List D):List (Nat×Nat×D)→Option (List D)
 | []=>some cells
 | (off,size,d)::rest=>
  match d.row with
  | none=>none
  | some r=>if r.length=size∧off+size≤cells.length then mn (ga cells off r) rest else none
def fF (zero:List D):Nat→List (List D)
 | 0=> []
 | n+1=>zero::fF zero n
def gh (size:Nat) (rows:List (List D)):List (Nat×D)→Option (List (List D))
 | []=>some rows
 | (i,d)::rest=>
  match d.row with
  | none=>none
  | some r=>if r.length=size∧i<rows.length then gh size (rows.set i r) rest else none
def bytesLess:List UInt8→List UInt8→Bool:=Op.bytesLess
def bF:Nat:=1099511627776
def eo (op:BinOp) (k:IntKind) (a b:Int):Option D:=
 match op with
 | .add=>some (.int k (k.wrap (a+b)))
 | .sub=>some (.int k (k.wrap (a - b)))
 | .mul=>some (.int k (k.wrap (a*b)))
 | .quo=>if b=0 then none else some (.int k (k.wrap (a.tdiv b)))
 | .rem=>if b=0 then none else some (.int k (a.tmod b))
 | .eql=>some (.bool (a==b))
 | .neq=>some (.bool (a != b))
 | .lss=>some (.bool (decide (a<b)))
 | .leq=>some (.bool (decide (a≤b)))
 | .gtr=>some (.bool (decide (a > b)))
 | .geq=>some (.bool (decide (a≥b)))
 | _=>none
def kb (op:BinOp) (a b:List UInt8):Option D:=
 match op with
 | .add=>if a.length+b.length≤bF then some (.str (a++b))else none
 | .eql=>some (.bool (a==b))
 | .neq=>some (.bool (!(a==b)))
 | .lss=>some (.bool (bytesLess a b))
 | _=>none
def qD (op:BinOp) (x y:D):Option D:=
 match x,y with
 | .int k a, .int k' b=>if k=k' then eo op k a b else none
 | .str a, .str b=>kb op a b
 | _,_=>none
def jz:Nat→D→D→Option Bool
 | 0, .int k a, .int k' b=>if k=k' then some (a==b)else none
 | 1, .bool a, .bool b=>some (a==b)
 | 2, .str a, .str b=>some (a==b)
 | _,_,_=>none
def ie:List Nat→List D→List D→Option Bool
 | [],[],[]=>some true
 | k::ks,x::xs,y::ys=>
  match jz k x y with
  | none=>none
  | some true=>ie ks xs ys
  | some false=>some false
 | _,_,_=>none
def zX (op:UnOp) (x:D):Option D:=
 match op,x with
 | .neg, .int k n=>some (.int k (k.wrap (0 - n)))
 | .not, .bool b=>some (.bool (!b))
 | _,_=>none
def ye:List D→Option UInt8
 | [.int .u8 n]=>some (UInt8.ofNat n.toNat)
 | _=>none
def kp:List (List D)→Option (List UInt8)
 | []=>some []
 | r::rs=>
  match ye r,kp rs with
  | some b,some bs=>some (b::bs)
  | _,_=>none
def Tag.cut (g:Tag) (whole:Bool):Tag:=
 match g with
 | .full=>if whole then .full else .shared
 | g=>g
def tf (lo:Option D):Option Int:=
 match lo with
 | none=>some 0
 | some (.int _ n)=>some n
 | _=>none
def tg (hi:Option D) (len:Nat):Option Int:=
 match hi with
 | none=>some len
 | some (.int _ n)=>some n
 | _=>none
def kQ (size bytes:Nat) (x y:D) (s:St):Option (D×St):=
 match x,y with
 | .slice g z rows, .slice _ z' new=>
  if(rows = []∨z=size)∧(new = []∨z'=size)∧(rows.length+new.length)*(bytes+1)≤bF then
   match new with
   | []=>some (.slice g z rows,s)
   | _::_=>
    match g with
    | .full=>some (.slice (.tok s.av.length) size (rows++new),{s with av:=s.av++ [some (rows.length+new.length)]})
    | .shared=>none
    | .tok _ true=>none
    | .tok t false=>if z=size∧s.av[t]? = some (some rows.length)then some (.slice (.tok t) size (rows++new),{s with av:=s.av.set t (some (rows.length+new.length))})else none
  else none
 | _,_=>none
def ti (x y:D) (s:St):Option (D×St):=
 match x,y with
 | .slice g z rows, .slice _ z' new=>
  if(rows = []∨z=1)∧(new = []∨z'=1)∧(rows.length+new.length)*2≤bF then
   match new with
   | []=>some (.slice g z rows,s)
   | _::_=>
    match g with
    | .full=>some (.slice (.tok s.av.length true) 1 (rows++new),{s with av:=s.av++ [some (rows.length+new.length)]})
    | .shared=>none
    | .tok t y=>if z=1∧s.av[t]? = some (some rows.length)then some (.slice (.tok t y) 1 (rows++new),{s with av:=s.av.set t (some (rows.length+new.length))})else none
  else none
 | _,_=>none
def rO (key:List UInt8) (zero:D):List D→Option D
 | []=>some zero
 | .str k::d::r=>if k==key then some d else rO key zero r
 | _=>none
def qE (key:List UInt8) (v:D):List D→Option (List D)
 | []=>some [.str key,v]
 | .str k::d::r=>if k==key then some (.str k::v::r)else match qE key v r with | some r'=>some (.str k::d::r') | none=>none
 | _=>none
def aH (o:AO) (tm:Tm) (s:St):Option (D×St):=
 match o with
 | .mv x=>some (x.ev tm,s)
 | .pick c a b=>
  match c.ev tm with
  | .bool t=>some (if t then a.ev tm else b.ev tm,s)
  | _=>none
 | .alloc zero=>some (.ptr s.au.length 0,{s with au:=s.au++ [zero]})
 | .box x=>
  match (x.ev tm).row with
  | some r=>some (.ptr s.au.length 0,{s with au:=s.au++ [r]})
  | none=>none
 | .build zero parts=>
  match mn zero (parts.map fun p=>(p.1,p.2.1,p.2.2.ev tm))with
  | some cs=>some (.agg cs,s)
  | none=>none
 | .dc zero size n parts=>
  match gh size (fF zero n) (parts.map fun p=>(p.1,p.2.ev tm))with
  | some rows=>some (.slice .full size rows,s)
  | none=>none
 | .ph zero size n parts=>
  match gh size (fF zero n) (parts.map fun p=>(p.1,p.2.ev tm))with
  | some rows=>some (.slice (.tok s.av.length) size rows,{s with av:=s.av++ [some rows.length]})
  | none=>none
 | .s8 x=>
  match x.ev tm with
  | .slice (.tok t _) z rows=>if rows≠ []∧s.av[t]? = some (some rows.length)then some (.slice .shared z rows,{s with av:=s.av.set t none})else none
  | _=>none
 | .load x agg size=>
  match x.ev tm with
  | .ptr o off=>
   match s.au[o]? with
   | some cs=>match part cs off agg size with | some d=>some (d,s) | none=>none
   | none=>none
  | .cV row off=>match part row off agg size with | some d=>some (d,s) | none=>none
  | _=>none
 | .store p x size=>
  match p.ev tm,(x.ev tm).row with
  | .ptr o off,some r=>
   match s.au[o]? with
   | some cs=>if r.length=size∧off+size≤cs.length then some (.tuple [],{s with au:=s.au.set o (ga cs off r)})else none
   | none=>none
  | _,_=>none
 | .fM x=>
  match x.ev tm with
  | .ptr o off=>some (.ptr o off,s)
  | .cV row off=>some (.cV row off,s)
  | _=>none
 | .bin op x y=>match qD op (x.ev tm) (y.ev tm)with | some d=>some (d,s) | none=>none
 | .yd neg x y=>
  match x.ev tm,y.ev tm with
  | .bool a, .bool b=>some (.bool (if neg then !(a==b)else a==b),s)
  | _,_=>none
 | .eqs neg ks x y=>
  match x.ev tm,y.ev tm with
  | .agg a, .agg b=>match ie ks a b with | some e=>some (.bool (if neg then !e else e),s) | none=>none
  | _,_=>none
 | .zS neg x y=>
  match x.ev tm,y.ev tm with
  | .dT, .dT=>some (.bool (!neg),s)
  | .ptr _ _, .dT=>some (.bool neg,s)
  | .cV _ _, .dT=>some (.bool neg,s)
  | _,_=>none
 | .un op x=>match zX op (x.ev tm)with | some d=>some (d,s) | none=>none
 | .conv k x=>match x.ev tm with | .int _ n=>some (.int k (k.wrap n),s) | _=>none
 | .vX x=>
  match x.ev tm with
  | .slice _ _ rows=>match kp rows with | some b=>some (.str b,s) | none=>none
  | _=>none
 | .ra x=>
  match x.ev tm with
  | .str l=>some (.slice .shared 1 (l.map fun c=> [.int .u8 c.toNat]),s)
  | _=>none
 | .zT size x lo hi=>
  match x.ev tm with
  | .slice g z rows=>
   match tf (lo.map (·.ev tm)),tg (hi.map (·.ev tm)) rows.length with
   | some l,some h=>
    if(rows = []∨z=size)∧0≤l∧l≤h∧h≤rows.length then
     some (.slice (if l=0 then g.cut (h=rows.length)else .shared) z ((rows.take h.toNat).drop l.toNat),s)else none
   | _,_=>none
  | _=>none
 | .zU x lo hi=>
  match x.ev tm with
  | .str t=>
   match tf (lo.map (·.ev tm)),tg (hi.map (·.ev tm)) t.length with
   | some l,some h=>if 0≤l∧l≤h∧h≤t.length then some (.str ((t.take h.toNat).drop l.toNat),s)else none
   | _,_=>none
  | _=>none
 | .aB x off=>
  match x.ev tm with
  | .ptr o k=>some (.ptr o (k+off),s)
  | .cV row k=>some (.cV row (k+off),s)
  | _=>none
 | .sD x off agg size=>
  match x.ev tm with
  | .agg cs=>match part cs off agg size with | some d=>some (d,s) | none=>none
  | _=>none
 | .bR x i size=>
  match x.ev tm,i.ev tm with
  | .slice _ z rows, .int _ n=>
   if 0≤n∧z=size then
    match rows[n.toNat]? with
    | some row=>some (.cV row 0,s)
    | none=>none
   else none
  | _,_=>none
 | .s9 x i=>
  match x.ev tm,i.ev tm with
  | .str t, .int _ n=>
   if 0≤n then
    match t[n.toNat]? with
    | some c=>some (.int .u8 c.toNat,s)
    | none=>none
   else none
  | _,_=>none
 | .ext x i=>
  match x.ev tm with
  | .tuple ds=>match ds[i]? with | some d=>some (d,s) | none=>none
  | _=>none
 | .pj x=>
  match x.ev tm with
  | .str t=>some (.int .i64 t.length,s)
  | _=>none
 | .len x=>
  match x.ev tm with
  | .slice _ _ rows=>some (.int .i64 rows.length,s)
  | _=>none
 | .app size bytes x y=>kQ size bytes (x.ev tm) (y.ev tm) s
 | .mm isMax x y=>
  match x.ev tm,y.ev tm with
  | .int k a, .int k' b=>if k=k' then some (.int k (if isMax then(if b > a then b else a)else(if b<a then b else a)),s)else none
  | _,_=>none
 | .n8 zero T=>
  match zero with
  | .dT::r=>some (.ptr s.au.length 0,{s with au:=s.au++ [.dU T s.au.length::r]})
  | _=>none
 | .ta x T=>
  match (x.ev tm).row with
  | some (.dT::r)=>some (.ptr s.au.length 0,{s with au:=s.au++ [.dU T s.au.length::r]})
  | _=>none
 | .tc x y=>ti (x.ev tm) (y.ev tm) s
 | .apps x y=>
  match y.ev tm with
  | .str l=>ti (x.ev tm) (.slice .shared 1 (l.map fun c=> [.int .u8 c.toNat])) s
  | _=>none
 | .oU f xs=>some (.eW f (xs.map (·.ev tm)),s)
 | .oV=>some (.eR s.au.length,{s with au:=s.au++ [[]]})
 | .rN m k v=>
  match m.ev tm,k.ev tm,v.ev tm with
  | .eR o, .str key, .slice g z rows=>
   match s.au[o]? with
   | some cs=>match qE key (.slice g z rows) cs with | some fV=>some (.tuple [],{s with au:=s.au.set o fV}) | none=>none
   | none=>none
  | _,_,_=>none
 | .pY m k zero=>
  match m.ev tm,k.ev tm with
  | .eR o, .str key=>
   match s.au[o]? with
   | some cs=>match rO key zero cs with | some d=>some (d,s) | none=>none
   | none=>none
  | _,_=>none
def HU (b:ByteArray):List UInt8:=b.data.toList
def nu:Value→Option D
 | .int k n=>some (.int k n)
 | .bool b=>some (.bool b)
 | .string b=>some (.str (HU b))
 | .pointer none=>some .dT
 | .slice none 0 0=>some (.slice .full 0 [])
 | .nilIface=>some (.val .nilIface)
 | _=>none
def jV:List Value→Option (List D)
 | []=>some []
 | v::r=>match nu v,jV r with | some d,some ds=>some (d::ds) | _,_=>none
def vn:Value→Option D
 | .slice none 0 0=>some (.val (.slice none 0 0))
 | v=>nu v
def pZ:List Value→Option (List D)
 | []=>some []
 | v::r=>match vn v,pZ r with | some d,some ds=>some (d::ds) | _,_=>none
def CT:Value→Option D
 | .agg cs=>(jV cs.toList).map .agg
 | .tuple ⟨[]⟩=>some (.tuple [])
 | v=>nu v
def cX:Operand→Option X
 | .tmp t=>some (.s t)
 | .const v=>(CT v).map .k
 | .func f=>some (.k (.eW f []))
 | _=>none
def rf:List Operand→Option (List X)
 | []=>some []
 | x::r=>match cX x,rf r with | some d,some ds=>some (d::ds) | _,_=>none
def Ke:Option Operand→Option (Option X)
 | none=>some none
 | some x=>(cX x).map some
section
variable (P:Program)
def n9 (t:TypeId):Option Bool:=
 match P.underlying t with
 | some (.struct _) | some (.array _ _)=>some true
 | some _=>some false
 | none=>none
def zeroOf (t:TypeId):Option (List D):=
 match P.info? t with
 | some i=>match i.zero with | some z=>if z.cells.size=i.size then jV z.cells.toList else none | none=>none
 | none=>none
def je (t:TypeId) (f:Nat):Option (Nat×Nat×Bool):=
 match P.underlying t with
 | some (.struct fs)=>
  match fs[f]? with
  | some fd=>match P.info? fd.type,n9 P fd.type with
   | some i,some a=>if i.size=0 then none else some (fd.offset,i.size,a)
   | _,_=>none
  | none=>none
 | _=>none
def Fh (t u:TypeId):Bool:=
 match P.underlying u with
 | some (.pointer e)=>e==t
 | _=>false
def MR (t:TypeId):Bool:=
 match P.underlying t with
 | some (.struct fs)=>
  match fs[0]? with
  | some f=>Fh P t f.type
  | none=>false
 | _=>false
def CW (t:TypeId):Bool:=
 match P.underlying t with
 | some (.struct fs)=>
  match fs[0]? with
  | some f=>Fh P t f.type || MR P f.type
  | none=>false
 | _=>false
def CX (self:Bool) (l:List Value):Option (List D):=if self then pZ l else jV l
def rP (t:TypeId):Option (List D):=
 match P.info? t with
 | some i=>match i.zero with | some z=>if z.cells.size=i.size then CX (CW P t) z.cells.toList else none | none=>none
 | none=>none
def tj (t:TypeId):List (Nat×Operand)→Option (List (Nat×Nat×X))
 | []=>some []
 | (i,x)::r=>match je P t i,cX x,tj t r with
  | some (off,size,_),some x',some r'=>some ((off,size,x')::r')
  | _,_,_=>none
def zY:List (Nat×Operand)→Option (List (Nat×X))
 | []=>some []
 | (i,x)::r=>match cX x,zY r with
  | some x',some r'=>some ((i,x')::r')
  | _,_=>none
def jA (t:TypeId):Option Nat:=
 match P.underlying t with
 | some (.int _)=>some 0
 | some .bool=>some 1
 | some .string=>some 2
 | _=>none
def uA:Nat→List Field→Option (List Nat)
 | _,[]=>some []
 | n,f::fs=>
  if f.offset=n∧f.name≠ "_" then
   match jA P f.type,uA (n+1) fs with
   | some k,some ks=>some (k::ks)
   | _,_=>none
  else none
def lF (t:TypeId):Option (List Nat):=
 match P.underlying t with
 | some (.struct fs)=>if P.eqGuardType P.depth t=false∧P.stoodInHeld t=false then uA P 0 fs.toList else none
 | _=>none
def v7 (o:Oper):Option AO:=
 match o.op with
 | .move x | .assign x=>(cX x).map .mv
 | .pick c a b=>match cX c,cX a,cX b with | some c,some a,some b=>some (.pick c a b) | _,_,_=>none
 | .alloc t=>if CW P t then(rP P t).map (.n8 · t)else(zeroOf P t).map .alloc
 | .box t x=>if CW P t then(cX x).map (.ta · t)else(cX x).map .box
 | .build t parts=>
  match P.underlying t,rP P t,tj P t parts.toList with
  | some (.struct fs),some z,some ps=>if fs.toList.all fun f=>(P.info? f.type).isSome then some (.build z ps)else none
  | _,_,_=>none
 | .buildSlice t n parts=>
  match P.underlying t with
  | some (.slice e)=>
   match P.info? e,zeroOf P e,zY parts.toList with
   | some i,some z,some ps=>if 0<i.size∧n*i.size≤65536 then some (.dc z i.size n ps)else none
   | _,_,_=>none
  | _=>none
 | .load t x=>
  match cX x,n9 P t,P.info? t with
  | some x,some a,some i=>some (.load x a i.size)
  | _,_,_=>none
 | .store t a x=>
  match cX a,cX x,P.info? t with
  | some a,some x,some i=>some (.store a x i.size)
  | _,_,_=>none
 | .nilCheck x=>(cX x).map .fM
 | .binOp op t x y _=>
  match cX x,cX y with
  | some x,some y=>
   match P.underlying t,op with
   | some (.int _),_=>some (.bin op x y)
   | some .string,_=>some (.bin op x y)
   | some .bool, .eql=>some (.yd false x y)
   | some .bool, .neq=>some (.yd true x y)
   | some (.pointer _), .eql=>some (.zS false x y)
   | some (.pointer _), .neq=>some (.zS true x y)
   | some (.struct _), .eql=>(lF P t).map (.eqs false · x y)
   | some (.struct _), .neq=>(lF P t).map (.eqs true · x y)
   | _,_=>none
  | _,_=>none
 | .unOp op _ x=>(cX x).map (.un op)
 | .convert src dst x=>
  match cX x,P.underlying src,P.underlying dst with
  | some x,some (.int _),some (.int k)=>some (.conv k x)
  | some x,some (.slice e),some .string=>match P.underlying e with | some (.int .u8)=>some (.vX x) | _=>none
  | some x,some (.slice e),some (.slice _)=>match P.underlying e with | some (.int .u8)=>if src=dst then some (.s8 x)else none | _=>none
  | some x,some .string,some (.slice e)=>match P.underlying e,P.info? e with | some (.int .u8),some i=>if i.size=1 then some (.ra x)else none | _,_=>none
  | _,_,_=>none
 | .slice t x lo hi none=>
  match cX x,Ke lo,Ke hi,P.underlying t with
  | some x,some lo,some hi,some .string=>some (.zU x lo hi)
  | some x,some lo,some hi,some (.slice e)=>match P.info? e with | some i=>some (.zT i.size x lo hi) | none=>none
  | _,_,_,_=>none
 | .fieldAddr t x f=>match cX x,je P t f with | some x,some (off,_,_)=>some (.aB x off) | _,_=>none
 | .field t x f=>match cX x,je P t f with | some x,some (off,size,a)=>some (.sD x off a size) | _,_=>none
 | .indexAddr t x i=>
  match cX x,cX i,P.underlying t with
  | some x,some i,some (.slice e)=>match P.info? e with | some j=>if 0<j.size then some (.bR x i j.size)else none | none=>none
  | _,_,_=>none
 | .index t x i=>match cX x,cX i,P.underlying t with | some x,some i,some .string=>some (.s9 x i) | _,_,_=>none
 | .extract x i=>(cX x).map (.ext · i)
 | .call {callee:= .builtin .len,args,argTypes}=>
  match args.toList,argTypes.toList with
  | [x],[t]=>match P.underlying t with
   | some .string=>(cX x).map .pj
   | some (.slice _)=>(cX x).map .len
   | _=>none
  | _,_=>none
 | .call {callee:= .builtin .append,args,argTypes}=>
  match args.toList,argTypes.toList with
  | [x,y],[t,u]=>match P.underlying t,P.underlying u,cX x,cX y with
   | some (.slice e),some (.slice _),some x,some y=>match P.info? e,zeroOf P e with
    | some i,some _=>if 0<i.size then some (if e=ld∧i.size=1∧i.bytes=1 then .tc x y else .app i.size i.bytes x y)else none
    | _,_=>none
   | some (.slice e),some .string,some x,some y=>match P.info? e,zeroOf P e with
    | some i,some _=>if e=ld∧i.size=1∧i.bytes=1 then some (.apps x y)else none
    | _,_=>none
   | _,_,_,_=>none
  | _,_=>none
 | .call {callee:= .builtin .max,args, ..}=>
  match args.toList with
  | [x,y]=>match cX x,cX y with | some x,some y=>some (.mm true x y) | _,_=>none
  | _=>none
 | .call {callee:= .builtin .min,args, ..}=>
  match args.toList with
  | [x,y]=>match cX x,cX y with | some x,some y=>some (.mm false x y) | _,_=>none
  | _=>none
 | .makeFunc (.func f) first captured=>if first.size=0 then(rf captured.toList).map (.oU f)else none
 | .makeMap t none=>match P.underlying t with | some (.map _ _)=>some .oV | _=>none
 | .mapUpdate t m k v=>
  match P.underlying t,cX m,cX k,cX v with
  | some (.map kt _),some m,some k,some v=>match P.underlying kt with | some .string=>some (.rN m k v) | _=>none
  | _,_,_,_=>none
 | .lookup t m k false=>
  match P.underlying t,cX m,cX k with
  | some (.map kt e),some m,some k=>
   match P.underlying kt,P.info? e with
   | some .string,some i=>match i.zero with | some z=>(nu z).map (.pY m k) | none=>none
   | _,_=>none
  | _,_,_=>none
 | _=>none
def po (ops:Array Oper):Option (Nat×Bool)→Option (Option (Nat×Bool))
 | none=>some none
 | some (j,b)=>
  match (ops[j]?).bind (·.dst)with
  | some t=>some (some (t,b))
  | none=>none
def enters (f:FuncId):Bool:=
 match P.funcs[f]? with
 | some fn=>fn.body.isSome && !(fn.name == "runtime.NumGoroutine")
 | none=>false
def frozenIn (ops:Array Oper) (dst:Option Nat):Bool:=
 ops.toList.any fun o=>match o.op,dst with
  | .convert s d (.tmp t),some t'=>t==t' && s==d
  | _,_=>false
def xu (o:Oper):Option (Bool×X):=
 match o.op with
 | .binOp op t x (.const (.slice none 0 0)) _=>
  match P.underlying t,op,cX x with
  | some (.slice _), .eql,some x=>some (false,x)
  | some (.slice _), .neq,some x=>some (true,x)
  | _,_,_=>none
 | _=>none
def Kf (nt:Nat) (dst:Option Nat):Bool:=
 match dst with
 | some d=>decide (d<nt)
 | none=>true
def nS (ops:Array Oper) (o:Oper) (g:Option (Nat×Bool)):Option AI:=
 match o.op with
 | .call {callee:= .value (.func f),args, ..}=>if enters P f then(rf args.toList).map (.call o.dst g f)else none
 | .call {callee:= .value (.tmp t),args, ..}=>(rf args.toList).map (.fQ o.dst g t)
 | _=>
  match xu P o with
  | some (neg,x)=>some (.nil o.dst g neg x)
  | none=>
   match v7 P o with
   | some (.dc z k n ps)=>some (.op o.dst g (if frozenIn ops o.dst then .ph z k n ps else .dc z k n ps))
   | some ao=>some (.op o.dst g ao)
   | none=>none
def cI (nt:Nat) (ops:Array Oper) (o:Oper):Option AI:=
 match po ops o.guard with
 | none=>none
 | some g=>if Kf nt o.dst=true then nS P ops o g else none
def mq (nt:Nat) (ops:Array Oper):List Oper→Option (List AI)
 | []=>some []
 | o::r=>match cI P nt ops o,mq nt ops r with | some i,some is=>some (i::is) | _,_=>none
def Kg (is:List AI) (af:List (List Nat)):Option AC:=
 if zV is af (zW [] af) (Fg is af)then some (.par is (Fg is af))else none
def cC (nt:Nat):Code→Option AC
 | .skip=>some .skip
 | .region _ ops false=>(mq P nt ops ops.toList).map .run
 | .region _ ops true=>if P.follows .mixedOrders then(mq P nt ops ops.toList).bind (Kg · (ops.toList.map jy))else none
 | .seq a b=>match cC nt a,cC nt b with | some a,some b=>some (.seq a b) | _,_=>none
 | .cond x a b=>match cX x,cC nt a,cC nt b with | some x,some a,some b=>some (.cond x a b) | _,_,_=>none
 | .block id a=>(cC nt a).map (.block id)
 | .loop a=>(cC nt a).map .loop
 | .exit id=>some (.exit id)
 | .scope a=>(cC nt a).map .scope
 | .label l=>some (.label l)
 | .goto l=>some (.goto l)
 | .ret=>some .ret
 | _=>none
def vo:List ResultVar→Option (List (Nat×Option (Bool×Nat)))
 | []=>some []
 | .tmp t::r=>(vo r).map ((t,none):: ·)
 | .cell a t::r=>match n9 P t,P.info? t,vo r with
  | some g,some i,some r'=>some ((a,some (g,i.size))::r')
  | _,_,_=>none
def cF (fn:Func):Option AF:=
 match fn.body with
 | some c=>match cC P fn.ntmps c,vo P fn.results.toList with
  | some b,some r=>some ⟨fn.ntmps,r,b⟩
  | _,_=>none
 | none=>none
end
end Go.Abs

/-! Rel -/

namespace Go.Abs
theorem gY {w:World} {b:Nat} {vs:Array Value} {T:TypeId} {fr:Nat×Nat} (h:w.heap[b]? = some (.cells vs T fr)) (o:Nat):w.cell? ⟨b,o,none⟩=vs[o]? :=by
 simp [World.cell?,h]
theorem iP {w:World} {b:Nat} {o:Obj} (h:w.heap[b]? = some o):b<w.heap.size:=(Array.getElem?_eq_some_iff.1 h).1
section
variable {M:Map} {s:St} {w:World}
theorem Rel.xv (r:Rel M s w) {b o:Nat} {v:Value} (h:M.G b o=some v):b<w.heap.size:=World.block_lt_of_cell? w _ (r.comm b o v h).1
theorem Rel.Kh (r:Rel M s w) {b:Nat} (h:w.heap.size≤b) (o:Nat):M.G b o=none:=by
 cases e:M.G b o with
 | none=>rfl
 | some v=>have:=r.xv e;omega
theorem Rel.mr (r:Rel M s w) {o:Nat} (h:o<s.au.length):M.mu o<w.heap.size:=by
 obtain⟨vs,T,hh,_⟩:=r.obj o _ (List.getElem?_eq_getElem h)
 exact hh.lt
theorem Rel.oW (r:Rel M s w) {t b c z:Nat} (h:s.live t) (e:M.be t=some (b,c,z)):b<w.heap.size:=by
 obtain⟨n,hn⟩:=h
 rcases r.tok t n hn with ⟨h1,_⟩ | ⟨b',cap,size,vs,T,h1,h2,_⟩
 ·rw [e]at h1;cases h1
 ·rw [e]at h1;cases h1;exact iP h2
theorem Rel.of_heap (r:Rel M s w) {w':World} (h:w'.heap=w.heap):Rel M s w':=by
 refine⟨fun b o v e=> ?_,fun o ds e=> ?_,r.im,r.inj,fun t n e=> ?_,r.dN,r.eC⟩
 ·obtain⟨h1,h2⟩:=r.comm b o v e
  refine⟨?_,h2⟩
  rw [← h1];simp [World.cell?,h]
 ·rw [h];exact r.obj o ds e
 ·rw [h];exact r.tok t n e
theorem Ext.of_heap {w':World} (h:w'.heap=w.heap) (h1:w'.os=w.os) (h2:w'.tape=w.tape) (h3:w'.output=w.output):Ext M s w M s w':=
 ⟨Le.refl M s,fun _ _ _ _=>by rw [h],fun o h h'=>by omega,fun t b c z h e=> .inl ⟨h,c,z,e⟩,fun _ _ h=>(h rfl).elim,by rw [h];exact Nat.le_refl _,h1,h2,h3⟩
def Map.cQ (M:Map) (n b:Nat) (x:Ob:= .any):Map:= {M with loc:=fun o=>if o=n then(b,x)else M.loc o}
theorem pw (s:St) (b:Nat) (ds:List D) (x:Ob:= .any):Le M s (M.cQ s.au.length b x) {s with au:=s.au++ [ds]}:=
 ⟨fun _ _ _ h=>h,by simp,fun o ho=>by simp [Map.cQ];omega,Nat.le_refl _,fun t n _ h=>⟨n,h,Nat.le_refl _,fun _=>rfl⟩⟩
theorem Rel.Fi (r:Rel M s w) (ds:List D) (ob:Obj) (vs:Array Value) (T:TypeId) (x:Ob) (rh:jt (some ob) x vs T) (hx : ∀ T',x.ty? = some T'→T'=T) (hl:vs.size=ds.length) (h1 : ∀ v∈vs,v.oneCell'=true)
 (h2 : ∀ (i:Nat) (d:D) (v:Value),ds[i]? = some d→vs[i]? = some v→RD (M.cQ s.au.length w.heap.size x) {s with au:=s.au++ [ds]} d v) :
 Rel (M.cQ s.au.length w.heap.size x) {s with au:=s.au++ [ds]} (w.alloc ob)∧
 Ext M s w (M.cQ s.au.length w.heap.size x) {s with au:=s.au++ [ds]} (w.alloc ob):=by
 have le:=pw (M:=M) s w.heap.size ds x
 have l7 : ∀ o,o<s.au.length→(M.cQ s.au.length w.heap.size x).mu o=M.mu o:=le.mu
 have c7:(M.cQ s.au.length w.heap.size x).mu s.au.length=w.heap.size:=by simp [Map.cQ,Map.mu]
 have P3:(M.cQ s.au.length w.heap.size x).ty s.au.length=x.ty? :=by simp [Map.cQ,Map.ty]
 have P4:(M.cQ s.au.length w.heap.size x).ob s.au.length=x:=by simp [Map.cQ,Map.ob]
 refine⟨⟨fun b o v e=> ?_,fun o kC e=> ?_,fun o ho off=> ?_,fun o o' ho jR e=> ?_,fun t n e=> ?_,fun t b c z o hl e ho=> ?_,fun t t' b c z c' z' h h' e e'=>r.eC t t' b c z c' z' h h' e e'⟩, ?_⟩
 ·obtain⟨h3,h4⟩:=r.comm b o v e
  refine⟨?_,h4⟩
  rw [World.cell?_alloc_lt]
  ·exact h3
  ·exact r.xv e
 ·rcases Nat.lt_or_ge o s.au.length with ho | ho
  ·rw [List.getElem?_append_left ho]at e
   obtain⟨dY,T',h3,h4,h5,h6⟩:=r.obj o kC e
   refine⟨dY,T', ?_,h4,⟨h5.1,by rw [le.ty o ho];exact h5.2⟩,fun i d v e1 e2=>(h6 i d v e1 e2).mono le⟩
   rw [l7 o ho,le.ob o ho,heap_alloc_old w _ _ h3.lt];exact h3
  ·rw [List.getElem?_append_right ho]at e
   have:o=s.au.length:=by
    have:=(List.getElem?_eq_some_iff.1 e).1
    simp at this;omega
   subst this
   simp at e;subst e
   refine⟨vs,T, ?_,hl,⟨h1,by rw [P3];exact hx⟩,fun i d v e1 e2=>h2 i d v e1 e2⟩
   rw [c7,P4,heap_alloc_new];exact rh
 ·simp at ho
  rcases Nat.lt_or_ge o s.au.length with h3 | h3
  ·rw [l7 o h3];exact r.im o h3 off
  ·have:o=s.au.length:=by omega
   subst this
   rw [c7];exact r.Kh (Nat.le_refl _) off
 ·simp at ho jR
  rcases Nat.lt_or_ge o s.au.length with h3 | h3 <;> rcases Nat.lt_or_ge o' s.au.length with h4 | h4
  ·rw [l7 o h3,l7 o' h4]at e;exact r.inj o o' h3 h4 e
  ·have:o'=s.au.length:=by omega
   subst this
   rw [l7 o h3,c7]at e
   have:=r.mr h3;omega
  ·have:o=s.au.length:=by omega
   subst this
   rw [l7 o' h4,c7]at e
   have:=r.mr h4;omega
  ·omega
 ·rcases r.tok t n e with h3 | ⟨b,cap,size,dY,T',h3,h4,h5⟩
  ·exact .inl h3
  ·exact .inr ⟨b,cap,size,dY,T',h3,by rw [heap_alloc_old w _ _ (iP h4)];exact h4,h5⟩
 ·simp at ho
  rcases Nat.lt_or_ge o s.au.length with h3 | h3
  ·rw [l7 o h3];exact r.dN t b c z o hl e h3
  ·have:o=s.au.length:=by omega
   subst this
   rw [c7]
   have:=r.oW hl e;omega
 ·refine⟨le,fun b hb _ _=>heap_alloc_old w _ b hb,fun o h3 h4=> ?_,fun t b c z h e=> .inl ⟨h,c,z,e⟩,fun _ _ h=>(h rfl).elim,by simp,rfl,rfl,rfl⟩
  simp at h4
  have:o=s.au.length:=by omega
  subst this
  rw [c7];exact Nat.le_refl _
theorem Rel.zZ (r:Rel M s w) (ds:List D) (vs:Array Value) (T:TypeId) (x:Ob) (hk:x≠ .map) (hx : ∀ T',x.ty? = some T'→T'=T) (hl:vs.size=ds.length) (h1 : ∀ v∈vs,v.oneCell'=true)
 (h2 : ∀ (i:Nat) (d:D) (v:Value),ds[i]? = some d→vs[i]? = some v→RD (M.cQ s.au.length w.heap.size x) {s with au:=s.au++ [ds]} d v) :
 Rel (M.cQ s.au.length w.heap.size x) {s with au:=s.au++ [ds]} (w.alloc (.cells vs T))∧
 Ext M s w (M.cQ s.au.length w.heap.size x) {s with au:=s.au++ [ds]} (w.alloc (.cells vs T)):=
 r.Fi ds _ vs T x (jt.of rfl hk) hx hl h1 h2
theorem Rel.cQ (r:Rel M s w) (ds:List D) (vs:Array Value) (T:TypeId) (hl:vs.size=ds.length) (h1 : ∀ v∈vs,v.oneCell'=true)
 (h2 : ∀ (i:Nat) (d:D) (v:Value),ds[i]? = some d→vs[i]? = some v→RD M s d v) :
 Rel (M.cQ s.au.length w.heap.size) {s with au:=s.au++ [ds]} (w.alloc (.cells vs T))∧
 Ext M s w (M.cQ s.au.length w.heap.size) {s with au:=s.au++ [ds]} (w.alloc (.cells vs T)):=
 r.zZ ds vs T .any (by simp) (fun _ h=>by cases h) hl h1 fun i d v e1 e2=>(h2 i d v e1 e2).mono (pw s w.heap.size ds)
theorem p6 (cs:List D) (off:Nat) (r:List D) (h:off+r.length≤cs.length) (i:Nat) :
 (ga cs off r)[i]? = if i<off then cs[i]? else if i<off+r.length then r[i - off]? else cs[i]? :=by
 unfold ga
 have hl:(cs.take off).length=off:=by simp;omega
 split
 ·rename_i h1
  rw [List.append_assoc,List.getElem?_append_left (by omega),List.getElem?_take_of_lt h1]
 ·rename_i h1
  rw [List.append_assoc,List.getElem?_append_right (by omega),hl]
  split
  ·rename_i h2
   rw [List.getElem?_append_left (by omega)]
  ·rename_i h2
   rw [List.getElem?_append_right (by omega),List.getElem?_drop]
   congr 1;omega
theorem sE (cs:List D) (off:Nat) (r:List D) (h:off+r.length≤cs.length):(ga cs off r).length=cs.length:=by
 unfold ga;simp;omega
theorem Rel.Sl (P:Program) (r:Rel M s w) {o off:Nat} {cs:List D} (he:s.au[o]? = some cs) (hk:M.ob o≠ .map) (row:List D) (us:List Value) (hu:us.length=row.length) (iu:off+row.length≤cs.length)
 (h1 : ∀ u∈us,u.oneCell'=true) (h2 : ∀ (i:Nat) (d:D) (v:Value),row[i]? = some d→us[i]? = some v→RD M s d v) :
 ∃ w',(storeCells (⟨M.mu o,off,none⟩:Addr) us).run P w = .ok () w'∧Rel M {s with au:=s.au.set o (ga cs off row)} w'∧Ext M s w M {s with au:=s.au.set o (ga cs off row)} w':=by
 obtain⟨vs,T,hh,hs,⟨jW,Ki⟩,lH⟩:=r.obj o cs he
 replace hh:=hh.cells hk
 have ho:o<s.au.length:=(List.getElem?_eq_some_iff.1 he).1
 have uU:=run_storeCells_at P (M.mu o) off T us 0 vs w hh (by omega) h1
 simp only [Nat.add_zero]at uU
 have le:Le M s M {s with au:=s.au.set o (ga cs off row)}:=
  ⟨fun _ _ _ h=>h,by simp,fun _ _=>rfl,Nat.le_refl _,fun t n _ h=>⟨n,h,Nat.le_refl _,fun _=>rfl⟩⟩
 generalize c7:(vs.toList.take off++us++vs.toList.drop (off+us.length)).toArray=p7 at uU
 have HV:p7.size=vs.size:=by rw [← c7];simp;omega
 have hJ : ∀ i,p7[i]? = if i<off then vs[i]? else if i<off+row.length then us[i - off]? else vs[i]? :=by
  intro i
  rw [← c7]
  simp only [List.getElem?_toArray]
  have hl:(vs.toList.take off).length=off:=by simp;omega
  split
  ·rename_i h3
   rw [List.append_assoc,List.getElem?_append_left (by omega),List.getElem?_take_of_lt h3];simp
  ·rename_i h3
   rw [List.append_assoc,List.getElem?_append_right (by omega),hl]
   split
   ·rename_i h4
    rw [List.getElem?_append_left (by omega)]
   ·rename_i h4
    rw [List.getElem?_append_right (by omega),List.getElem?_drop]
    rw [show off+us.length+(i - off - us.length)=i by omega];simp
 have iQ : ∀ b,b≠M.mu o→(w.setRow (M.mu o) p7).heap[b]? = w.heap[b]? :=fun b hb=>setRow_other w (M.mu o) b _ hb
 refine⟨_,uU,⟨fun b q v e=> ?_,fun o' ds e=> ?_,fun q hq qF=>r.im q (by simpa using hq) qF,fun q q' hq nk e=>r.inj q q' (by simpa using hq) (by simpa using nk) e,fun t n e=> ?_,
  fun t b c z q hl e hq=>r.dN t b c z q hl e (by simpa using hq),fun t t' b c z c' z' h h' e e'=>r.eC t t' b c z c' z' h h' e e'⟩, ?_⟩
 ·obtain⟨h3,h4⟩:=r.comm b q v e
  refine⟨?_,h4⟩
  have hb:b≠M.mu o:=fun eq=>by subst eq;rw [r.im o ho q]at e;cases e
  rw [← h3]
  simp [World.cell?,iQ b hb]
 ·rw [List.getElem?_set]at e
  split at e
  ·rename_i heq
   subst heq
   simp at e
   obtain⟨_,rfl⟩:=e
   refine⟨p7,T,jt.of (setRow_heap w (M.mu o) vs p7 T (0,0) hh) hk,by rw [HV,hs,sE cs off row iu],⟨fun v hv=> ?_,Ki⟩,fun i d v e1 e2=> ?_⟩
   ·rw [← c7]at hv
    simp at hv
    rcases hv with hv | hv | hv
    ·exact jW v (Array.mem_toList_iff.1 (List.mem_of_mem_take hv))
    ·exact h1 v hv
    ·exact jW v (Array.mem_toList_iff.1 (List.mem_of_mem_drop hv))
   ·rw [p6 cs off row iu]at e1
    rw [hJ]at e2
    split at e1
    ·rename_i h3;simp only [h3,if_true]at e2;exact(lH i d v e1 e2).mono le
    ·rename_i h3
     simp only [h3,if_false]at e2
     split at e1
     ·rename_i h4;simp only [h4,if_true]at e2;exact(h2 _ d v e1 e2).mono le
     ·rename_i h4;simp only [h4,if_false]at e2;exact(lH i d v e1 e2).mono le
  ·rename_i dS
   obtain⟨dY,T',h3,h4,h5,h6⟩:=r.obj o' ds e
   have jR:o'<s.au.length:=(List.getElem?_eq_some_iff.1 e).1
   refine⟨dY,T', ?_,h4,h5,fun i d v e1 e2=>(h6 i d v e1 e2).mono le⟩
   rw [iQ _ (fun eq=>dS (r.inj o o' ho jR eq.symm))];exact h3
 ·rcases r.tok t n e with h3 | ⟨b,cap,size,dY,T',h3,h4,h5⟩
  ·exact .inl h3
  ·refine .inr ⟨b,cap,size,dY,T',h3, ?_,h5⟩
   rw [iQ b (fun eq=>r.dN t b cap size o ⟨n,e⟩ h3 ho eq.symm)];exact h4
 ·refine⟨le,fun b hb h3 _=>iQ b (fun eq=>h3 o ho eq.symm),fun q h3 h4=> ?_,fun t b c z h e=> .inl ⟨h,c,z,e⟩,fun _ _ h=>(h rfl).elim,by simp,rfl,rfl,rfl⟩
  simp at h4;omega
def Map.dP (M:Map) (b n:Nat) (vs:Array Value):Map:= {M with G:=fun b' o=>if b'=b then(if o<n then vs[o]? else none)else M.G b' o}
theorem Fj (r:Rel M s w) (n:Nat) (vs:Array Value):Le M s (M.dP w.heap.size n vs) s:=
 ⟨fun b o v h=>by
  have hb:b≠w.heap.size:=fun e=>by have:=r.xv h;omega
  simp [Map.dP,hb,h],Nat.le_refl _,fun _ _=>rfl,Nat.le_refl _,fun t n _ h=>⟨n,h,Nat.le_refl _,fun _=>rfl⟩⟩
theorem Rel.dP (r:Rel M s w) (n:Nat) (vs:Array Value) (T:TypeId) (fr:Nat×Nat) (h1 : ∀ v∈vs,v.oneCell'=true) :
 Rel (M.dP w.heap.size n vs) s (w.alloc (.cells vs T fr))∧Ext M s w (M.dP w.heap.size n vs) s (w.alloc (.cells vs T fr)):=by
 have le:=Fj r n vs
 have hold : ∀ b,b<w.heap.size→∀ o,(M.dP w.heap.size n vs).G b o=M.G b o:=fun b hb o=>by
  have:b≠w.heap.size:=by omega
  simp [Map.dP,this]
 refine⟨⟨fun b o v e=> ?_,fun o ds e=> ?_,fun o ho off=> ?_,r.inj,fun t k e=> ?_,r.dN,r.eC⟩, ?_⟩
 ·by_cases hb:b=w.heap.size
  ·subst hb
   simp [Map.dP]at e
   obtain⟨_,e⟩:=e
   refine⟨by rw [gY (heap_alloc_new w _)];exact e,h1 v (Array.mem_of_getElem? e)⟩
  ·simp [Map.dP,hb]at e
   obtain⟨h3,h4⟩:=r.comm b o v e
   refine⟨?_,h4⟩
   rw [World.cell?_alloc_lt]
   ·exact h3
   ·exact r.xv e
 ·obtain⟨dY,T',h3,h4,h5,h6⟩:=r.obj o ds e
  exact⟨dY,T',by show jt (w.alloc _).heap[M.mu o]? (M.ob o) _ _;rw [heap_alloc_old w _ _ h3.lt];exact h3,h4,h5,fun i d v e1 e2=>(h6 i d v e1 e2).mono le⟩
 ·rw [hold]
  ·exact r.im o ho off
  ·exact r.mr ho
 ·rcases r.tok t k e with h3 | ⟨b,cap,size,dY,T',h3,h4,h5,h6,h7⟩
  ·exact .inl h3
  ·exact .inr ⟨b,cap,size,dY,T',h3,by rw [heap_alloc_old w _ _ (iP h4)];exact h4,h5,h6,fun off ho=>by rw [hold b (iP h4)];exact h7.1 off ho,h7.2⟩
 ·refine⟨le,fun b hb _ _=>heap_alloc_old w _ b hb,fun o h3 h4=>by omega,fun t b c z h e=> .inl ⟨h,c,z,e⟩,fun b o h=> ?_,by simp,rfl,rfl,rfl⟩
  rcases Nat.lt_or_ge b w.heap.size with hb | hb
  ·exact(h (hold b hb o)).elim
  ·exact .inl hb
def Map.dg (M:Map) (t:Nat) (x:Option (Nat×Nat×Nat)):Map:= {M with be:=fun t'=>if t'=t then x else M.be t'}
theorem Rel.Kj (r:Rel M s w) (n b cap size:Nat) (vs:Array Value) (T:TypeId) (hb:w.heap[b]? = some (.cells vs T (0,0))) (dJ:vs.size=cap*zs size) (hn:n≤cap) (hy:size=0→T=ld)
 (hG : ∀ off,n*zs size≤off→M.G b off=none) (ho : ∀ o,o<s.au.length→M.mu o≠b) (ht : ∀ t c z,s.live t→M.be t≠some (b,c,z)) :
 Rel (M.dg s.av.length (some (b,cap,size))) {s with av:=s.av++ [some n]} w∧Le M s (M.dg s.av.length (some (b,cap,size))) {s with av:=s.av++ [some n]}:=by
 have fp : ∀ t,St.live {s with av:=s.av++ [some n]} t→s.live t∨t=s.av.length:=by
  rintro t ⟨k,hk⟩
  rcases Nat.lt_or_ge t s.av.length with h | h
  ·rw [List.getElem?_append_left h]at hk;exact .inl ⟨k,hk⟩
  ·have:=(List.getElem?_eq_some_iff.1 hk).1
   simp at this;exact .inr (by omega)
 have hD : ∀ t,s.live t→t<s.av.length:=fun t ⟨k,hk⟩=>(List.getElem?_eq_some_iff.1 hk).1
 have hold : ∀ t,t<s.av.length→(M.dg s.av.length (some (b,cap,size))).be t=M.be t:=fun t h=>by simp [Map.dg];omega
 have c7:(M.dg s.av.length (some (b,cap,size))).be s.av.length=some (b,cap,size):=by simp [Map.dg]
 have le:Le M s (M.dg s.av.length (some (b,cap,size))) {s with av:=s.av++ [some n]}:=
  ⟨fun _ _ _ h=>h,Nat.le_refl _,fun _ _=>rfl,by simp,fun t k h e=>by
   rw [List.getElem?_append_left h]at e
   exact⟨k,e,Nat.le_refl _,fun _=>hold t h⟩⟩
 refine⟨⟨r.comm,fun o ds e=> ?_,r.im,r.inj,fun t k e=> ?_,fun t b' c z o hl e jR=> ?_,fun t t' b' c z c' z' h h' e e'=> ?_⟩,le⟩
 ·obtain⟨dY,T',h3,h4,h5,h6⟩:=r.obj o ds e
  exact⟨dY,T',h3,h4,h5,fun i d v e1 e2=>(h6 i d v e1 e2).mono le⟩
 ·rcases Nat.lt_or_ge t s.av.length with h | h
  ·rw [List.getElem?_append_left h]at e
   rw [hold t h];exact r.tok t k e
  ·have:=(List.getElem?_eq_some_iff.1 e).1
   simp at this
   have:t=s.av.length:=by omega
   subst this
   simp at e;subst e
   exact .inr ⟨b,cap,size,vs,T,c7,hb,dJ,hn,hG,hy⟩
 ·rcases fp t hl with h | h
  ·rw [hold t (hD t h)]at e;exact r.dN t b' c z o h e jR
  ·subst h;rw [c7]at e;cases e;exact ho o jR
 ·rcases fp t h with h | h <;> rcases fp t' h' with h' | h'
  ·rw [hold t (hD t h)]at e;rw [hold t' (hD t' h')]at e';exact r.eC t t' b' c z c' z' h h' e e'
  ·subst h';rw [c7]at e';cases e';rw [hold t (hD t h)]at e;exact(ht t c z h e).elim
  ·subst h;rw [c7]at e;cases e;rw [hold t' (hD t' h')]at e';exact(ht t' c' z' h' e').elim
  ·omega
theorem Rel.P5 (r:Rel M s w) (t n n' b cap size:Nat) (vs:Array Value) (T:TypeId) (wa:s.av[t]? = some (some n)) (hnn:n<n') (hb:w.heap[b]? = some (.cells vs T (0,0))) (dJ:vs.size=cap*zs size) (hn:n'≤cap) (hy:size=0→T=ld)
 (hG : ∀ off,n'*zs size≤off→M.G b off=none) (ho : ∀ o,o<s.au.length→M.mu o≠b) (ht : ∀ t c z,s.live t→M.be t≠some (b,c,z)) :
 Rel (M.dg t (some (b,cap,size))) {s with av:=s.av.set t (some n')} w∧Le M s (M.dg t (some (b,cap,size))) {s with av:=s.av.set t (some n')}:=by
 have Fk:t<s.av.length:=(List.getElem?_eq_some_iff.1 wa).1
 have fp : ∀ q,St.live {s with av:=s.av.set t (some n')} q→s.live q:=by
  rintro q ⟨k,hk⟩
  rw [List.getElem?_set]at hk
  split at hk
  ·rename_i h;subst h;exact⟨n,wa⟩
  ·exact⟨k,hk⟩
 have hold : ∀ q,q≠t→(M.dg t (some (b,cap,size))).be q=M.be q:=fun q h=>by simp [Map.dg,h]
 have c7:(M.dg t (some (b,cap,size))).be t=some (b,cap,size):=by simp [Map.dg]
 have le:Le M s (M.dg t (some (b,cap,size))) {s with av:=s.av.set t (some n')}:=
  ⟨fun _ _ _ h=>h,Nat.le_refl _,fun _ _=>rfl,by simp,fun q k h e=>by
   rw [List.getElem?_set]at e
   split at e
   ·rename_i h2;subst h2
    simp at e;subst e
    exact⟨n,wa,by omega,fun h=>by omega⟩
   ·rename_i h2
    exact⟨k,e,Nat.le_refl _,fun _=>hold q (fun h=>h2 h.symm)⟩⟩
 refine⟨⟨r.comm,fun o ds e=> ?_,r.im,r.inj,fun q k e=> ?_,fun q b' c z o hl e jR=> ?_,fun q q' b' c z c' z' h h' e e'=> ?_⟩,le⟩
 ·obtain⟨dY,T',h3,h4,h5,h6⟩:=r.obj o ds e
  exact⟨dY,T',h3,h4,h5,fun i d v e1 e2=>(h6 i d v e1 e2).mono le⟩
 ·rw [List.getElem?_set]at e
  split at e
  ·rename_i h2;subst h2
   simp at e;subst e
   exact .inr ⟨b,cap,size,vs,T,c7,hb,dJ,hn,hG,hy⟩
  ·rename_i h2
   rw [hold q (fun h=>h2 h.symm)];exact r.tok q k e
 ·by_cases h:q=t
  ·subst h;rw [c7]at e;cases e;exact ho o jR
  ·rw [hold q h]at e;exact r.dN q b' c z o (fp q hl) e jR
 ·by_cases h1:q=t <;> by_cases h2:q'=t
  ·omega
  ·subst h1;rw [c7]at e;cases e;rw [hold q' h2]at e';exact(ht q' c' z' (fp q' h') e').elim
  ·subst h2;rw [c7]at e';cases e';rw [hold q h1]at e;exact(ht q c z (fp q h) e).elim
  ·rw [hold q h1]at e;rw [hold q' h2]at e';exact r.eC q q' b' c z c' z' (fp q h) (fp q' h') e e'
def Map.fix (M:Map) (b lo:Nat) (us:List Value):Map:=
 {M with G:=fun b' o=>if b'=b∧lo≤o∧o<lo+us.length then us[o - lo]? else M.G b' o}
theorem Rel.P6 (r:Rel M s w) (t n m b cap z size:Nat) (us:List Value) (hz:zs z=size) (wa:s.av[t]? = some (some n)) (gK:M.be t=some (b,cap,z)) (uV:us.length=m*size) (rQ:n+m≤cap) (hm:0<m)
 (h1 : ∀ u∈us,u.oneCell'=true) (vs:Array Value) (T:TypeId) (hh:w.heap[b]? = some (.cells vs T (0,0))) (dJ:vs.size=cap*size) (hy:z=0→T=ld) :
 Rel (M.fix b (n*size) us) {s with av:=s.av.set t (some (n+m))} (w.setRow b (vs.toList.take (n*size)++us++vs.toList.drop (n*size+us.length)).toArray)∧
 Ext M s w (M.fix b (n*size) us) {s with av:=s.av.set t (some (n+m))} (w.setRow b (vs.toList.take (n*size)++us++vs.toList.drop (n*size+us.length)).toArray):=by
 have Fk:t<s.av.length:=(List.getElem?_eq_some_iff.1 wa).1
 have ri:s.live t:=⟨n,wa⟩
 have CY : ∀ off,n*size≤off→M.G b off=none:=by
  rcases r.tok t n wa with ⟨h3,_⟩ | ⟨b',z1,rR,dY,T',h3,h4,h5,h6,h7⟩
  ·rw [gK]at h3;cases h3
  ·rw [gK]at h3;cases h3;rw [← hz];exact h7.1
 have iu:n*size+us.length≤vs.size:=by rw [uV,dJ, ← Nat.add_mul];exact Nat.mul_le_mul_right _ rQ
 have fp : ∀ q,St.live {s with av:=s.av.set t (some (n+m))} q→s.live q:=by
  rintro q ⟨k,hk⟩
  rw [List.getElem?_set]at hk
  split at hk
  ·rename_i h;subst h;exact ri
  ·exact⟨k,hk⟩
 generalize c7:(vs.toList.take (n*size)++us++vs.toList.drop (n*size+us.length)).toArray=p7
 have HV:p7.size=vs.size:=by rw [← c7];simp;omega
 have hJ : ∀ i,p7[i]? = if i<n*size then vs[i]? else if i<n*size+us.length then us[i - n*size]? else vs[i]? :=by
  intro i
  rw [← c7]
  simp only [List.getElem?_toArray]
  have hl:(vs.toList.take (n*size)).length=n*size:=by simp;omega
  split
  ·rename_i h3
   rw [List.append_assoc,List.getElem?_append_left (by omega),List.getElem?_take_of_lt h3];simp
  ·rename_i h3
   rw [List.append_assoc,List.getElem?_append_right (by omega),hl]
   split
   ·rename_i h4
    rw [List.getElem?_append_left (by omega)]
   ·rename_i h4
    rw [List.getElem?_append_right (by omega),List.getElem?_drop]
    rw [show n*size+us.length+(i - n*size - us.length)=i by omega];simp
 have db:(w.setRow b p7).heap[b]? = some (.cells p7 T (0,0)):=setRow_heap w b vs p7 T (0,0) hh
 have iQ : ∀ q,q≠b→(w.setRow b p7).heap[q]? = w.heap[q]? :=fun q hq=>setRow_other w b q _ hq
 have le:Le M s (M.fix b (n*size) us) {s with av:=s.av.set t (some (n+m))}:=by
  refine⟨fun b' o v h=> ?_,Nat.le_refl _,fun _ _=>rfl,by simp,fun q k h e=> ?_⟩
  ·show(if b'=b∧n*size≤o∧o<n*size+us.length then us[o - n*size]? else M.G b' o)=some v
   rw [if_neg]
   ·exact h
   ·rintro⟨rfl,h3,_⟩;rw [CY o h3]at h;cases h
  ·rw [List.getElem?_set]at e
   split at e
   ·rename_i h2;subst h2
    simp at e;subst e
    exact⟨n,wa,by omega,fun h=>by omega⟩
   ·exact⟨k,e,Nat.le_refl _,fun _=>rfl⟩
 have oa : ∀ b' o,b'≠b→(M.fix b (n*size) us).G b' o=M.G b' o:=fun b' o h=>by simp [Map.fix,h]
 refine⟨⟨fun b' o v e=> ?_,fun o ds e=> ?_,fun o ho off=> ?_,r.inj,fun q k e=> ?_,fun q b' c z o hl e jR=>r.dN q b' c z o (fp q hl) e jR,
  fun q q' b' c z c' z' h h' e e'=>r.eC q q' b' c z c' z' (fp q h) (fp q' h') e e'⟩, ?_⟩
 ·by_cases hb:b'=b
  ·subst hb
   rw [gY db,hJ]
   have e':(if b'=b'∧n*size≤o∧o<n*size+us.length then us[o - n*size]? else M.G b' o)=some v:=e
   by_cases h3:n*size≤o
   ·by_cases h4:o<n*size+us.length
    ·rw [if_pos ⟨rfl,h3,h4⟩]at e'
     rw [if_neg (by omega),if_pos h4]
     exact⟨e',h1 v (List.mem_of_getElem? e')⟩
    ·rw [if_neg (fun h=>h4 h.2.2),CY o h3]at e';cases e'
   ·rw [if_neg (fun h=>h3 h.2.1)]at e'
    obtain⟨h5,h6⟩:=r.comm b' o v e'
    rw [gY hh]at h5
    rw [if_pos (by omega)]
    exact⟨h5,h6⟩
  ·rw [oa b' o hb]at e
   obtain⟨h5,h6⟩:=r.comm b' o v e
   refine⟨?_,h6⟩
   rw [← h5]
   simp [World.cell?,iQ b' hb]
 ·obtain⟨dY,T',h3,h4,h5,h6⟩:=r.obj o ds e
  have ho:o<s.au.length:=(List.getElem?_eq_some_iff.1 e).1
  refine⟨dY,T', ?_,h4,h5,fun i d v e1 e2=>(h6 i d v e1 e2).mono le⟩
  show jt (w.setRow b p7).heap[M.mu o]? (M.ob o) _ _
  rw [iQ _ (r.dN t b cap z o ri gK ho)];exact h3
 ·show(M.fix b (n*size) us).G (M.mu o) off=none
  rw [oa _ _ (r.dN t b cap z o ri gK ho)];exact r.im o ho off
 ·rw [List.getElem?_set]at e
  split at e
  ·rename_i h2;subst h2
   simp at e;subst e
   refine .inr ⟨b,cap,z,p7,T,gK,db,by rw [HV,dJ,hz],rQ,fun off ho=> ?_,hy⟩
   rw [hz]at ho
   show(if b=b∧n*size≤off∧off<n*size+us.length then us[off - n*size]? else M.G b off)=none
   rw [Nat.add_mul]at ho
   rw [if_neg (by rintro⟨_,_,h⟩;omega)]
   exact CY off (by omega)
  ·rename_i h2
   rcases r.tok q k e with h3 | ⟨b',z1,rR,dY,T',h3,h4,h5,h6,h7⟩
   ·exact .inl h3
   ·have dS:b'≠b:=fun h=>h2 (r.eC t q b cap z z1 rR ri ⟨k,e⟩ gK (by rw [h3,h]))
    exact .inr ⟨b',z1,rR,dY,T',h3,by rw [iQ b' dS];exact h4,h5,h6,fun off ho=>by rw [oa b' off dS];exact h7.1 off ho,h7.2⟩
 ·refine⟨le,fun q _ _ h4=>iQ q (fun h=>h4 t cap z ri (by rw [gK,h])),fun o h3 h4=>by simp at h4;omega,fun q b' c z h e=> .inl ⟨fp q h,c,z,e⟩,fun b' o h=> ?_,by simp,rfl,rfl,rfl⟩
  by_cases hb:b'=b
  ·exact .inr ⟨t,cap,z,ri,by rw [gK,hb]⟩
  ·exact(h (oa b' o hb)).elim
theorem Rel.freeze (r:Rel M s w) {b:Nat} (off n:Nat) (ho : ∀ o,o<s.au.length→M.mu o≠b) (ht : ∀ t c z,s.live t→M.be t≠some (b,c,z)) :
 Rel M s (w.freeze ⟨b,off,none⟩ n)∧(∀ q,q≠b→(w.freeze ⟨b,off,none⟩ n).heap[q]? = w.heap[q]?)∧(w.freeze ⟨b,off,none⟩ n).heap.size=w.heap.size∧
 (w.freeze ⟨b,off,none⟩ n).os=w.os∧(w.freeze ⟨b,off,none⟩ n).tape=w.tape∧(w.freeze ⟨b,off,none⟩ n).output=w.output:=by
 by_cases hn:n=0
 ·simp [World.freeze,hn,r]
 ·have hh : ∀ q,q≠b→(w.freeze ⟨b,off,none⟩ n).heap[q]? = w.heap[q]? :=fun q hq=>by
   simp [World.freeze,hn,Array.getElem?_modify,Ne.symm hq]
  have p8 : ∀ q o,(w.freeze ⟨b,off,none⟩ n).cell? ⟨q,o,none⟩=w.cell? ⟨q,o,none⟩:=by
   intro q o
   by_cases hq:q=b
   ·subst hq
    unfold World.cell?
    simp only [World.freeze,hn,if_false,Array.getElem?_modify,if_true]
    cases h:w.heap[q]? with
    | none=>rfl
    | some x=>cases x <;> rfl
   ·simp [World.cell?,hh q hq]
  refine⟨⟨fun q o v e=> ?_,fun o ds e=> ?_,r.im,r.inj,fun t k e=> ?_,r.dN,r.eC⟩,hh,by simp [World.freeze,hn],by simp [World.freeze,hn],by simp [World.freeze,hn],by simp [World.freeze,hn]⟩
  ·rw [p8];exact r.comm q o v e
  ·rw [hh _ (ho o (List.getElem?_eq_some_iff.1 e).1)];exact r.obj o ds e
  ·rcases r.tok t k e with h3 | ⟨b',cap,size,vs,T,h3,h4,h5⟩
   ·exact .inl h3
   ·refine .inr ⟨b',cap,size,vs,T,h3, ?_,h5⟩
    rw [hh]
    ·exact h4
    ·rintro rfl;exact ht t cap size ⟨k,e⟩ h3
theorem Rel.P7 (r:Rel M s w) (t:Nat):Rel M {s with av:=s.av.set t none} w∧Le M s M {s with av:=s.av.set t none}:=by
 have fp : ∀ q,St.live {s with av:=s.av.set t none} q→s.live q:=by
  rintro q ⟨k,hk⟩
  rw [List.getElem?_set]at hk
  split at hk
  ·split at hk <;> simp at hk
  ·exact⟨k,hk⟩
 have oC : ∀ (q k:Nat),(s.av.set t none)[q]? = some (some k)→s.av[q]? = some (some k):=by
  intro q k e
  rw [List.getElem?_set]at e
  split at e
  ·split at e <;> simp at e
  ·exact e
 have le:Le M s M {s with av:=s.av.set t none}:=
  ⟨fun _ _ _ h=>h,Nat.le_refl _,fun _ _=>rfl,by simp,fun q k _ e=>⟨k,oC q k e,Nat.le_refl _,fun _=>rfl⟩⟩
 refine⟨⟨r.comm,fun o ds e=> ?_,r.im,r.inj,fun q k e=>r.tok q k (oC q k e),fun q b' c z o hl e jR=>r.dN q b' c z o (fp q hl) e jR,
  fun q q' b' c z c' z' h h' e e'=>r.eC q q' b' c z c' z' (fp q h) (fp q' h') e e'⟩,le⟩
 obtain⟨dY,T',h3,h4,h5,h6⟩:=r.obj o ds e
 exact⟨dY,T',h3,h4,h5,fun i d v e1 e2=>(h6 i d v e1 e2).mono le⟩
end
end Go.Abs

/-! Sound -/

namespace Go.Abs
section
variable {M:Map} {s:St} {w:World}
theorem RD.gi {k:IntKind} {n:Int} {v:Value} (h:RD M s (.int k n) v):v = .int k n:=by cases h;rfl
theorem RD.jX {b:Bool} {v:Value} (h:RD M s (.bool b) v):v = .bool b:=by cases h;rfl
theorem RD.ig {l:List UInt8} {v:Value} (h:RD M s (.str l) v):v = .string ⟨⟨l⟩⟩:=by cases h;rfl
theorem RD.ny {v:Value} (h:RD M s .dT v):v = .pointer none:=by cases h;rfl
theorem RD.nz {o off:Nat} {v:Value} (h:RD M s (.ptr o off) v):v = .pointer (some ⟨M.mu o,off,none⟩)∧o<s.au.length:=by
 cases h with | ptr _ _ h hm=>exact⟨rfl,h⟩
theorem RD.tn {o off:Nat} {v:Value} (h:RD M s (.ptr o off) v):M.ob o≠ .map:=by cases h with | ptr _ _ h hm=>exact hm
theorem RD.z6 {o:Nat} {v:Value} (h:RD M s (.eR o) v):v = .map (some (M.mu o))∧o<s.au.length∧M.ob o = .map:=by cases h with | eR _ h hm=>exact⟨rfl,h,hm⟩
theorem RD.Cn {f:Nat} {ds:List D} {v:Value} (h:RD M s (.eW f ds) v) : ∃ vs:Array Value,v = .func (.func f) #[] vs∧ds.length=vs.size∧
 ∀ (i:Nat) (d:D) (v:Value),ds[i]? = some d→vs[i]? = some v→RD M s d v:=by
 cases h with | eW _ _ vs h1 h2=>exact⟨vs,rfl,h1,h2⟩
theorem RD.rS {row:List D} {off:Nat} {v:Value} (h:RD M s (.cV row off) v) : ∃ b k,v = .pointer (some ⟨b,k+off,none⟩)∧
 (∀ (i:Nat) (d:D),row[i]? = some d→∃ u,M.G b (k+i)=some u)∧(∀ (i:Nat) (d:D) (u:Value),row[i]? = some d→M.G b (k+i)=some u→RD M s d u):=by
 cases h with | cV _ _ b k h1 h2=>exact⟨b,k,rfl,h1,h2⟩
theorem RD.xw {ds:List D} {v:Value} (h:RD M s (.agg ds) v) : ∃ vs:Array Value,v = .agg vs∧ds.length=vs.size∧(∀ v∈vs,v.oneCell'=true)∧
 ∀ (i:Nat) (d:D) (v:Value),ds[i]? = some d→vs[i]? = some v→RD M s d v:=by
 cases h with | agg _ vs h1 h2 h3=>exact⟨vs,rfl,h1,h2,h3⟩
theorem RD.yf {ds:List D} {v:Value} (h:RD M s (.tuple ds) v) : ∃ vs:Array Value,v = .tuple vs∧ds.length=vs.size∧
 ∀ (i:Nat) (d:D) (v:Value),ds[i]? = some d→vs[i]? = some v→RD M s d v:=by
 cases h with | tuple _ vs h1 h2=>exact⟨vs,rfl,h1,h2⟩
theorem RD.undef:RD M s (.tuple []) Go.undef:= .tuple [] #[] rfl (fun i d v h=>by simp at h)
theorem RD.fJ {g:Tag} {z:Nat} {rows:List (List D)} {v:Value} (h:RD M s (.slice g z rows) v) :
 (rows = []∧v = .slice none 0 0∧fy M s g z 0 none 0)∨(rows = []∧g = .shared∧∃ a cap,v = .slice (some a) 0 cap)∨
 ∃ b k cap,v = .slice (some ⟨b,k,none⟩) rows.length cap∧rows.length≤cap∧(∀ row∈rows,row.length=z)∧
  (∀ (i:Nat) (row:List D) (j:Nat) (d:D),rows[i]? = some row→row[j]? = some d→∃ u,M.G b (k+(i*z+j))=some u)∧
  (∀ (i:Nat) (row:List D) (j:Nat) (d:D) (u:Value),rows[i]? = some row→row[j]? = some d→M.G b (k+(i*z+j))=some u→RD M s d u)∧
  fy M s g z rows.length (some (b,k)) cap:=by
 cases h with
 | gf _ _ cap hc ht=>subst hc;exact .inl ⟨rfl,rfl,ht⟩
 | jU _ a cap=>exact .inr (.inl ⟨rfl,rfl,a,cap,rfl⟩)
 | slice _ _ _ b k cap hl hs h1 h2 ht=>exact .inr (.inr ⟨b,k,cap,rfl,hl,hs,h1,h2,ht⟩)
theorem RD.row {d:D} {v:Value} (h:RD M s d v) {r:List D} (hr:d.row=some r):v.cells.size=r.length∧(∀ u∈v.cells,u.oneCell'=true)∧
 ∀ (i:Nat) (d':D) (u:Value),r[i]? = some d'→v.cells[i]? = some u→RD M s d' u:=by
 have one : ∀ (x:Value),x.oneCell'=true→x.cells = #[x]:=by intro x hx;cases x <;> first | rfl | (simp [Value.oneCell']at hx)
 have go : ∀ (x:Value),x.oneCell'=true→RD M s d x→d.row=some [d]→x.cells.size=r.length∧(∀ u∈x.cells,u.oneCell'=true)∧
  ∀ (i:Nat) (d':D) (u:Value),r[i]? = some d'→x.cells[i]? = some u→RD M s d' u:=by
  intro x hx hd h1
  rw [h1]at hr;cases hr
  rw [one x hx]
  refine⟨rfl,by simp [hx],fun i d' u e1 e2=> ?_⟩
  cases i with
  | zero=>simp at e1 e2;subst e1;subst e2;exact hd
  | succ i=>simp at e1
 cases h with
 | junk v=>cases hr
 | int k n=>exact go _ rfl (.int k n) rfl
 | bool b=>exact go _ rfl (.bool b) rfl
 | str l=>exact go _ rfl (.str l) rfl
 | dT=>exact go _ rfl .dT rfl
 | val v hv=>exact go _ hv (.val v hv) rfl
 | dU T o v h ht hv=>exact go _ (by rcases hv with rfl | rfl <;> rfl) (.dU T o v h ht hv) rfl
 | ptr o off h hm=>exact go _ rfl (.ptr o off h hm) rfl
 | eW f ds vs hl h=>exact go _ rfl (.eW f ds vs hl h) rfl
 | eR o h hm=>exact go _ rfl (.eR o h hm) rfl
 | cV row off b k h1 h2=>exact go _ rfl (.cV row off b k h1 h2) rfl
 | gf g z cap hc ht=>exact go _ rfl (.gf g z cap hc ht) rfl
 | jU z a cap=>exact go _ rfl (.jU z a cap) rfl
 | slice g z rows b k cap hl hs h1 h2 ht=>exact go _ rfl (.slice g z rows b k cap hl hs h1 h2 ht) rfl
 | agg cells vs hl h1 h2=>cases hr;exact⟨hl.symm,h1,h2⟩
 | tuple ds vs hl h1=>cases hr
theorem lN {v:Value} {d:D} (h:nu v=some d):RD M s d v∧v.oneCell'=true:=by
 unfold nu at h
 split at h <;> first | (cases h;done) | skip
 ·cases h;exact⟨.int _ _,rfl⟩
 ·cases h;exact⟨.bool _,rfl⟩
 ·cases h;exact⟨.str _,rfl⟩
 ·cases h;exact⟨.dT,rfl⟩
 ·cases h;exact⟨.gf _ _ 0 rfl rfl,rfl⟩
 ·cases h;exact⟨.val _ rfl,rfl⟩
theorem ij : ∀ {vs:List Value} {ds:List D},jV vs=some ds→ds.length=vs.length∧(∀ v∈vs,v.oneCell'=true)∧
 ∀ (i:Nat) (d:D) (v:Value),ds[i]? = some d→vs[i]? = some v→RD M s d v
 | [],ds,h=>by cases h;exact⟨rfl,by simp,by simp⟩
 | v::r,ds,h=>by
  unfold jV at h
  split at h
  ·rename_i d kC h1 h2
   cases h
   obtain⟨a,b⟩:=lN (M:=M) (s:=s) h1
   obtain⟨i1,i2,i3⟩:=ij h2
   refine⟨by simp [i1],fun u hu=> ?_,fun i d' u e1 e2=> ?_⟩
   ·rcases List.mem_cons.1 hu with rfl | hu
    ·exact b
    ·exact i2 u hu
   ·cases i with
    | zero=>simp at e1 e2;subst e1;subst e2;exact a
    | succ i=>simp at e1 e2;exact i3 i d' u e1 e2
  ·cases h
theorem xx {v:Value} {d:D} (h:vn v=some d):RD M s d v∧v.oneCell'=true:=by
 unfold vn at h
 split at h
 ·cases h;exact⟨.val _ rfl,rfl⟩
 ·exact lN h
theorem p9 : ∀ {vs:List Value} {ds:List D},pZ vs=some ds→ds.length=vs.length∧(∀ v∈vs,v.oneCell'=true)∧
 ∀ (i:Nat) (d:D) (v:Value),ds[i]? = some d→vs[i]? = some v→RD M s d v
 | [],ds,h=>by cases h;exact⟨rfl,by simp,by simp⟩
 | v::r,ds,h=>by
  unfold pZ at h
  split at h
  ·rename_i d kC h1 h2
   cases h
   obtain⟨g1,g2⟩:=xx (M:=M) (s:=s) h1
   obtain⟨k1,k2,k3⟩:=p9 h2
   refine⟨by simp [k1],fun u hu=> ?_,fun i d' u e1 e2=> ?_⟩
   ·rcases List.mem_cons.1 hu with rfl | hu
    ·exact g2
    ·exact k2 u hu
   ·cases i with
    | zero=>simp at e1 e2;subst e1;subst e2;exact g1
    | succ i=>exact k3 i d' u (by simpa using e1) (by simpa using e2)
  ·cases h
theorem uW {b:Bool} {vs:List Value} {ds:List D} (h:CX b vs=some ds):ds.length=vs.length∧(∀ v∈vs,v.oneCell'=true)∧
 ∀ (i:Nat) (d:D) (v:Value),ds[i]? = some d→vs[i]? = some v→RD M s d v:=by
 unfold CX at h
 split at h
 ·exact p9 h
 ·exact ij h
theorem CZ {v:Value} {d:D} (h:CT v=some d):RD M s d v:=by
 unfold CT at h
 split at h
 ·rename_i cs
  cases hc:jV cs.toList with
  | none=>rw [hc]at h;cases h
  | some ds=>
   rw [hc]at h;cases h
   obtain⟨h1,h2,h3⟩:=ij (M:=M) (s:=s) hc
   exact .agg ds cs (by simpa using h1) (fun v hv=>h2 v (by simpa using hv)) (fun i d v e1 e2=>h3 i d v e1 (by simpa using e2))
 ·cases h;exact .undef
 ·exact(lN h).1
def iR (M:Map) (s:St) (tm:Tm) (tmps:Array Value):Prop:=∀ t,RD M s (tm.get t) (tmps.getD t Go.undef)
theorem iR.mono {M':Map} {s':St} {tm:Tm} {tmps:Array Value} (h:iR M s tm tmps) (le:Le M s M' s'):iR M' s' tm tmps:=fun t=>(h t).mono le
theorem br {x:Operand} {y:X} (h:cX x=some y) {tm:Tm} {act:Act} (hr:iR M s tm act.tmps):RD M s (y.ev tm) (act.eval x):=by
 unfold cX at h
 split at h
 ·cases h;exact hr _
 ·rename_i v
  cases hv:CT v with
  | none=>rw [hv]at h;cases h
  | some d=>rw [hv]at h;cases h;exact CZ hv
 ·cases h;exact .eW _ [] #[] rfl (by simp)
 ·cases h
theorem Tm.xy (tm:Tm) (t:Nat) (d:D) (u:Nat):(tm.set t d).get u=if u=t then d else tm.get u:=by
 induction tm with
 | nil=>
  simp only [Tm.set,Tm.get]
  by_cases h:t=u
  ·simp [h]
  ·rw [if_neg h,if_neg (fun e=>h e.symm)]
 | cons p r ih=>
  obtain⟨k,e⟩:=p
  simp only [Tm.set]
  split
  ·rename_i h
   subst h
   simp only [Tm.get]
   by_cases h:k=u
   ·simp [h]
   ·rw [if_neg h,if_neg (fun e=>h e.symm),if_neg h]
  ·rename_i h
   simp only [Tm.get,ih]
   by_cases h1:k=u
   ·subst h1;simp [h]
   ·simp [h1]
theorem iR.put {tm:Tm} {act:Act} (h:iR M s tm act.tmps) {dst:Option Nat} (hd : ∀ t,dst=some t→t<act.tmps.size) {d:D} {v:Value} (hv:RD M s d v) :
 iR M s (tm.put dst d) (act.put dst v).tmps:=by
 intro u
 cases dst with
 | none=>exact h u
 | some t=>
  simp only [Tm.put,Act.put,Tm.xy]
  have ht:=hd t rfl
  by_cases hu:u=t
  ·subst hu
   simp [ht];exact hv
  ·rw [if_neg hu]
   have:=h u
   simpa [Array.getElem?_setIfInBounds_ne (fun e=>hu e.symm)]using this
theorem fm (P:Program) {t:TypeId} {i:TypeInfo} (h:P.info? t=some i) (w:World):(typeInfo t).run P w = .ok i w:=by
 simp [typeInfo,h]
theorem nA (b o n:Nat):Addr.add ⟨b,o,none⟩ n = ⟨b,o+n,none⟩:=Addr.add_lit b o n
theorem vq (P:Program) {t:TypeId} {i:TypeInfo} {agg:Bool} (hi:P.info? t=some i) (ha:n9 P t=some agg) (b k:Nat) (us:List Value)
 (hl:us.length=if agg then i.size else 1) (h : ∀ (j:Nat) (u:Value),us[j]? = some u→w.cell? ⟨b,k+j,none⟩=some u) :
 (loadVar t ⟨b,k,none⟩).run P w = .ok (if agg then .agg us.toArray else us.getD 0 Go.undef) w:=by
 have tp:(isAgg t).run P w = .ok agg w:=by
  unfold n9 at ha
  unfold isAgg
  cases hu:P.underlying t with
  | none=>rw [hu]at ha;cases ha
  | some d=>
   rw [hu]at ha
   simp only [Sem.run_bind,run_underlying hu,Result.andThen_ok]
   cases d <;> simp_all
 cases agg with
 | true=>
  simp only [if_true]at hl ⊢
  have hc:=run_loadCells_list (P:=P) w ⟨b,k,none⟩ us (fun j v e=>by rw [nA];exact h j v e)
  simp [loadVar,tp,sizeOf,fm P hi, ← hl,hc]
 | false=>
  simp only [Bool.false_eq_true,if_false]at hl ⊢
  match us,hl with
  | [u],_=>
   have:=h 0 u rfl
   simp only [Nat.add_zero]at this
   simp [loadVar,tp,this]
theorem oc {cs:List D} {off:Nat} {agg:Bool} {size:Nat} {d:D} (h:part cs off agg size=some d) :
 (agg=true∧off+size≤cs.length∧d = .agg ((cs.drop off).take size))∨(agg=false∧cs[off]? = some d):=by
 unfold part at h
 split at h
 ·split at h
  ·cases h;exact .inl ⟨rfl, ‹_›,rfl⟩
  ·cases h
 ·exact .inr ⟨rfl,h⟩
theorem oY {cs:List D} {off size:Nat} {agg:Bool} {d:D} (h:part cs off agg size=some d) (us:List Value) (hl:us.length=if agg then size else 1)
 (jW:agg=true→∀ u∈us,u.oneCell'=true)
 (hr : ∀ (j:Nat) (d:D) (u:Value),cs[off+j]? = some d→us[j]? = some u→RD M s d u):RD M s d (if agg then .agg us.toArray else us.getD 0 Go.undef):=by
 rcases oc h with ⟨rfl,h1,rfl⟩ | ⟨rfl,h1⟩
 ·simp only [if_true]at hl ⊢
  refine .agg _ _ (by simp [hl];omega) (fun v hv=>jW rfl v (by simpa using hv)) (fun i d v e1 e2=> ?_)
  rw [List.getElem?_take]at e1
  split at e1
  ·rw [List.getElem?_drop]at e1
   exact hr i d v e1 (by simpa using e2)
  ·cases e1
 ·simp only [Bool.false_eq_true,if_false]at hl ⊢
  match us,hl with
  | [u],_=>exact hr 0 d u (by simpa using h1) rfl
end
end Go.Abs

/-! Sound2 -/

namespace Go.Abs
def b9 (P:Program) (M:Map) (s:St) (w:World) (x:Sem Next) (d:D) (s':St):Prop:=
 ∃ v w' M',(x.run P w = .ok (.value v) w'∨(x.run P w = .ok .skip w'∧v=Go.undef))∧Rel M' s' w'∧RD M' s' d v∧Ext M s w M' s' w'
section
variable {P:Program} {M:Map} {s:St} {w:World}
theorem b9.pure {x:Sem Next} {d:D} {v:Value} (r:Rel M s w) (h:x.run P w = .ok (.value v) w) (hd:RD M s d v):b9 P M s w x d s:=
 ⟨v,w,M, .inl h,r,hd,Ext.refl M s w⟩
theorem C0 (r:Rel M s w) {t:TypeId} {z:List D} (hz:zeroOf P t=some z) :
 b9 P M s w (do pure (.value (← Instr.alloc t true (.tuple #[])))) (.ptr s.au.length 0) {s with au:=s.au++ [z]}:=by
 unfold zeroOf at hz
 split at hz
 ·rename_i i hi
  split at hz
  ·rename_i v hv
   split at hz
   ·rename_i dJ
    obtain⟨h1,h2,h3⟩:=ij (M:=M) (s:=s) hz
    obtain⟨r',e'⟩:=r.cQ z v.cells t (by rw [h1];simp) (fun u hu=>h2 u (by simpa using hu)) (fun i d u e1 e2=>h3 i d u e1 (by simpa using e2))
    refine⟨_,_,_, .inl ?_,r', .ptr _ _ (by simp) (by simp [Map.cQ,Map.ob]),e'⟩
    simp [Instr.alloc,zeroValue,fm P hi,hv,newVar,newRow,Map.cQ,Map.mu]
   ·cases hz
  ·cases hz
 ·cases hz
theorem BK (r:Rel M s w) {t:TypeId} {z:List D} (hz:rP P t=some (.dT::z)) :
 b9 P M s w (do pure (.value (← Instr.alloc t true (.tuple #[])))) (.ptr s.au.length 0) {s with au:=s.au++ [.dU t s.au.length::z]}:=by
 unfold rP at hz
 split at hz
 ·rename_i i hi
  split at hz
  ·rename_i v hv
   split at hz
   ·rename_i dJ
    obtain⟨h1,h2,h3⟩:=uW (M:=M) (s:=s) hz
    obtain⟨r',e'⟩:=r.zZ (.dU t s.au.length::z) v.cells t (.ty t) (by simp) (fun _ h=>by cases h;rfl) (by simp at h1 ⊢;omega) (fun u hu=>h2 u (by simpa using hu)) (fun i d u e1 e2=>by
     cases i with
     | zero=>
      simp at e1;subst e1
      have:=(h3 0 .dT u rfl (by simpa using e2)).ny
      exact .dU t _ u (by simp) (by simp [Map.cQ,Map.ty,Ob.ty?]) (.inl this)
     | succ i=>exact(h3 (i+1) d u (by simpa using e1) (by simpa using e2)).mono (pw s w.heap.size _ _))
    refine⟨_,_,_, .inl ?_,r', .ptr _ _ (by simp) (by simp [Map.cQ,Map.ob]),e'⟩
    simp [Instr.alloc,zeroValue,fm P hi,hv,newVar,newRow,Map.cQ,Map.mu]
   ·cases hz
  ·cases hz
 ·cases hz
theorem HW (r:Rel M s w) {t:TypeId} {d:D} {v:Value} {row:List D} (hd:RD M s d v) (hr:d.row=some row) :
 b9 P M s w (do pure (.value (← Instr.box t v))) (.ptr s.au.length 0) {s with au:=s.au++ [row]}:=by
 obtain⟨h1,h2,h3⟩:=hd.row hr
 obtain⟨r',e'⟩:=r.cQ row v.cells t h1 h2 h3
 refine⟨_,_,_, .inl ?_,r', .ptr _ _ (by simp) (by simp [Map.cQ,Map.ob]),e'⟩
 simp [Instr.box,newVar,newRow,Map.cQ,Map.mu]
theorem Fl (r:Rel M s w) {t:TypeId} {d:D} {v:Value} {row:List D} (hd:RD M s d v) (hr:d.row=some (.dT::row)) :
 b9 P M s w (do pure (.value (← Instr.box t v))) (.ptr s.au.length 0) {s with au:=s.au++ [.dU t s.au.length::row]}:=by
 obtain⟨h1,h2,h3⟩:=hd.row hr
 obtain⟨r',e'⟩:=r.zZ (.dU t s.au.length::row) v.cells t (.ty t) (by simp) (fun _ h=>by cases h;rfl) (by simp at h1 ⊢;omega) h2 (fun i d u e1 e2=>by
  cases i with
  | zero=>
   simp at e1;subst e1
   have:=(h3 0 .dT u rfl e2).ny
   exact .dU t _ u (by simp) (by simp [Map.cQ,Map.ty,Ob.ty?]) (.inl this)
  | succ i=>exact(h3 (i+1) d u (by simpa using e1) e2).mono (pw s w.heap.size _ _))
 refine⟨_,_,_, .inl ?_,r', .ptr _ _ (by simp) (by simp [Map.cQ,Map.ob]),e'⟩
 simp [Instr.box,newVar,newRow,Map.cQ,Map.mu]
theorem zi (r:Rel M s w) {t:TypeId} {i:TypeInfo} {agg:Bool} (hi:P.info? t=some i) (ha:n9 P t=some agg) {o off:Nat} {cs:List D} {d:D}
 (ho:s.au[o]? = some cs) (hk:M.ob o≠ .map) (hp:part cs off agg i.size=some d) :
 b9 P M s w (do pure (.value (← Instr.loadAt t (.pointer (some ⟨M.mu o,off,none⟩))))) d s:=by
 obtain⟨vs,T,hh,dJ,⟨jW,_⟩,lH⟩:=r.obj o cs ho
 replace hh:=hh.cells hk
 let n:=if agg then i.size else 1
 have iu:off+n≤vs.size:=by
  rcases oc hp with ⟨rfl,h1,_⟩ | ⟨rfl,h1⟩
  ·simp [n];omega
  ·have:=(List.getElem?_eq_some_iff.1 h1).1;simp [n];omega
 have hlen:((vs.toList.drop off).take n).length=n:=by simp;omega
 have hJ : ∀ (j:Nat) (u:Value),((vs.toList.drop off).take n)[j]? = some u→vs[off+j]? = some u:=by
  intro j u h
  rw [List.getElem?_take]at h
  split at h
  ·rw [List.getElem?_drop]at h;simpa using h
  ·cases h
 have cW:=vq (w:=w) P hi ha (M.mu o) off ((vs.toList.drop off).take n) hlen (fun j u h=>by rw [gY hh];exact hJ j u h)
 refine b9.pure (v:=if agg then .agg ((vs.toList.drop off).take n).toArray else((vs.toList.drop off).take n).getD 0 Go.undef) r (by simp [Instr.loadAt,Instr.sureAddr,cW]) ?_
 refine oY hp _ hlen (fun _ u hu=>jW u ?_) (fun j d u e1 e2=>lH _ d u e1 (hJ j u e2))
 exact Array.mem_toList_iff.1 (List.mem_of_mem_drop (List.mem_of_mem_take hu))
theorem rU {b:Nat} : ∀ (n k:Nat),(∀ j,j<n→∃ u,M.G b (k+j)=some u)→∃ us:List Value,us.length=n∧∀ (j:Nat) (u:Value),us[j]? = some u→M.G b (k+j)=some u
 | 0,_,_=>⟨[],rfl,fun j u h=>by simp at h⟩
 | n+1,k,h=>by
  obtain⟨u0,h0⟩:=h 0 (by omega)
  obtain⟨us,h1,h2⟩:=rU n (k+1) (fun j hj=>by obtain⟨u,hu⟩:=h (j+1) (by omega);exact⟨u,by rw [show k+1+j=k+(j+1) by omega];exact hu⟩)
  refine⟨u0::us,by simp [h1],fun j u hj=> ?_⟩
  cases j with
  | zero=>simp at hj;subst hj;exact h0
  | succ j=>simp at hj;have:=h2 j u hj;rw [show k+(j+1)=k+1+j by omega];exact this
theorem zj (r:Rel M s w) {t:TypeId} {i:TypeInfo} {agg:Bool} (hi:P.info? t=some i) (ha:n9 P t=some agg) {row:List D} {off b k:Nat} {d:D}
 (h1 : ∀ (i:Nat) (d:D),row[i]? = some d→∃ u,M.G b (k+i)=some u) (h2 : ∀ (i:Nat) (d:D) (u:Value),row[i]? = some d→M.G b (k+i)=some u→RD M s d u)
 (hp:part row off agg i.size=some d) :
 b9 P M s w (do pure (.value (← Instr.loadAt t (.pointer (some ⟨b,k+off,none⟩))))) d s:=by
 let n:=if agg then i.size else 1
 have iu:off+n≤row.length:=by
  rcases oc hp with ⟨rfl,h1,_⟩ | ⟨rfl,h1⟩
  ·simp [n];omega
  ·have:=(List.getElem?_eq_some_iff.1 h1).1;simp [n];omega
 obtain⟨us,hl,uV⟩:=rU (M:=M) (b:=b) n (k+off) (fun j hj=>by
  obtain⟨d,hd⟩ : ∃ d,row[off+j]? = some d:=⟨_,List.getElem?_eq_getElem (by omega)⟩
  obtain⟨u,hu⟩:=h1 _ d hd
  exact⟨u,by rw [show k+off+j=k+(off+j) by omega];exact hu⟩)
 have cW:=vq (w:=w) P hi ha b (k+off) us hl (fun j u h=>(r.comm _ _ _ (uV j u h)).1)
 refine b9.pure (v:=if agg then .agg us.toArray else us.getD 0 Go.undef) r (by simp [Instr.loadAt,Instr.sureAddr,cW]) ?_
 refine oY hp us hl (fun _ u hu=> ?_) (fun j d u e1 e2=>h2 _ d u e1 (by rw [show k+(off+j)=k+off+j by omega];exact uV j u e2))
 obtain⟨j,hj⟩:=List.mem_iff_getElem?.1 hu
 exact(r.comm _ _ _ (uV j u hj)).2
theorem C1 (r:Rel M s w) {t:TypeId} {i:TypeInfo} (hi:P.info? t=some i) {o off:Nat} {cs row:List D} {d:D} {v:Value} (ho:s.au[o]? = some cs) (hk:M.ob o≠ .map)
 (hd:RD M s d v) (hr:d.row=some row) (hl:row.length=i.size) (iu:off+i.size≤cs.length) :
 b9 P M s w (do Instr.storeAt t (.pointer (some ⟨M.mu o,off,none⟩)) v;pure .skip) (.tuple []) {s with au:=s.au.set o (ga cs off row)}:=by
 obtain⟨h1,h2,h3⟩:=hd.row hr
 obtain⟨w',cW,r',e'⟩:=r.Sl P ho hk row v.cells.toList (by simpa using h1) (by rw [hl];exact iu) (fun u hu=>h2 u (by simpa using hu)) (fun i d u e1 e2=>h3 i d u e1 (by simpa using e2))
 refine⟨Go.undef,w',M, .inr ⟨?_,rfl⟩,r', .undef,e'⟩
 have dJ:v.cells.size=i.size:=by omega
 simp [Instr.storeAt,Instr.sureAddr,storeVar,sizeOf,fm P hi,dJ,cW]
theorem wb (r:Rel M s w) {d:D} {a:Addr} (hd:RD M s d (.pointer (some a))) :
 b9 P M s w (pure (.value (.pointer (some a)))) d s:=b9.pure r rfl hd
theorem yg {t:TypeId} {f off size:Nat} {agg:Bool} (h:je P t f=some (off,size,agg)) (b k:Nat) :
 (Instr.fieldAt t (.pointer (some ⟨b,k,none⟩)) f).run P w = .ok (.pointer (some ⟨b,k+off,none⟩)) w:=by
 unfold je at h
 split at h
 ·rename_i fs hu
  split at h
  ·rename_i fd hf
   split at h
   ·rename_i i a hi ha
    split at h
    ·cases h
    ·rename_i dS
     cases h
     simp [Instr.fieldAt,run_underlying hu,hf,Instr.sureAddr,fieldPlace,sizeOf,fm P hi,dS,nA]
   ·cases h
  ·cases h
 ·cases h
theorem Fm {t:TypeId} {f off size:Nat} {agg:Bool} (h:je P t f=some (off,size,agg)) (vs:Array Value) (us:List Value) (hl:us.length=if agg then size else 1)
 (hg : ∀ j,j<us.length→vs[off+j]? = us[j]?) :
 (Instr.field t (.agg vs) f).run P w = .ok (if agg then .agg us.toArray else us.getD 0 Go.undef) w:=by
 unfold je at h
 split at h
 ·rename_i fs hu
  split at h
  ·rename_i fd hf
   split at h
   ·rename_i i a hi ha
    split at h
    ·cases h
    ·rename_i dS
     cases h
     have tp:(isAgg fd.type).run P w = .ok agg w:=by
      unfold n9 at ha
      unfold isAgg
      cases hu:P.underlying fd.type with
      | none=>rw [hu]at ha;cases ha
      | some d=>
       rw [hu]at ha
       simp only [Sem.run_bind,run_underlying hu,Result.andThen_ok]
       cases d <;> simp_all
     cases agg with
     | true=>
      simp only [if_true]at hl ⊢
      have:vs.extract fd.offset (fd.offset+i.size)=us.toArray:=by
       apply Array.ext_getElem?
       intro j
       rw [Array.getElem?_extract]
       by_cases hj:j<us.length
       ·rw [← hl,if_pos (by
         have h1:=hg j hj
         rw [List.getElem?_eq_getElem hj]at h1
         have:=(Array.getElem?_eq_some_iff.1 h1).1
         have h2:=hg (us.length - 1) (by omega)
         rw [List.getElem?_eq_getElem (by omega)]at h2
         have:=(Array.getElem?_eq_some_iff.1 h2).1
         omega),hg j hj]
        simp
       ·have hn:us.toArray[j]? = none:=by simp;omega
        rw [hn,if_neg (by omega)]
      simp [Instr.field,run_underlying hu,hf,asAgg,Go.part,tp,sizeOf,fm P hi,this]
     | false=>
      simp only [Bool.false_eq_true,if_false]at hl ⊢
      match us,hl with
      | [u],_=>
       have:=hg 0 (by simp)
       simp at this
       simp [Instr.field,run_underlying hu,hf,asAgg,Go.part,tp,this]
   ·cases h
  ·cases h
 ·cases h
end
end Go.Abs

/-! Sound3 -/

namespace Go.Abs
section
variable {P:Program} {M:Map} {s:St} {w:World}
theorem C2 {op : BinOp} {t : TypeId} {k : IntKind} {a b : Int} {d : D} (h : eo op k a b = some d) :
   ∃ v, (binOp op t (.int k a) (.int k b)).run P w = .ok v w ∧ RD M s d v := by
 cases op <;> simp only [eo] at h <;> first
   | (cases h; done)
   | (split at h
      · cases h
      · cases h
        exact ⟨_, by simp [binOp, Op.intDiv, *], .int _ _⟩)
   | (cases h; exact ⟨_, by simp [binOp, Op.intArith], .int _ _⟩)
   | (cases h; exact ⟨_, by simp [binOp, Op.intCmp], .bool _⟩)
theorem C3 {op:BinOp} {t:TypeId} {a b:List UInt8} {d:D} (h:kb op a b=some d) :
 ∃ v,(binOp op t (.string ⟨⟨a⟩⟩) (.string ⟨⟨b⟩⟩)).run P w = .ok v w∧RD M s d v:=by
 have sz : ∀ l:List UInt8,(⟨⟨l⟩⟩:ByteArray).size=l.length:=fun _=>rfl
 cases op <;> simp only [kb]at h <;> first
  | (cases h;done)
  | skip
 case add=>
  split at h
  ·rename_i hl
   cases h
   refine⟨.string ⟨⟨a++b⟩⟩, ?_, .str _⟩
   have h1 : ¬ ((((⟨⟨a⟩⟩:ByteArray).size+(⟨⟨b⟩⟩:ByteArray).size:Nat):Int) > IntKind.i64.max):=by
    rw [sz,sz,IntKind.max_i64];simp only [bF]at hl;omega
   simp only [binOp,Op.stringOp,h1,if_false]
   simp only [Sem.run_pure]
   congr 2
  ·cases h
 case eql=>cases h;exact⟨_,by simp [binOp,Op.stringOp], .bool _⟩
 case neq=>cases h;exact⟨_,by simp [binOp,Op.stringOp], .bool _⟩
 case lss=>cases h;exact⟨_,by simp [binOp,Op.stringOp,bytesLess], .bool _⟩
theorem kc {op:BinOp} {t:TypeId} {x y:Operand} {a b:Value} (h:(∀ vs,a≠ .agg vs)∧a≠ .nilIface):(eqGuard op t x y a b).run P w = .ok () w:=by
 obtain⟨h1,h2⟩:=h
 cases a <;> first
  | exact(h2 rfl).elim
  | exact(h1 _ rfl).elim
  | (cases op <;> simp [eqGuard])
theorem HX (r:Rel M s w) {op:BinOp} {t:TypeId} {x y:Operand} {dx dy d:D} {a b:Value} (ha:RD M s dx a) (hb:RD M s dy b) (h:qD op dx dy=some d) :
 b9 P M s w (do pure (.value (← (do eqGuard op t x y a b;binOp op t a b)))) d s:=by
 unfold qD at h
 split at h
 ·rename_i k n k' m
  split at h
  ·rename_i hk;subst hk
   rw [ha.gi,hb.gi]
   obtain⟨v,hv,hd⟩:=C2 (P:=P) (M:=M) (s:=s) (w:=w) (t:=t) h
   exact b9.pure r (by simp [kc (P:=P) (w:=w) (op:=op) (t:=t) (x:=x) (y:=y) (a:= .int k n) (b:= .int k m) ⟨by simp,by simp⟩,hv]) hd
  ·cases h
 ·rename_i l m
  rw [ha.ig,hb.ig]
  obtain⟨v,hv,hd⟩:=C3 (P:=P) (M:=M) (s:=s) (w:=w) (t:=t) h
  exact b9.pure r (by simp [kc (P:=P) (w:=w) (op:=op) (t:=t) (x:=x) (y:=y) (a:= .string ⟨⟨l⟩⟩) (b:= .string ⟨⟨m⟩⟩) ⟨by simp,by simp⟩,hv]) hd
 ·cases h
theorem HY (r:Rel M s w) {neg:Bool} {t:TypeId} {x y:Operand} {p q:Bool} (ht:P.underlying t=some .bool) :
 b9 P M s w (do pure (.value (← (do eqGuard (if neg then .neq else .eql) t x y (.bool p) (.bool q);binOp (if neg then .neq else .eql) t (.bool p) (.bool q))))) (.bool (if neg then !(p==q)else p==q)) s:=by
 refine b9.pure (v:= .bool (if neg then !(p==q)else p==q)) r ?_ (.bool _)
 have hg:=kc (P:=P) (w:=w) (op:=if neg then .neq else .eql) (t:=t) (x:=x) (y:=y) (a:= .bool p) (b:= .bool q) ⟨by simp,by simp⟩
 have he:(Op.equal t (.bool p) (.bool q)).run P w = .ok (p==q) w:=by
  exact run_equalIn_bool w 9999 t p q ht
 cases neg
 ·simp only [Bool.false_eq_true,if_false]at hg ⊢
  simp [hg,binOp,he]
 ·simp only [if_true]at hg ⊢
  simp [hg,binOp,he]
theorem BL (n:Nat) {t e:TypeId} {a:Option Addr} (ht:P.underlying t=some (.pointer e)):(Op.equalIn (n+1) t (.pointer a) (.pointer none)).run P w = .ok a.isNone w:=by
 cases a <;> simp [Op.equalIn,run_underlying ht]
theorem vr (r:Rel M s w) {neg:Bool} {t e:TypeId} {x y:Operand} {a:Option Addr} (ht:P.underlying t=some (.pointer e)) :
 b9 P M s w (do pure (.value (← (do eqGuard (if neg then .neq else .eql) t x y (.pointer a) (.pointer none);binOp (if neg then .neq else .eql) t (.pointer a) (.pointer none))))) (.bool (if neg then !a.isNone else a.isNone)) s:=by
 refine b9.pure (v:= .bool (if neg then !a.isNone else a.isNone)) r ?_ (.bool _)
 have hg:=kc (P:=P) (w:=w) (op:=if neg then .neq else .eql) (t:=t) (x:=x) (y:=y) (a:= .pointer a) (b:= .pointer none) ⟨by simp,by simp⟩
 have he:(Op.equal t (.pointer a) (.pointer none)).run P w = .ok a.isNone w:=by
  exact BL 9999 ht
 cases neg
 ·simp only [Bool.false_eq_true,if_false]at hg ⊢
  simp [hg,binOp,he]
 ·simp only [if_true]at hg ⊢
  simp [hg,binOp,he]
theorem C5 (n:Nat) {t:TypeId} {k:Nat} (hk:jA P t=some k) {x y:D} {v u:Value} (rv:RD M s x v) (ru:RD M s y u) {b:Bool} (h:jz k x y=some b) :
 (Op.equalIn (n+1) t v u).run P w = .ok b w:=by
 unfold jA at hk
 split at hk <;> first | (cases hk;done) | skip
 ·rename_i kk hu
  cases hk
  cases x <;> cases y <;> simp [jz]at h
  obtain⟨rfl,rfl⟩:=h
  rw [rv.gi,ru.gi]
  exact run_equalIn_int w n t _ _ _ _ hu
 ·rename_i hu
  cases hk
  cases x <;> cases y <;> simp [jz]at h
  subst h
  rw [rv.jX,ru.jX]
  exact run_equalIn_bool w n t _ _ hu
 ·rename_i hu
  cases hk
  cases x <;> cases y <;> simp [jz]at h
  subst h
  rw [rv.ig,ru.ig]
  rw [run_equalIn_string w n t _ _ hu]
  simp
theorem tq (n:Nat) : ∀ (fs:List Field) (off:Nat) (ks:List Nat) (xs ys:List D) (vs us:Array Value) (e:Bool),
 uA P off fs=some ks→(∀ (i:Nat) (d:D) (v:Value),xs[i]? = some d→vs[off+i]? = some v→RD M s d v)→(∀ i,i<xs.length→(vs[off+i]?).isSome)→
 (∀ (i:Nat) (d:D) (v:Value),ys[i]? = some d→us[off+i]? = some v→RD M s d v)→(∀ i,i<ys.length→(us[off+i]?).isSome)→
 ie ks xs ys=some e→(Op.eqFields (n+1) vs us fs).run P w = .ok e w
 | [],off,ks,xs,ys,vs,us,e,hk,_,_,_,_,h=>by
  cases hk
  cases xs <;> cases ys <;> simp [ie]at h
  subst h;rfl
 | f::fs,off,ks,xs,ys,vs,us,e,hk,h1,h2,h3,h4,h=>by
  unfold uA at hk
  split at hk
  ·rename_i hf
   obtain⟨ho,P8⟩:=hf
   split at hk
   ·rename_i k Uz uX bq
    cases hk
    match xs,ys with
    | [],[]=>cases h
    | [],_::_=>cases h
    | _::_,[]=>cases h
    | x::xs,y::ys=>
     obtain⟨v,hv⟩:=Option.isSome_iff_exists.1 (h2 0 (by simp))
     obtain⟨u,hu⟩:=Option.isSome_iff_exists.1 (h4 0 (by simp))
     simp only [Nat.add_zero]at hv hu
     have rv:=h1 0 x v rfl hv
     have ru:=h3 0 y u rfl hu
     have tp:(isAgg f.type).run P w = .ok false w:=by
      unfold isAgg
      unfold jA at uX
      cases hu:P.underlying f.type with
      | none=>rw [hu]at uX;simp at uX
      | some d=>simp only [Sem.run_bind,run_underlying hu,Result.andThen_ok];rw [hu]at uX;cases d <;> simp_all
     have pv:(Go.part f.type vs f.offset).run P w = .ok v w:=by simp [Go.part,tp,ho,hv]
     have pu:(Go.part f.type us f.offset).run P w = .ok u w:=by simp [Go.part,tp,ho,hu]
     cases hc:jz k x y with
     | none=>simp [ie,hc]at h
     | some b=>
      have hb:=C5 (w:=w) n uX rv ru hc
      simp only [ie,hc]at h
      simp only [Op.eqFields,if_pos P8,Sem.run_bind,pv,pu,hb,Result.andThen_ok,Sem.run_ite,Sem.run_pure]
      cases b with
      | false=>cases h;rfl
      | true=>
       have:=tq n fs (off+1) Uz xs ys vs us e bq
        (fun i d v e1 e2=>h1 (i+1) d v (by simpa using e1) (by rw [show off+(i+1)=off+1+i by omega];exact e2))
        (fun i hi=>by have:=h2 (i+1) (by simpa using hi);rwa [show off+(i+1)=off+1+i by omega]at this)
        (fun i d v e1 e2=>h3 (i+1) d v (by simpa using e1) (by rw [show off+(i+1)=off+1+i by omega];exact e2))
        (fun i hi=>by have:=h4 (i+1) (by simpa using hi);rwa [show off+(i+1)=off+1+i by omega]at this) h
       simp [this]
   ·cases hk
  ·cases hk
theorem H0 (r:Rel M s w) {neg:Bool} {t:TypeId} {x y:Operand} {ks:List Nat} {xs ys:List D} {a b:Value} {e:Bool} (ht:lF P t=some ks) (ha:RD M s (.agg xs) a) (hb:RD M s (.agg ys) b) (he:ie ks xs ys=some e) :
 b9 P M s w (do pure (.value (← (do eqGuard (if neg then .neq else .eql) t x y a b;binOp (if neg then .neq else .eql) t a b)))) (.bool (if neg then !e else e)) s:=by
 obtain⟨vs,rfl,hl,_,h1⟩:=ha.xw
 obtain⟨us,rfl,ll,_,h2⟩:=hb.xw
 unfold lF at ht
 split at ht
 ·rename_i fs hu
  split at ht
  ·rename_i hg
   obtain⟨Fp,UA⟩:=hg
   have hf:P.fieldsOf t=fs:=by simp [Program.fieldsOf,hu]
   have cW:(Op.equalIn 10000 t (.agg vs) (.agg us)).run P w = .ok e w:=by
    rw [run_equalIn_struct w 9999 t vs us (by rw [hf];exact hu) UA,hf]
    exact tq 9998 fs.toList 0 ks xs ys vs us e ht (fun i d v e1 e2=>h1 i d v e1 (by simpa using e2)) (fun i hi=>by simp;omega)
     (fun i d v e1 e2=>h2 i d v e1 (by simpa using e2)) (fun i hi=>by simp;omega) he
   have yh:=run_eqGuard_agg (P:=P) w (if neg then .neq else .eql) t x y vs us Fp
   refine b9.pure (v:= .bool (if neg then !e else e)) r ?_ (.bool _)
   cases neg
   ·simp only [Bool.false_eq_true,if_false]at yh ⊢
    simp only [Sem.run_bind,yh,Result.andThen_ok,run_eql_struct,cW,Sem.run_pure]
   ·simp only [if_true]at yh ⊢
    simp only [Sem.run_bind,yh,Result.andThen_ok,run_neq_struct,cW,Sem.run_pure]
  ·cases ht
 ·cases ht
end
end Go.Abs

/-! Sound4 -/

namespace Go.Abs
section
variable {P:Program} {M:Map} {s:St} {w:World}
theorem uB (l:List UInt8):(⟨⟨l⟩⟩:ByteArray).size=l.length:=rfl
theorem extract_mk (l:List UInt8) (a b:Nat):(⟨⟨l⟩⟩:ByteArray).extract a b = ⟨⟨(l.take b).drop a⟩⟩:=by
 apply ByteArray.ext
 rw [ByteArray.data_extract]
 apply Array.ext'
 simp [List.drop_take]
theorem getElem?_mk (l:List UInt8) (n:Nat):(⟨⟨l⟩⟩:ByteArray)[n]? = l[n]? :=by
 by_cases h:n<l.length
 ·rw [getElem?_pos (⟨⟨l⟩⟩:ByteArray) n h,List.getElem?_eq_getElem h];rfl
 ·rw [List.getElem?_eq_none (by omega)]
  rw [getElem?_neg (c:=(⟨⟨l⟩⟩:ByteArray)) (i:=n)]
  show ¬ n<(⟨⟨l⟩⟩:ByteArray).size
  rw [uB];omega
theorem Fq (r:Rel M s w) {t:TypeId} {l:List UInt8} {k:IntKind} {n:Int} {c:UInt8} (ht:P.underlying t=some .string) (h0:0≤n) (hc:l[n.toNat]? = some c) :
 b9 P M s w (do pure (.value (← Instr.index t (.string ⟨⟨l⟩⟩) (.int k n)))) (.int .u8 c.toNat) s:=by
 refine b9.pure (v:= .int .u8 c.toNat) r ?_ (.int _ _)
 simp [Instr.index,asIntOf,run_underlying ht,h0,getElem?_mk,hc]
theorem z7 (r:Rel M s w) {t ty:TypeId} {l:List UInt8} (ht:P.underlying t=some .string) :
 b9 P M s w (do pure (.value (← Builtin.len_ #[t] ty #[.string ⟨⟨l⟩⟩]))) (.int .i64 l.length) s:=by
 refine b9.pure (v:= .int .i64 l.length) r ?_ (.int _ _)
 simp [Builtin.len_,run_underlying ht,goInt,uB]
theorem nB (r:Rel M s w) {t ty e:TypeId} {a:Option Addr} {n c:Nat} (ht:P.underlying t=some (.slice e)) :
 b9 P M s w (do pure (.value (← Builtin.len_ #[t] ty #[.slice a n c]))) (.int .i64 n) s:=by
 refine b9.pure (v:= .int .i64 n) r ?_ (.int _ _)
 simp [Builtin.len_,run_underlying ht,goInt]
theorem C6 (r:Rel M s w) {t e:TypeId} {i:TypeInfo} {g:Tag} {rows:List (List D)} {row:List D} {v:Value} {k:IntKind} {n:Int} (ht:P.underlying t=some (.slice e)) (hi:P.info? e=some i)
 (hd:RD M s (.slice g i.size rows) v) (h0:0≤n) (hr:rows[n.toNat]? = some row) :
 b9 P M s w (do pure (.value (← Instr.indexAt t v (.int k n)))) (.cV row 0) s:=by
 have hD:=(List.getElem?_eq_some_iff.1 hr).1
 rcases hd.fJ with ⟨rfl,_,_⟩ | ⟨rfl,_,_⟩ | ⟨b,q,cap,rfl,hl,hs,h1,h2,_⟩
 ·simp at hr
 ·simp at hr
 ·refine b9.pure (v:= .pointer (some ⟨b,q+n.toNat*i.size+0,none⟩)) r ?_ ?_
  ·have:n<(rows.length:Int):=by omega
   simp [Instr.indexAt,asIntOf,run_underlying ht,h0,this,sizeOf,fm P hi,nA]
  ·refine .cV row 0 b (q+n.toNat*i.size) (fun j d hj=> ?_) (fun j d u hj hu=> ?_)
   ·obtain⟨u,hu⟩:=h1 n.toNat row j d hr hj
    exact⟨u,by rw [Nat.add_assoc];exact hu⟩
   ·exact h2 n.toNat row j d u hr hj (by rw [← Nat.add_assoc];exact hu)
def Kk (lv:Option Value) (l:Int):Prop:=(lv=none∧l=0)∨∃ k,lv=some (.int k l)
def Kl (hv:Option Value) (len:Nat) (h:Int):Prop:=(hv=none∧h=len)∨∃ k,hv=some (.int k h)
theorem oZ {isSlice:Bool} {lv hv:Option Value} {len cap:Nat} {l h:Int} (h1:Kk lv l) (h2:Kl hv len h) (a:0≤l) (b:l≤h) (c:h≤len) (d:len≤cap) :
 (Instr.sliceBounds isSlice len cap lv hv none).run P w = .ok (l.toNat,h.toNat,cap) w:=by
 have h0:0≤h:=by omega
 have hc:h≤cap:=by omega
 rcases h1 with ⟨rfl,rfl⟩ | ⟨k,rfl⟩ <;> rcases h2 with ⟨rfl,rfl⟩ | ⟨k',rfl⟩
 ·simp [Instr.sliceBounds]
 ·simp [Instr.sliceBounds,run_sliceBound w _ _ _ _ h0 hc]
 ·simp [Instr.sliceBounds,run_sliceBound w _ _ _ _ a b]
 ·have e:(h.toNat:Int)=h:=Int.toNat_of_nonneg h0
  simp [Instr.sliceBounds,run_sliceBound w _ _ _ _ h0 hc,run_sliceBound w _ _ _ _ a (show l≤(h.toNat:Int) by omega)]
theorem Fs (r:Rel M s w) {t:TypeId} {lv hv:Option Value} {x:List UInt8} {l h:Int} (ht:P.underlying t=some .string) (h1:Kk lv l) (h2:Kl hv x.length h) (a:0≤l) (b:l≤h) (c:h≤x.length) :
 b9 P M s w (do pure (.value (← Instr.sliceAt t (.string ⟨⟨x⟩⟩) lv hv none))) (.str ((x.take h.toNat).drop l.toNat)) s:=by
 have hb:=oZ (P:=P) (w:=w) (isSlice:=false) (cap:=x.length) h1 h2 a b c (Nat.le_refl _)
 refine b9.pure (v:= .string ⟨⟨(x.take h.toNat).drop l.toNat⟩⟩) r ?_ (.str _)
 simp [Instr.sliceAt,run_underlying ht,Instr.slice,uB,hb,extract_mk]
theorem fy.cut {g:Tag} {z len H2 cap:Nat} {base:Option (Nat×Nat)} (h:fy M s g z len base cap) (hl:H2≤len) (whole:Bool) (hw:whole=true→H2=len):fy M s (g.cut whole) z H2 base cap:=by
 cases g with
 | full=>
  cases whole with
  | true=>rw [hw rfl];exact h
  | false=>trivial
 | shared=>trivial
 | tok t y=>
  obtain⟨x1,x2⟩:=h
  refine⟨x1,fun n hn=>⟨Nat.le_trans hl (x2 n hn).1,fun e=> ?_⟩⟩
  have:len=n:=by have:=(x2 n hn).1;omega
  exact(x2 n hn).2 this
theorem H4 (r:Rel M s w) {t e:TypeId} {i:TypeInfo} {g:Tag} {z:Nat} {lv hv:Option Value} {rows:List (List D)} {v:Value} {l h:Int} (ht:P.underlying t=some (.slice e)) (Ft:P.info? e=some i) (hz:rows = []∨z=i.size)
 (hd:RD M s (.slice g z rows) v) (h1:Kk lv l) (h2:Kl hv rows.length h) (a:0≤l) (b:l≤h) (c:h≤rows.length) :
 b9 P M s w (do pure (.value (← Instr.sliceAt t v lv hv none))) (.slice (if l=0 then g.cut (h=rows.length)else .shared) z ((rows.take h.toNat).drop l.toNat)) s:=by
 have hlen:((rows.take h.toNat).drop l.toNat).length=h.toNat - l.toNat:=by simp;omega
 have tag : ∀ base cap,fy M s g z rows.length base cap→fy M s (if l=0 then g.cut (h=rows.length)else .shared) z ((rows.take h.toNat).drop l.toNat).length base cap:=by
  intro base cap kr
  split
  ·exact kr.cut (by omega) _ (fun hh=>by simp at hh;omega)
  ·trivial
 rcases hd.fJ with ⟨rfl,rfl,kr⟩ | ⟨rfl,rfl,a',cap,rfl⟩ | ⟨b',q,cap,rfl,hl,hs,g1,g2,kr⟩
 ·have hb:=oZ (P:=P) (w:=w) (isSlice:=true) (cap:=0) h1 h2 a b c (Nat.le_refl _)
  have Co:l=0:=by simp at c;omega
  have MT:h=0:=by simp at c;omega
  subst Co;subst MT
  refine b9.pure (v:= .slice none 0 0) r ?_ ?_
  ·simp at hb
   simp [Instr.sliceAt,run_underlying ht,Instr.slice,hb,sizeOf,fm P Ft]
  ·have:=tag _ _ kr
   simp only [Int.toNat_zero,List.take_nil,List.drop_nil,List.length_nil]at this ⊢
   exact .gf _ _ 0 rfl this
 ·have hb:=oZ (P:=P) (w:=w) (isSlice:=true) (cap:=cap) h1 h2 a b c (Nat.zero_le _)
  have Co:l=0:=by simp at c;omega
  have MT:h=0:=by simp at c;omega
  subst Co;subst MT
  simp only [List.length_nil]at hb
  have cW : ∃ a2:Addr,(Instr.sliceAt t (.slice (some a') 0 cap) lv hv none).run P w = .ok (.slice (some a2) 0 cap) w:=by
   refine⟨if cap=(0:Int).toNat then a' else a'.add ((0:Int).toNat*i.size), ?_⟩
   simp only [Instr.sliceAt,Sem.run_bind,run_underlying ht,Result.andThen_ok,Instr.slice,hb,sizeOf,fm P Ft,Sem.run_pure]
   split <;> simp
  obtain⟨a2,cW⟩:=cW
  refine b9.pure (v:= .slice (some a2) 0 cap) r (by simp [cW]) ?_
  simp only [↓reduceIte,Int.toNat_zero,List.take_nil,List.drop_nil]
  have:Tag.cut .shared (decide ((0:Int)=(([] : List (List D)).length:Int))) = .shared:=rfl
  rw [this]
  exact .jU _ a2 cap
 ·have hb:=oZ (P:=P) (w:=w) (isSlice:=true) (cap:=cap) h1 h2 a b c hl
  have cW:(Instr.sliceAt t (.slice (some ⟨b',q,none⟩) rows.length cap) lv hv none).run P w = .ok (.slice (some (if cap=l.toNat then⟨b',q,none⟩else⟨b',q+l.toNat*i.size,none⟩)) (h.toNat - l.toNat) (cap - l.toNat)) w:=by
   simp only [Instr.sliceAt,Sem.run_bind,run_underlying ht,Result.andThen_ok,Instr.slice,hb,sizeOf,fm P Ft,Sem.run_pure]
   split <;> simp [nA]
  by_cases Co:l=0
  ·subst Co
   have e:(if cap=(0:Int).toNat then(⟨b',q,none⟩:Addr)else⟨b',q+(0:Int).toNat*i.size,none⟩) = ⟨b',q,none⟩:=by simp
   rw [e]at cW
   refine b9.pure (v:= .slice (some ⟨b',q,none⟩) ((rows.take h.toNat).drop (0:Int).toNat).length cap) r (by simp [cW];omega) ?_
   refine .slice _ z _ b' q cap (by omega) (fun row hr=>hs row ?_) (fun i row j d e1 e2=> ?_) (fun i row j d u e1 e2 eu=> ?_) (tag _ _ kr)
   ·simp at hr;exact List.mem_of_mem_take hr
   ·simp [List.getElem?_take]at e1;exact g1 i row j d e1.2 e2
   ·simp [List.getElem?_take]at e1;exact g2 i row j d u e1.2 e2 eu
  ·rw [if_neg Co]
   by_cases oD:cap=l.toNat
   ·have:(rows.take h.toNat).drop l.toNat = []:=List.eq_nil_of_length_eq_zero (by omega)
    rw [this]
    rw [if_pos oD]at cW
    refine b9.pure (v:= .slice (some ⟨b',q,none⟩) ([] : List (List D)).length (cap - l.toNat)) r (by simp [cW];omega) ?_
    exact .slice _ z [] b' q _ (by simp) (by simp) (by simp) (by simp) trivial
   ·rw [if_neg oD]at cW
    refine b9.pure (v:= .slice (some ⟨b',q+l.toNat*i.size,none⟩) ((rows.take h.toNat).drop l.toNat).length (cap - l.toNat)) r (by simp [cW];omega) ?_
    have db : ∀ (k:Nat) (row:List D),((rows.take h.toNat).drop l.toNat)[k]? = some row→rows[l.toNat+k]? = some row:=by
     intro k row e
     rw [List.getElem?_drop,List.getElem?_take]at e
     split at e
     ·exact e
     ·cases e
    have Ry : ∀ (k:Nat) (row:List D),((rows.take h.toNat).drop l.toNat)[k]? = some row→z=i.size:=by
     intro k row e
     rcases hz with rfl | hz
     ·simp at e
     ·exact hz
    refine .slice _ z _ b' _ _ (by omega) (fun row hr=>hs row (List.mem_of_mem_take (List.mem_of_mem_drop hr))) (fun k row j d e1 e2=> ?_) (fun k row j d u e1 e2 eu=> ?_) trivial
    ·obtain⟨u,hu⟩:=g1 _ row j d (db k row e1) e2
     refine⟨u, ?_⟩
     rw [← hu, ← Ry k row e1]
     congr 1
     rw [Nat.add_mul];omega
    ·refine g2 _ row j d u (db k row e1) e2 ?_
     rw [← eu, ← Ry k row e1]
     congr 1
     rw [Nat.add_mul];omega
theorem qa (off:Nat) : ∀ (l:List Value) (k:Nat) (cells:Array Value) (i:Nat),
 ((l.zipIdx k).foldl (fun cs p=>cs.setIfInBounds (off+p.2) p.1) cells).size=cells.size∧
 (off+k+l.length≤cells.size→((l.zipIdx k).foldl (fun cs p=>cs.setIfInBounds (off+p.2) p.1) cells)[i]? = if off+k≤i∧i<off+k+l.length then l[i - (off+k)]? else cells[i]?)
 | [],k,cells,i=>by simp;intro _ h1 h2;omega
 | v::l,k,cells,i=>by
  obtain⟨h1,h2⟩:=qa off l (k+1) (cells.setIfInBounds (off+k) v) i
  simp only [List.zipIdx_cons,List.foldl_cons]
  refine⟨by rw [h1];simp,fun iu=> ?_⟩
  simp only [List.length_cons]at iu
  rw [h2 (by simp;omega)]
  rw [Array.getElem?_setIfInBounds]
  by_cases hi:off+k=i
  ·subst hi
   rw [if_neg (by omega),if_pos rfl,if_pos (by omega),if_pos (by simp)]
   simp
  ·rw [if_neg hi]
   by_cases hr:off+(k+1)≤i∧i<off+(k+1)+l.length
   ·rw [if_pos hr,if_pos (by simp;omega)]
    rw [show i - (off+k)=(i - (off+(k+1)))+1 by omega]
    simp
   ·rw [if_neg hr,if_neg (by simp;omega)]
def od (M:Map) (s:St) (ds:List D) (vs:Array Value):Prop:=vs.size=ds.length∧(∀ v∈vs,v.oneCell'=true)∧∀ (i:Nat) (d:D) (v:Value),ds[i]? = some d→vs[i]? = some v→RD M s d v
theorem od.ga {ds:List D} {vs:Array Value} (h:od M s ds vs) {d:D} {v:Value} {row:List D} (hd:RD M s d v) (hr:d.row=some row) {off:Nat} (iu:off+row.length≤ds.length) :
 od M s (ga ds off row) (v.cells.zipIdx.foldl (fun cs (p:Value×Nat)=>cs.setIfInBounds (off+p.2) p.1) vs):=by
 obtain⟨h1,h2,h3⟩:=hd.row hr
 obtain⟨g1,g2,g3⟩:=h
 have e:v.cells.zipIdx.foldl (fun cs (p:Value×Nat)=>cs.setIfInBounds (off+p.2) p.1) vs=(v.cells.toList.zipIdx 0).foldl (fun cs p=>cs.setIfInBounds (off+p.2) p.1) vs:=by
  rw [← Array.foldl_toList];simp
 rw [e]
 have hl:v.cells.toList.length=row.length:=by simpa using h1
 have fs:=fun i=>qa off v.cells.toList 0 vs i
 have get : ∀ i,((v.cells.toList.zipIdx 0).foldl (fun cs p=>cs.setIfInBounds (off+p.2) p.1) vs)[i]? = if off≤i∧i<off+row.length then v.cells.toList[i - off]? else vs[i]? :=by
  intro i
  have:=(fs i).2 (by omega)
  rw [hl]at this
  simpa using this
 refine⟨by rw [(fs 0).1,g1,sE ds off row iu],fun u hu=> ?_,fun i d' u e1 e2=> ?_⟩
 ·obtain⟨i,hi⟩:=Array.mem_iff_getElem?.1 hu
  rw [get]at hi
  split at hi
  ·exact h2 u (Array.mem_toList_iff.1 (List.mem_of_getElem? hi))
  ·exact g2 u (Array.mem_of_getElem? hi)
 ·rw [p6 ds off row iu]at e1
  rw [get]at e2
  by_cases h5:off≤i
  ·by_cases h6:i<off+row.length
   ·rw [if_pos ⟨h5,h6⟩]at e2
    rw [if_neg (by omega),if_pos h6]at e1
    exact h3 _ d' u e1 (by simpa using e2)
   ·rw [if_neg (fun h=>h6 h.2)]at e2
    rw [if_neg (by omega),if_neg h6]at e1
    exact g3 i d' u e1 e2
  ·rw [if_neg (fun h=>h5 h.1)]at e2
   rw [if_pos (by omega)]at e1
   exact g3 i d' u e1 e2
theorem z8 {place:Nat→Option (Nat×Nat)} : ∀ (vp:List (Nat×Value)) (dp:List (Nat×Nat×D)) (ds:List D) (vs:Array Value) (kC:List D),od M s ds vs→
 dp.length=vp.length→(∀ (j:Nat) (i:Nat) (v:Value) (off size:Nat) (d:D),vp[j]? = some (i,v)→dp[j]? = some (off,size,d)→place i=some (off,size)∧RD M s d v)→
 mn ds dp=some kC→∃ dY,Instr.fill place vs vp=some dY∧od M s kC dY
 | [],[],ds,vs,kC,h,_,_,e=>by cases e;exact⟨vs,rfl,h⟩
 | [],_::_,_,_,_,_,hl,_,_=>by simp at hl
 | _::_,[],_,_,_,_,hl,_,_=>by simp at hl
 | (i,v)::vp,(off,size,d)::dp,ds,vs,kC,h,hl,hp,e=>by
  obtain⟨h1,h2⟩:=hp 0 i v off size d rfl rfl
  unfold mn at e
  split at e
  ·cases e
  ·rename_i row hr
   split at e
   ·rename_i hc
    obtain⟨c1,c2⟩:=hc
    have dJ:=(h2.row hr).1
    obtain⟨dY,f1,f2⟩:=z8 vp dp (ga ds off row) _ kC (h.ga h2 hr (by omega)) (by simpa using hl)
     (fun j i v off size d e1 e2=>hp (j+1) i v off size d (by simpa using e1) (by simpa using e2)) e
    refine⟨dY, ?_,f2⟩
    unfold Instr.fill
    simp only [h1]
    rw [if_neg]
    ·exact f1
    ·simp;exact⟨by omega,by have:=h.1;omega⟩
   ·cases e
end
end Go.Abs

/-! Sound5 -/

namespace Go.Abs
section
variable {P:Program} {M:Map} {s:St} {w:World}
def ju (M:Map) (s:St) (size:Nat) (rows:List (List D)) (vs:Array Value):Prop:=
 rows.length*size≤vs.size∧(∀ row∈rows,row.length=size)∧(∀ v∈vs,v.oneCell'=true)∧
 ∀ (i:Nat) (row:List D) (j:Nat) (d:D) (v:Value),rows[i]? = some row→row[j]? = some d→vs[i*size+j]? = some v→RD M s d v
theorem tr {size:Nat} {rows:List (List D)} (hs : ∀ row∈rows,row.length=size) {i:Nat} {row:List D} {j:Nat} {d:D} (h1:rows[i]? = some row) (h2:row[j]? = some d):i*size+j<rows.length*size:=by
 have hi:=(List.getElem?_eq_some_iff.1 h1).1
 have hj:=(List.getElem?_eq_some_iff.1 h2).1
 have:=hs row (List.mem_of_getElem? h1)
 have:i*size+size≤rows.length*size:=by rw [← Nat.succ_mul];exact Nat.mul_le_mul_right _ hi
 omega
theorem ju.fixed {size:Nat} {rows:List (List D)} {vs:Array Value} (h:ju M s size rows vs) {M':Map} {s':St} (le:Le M s M' s') {b:Nat}
 (hG : ∀ o,o<rows.length*size→M'.G b o=vs[o]?) :
 (∀ (i:Nat) (row:List D) (j:Nat) (d:D),rows[i]? = some row→row[j]? = some d→∃ u,M'.G b (0+(i*size+j))=some u)∧
 (∀ (i:Nat) (row:List D) (j:Nat) (d:D) (u:Value),rows[i]? = some row→row[j]? = some d→M'.G b (0+(i*size+j))=some u→RD M' s' d u):=by
 obtain⟨h1,h2,h3,h4⟩:=h
 refine⟨fun i row j d e1 e2=> ?_,fun i row j d u e1 e2 eu=> ?_⟩
 ·have hD:=tr h2 e1 e2
  rw [Nat.zero_add,hG _ hD]
  exact⟨_,Array.getElem?_eq_getElem (by omega)⟩
 ·have hD:=tr h2 e1 e2
  rw [Nat.zero_add,hG _ hD]at eu
  exact(h4 i row j d u e1 e2 eu).mono le
theorem kD (z:List D) : ∀ n,(fF z n).length=n
 | 0=>rfl
 | n+1=>by simp [fF,kD z n]
theorem mw (z:List D) : ∀ n,∀ row∈fF z n,row=z
 | 0,_,h=>by cases h
 | n+1,row,h=>by
  rcases List.mem_cons.1 h with rfl | h
  ·rfl
  ·exact mw z n row h
theorem ju.zero {z:List D} {zs:Array Value} (h:od M s z zs) (hp:0<z.length) (n:Nat):ju M s z.length (fF z n) ((Array.range (n*z.length)).map (zs[· % zs.size]!)):=by
 obtain⟨h1,h2,h3⟩:=h
 have get : ∀ q,q<n*z.length→((Array.range (n*z.length)).map (zs[· % zs.size]!))[q]? = zs[q % z.length]? :=by
  intro q hq
  have:q % z.length<zs.size:=by rw [h1];exact Nat.mod_lt _ hp
  simp only [Array.getElem?_map,Array.getElem?_range,hq,if_true,Option.map_some]
  rw [h1,getElem!_pos zs (q % z.length) this,Array.getElem?_eq_getElem this]
 refine⟨by simp [kD],fun row hr=>by rw [mw z n row hr],fun v hv=> ?_,fun i row j d v e1 e2 e3=> ?_⟩
 ·obtain⟨q,hq⟩:=Array.mem_iff_getElem?.1 hv
  have hD:q<n*z.length:=by have:=(Array.getElem?_eq_some_iff.1 hq).1;simpa using this
  rw [get q hD]at hq
  exact h2 v (Array.mem_of_getElem? hq)
 ·have db:=mw z n row (List.mem_of_getElem? e1)
  subst db
  have hD:=tr (size:=row.length) (fun r hr=>by rw [mw row n r hr]) e1 e2
  rw [kD]at hD
  rw [get _ hD]at e3
  have hj:=(List.getElem?_eq_some_iff.1 e2).1
  rw [Nat.mul_comm,Nat.mul_add_mod,Nat.mod_eq_of_lt hj]at e3
  exact h3 j d v e2 e3
theorem ju.set {size:Nat} {rows:List (List D)} {vs:Array Value} (h:ju M s size rows vs) {d:D} {v:Value} {row:List D} (hd:RD M s d v) (hr:d.row=some row) (hl:row.length=size) {i:Nat} (hi:i<rows.length) :
 ju M s size (rows.set i row) (v.cells.zipIdx.foldl (fun cs (p:Value×Nat)=>cs.setIfInBounds (i*size+p.2) p.1) vs):=by
 obtain⟨h1,h2,h3⟩:=hd.row hr
 obtain⟨g1,g2,g3,g4⟩:=h
 have e:v.cells.zipIdx.foldl (fun cs (p:Value×Nat)=>cs.setIfInBounds (i*size+p.2) p.1) vs=(v.cells.toList.zipIdx 0).foldl (fun cs p=>cs.setIfInBounds (i*size+p.2) p.1) vs:=by
  rw [← Array.foldl_toList];simp
 rw [e]
 have kE:v.cells.toList.length=size:=by simp [h1,hl]
 have iu:i*size+size≤vs.size:=by
  have:(i+1)*size≤rows.length*size:=Nat.mul_le_mul_right _ hi
  rw [Nat.succ_mul]at this;omega
 have fs:=fun q=>qa (i*size) v.cells.toList 0 vs q
 have get : ∀ q,((v.cells.toList.zipIdx 0).foldl (fun cs p=>cs.setIfInBounds (i*size+p.2) p.1) vs)[q]? = if i*size≤q∧q<i*size+size then v.cells.toList[q - i*size]? else vs[q]? :=by
  intro q
  have:=(fs q).2 (by omega)
  rw [kE]at this
  simpa using this
 refine⟨by rw [(fs 0).1];simpa using g1,fun r Fu=> ?_,fun u hu=> ?_,fun i' ku j d' u e1 e2 e3=> ?_⟩
 ·rcases List.mem_or_eq_of_mem_set Fu with h | rfl
  ·exact g2 r h
  ·exact hl
 ·obtain⟨q,hq⟩:=Array.mem_iff_getElem?.1 hu
  rw [get]at hq
  split at hq
  ·exact h2 u (Array.mem_toList_iff.1 (List.mem_of_getElem? hq))
  ·exact g3 u (Array.mem_of_getElem? hq)
 ·rw [List.getElem?_set]at e1
  rw [get]at e3
  split at e1
  ·rename_i heq;subst heq
   simp at e1
   obtain⟨_,rfl⟩:=e1
   have hj:=(List.getElem?_eq_some_iff.1 e2).1
   rw [if_pos (by omega)]at e3
   rw [show i*size+j - i*size=j by omega]at e3
   exact h3 j d' u e2 (by simpa using e3)
  ·rename_i dS
   have hj:=(List.getElem?_eq_some_iff.1 e2).1
   have Fv:=g2 ku (List.mem_of_getElem? e1)
   rw [if_neg]at e3
   ·exact g4 i' ku j d' u e1 e2 e3
   ·rintro⟨a,b⟩
    rcases Nat.lt_or_gt_of_ne dS with h | h
    ·have:(i+1)*size≤i'*size:=Nat.mul_le_mul_right _ h
     rw [Nat.succ_mul]at this;omega
    ·have:(i'+1)*size≤i*size:=Nat.mul_le_mul_right _ h
     rw [Nat.succ_mul]at this;omega
theorem tt {size:Nat} : ∀ (vp:List (Nat×Value)) (dp:List (Nat×D)) (rows:List (List D)) (vs:Array Value) (nT:List (List D)),ju M s size rows vs→
 dp.length=vp.length→(∀ (j:Nat) (i:Nat) (v:Value) (i':Nat) (d:D),vp[j]? = some (i,v)→dp[j]? = some (i',d)→i'=i∧RD M s d v)→
 gh size rows dp=some nT→∃ dY,Instr.fill (fun i=>some (i*size,size)) vs vp=some dY∧ju M s size nT dY∧nT.length=rows.length∧dY.size=vs.size
 | [],[],rows,vs,nT,h,_,_,e=>by cases e;exact⟨vs,rfl,h,rfl,rfl⟩
 | [],_::_,_,_,_,_,hl,_,_=>by simp at hl
 | _::_,[],_,_,_,_,hl,_,_=>by simp at hl
 | (i,v)::vp,(i',d)::dp,rows,vs,nT,h,hl,hp,e=>by
  obtain⟨h1,h2⟩:=hp 0 i v i' d rfl rfl
  subst h1
  unfold gh at e
  split at e
  ·cases e
  ·rename_i row hr
   split at e
   ·rename_i hc
    obtain⟨c1,c2⟩:=hc
    have dJ:=(h2.row hr).1
    have P9:=h.set h2 hr c1 c2
    obtain⟨dY,f1,f2,f3,f4⟩:=tt vp dp (rows.set i' row) _ nT P9 (by simpa using hl)
     (fun j i v i' d e1 e2=>hp (j+1) i v i' d (by simpa using e1) (by simpa using e2)) e
    have iu:i'*size+size≤vs.size:=by
     have:(i'+1)*size≤rows.length*size:=Nat.mul_le_mul_right _ c2
     have:=h.1
     rw [Nat.succ_mul]at *;omega
    refine⟨dY, ?_,f2,by rw [f3];simp, ?_⟩
    ·unfold Instr.fill
     simp only
     rw [if_neg]
     ·exact f1
     ·simp;exact⟨by omega,by omega⟩
    ·rw [f4]
     have:=(qa (i'*size) v.cells.toList 0 vs 0).1
     rw [← this, ← Array.foldl_toList];simp
   ·cases e
theorem C7 (r:Rel M s w) {size:Nat} {rows:List (List D)} {vs:Array Value} (T:TypeId) (h:ju M s size rows vs) :
 RD (M.dP w.heap.size vs.size vs) s (.slice .full size rows) (.slice (some ⟨w.heap.size,0,none⟩) rows.length rows.length)∧
 Rel (M.dP w.heap.size vs.size vs) s (w.alloc (.cells vs T))∧Ext M s w (M.dP w.heap.size vs.size vs) s (w.alloc (.cells vs T)):=by
 obtain⟨r',e'⟩:=r.dP vs.size vs T (0,0) h.2.2.1
 obtain⟨g1,g2⟩:=h.fixed e'.le (b:=w.heap.size) (fun o ho=>by
  have:o<vs.size:=Nat.lt_of_lt_of_le ho h.1
  simp [Map.dP,this])
 exact⟨.slice .full size rows w.heap.size 0 rows.length (Nat.le_refl _) h.2.1 g1 g2 rfl,r',e'⟩
theorem lS {t u ty e:TypeId} {i:TypeInfo} (ht:P.underlying t=some (.slice e)) (hi:P.info? e=some i) {base:Option Addr} {len cap:Nat} {y:Value} (hs:Src P i.size u y 0 [] w) (hc:len≤cap) :
 (Builtin.append_ #[t,u] ty #[.slice base len cap,y]).run P w = .ok (.slice base len cap) w:=by
 have iS:=hs.cells
 rcases hs.kind with ⟨e',hk⟩ | hk <;> cases base <;> simp [Builtin.append_,run_underlying ht,run_underlying hk,sizeOf,typeInfo,hi,hs.len,hc,iS,storeCells]
theorem yi (r:Rel M s w) {u e':TypeId} (hu:P.underlying u=some (.slice e')) {g:Tag} {size:Nat} {rows:List (List D)} {y:Value} (hy:RD M s (.slice g size rows) y) :
 ∃ news:List Value,Src P size u y rows.length news w∧
  (∀ (i:Nat) (row:List D) (j:Nat) (d:D) (v:Value),rows[i]? = some row→row[j]? = some d→news[i*size+j]? = some v→RD M s d v)∧
  ∀ (b q n c:Nat),y = .slice (some ⟨b,q,none⟩) n c→∀ o,o<rows.length*size→M.G b (q+o)=news[o]? :=by
 rcases hy.fJ with ⟨rfl,rfl,_⟩ | ⟨rfl,_,a,cap,rfl⟩ | ⟨b,q,cap,rfl,hl,hs,g1,g2,_⟩
 ·exact⟨[],Src.ofNil w hu 0,by simp,by simp⟩
 ·exact⟨[],Src.ofSlice w hu a 0 cap [] (by simp) (by simp) (by simp),by simp,by simp⟩
 ·obtain⟨us,hlen,uV⟩:=rU (M:=M) (b:=b) (rows.length*size) q (fun k hk=>by
   have hz:0<size:=by
    rcases Nat.eq_zero_or_pos size with h | h
    ·subst h;simp at hk
    ·exact h
   have hi:k / size<rows.length:=by rw [Nat.div_lt_iff_lt_mul hz];exact hk
   obtain⟨row,db⟩ : ∃ row,rows[k / size]? = some row:=⟨_,List.getElem?_eq_getElem hi⟩
   have Fv:=hs row (List.mem_of_getElem? db)
   have hj:k % size<row.length:=by rw [Fv];exact Nat.mod_lt _ hz
   obtain⟨u,hu⟩:=g1 _ row _ _ db (List.getElem?_eq_getElem hj)
   refine⟨u, ?_⟩
   rw [← hu,Nat.mul_comm (k / size) size,Nat.div_add_mod])
  refine⟨us,Src.ofSlice w hu ⟨b,q,none⟩ rows.length cap us hlen (fun j u h=>by rw [nA];exact(r.comm _ _ _ (uV j u h)).1) (fun u hu=> ?_),fun i row j d v e1 e2 e3=>g2 i row j d v e1 e2 (uV _ v e3),
   fun b' q' n c heq o ho=>by
    cases heq
    rw [uV o _ (List.getElem?_eq_getElem (by omega)),List.getElem?_eq_getElem (by omega)]⟩
  obtain⟨j,hj⟩:=List.mem_iff_getElem?.1 hu
  exact(r.comm _ _ _ (uV j u hj)).2
theorem wg {size:Nat} {rows new:List (List D)} {lr news:List Value} (yj : ∀ row∈rows,row.length=size) (Cp : ∀ row∈new,row.length=size)
 (l1:lr.length=rows.length*size) (l2:news.length=new.length*size) (o1 : ∀ u∈lr,u.oneCell'=true) (o2 : ∀ u∈news,u.oneCell'=true)
 (h1 : ∀ (i:Nat) (row:List D) (j:Nat) (d:D) (v:Value),rows[i]? = some row→row[j]? = some d→lr[i*size+j]? = some v→RD M s d v)
 (h2 : ∀ (i:Nat) (row:List D) (j:Nat) (d:D) (v:Value),new[i]? = some row→row[j]? = some d→news[i*size+j]? = some v→RD M s d v)
 (z:Array Value) (hz : ∀ v∈z,v.oneCell'=true):ju M s size (rows++new) ((lr++news).toArray++z):=by
 have hs : ∀ row∈rows++new,row.length=size:=fun row h=>(List.mem_append.1 h).elim (yj row) (Cp row)
 refine⟨by simp [l1,l2,Nat.add_mul],hs,fun v hv=> ?_,fun i row j d v e1 e2 e3=> ?_⟩
 ·simp at hv
  rcases hv with (h | h) | h
  ·exact o1 v h
  ·exact o2 v h
  ·exact hz v h
 ·have hD:=tr hs e1 e2
  rw [List.length_append,Nat.add_mul]at hD
  rw [Array.getElem?_append_left (by simp [l1,l2];omega),List.getElem?_toArray]at e3
  by_cases hi:i<rows.length
  ·rw [List.getElem?_append_left hi]at e1
   have:=tr yj e1 e2
   rw [List.getElem?_append_left (by omega)]at e3
   exact h1 i row j d v e1 e2 e3
  ·rw [List.getElem?_append_right (by omega)]at e1
   have Cq:rows.length*size≤i*size:=Nat.mul_le_mul_right _ (by omega)
   rw [List.getElem?_append_right (by omega),l1]at e3
   refine h2 (i - rows.length) row j d v e1 e2 ?_
   rw [← e3]
   congr 1
   rw [Nat.sub_mul];omega
theorem zk {z:Array Value} (h : ∀ v∈z,v.oneCell'=true) (n:Nat) : ∀ v∈Builtin.zeroCells z n,v.oneCell'=true:=by
 intro v hv
 unfold Builtin.zeroCells at hv
 obtain⟨q,hq,rfl⟩:=Array.mem_map.1 hv
 have hD:q<n*z.size:=by simpa using hq
 have hz:0<z.size:=by
  rcases Nat.eq_zero_or_pos z.size with h | h
  ·rw [h]at hD;simp at hD
  ·exact h
 have:=Nat.mod_lt q hz
 rw [getElem!_pos z (q % z.size) this]
 exact h _ (Array.getElem_mem this)
def xA (eb:Bool) (size bytes:Nat) (x y:D) (s:St):Option (D×St):=
 match x,y with
 | .slice g z rows, .slice _ z' new=>
  if(rows = []∨z=size)∧(new = []∨z'=size)∧(rows.length+new.length)*(bytes+1)≤bF then
   match new with
   | []=>some (.slice g z rows,s)
   | _::_=>
    match g with
    | .full=>some (.slice (.tok s.av.length eb) size (rows++new),{s with av:=s.av++ [some (rows.length+new.length)]})
    | .shared=>none
    | .tok t y=>if(y=true→eb=true)∧z=size∧s.av[t]? = some (some rows.length)then some (.slice (.tok t y) size (rows++new),{s with av:=s.av.set t (some (rows.length+new.length))})else none
  else none
 | _,_=>none
theorem MU {size bytes:Nat} {x y d:D} {s s':St} (h:kQ size bytes x y s=some (d,s')):xA false size bytes x y s=some (d,s'):=by
 unfold kQ at h
 unfold xA
 split at h
 ·split at h
  ·rename_i hc
   simp only [hc,and_self,if_true]
   split at h
   ·exact h
   ·split at h
    ·exact h
    ·exact h
    ·cases h
    ·split at h
     ·rename_i hq
      simp only [hq,and_self,Bool.false_eq_true,false_imp_iff,if_true]
      exact h
     ·cases h
  ·cases h
 ·cases h
theorem Fw {x y d:D} {s s':St} (h:ti x y s=some (d,s')):xA true 1 1 x y s=some (d,s'):=by
 unfold ti at h
 unfold xA
 split at h
 ·split at h
  ·rename_i hc
   simp only [hc,and_self,if_true]
   split at h
   ·exact h
   ·split at h
    ·exact h
    ·exact h
    ·split at h
     ·rename_i hq
      simp only [hq,and_self,imp_true_iff,if_true]
      exact h
     ·cases h
  ·cases h
 ·cases h
theorem Km {b:Bool} {n:Nat} (h:b=true→n=1) (hn:0<n):zs (bz b n)=n:=by
 cases b
 ·show(if n=0 then 1 else n)=n
  rw [if_neg (by omega)]
 ·simp [zs,bz,h rfl]
theorem vt (eb:Bool) (r:Rel M s w) {t u ty e:TypeId} {i:TypeInfo} {z:Value} (ht:P.underlying t=some (.slice e)) (hi:P.info? e=some i) (hz:i.zero=some z)
 (uY:z.cells.size=i.size) (Ab : ∀ v∈z.cells,v.oneCell'=true) {dx dy d:D} {x y:Value} {s':St} (hx:RD M s dx x) (Kn:eb=true→e=ld∧i.size=1) (tu:0<i.size) (he:xA eb i.size i.bytes dx dy s=some (d,s'))
 (src : ∀ (g:Tag) (size:Nat) (rows:List (List D)),dy = .slice g size rows→(rows = []→Src P i.size u y 0 [] w)∧(rows≠ []→size=i.size→(∀ row∈rows,row.length=i.size)∧∃ news:List Value,Src P i.size u y rows.length news w∧
  (∀ (k:Nat) (row:List D) (j:Nat) (d:D) (v:Value),rows[k]? = some row→row[j]? = some d→news[k*i.size+j]? = some v→RD M s d v))) :
 ∃ v w' M',(Builtin.append_ #[t,u] ty #[x,y]).run P w = .ok v w'∧Rel M' s' w'∧RD M' s' d v∧Ext M s w M' s' w':=by
 unfold xA at he
 split at he
 case h_2=>cases he
 rename_i g zx rows g' zy new
 split at he
 case isFalse=>cases he
 rename_i hc
 obtain⟨og,MW,Ko⟩:=hc
 cases new with
 | nil=>
  simp only at he
  cases he
  have MX:Src P i.size u y 0 [] w:=(src _ _ _ rfl).1 rfl
  rcases hx.fJ with ⟨_,hv,_⟩ | ⟨_,_,a,cap,hv⟩ | ⟨b,q,cap,hv,hl,_⟩
  ·refine⟨x,w,M, ?_,r,hx,Ext.refl M s w⟩
   rw [hv]
   exact lS ht hi MX (Nat.le_refl _)
  ·refine⟨x,w,M, ?_,r,hx,Ext.refl M s w⟩
   rw [hv]
   exact lS ht hi MX (Nat.zero_le _)
  ·refine⟨x,w,M, ?_,r,hx,Ext.refl M s w⟩
   rw [hv]
   exact lS ht hi MX hl
 | cons n0 new=>
  have dS:(n0::new)≠ []:=by simp
  generalize c7:n0::new=fv at *
  have UC:zy=i.size:=MW.resolve_left dS
  subst UC
  obtain⟨Kp,news,hs,Kq⟩:=(src _ _ _ rfl).2 dS rfl
  have hm:0<fv.length:=List.length_pos_iff.2 dS
  have wi:(rows.length+fv.length)*i.bytes≤140737488355328:=by rw [Nat.mul_succ]at Ko;simp only [bF]at Ko;omega
  have UD:rows.length+fv.length≤1099511627776:=by rw [Nat.mul_succ]at Ko;simp only [bF]at Ko;omega
  -- what the first argument reads as
  obtain⟨base,cap,lr,UE,hle,ln,UF,Kr,MY,Rz,UG,kr⟩ : ∃ (base:Option Addr) (cap:Nat) (lr:List Value),x = .slice base rows.length cap∧rows.length≤cap∧lr.length=rows.length*i.size∧
   (Builtin.firstCells i.size rows.length (.slice base rows.length cap)).run P w.drew = .ok lr.toArray w.drew∧(∀ u∈lr,u.oneCell'=true)∧
   (∀ (k:Nat) (row:List D) (j:Nat) (d:D) (v:Value),rows[k]? = some row→row[j]? = some d→lr[k*i.size+j]? = some v→RD M s d v)∧(∀ row∈rows,row.length=i.size)∧
   (∀ b q,base=some ⟨b,q,none⟩→∀ o,o<rows.length*i.size→M.G b (q+o)=lr[o]?)∧
   ((base=none∧rows = []∧fy M s g zx 0 none cap)∨∃ b q,base=some ⟨b,q,none⟩∧fy M s g zx rows.length (some (b,q)) cap):=by
   rcases og with h0 | h0
   ·subst h0
    rcases hx.fJ with ⟨_,hv,kr⟩ | ⟨_,rfl,_⟩ | ⟨b,q,cap,hv,hl,_,_,_,kr⟩
    ·exact⟨none,0,[],hv,Nat.le_refl _,by simp,by simp [Builtin.firstCells],by simp,by simp,by simp,by simp, .inl ⟨rfl,rfl,kr⟩⟩
    ·exfalso;simp only [← c7]at he;cases he
    ·exact⟨some ⟨b,q,none⟩,cap,[],hv,hl,by simp,by simp [Builtin.firstCells,loadCells,loadCellsFrom],by simp,by simp,by simp,by simp, .inr ⟨b,q,rfl,kr⟩⟩
   ·subst h0
    obtain⟨lr,Cr,RA,UH⟩:=yi r ht hx
    rcases hx.fJ with ⟨h0,hv,kr⟩ | ⟨_,rfl,_⟩ | ⟨b,q,cap,hv,hl,kS,_,_,kr⟩
    ·subst h0
     refine⟨none,0,lr,hv,Nat.le_refl _,Cr.newsLen, ?_,Cr.one,RA,by simp,by simp, .inl ⟨rfl,rfl,kr⟩⟩
     have:=Cr.cellsD;rw [hv]at this;exact this
    ·exfalso;simp only [← c7]at he;cases he
    ·refine⟨some ⟨b,q,none⟩,cap,lr,hv,hl,Cr.newsLen, ?_,Cr.one,RA,kS,fun b' q' heq o ho=> ?_, .inr ⟨b,q,rfl,kr⟩⟩
     ·have:=Cr.cellsD;rw [hv]at this;exact this
     ·cases heq;exact UH b q _ cap hv o ho
  subst UE
  -- the way that makes a new row
  have grow : ∀ (hg:cap<rows.length+fv.length),∃ (w':World) (M1:Map) (vs:Array Value) (kT:Nat),
   (Builtin.append_ #[t,u] ty #[.slice base rows.length cap,y]).run P w = .ok (.slice (some ⟨w.heap.size,0,none⟩) (rows.length+fv.length) kT) w'∧
   w'.heap[w.heap.size]? = some (.cells vs e (0,0))∧vs.size=kT*i.size∧rows.length+fv.length≤kT∧M1=M.dP w.heap.size ((rows.length+fv.length)*i.size) vs∧
   ju M s i.size (rows++fv) vs∧Rel M1 s w'∧Ext M s w M1 s w':=by
   intro hg
   have Cq:=grownCap_ge w (rows.length+fv.length) cap e
   have cW:=run_append_grow_src (P:=P) w t u ty e i z ht hi hz base rows.length cap lr UF y fv.length news hs hg (by omega) (growslice_fits hg wi)
   have db:=wg (M:=M) (s:=s) Rz Kp ln hs.newsLen Kr hs.one MY Kq (Builtin.zeroCells z.cells (grownCap w (rows.length+fv.length) cap e - (rows.length+fv.length))) (zk Ab _)
   obtain⟨r1,e1⟩:=(r.of_heap (w':=w.drew) rfl).dP ((rows.length+fv.length)*i.size) _ e (0,0) db.2.2.1
   refine⟨_,_,_,_,cW,heap_alloc_new w.drew _, ?_,Cq,rfl,db,r1,(Ext.of_heap (M:=M) (s:=s) (w:=w) (w':=w.drew) rfl rfl rfl rfl).trans e1⟩
   simp only [Array.size_append,List.size_toArray,List.length_append,size_zeroCells,uY,ln,hs.newsLen, ← Nat.add_mul]
   congr 1;omega
  have hlen:(rows++fv).length=rows.length+fv.length:=by simp
  cases g with
  | shared=>simp only [← c7]at he;cases he
  | full=>
   have oD:cap=rows.length:=by
    rcases kr with ⟨_,h0,h1⟩ | ⟨_,_,_,h1⟩
    ·subst h0;exact h1
    ·exact h1
   obtain⟨w',M1,vs,kT,cW,hh,dJ,hn,wj,db,r1,e1⟩:=grow (by omega)
   simp only [← c7]at he
   simp only [c7]at he
   cases he
   have Ac:zs (bz eb i.size)=i.size:=Km (fun h=>(Kn h).2) tu
   have Ks:bz eb i.size=0→e=ld:=fun h0=>by
    cases eb with
    | true=>exact(Kn rfl).1
    | false=>simp [bz]at h0;omega
   obtain⟨r2,l2⟩:=r1.Kj (rows.length+fv.length) w.heap.size kT (bz eb i.size) vs e hh (by rw [Ac];exact dJ) hn Ks
    (fun off ho=>by rw [Ac]at ho;rw [wj];simp [Map.dP];omega)
    (fun o ho=>by have:=r.mr ho;rw [wj];show M.mu o≠_;omega) (fun q c z' hl heq=>by
     have:M.be q=some (w.heap.size,c,z'):=by rw [wj]at heq;exact heq
     have:=r.oW hl this;omega)
   refine⟨_,w',_,cW,r2, ?_, ?_⟩
   ·obtain⟨f1,f2⟩:=db.fixed (e1.le.trans l2) (b:=w.heap.size) (fun o ho=>by
     rw [wj,hlen]at *
     simp [Map.dg,Map.dP,ho])
    have key:=RD.slice (M:=M1.dg s.av.length (some (w.heap.size,kT,bz eb i.size))) (s:= {s with av:=s.av++ [some (rows.length+fv.length)]}) (.tok s.av.length eb) i.size (rows++fv) w.heap.size 0 kT (by rw [hlen];exact hn) db.2.1 f1 f2
     ⟨by simp,fun n rk=>by
      simp at rk
      subst rk
      exact⟨by rw [hlen];exact Nat.le_refl _,fun _=> .inr ⟨_,rfl,by simp [Map.dg]⟩⟩⟩
    rw [hlen]at key
    exact key
   ·refine⟨e1.le.trans l2,e1.kept,e1.mj,fun q b c z' hl heq=> ?_,e1.oB,e1.size,e1.os,e1.tape,e1.output⟩
    obtain⟨k,hk⟩:=hl
    rcases Nat.lt_or_ge q s.av.length with h | h
    ·have Ad:M1.be q=some (b,c,z'):=by
      have:(M1.dg s.av.length (some (w.heap.size,kT,bz eb i.size))).be q=M1.be q:=by simp [Map.dg];omega
      rw [this]at heq;exact heq
     simp only [List.getElem?_append_left h]at hk
     exact e1.ml q b c z' ⟨k,hk⟩ Ad
    ·have:=(List.getElem?_eq_some_iff.1 hk).1
     simp at this
     have:q=s.av.length:=by omega
     subst this
     have:(M1.dg s.av.length (some (w.heap.size,kT,bz eb i.size))).be s.av.length=some (w.heap.size,kT,bz eb i.size):=by simp [Map.dg]
     rw [this]at heq;cases heq
     exact .inr (Nat.le_refl _)
  | tok q yb=>
   simp only [← c7]at he
   simp only [c7]at he
   split at he
   case isFalse=>cases he
   rename_i hq
   obtain⟨Ks,UI,hq⟩:=hq
   cases he
   have Ac:zs (bz yb i.size)=i.size:=Km (fun h=>(Kn (Ks h)).2) tu
   have Sp:bz yb i.size=0→e=ld:=fun h0=>by
    cases yb with
    | true=>exact(Kn (Ks rfl)).1
    | false=>simp [bz]at h0;omega
   have C8 : ∀ (hg:cap<rows.length+fv.length),∃ v w' M',(Builtin.append_ #[t,u] ty #[.slice base rows.length cap,y]).run P w = .ok v w'∧Rel M' {s with av:=s.av.set q (some (rows.length+fv.length))} w'∧
    RD M' {s with av:=s.av.set q (some (rows.length+fv.length))} (.slice (.tok q yb) i.size (rows++fv)) v∧Ext M s w M' {s with av:=s.av.set q (some (rows.length+fv.length))} w':=by
    intro hg
    obtain⟨w',M1,vs,kT,cW,hh,dJ,hn,wj,db,r1,e1⟩:=grow hg
    have Fy:q<s.av.length:=(List.getElem?_eq_some_iff.1 hq).1
    obtain⟨r2,l2⟩:=r1.P5 q rows.length (rows.length+fv.length) w.heap.size kT (bz yb i.size) vs e hq (by omega) hh (by rw [Ac];exact dJ) hn Sp
     (fun off ho=>by rw [Ac]at ho;rw [wj];simp [Map.dP];omega)
     (fun o ho=>by have:=r.mr ho;rw [wj];show M.mu o≠_;omega) (fun q c z' hl heq=>by
      have:M.be q=some (w.heap.size,c,z'):=by rw [wj]at heq;exact heq
      have:=r.oW hl this;omega)
    refine⟨_,w',_,cW,r2, ?_, ?_⟩
    ·obtain⟨f1,f2⟩:=db.fixed (e1.le.trans l2) (b:=w.heap.size) (fun o ho=>by
      rw [wj,hlen]at *
      simp [Map.dg,Map.dP,ho])
     have key:=RD.slice (M:=M1.dg q (some (w.heap.size,kT,bz yb i.size))) (s:= {s with av:=s.av.set q (some (rows.length+fv.length))}) (.tok q yb) i.size (rows++fv) w.heap.size 0 kT (by rw [hlen];exact hn) db.2.1 f1 f2
      ⟨by simp [Fy],fun n rk=>by
       simp [Fy]at rk
       subst rk
       exact⟨by rw [hlen];exact Nat.le_refl _,fun _=> .inr ⟨_,rfl,by simp [Map.dg]⟩⟩⟩
     rw [hlen]at key
     exact key
    ·refine⟨e1.le.trans l2,e1.kept,e1.mj,fun q' b c z' hl heq=> ?_,e1.oB,e1.size,e1.os,e1.tape,e1.output⟩
     obtain⟨k,hk⟩:=hl
     by_cases h:q'=q
     ·subst h
      have:(M1.dg q' (some (w.heap.size,kT,bz yb i.size))).be q'=some (w.heap.size,kT,bz yb i.size):=by simp [Map.dg]
      rw [this]at heq;cases heq
      exact .inr (Nat.le_refl _)
     ·have Ad:M1.be q'=some (b,c,z'):=by
       have:(M1.dg q (some (w.heap.size,kT,bz yb i.size))).be q'=M1.be q':=by simp [Map.dg,h]
       rw [this]at heq;exact heq
      simp only [List.getElem?_set_ne (Ne.symm h)]at hk
      exact e1.ml q' b c z' ⟨k,hk⟩ Ad
   rcases kr with ⟨rfl,rfl,h1⟩ | ⟨b,k,rfl,h1⟩
   ·obtain⟨_,h2⟩:=h1
    obtain⟨_,h3⟩:=h2 _ hq
    rcases h3 rfl with ⟨_,h4⟩ | ⟨b,h4,_⟩
    ·exact C8 (by simp;omega)
    ·cases h4
   ·obtain⟨_,h2⟩:=h1
    obtain⟨_,h3⟩:=h2 _ hq
    rcases h3 rfl with ⟨_,h4⟩ | ⟨b2,h4,gK⟩
    ·exact C8 (by omega)
    cases h4
    subst UI
    by_cases rQ:rows.length+fv.length≤cap
    ·rcases r.tok q rows.length hq with ⟨h4,_⟩ | ⟨b',z1,rR,vs,T,h4,h5,h6,h7,h8⟩
     ·rw [gK]at h4;cases h4
     ·rw [gK]at h4;cases h4
      rw [Ac]at h6
      obtain⟨r2,e2⟩:=r.P6 q rows.length fv.length b cap (bz yb i.size) i.size news Ac hq gK hs.newsLen rQ hm hs.one vs T h5 h6 h8.2
      have iu:rows.length*i.size+news.length≤vs.size:=by rw [hs.newsLen,h6, ← Nat.add_mul];exact Nat.mul_le_mul_right _ rQ
      have uU:=run_storeCells_at P b (rows.length*i.size) T news 0 vs w h5 (by simpa using iu) hs.one
      simp only [Nat.add_zero]at uU
      have cW:(Builtin.append_ #[t,u] ty #[.slice (some ⟨b,0,none⟩) rows.length cap,y]).run P w = .ok (.slice (some ⟨b,0,none⟩) (rows.length+fv.length) cap) (w.setRow b (vs.toList.take (rows.length*i.size)++news++vs.toList.drop (rows.length*i.size+news.length)).toArray):=by
       rcases hs.kind with ⟨Ff,hk⟩ | hk <;> simp [Builtin.append_,run_underlying ht,run_underlying hk,sizeOf,typeInfo,hi,hs.len,rQ,hs.cells,Addr.add_lit,uU]
      refine⟨_,_,_,cW,r2, ?_,e2⟩
      have hG : ∀ o,o<(rows++fv).length*i.size→(M.fix b (rows.length*i.size) news).G b o=(lr++news).toArray[o]? :=by
       intro o ho
       rw [hlen,Nat.add_mul]at ho
       rw [List.getElem?_toArray]
       by_cases h9:o<rows.length*i.size
       ·rw [List.getElem?_append_left (by omega)]
        have:(M.fix b (rows.length*i.size) news).G b o=M.G b o:=by simp [Map.fix];omega
        rw [this]
        have:=UG b 0 rfl o h9
        rwa [Nat.zero_add]at this
       ·rw [List.getElem?_append_right (by omega),ln]
        have:(M.fix b (rows.length*i.size) news).G b o=news[o - rows.length*i.size]? :=by
         simp only [Map.fix];rw [if_pos ⟨trivial,by omega,by rw [hs.newsLen];omega⟩]
        rw [this]
      have db:=wg (M:=M) (s:=s) Rz Kp ln hs.newsLen Kr hs.one MY Kq #[] (by simp)
      rw [Array.append_empty]at db
      obtain⟨f1,f2⟩:=db.fixed e2.le (b:=b) hG
      have Fy:q<s.av.length:=(List.getElem?_eq_some_iff.1 hq).1
      have key:=RD.slice (M:=M.fix b (rows.length*i.size) news) (s:= {s with av:=s.av.set q (some (rows.length+fv.length))}) (.tok q yb) i.size (rows++fv) b 0 cap (by rw [hlen];exact rQ) db.2.1 f1 f2
       ⟨by simp [Fy],fun n rk=>by
        simp [Fy]at rk
        subst rk
        exact⟨by rw [hlen];exact Nat.le_refl _,fun _=> .inr ⟨_,rfl,gK⟩⟩⟩
      rw [hlen]at key
      exact key
    ·exact C8 (by omega)
theorem Cs (r:Rel M s w) {u e':TypeId} {i:TypeInfo} (hu:P.underlying u=some (.slice e')) {y:Value} {dy:D} (hy:RD M s dy y) (g:Tag) (size:Nat) (rows:List (List D)) (MZ:dy = .slice g size rows) :
 (rows = []→Src P i.size u y 0 [] w)∧(rows≠ []→size=i.size→(∀ row∈rows,row.length=i.size)∧∃ news:List Value,Src P i.size u y rows.length news w∧
  (∀ (k:Nat) (row:List D) (j:Nat) (d:D) (v:Value),rows[k]? = some row→row[j]? = some d→news[k*i.size+j]? = some v→RD M s d v)):=by
 subst MZ
 refine⟨fun h0=> ?_,fun dS dJ=> ?_⟩
 ·subst h0
  rcases hy.fJ with ⟨_,rfl,_⟩ | ⟨_,_,a,cap,rfl⟩ | ⟨b,q,cap,rfl,_⟩
  ·exact Src.ofNil w hu 0
  ·exact Src.ofSlice w hu a 0 cap [] (by simp) (by simp) (by simp)
  ·exact Src.ofSlice w hu ⟨b,q,none⟩ 0 cap [] (by simp) (by simp) (by simp)
 ·subst dJ
  obtain⟨news,h1,h2,_⟩:=yi r hu hy
  refine⟨?_,news,h1,h2⟩
  rcases hy.fJ with ⟨h0,_⟩ | ⟨h0,_⟩ | ⟨_,_,_,_,_,h,_⟩
  ·exact(dS h0).elim
  ·exact(dS h0).elim
  ·exact h
theorem FA (r:Rel M s w) {t u ty e e':TypeId} {i:TypeInfo} {z:Value} (ht:P.underlying t=some (.slice e)) (hu:P.underlying u=some (.slice e')) (hi:P.info? e=some i) (hz:i.zero=some z)
 (uY:z.cells.size=i.size) (Ab : ∀ v∈z.cells,v.oneCell'=true) {dx dy d:D} {x y:Value} {s':St} (hx:RD M s dx x) (hy:RD M s dy y) (tu:0<i.size) (he:kQ i.size i.bytes dx dy s=some (d,s')) :
 ∃ v w' M',(Builtin.append_ #[t,u] ty #[x,y]).run P w = .ok v w'∧Rel M' s' w'∧RD M' s' d v∧Ext M s w M' s' w':=
 vt false r ht hi hz uY Ab hx (fun h=>by cases h) tu (MU he) (Cs r hu hy)
theorem C9 (r:Rel M s w) {t u ty e':TypeId} {i:TypeInfo} {z:Value} (ht:P.underlying t=some (.slice ld)) (hu:P.underlying u=some (.slice e')) (hi:P.info? ld=some i) (hz:i.zero=some z) (h1:i.size=1) (h2:i.bytes=1)
 (uY:z.cells.size=i.size) (Ab : ∀ v∈z.cells,v.oneCell'=true) {dx dy d:D} {x y:Value} {s':St} (hx:RD M s dx x) (hy:RD M s dy y) (he:ti dx dy s=some (d,s')) :
 ∃ v w' M',(Builtin.append_ #[t,u] ty #[x,y]).run P w = .ok v w'∧Rel M' s' w'∧RD M' s' d v∧Ext M s w M' s' w':=
 vt true r ht hi hz uY Ab hx (fun _=>⟨rfl,h1⟩) (by omega) (by rw [h1,h2];exact Fw he) (Cs r hu hy)
theorem Da (r:Rel M s w) {t u ty:TypeId} {i:TypeInfo} {z:Value} (ht:P.underlying t=some (.slice ld)) (hu:P.underlying u=some .string) (hi:P.info? ld=some i) (hz:i.zero=some z) (h1:i.size=1) (h2:i.bytes=1)
 (uY:z.cells.size=i.size) (Ab : ∀ v∈z.cells,v.oneCell'=true) {dx d:D} {x:Value} {l:List UInt8} {s':St} (hx:RD M s dx x) (he:ti dx (.slice .shared 1 (l.map fun c=> [.int .u8 c.toNat])) s=some (d,s')) :
 ∃ v w' M',(Builtin.append_ #[t,u] ty #[x, .string ⟨⟨l⟩⟩]).run P w = .ok v w'∧Rel M' s' w'∧RD M' s' d v∧Ext M s w M' s' w':=by
 have hs:Src P i.size u (.string ⟨⟨l⟩⟩) l.length (l.map fun c=> .int .u8 c.toNat) w:=by
  rw [h1]
  exact Src.ofString w hu ⟨⟨l⟩⟩
 refine vt true r ht hi hz uY Ab hx (fun _=>⟨rfl,h1⟩) (by omega) (by rw [h1,h2];exact Fw he) fun g size rows MZ=> ?_
 cases MZ
 refine⟨fun h0=> ?_,fun dS dJ=> ?_⟩
 ·have:l = []:=by simpa using h0
  subst this
  exact hs
 ·refine⟨fun row hr=> ?_,_,by simpa using hs,fun k row j d v e1 e2 e3=> ?_⟩
  ·obtain⟨c,_,rfl⟩:=List.mem_map.1 hr
   rw [h1];rfl
  ·rw [List.getElem?_map,Option.map_eq_some_iff]at e1
   obtain⟨c,e1,rfl⟩:=e1
   cases j with
   | zero=>
    simp at e2
    subst e2
    simp [h1,e1]at e3
    subst e3
    exact .int _ _
   | succ j=>simp at e2
end
end Go.Abs

/-! Sound6 -/

namespace Go.Abs
section
variable {P:Program} {M:Map} {s:St} {w:World}
theorem map_some {α β:Type} {f:α→β} {x:Option α} {y:β} (h:x.map f=some y) : ∃ a,x=some a∧y=f a:=by
 cases x with
 | none=>cases h
 | some a=>cases h;exact⟨a,rfl,rfl⟩
theorem qG {t:TypeId} {z:List D} (h:zeroOf P t=some z) : ∃ i v,P.info? t=some i∧i.zero=some v∧v.cells.size=i.size∧jV v.cells.toList=some z:=by
 unfold zeroOf at h
 split at h
 ·rename_i i hi
  split at h
  ·rename_i v hv
   split at h
   ·exact⟨i,v,hi,hv, ‹_›,h⟩
   ·cases h
  ·cases h
 ·cases h
theorem px {z:List D} {v:Value} (h:jV v.cells.toList=some z):od M s z v.cells:=by
 obtain⟨h1,h2,h3⟩:=ij (M:=M) (s:=s) h
 exact⟨by simpa using h1.symm,fun u hu=>h2 u (by simpa using hu),fun i d u e1 e2=>h3 i d u e1 (by simpa using e2)⟩
theorem Db {t:TypeId} {z:List D} (h:rP P t=some z) : ∃ i v,P.info? t=some i∧i.zero=some v∧v.cells.size=i.size∧od M s z v.cells:=by
 unfold rP at h
 split at h
 ·rename_i i hi
  split at h
  ·rename_i v hv
   split at h
   ·refine⟨i,v,hi,hv, ‹_›, ?_⟩
    obtain⟨h1,h2,h3⟩:=uW (M:=M) (s:=s) h
    exact⟨by simpa using h1.symm,fun u hu=>h2 u (by simpa using hu),fun i d u e1 e2=>h3 i d u e1 (by simpa using e2)⟩
   ·cases h
  ·cases h
 ·cases h
theorem tv {t:TypeId} {tm:Tm} {act:Act} (hr:iR M s tm act.tmps) : ∀ {l:List (Nat×Operand)} {ps:List (Nat×Nat×X)},tj P t l=some ps→
 (ps.map fun p=>(p.1,p.2.1,p.2.2.ev tm)).length=(l.map fun p=>(p.1,act.eval p.2)).length∧
 ∀ (j:Nat) (i:Nat) (v:Value) (off size:Nat) (d:D),(l.map fun p=>(p.1,act.eval p.2))[j]? = some (i,v)→(ps.map fun p=>(p.1,p.2.1,p.2.2.ev tm))[j]? = some (off,size,d)→
  (∃ a,je P t i=some (off,size,a))∧RD M s d v
 | [],ps,h=>by cases h;exact⟨rfl,by simp⟩
 | (i0,x)::l,ps,h=>by
  unfold tj at h
  split at h
  ·rename_i off size a x' r' h1 h2 h3
   cases h
   obtain⟨g1,g2⟩:=tv hr h3
   refine⟨by simpa using g1,fun j i v qF rR d e1 e2=> ?_⟩
   cases j with
   | zero=>
    simp at e1 e2
    obtain⟨rfl,rfl⟩:=e1
    obtain⟨rfl,rfl,rfl⟩:=e2
    exact⟨⟨a,h1⟩,br h2 hr⟩
   | succ j=>exact g2 j i v qF rR d (by simpa using e1) (by simpa using e2)
  ·cases h
theorem wk {tm:Tm} {act:Act} (hr:iR M s tm act.tmps) : ∀ {l:List (Nat×Operand)} {ps:List (Nat×X)},zY l=some ps→
 (ps.map fun p=>(p.1,p.2.ev tm)).length=(l.map fun p=>(p.1,act.eval p.2)).length∧
 ∀ (j:Nat) (i:Nat) (v:Value) (i':Nat) (d:D),(l.map fun p=>(p.1,act.eval p.2))[j]? = some (i,v)→(ps.map fun p=>(p.1,p.2.ev tm))[j]? = some (i',d)→i'=i∧RD M s d v
 | [],ps,h=>by cases h;exact⟨rfl,by simp⟩
 | (i0,x)::l,ps,h=>by
  unfold zY at h
  split at h
  ·rename_i x' r' h1 h2
   cases h
   obtain⟨g1,g2⟩:=wk hr h2
   refine⟨by simpa using g1,fun j i v i' d e1 e2=> ?_⟩
   cases j with
   | zero=>
    simp at e1 e2
    obtain⟨rfl,rfl⟩:=e1
    obtain⟨rfl,rfl⟩:=e2
    exact⟨rfl,br h1 hr⟩
   | succ j=>exact g2 j i v i' d (by simpa using e1) (by simpa using e2)
  ·cases h
theorem wm : ∀ (l:List Field),(∀ f∈l,(P.info? f.type).isSome)→
 ∃ ps:List (Nat×Nat),(l.mapM fun f=>do pure (f.offset, ← sizeOf f.type):Sem (List (Nat×Nat))).run P w = .ok ps w∧
  ∀ (j:Nat) (f:Field) (i:TypeInfo),l[j]? = some f→P.info? f.type=some i→ps[j]? = some (f.offset,i.size)
 | [],_=>⟨[],rfl,by simp⟩
 | f::l,h=>by
  obtain⟨i,hi⟩:=Option.isSome_iff_exists.1 (h f (by simp))
  obtain⟨ps,h1,h2⟩:=wm l (fun g hg=>h g (by simp [hg]))
  refine⟨(f.offset,i.size)::ps, ?_,fun j g i' e1 e2=> ?_⟩
  ·rw [List.mapM_cons]
   simp only [Sem.run_bind,sizeOf,fm P hi,Result.andThen_ok,Sem.run_pure]at h1 ⊢
   simp only [h1,Result.andThen_ok]
  ·cases j with
   | zero=>simp at e1;subst e1;rw [hi]at e2;cases e2;rfl
   | succ j=>exact h2 j g i' (by simpa using e1) e2
theorem Dc (r:Rel M s w) {t:TypeId} {fs:Array Field} {z:List D} {l:List (Nat×Operand)} {ps:List (Nat×Nat×X)} {tm:Tm} {act:Act} {cs:List D} (hr:iR M s tm act.tmps)
 (ht:P.underlying t=some (.struct fs)) (wo:(fs.toList.all fun f=>(P.info? f.type).isSome)=true) (hz:rP P t=some z) (hp:tj P t l=some ps) (hf:mn z (ps.map fun p=>(p.1,p.2.1,p.2.2.ev tm))=some cs) :
 b9 P M s w (do pure (.value (← Instr.build t (l.toArray.map fun(i,x)=>(i,act.eval x))))) (.agg cs) s:=by
 obtain⟨i,v,h1,h2,h3,hc⟩:=Db (M:=M) (s:=s) hz
 obtain⟨g1,g2⟩:=tv hr hp
 obtain⟨pl,p1,p2⟩:=wm (P:=P) (w:=w) fs.toList (fun f UJ=>by simpa using List.all_eq_true.1 wo f UJ)
 have Lx:(fs.mapM fun f=>do pure (f.offset, ← sizeOf f.type):Sem (Array (Nat×Nat))).run P w = .ok pl.toArray w:=by
  rw [Array.mapM_eq_mapM_toList,Sem.run_map,p1];rfl
 obtain⟨vs,f1,f2⟩:=z8 (place:=(pl.toArray[·]?)) (l.map fun p=>(p.1,act.eval p.2)) _ z v.cells cs hc g1 (fun j i v off size d e1 e2=>by
  obtain⟨⟨a,ha⟩,hd⟩:=g2 j i v off size d e1 e2
  refine⟨?_,hd⟩
  unfold je at ha
  rw [ht]at ha
  simp only at ha
  split at ha
  ·rename_i fd UK
   split at ha
   ·rename_i i' a' fW _
    split at ha
    ·cases ha
    ·cases ha
     simpa using p2 i fd i' (by simpa using UK) fW
   ·cases ha
  ·cases ha) hf
 refine b9.pure (v:= .agg vs) r ?_ (.agg _ _ f2.1.symm f2.2.1 f2.2.2)
 have rl:(l.toArray.map fun(i,x)=>(i,act.eval x)).toList=l.map fun p=>(p.1,act.eval p.2):=by simp
 unfold Instr.build
 simp only [Sem.run_bind,zeroValue,fm P h1,h2,Result.andThen_ok,Sem.run_pure,run_underlying ht,Lx,rl,f1]
theorem uZ (r:Rel M s w) {t e:TypeId} {i:TypeInfo} {z:List D} {n:Nat} {l:List (Nat×Operand)} {ps:List (Nat×X)} {tm:Tm} {act:Act} {rows:List (List D)} (hr:iR M s tm act.tmps)
 (ht:P.underlying t=some (.slice e)) (hi:P.info? e=some i) (hz:zeroOf P e=some z) (tu:0<i.size) (hn:n*i.size≤65536) (hp:zY l=some ps)
 (hf:gh i.size (fF z n) (ps.map fun p=>(p.1,p.2.ev tm))=some rows) :
 ∃ (vs:Array Value) (T:TypeId),ju M s i.size rows vs∧rows.length=n∧vs.size=n*i.size∧
  (Instr.buildSlice t n (l.toArray.map fun(i,x)=>(i,act.eval x))).run P w = .ok (.slice (some ⟨w.heap.size,0,none⟩) n n) (w.alloc (.cells vs T)):=by
 obtain⟨i',v,h1,h2,h3,h4⟩:=qG hz
 rw [hi]at h1;cases h1
 have hc:=px (M:=M) (s:=s) h4
 have UL:z.length=i.size:=by rw [← hc.1,h3]
 have FB:=ju.zero hc (by omega) n
 rw [UL]at FB
 obtain⟨g1,g2⟩:=wk hr hp
 obtain⟨vs,f1,f2,f3,f4⟩:=tt (l.map fun p=>(p.1,act.eval p.2)) _ _ _ rows FB g1 g2 hf
 have UM:=kD z n
 refine⟨vs,e,f2,by rw [f3,UM],by rw [f4];simp, ?_⟩
 have wi : ¬ (n*i.size > 2 ^ 24):=by omega
 have rl:(l.toArray.map fun(i,x)=>(i,act.eval x)).toList=l.map fun p=>(p.1,act.eval p.2):=by simp
 by_cases h0:n*i.size=0
 ·have iS:(Array.range (n*i.size)).map ((#[] : Array Value)[· % (#[] : Array Value).size]!)=(Array.range (n*i.size)).map (v.cells[· % v.cells.size]!):=by rw [h0];simp
  unfold Instr.buildSlice
  simp only [Sem.run_bind,run_underlying ht,Result.andThen_ok,sizeOf,fm P hi,Sem.run_pure,if_neg wi,if_pos h0,iS,rl,f1,newRow,run_newObj]
  rfl
 ·unfold Instr.buildSlice
  simp only [Sem.run_bind,run_underlying ht,Result.andThen_ok,sizeOf,fm P hi,Sem.run_pure,if_neg wi,if_neg h0,zeroValue,h2,rl,f1,newRow,run_newObj]
  rfl
end
end Go.Abs

/-! Sound7 -/

namespace Go.Abs
section
variable {P:Program} {M:Map} {s:St} {w:World}
theorem foldl_push (ns:List Int) : ∀ r:ByteArray,ns.foldl (fun r n=>r.push (UInt8.ofNat n.toNat)) r = ⟨r.data++(ns.map fun n=>UInt8.ofNat n.toNat).toArray⟩:=by
 induction ns with
 | nil=>intro r;simp
 | cons n ns ih=>intro r;simp only [List.foldl_cons];rw [ih];simp [ByteArray.push]
theorem py : ∀ {rows:List (List D)} {l:List UInt8},kp rows=some l→∃ ns:List Int,rows=ns.map (fun n=> [.int .u8 n])∧l=ns.map fun n=>UInt8.ofNat n.toNat
 | [],l,h=>by cases h;exact⟨[],rfl,rfl⟩
 | r::rs,l,h=>by
  unfold kp at h
  split at h
  ·rename_i b bs h1 h2
   cases h
   obtain⟨ns,g1,g2⟩:=py h2
   unfold ye at h1
   split at h1
   ·rename_i n
    cases h1
    exact⟨n::ns,by rw [g1];rfl,by rw [g2];rfl⟩
   ·cases h1
  ·cases h
theorem Dd (r:Rel M s w) {src dst e:TypeId} {g:Tag} {z:Nat} {rows:List (List D)} {v:Value} {l:List UInt8} (hs:P.underlying src=some (.slice e)) (he:P.underlying e=some (.int .u8)) (hd:P.underlying dst=some .string)
 (hv:RD M s (.slice g z rows) v) (hb:kp rows=some l):b9 P M s w (do pure (.value (← convert src dst v))) (.str l) s:=by
 obtain⟨ns,rfl,rfl⟩:=py hb
 refine b9.pure (v:= .string ⟨⟨ns.map fun n=>UInt8.ofNat n.toNat⟩⟩) r ?_ (.str _)
 rcases hv.fJ with ⟨h0,rfl,_⟩ | ⟨h0,_,a,cap,rfl⟩ | ⟨b,q,cap,rfl,hl,dJ,g1,g2,_⟩
 ·have:ns = []:=by simpa using h0
  subst this
  have:=run_convert_bytes_string w src dst e none 0 0 hs he hd
  simp only [Sem.run_bind,this,Conv.bytesToString,Sem.run_pure,Result.andThen_ok]
  rfl
 ·have:ns = []:=by simpa using h0
  subst this
  have h2:=run_convert_bytes_string w src dst e (some a) 0 cap hs he hd
  simp only [Sem.run_bind,h2,Conv.bytesToString,Sem.run_pure,Result.andThen_ok]
  rfl
 ·have iS:=run_loadCells_list (P:=P) w ⟨b,q,none⟩ (ns.map (Value.int .u8)) (fun j v hj=>by
   rw [nA]
   simp only [List.getElem?_map,Option.map_eq_some_iff]at hj
   obtain⟨n,hn,rfl⟩:=hj
   have db:(ns.map (fun n=> [D.int .u8 n]))[j]? = some [.int .u8 n]:=by simp [hn]
   have hz:z=1:=by have:=dJ [.int .u8 n] (List.mem_of_getElem? db);simpa using this.symm
   subst hz
   obtain⟨u,hu⟩:=g1 j _ 0 _ db rfl
   have:=g2 j _ 0 _ u db rfl hu
   rw [this.gi]at hu
   have:=(r.comm _ _ _ hu).1
   simpa using this)
  simp only [List.length_map]at iS ⊢
  have h1:=run_bytesToString (P:=P) w ⟨b,q,none⟩ ns.length cap ns iS
  have h2:=run_convert_bytes_string w src dst e (some ⟨b,q,none⟩) ns.length cap hs he hd
  simp only [Sem.run_bind,h2,h1,Sem.run_pure,Result.andThen_ok,foldl_push]
  congr 3
  simp [ByteArray.empty,ByteArray.emptyWithCapacity]
  rfl
theorem Ae (r:Rel M s w) {src dst e:TypeId} {l:List UInt8} (hs:P.underlying src=some .string) (hd:P.underlying dst=some (.slice e)) (he:P.underlying e=some (.int .u8)) :
 b9 P M s w (do pure (.value (← convert src dst (.string ⟨⟨l⟩⟩)))) (.slice .shared 1 (l.map fun c=> [.int .u8 c.toNat])) s:=by
 have cW:=run_bytes_of_string (P:=P) w src dst e ⟨⟨l⟩⟩ hs hd he
 generalize oD:grownCap w (ByteArray.size ⟨⟨l⟩⟩) 0 e=cap at cW
 have Cq:l.length≤cap:=by rw [← oD];exact grownCap_ge w l.length 0 e
 have db : ∀ j,j<l.length→(bytesRow ⟨⟨l⟩⟩ cap)[j]? = some (.int .u8 ((l[j]?.getD 0).toNat:Int)):=by
  intro j hj
  unfold bytesRow
  rw [Array.getElem?_append_left (by simpa using hj)]
  simp [hj]
 have dJ:(bytesRow ⟨⟨l⟩⟩ cap).size=cap:=by simp [bytesRow,uB];omega
 have jW : ∀ v∈bytesRow ⟨⟨l⟩⟩ cap,v.oneCell'=true:=by
  intro v hv
  unfold bytesRow at hv
  simp at hv
  rcases hv with ⟨a,_,rfl⟩ | ⟨_,rfl⟩ <;> rfl
 have hR:ju M s 1 (l.map fun c=> [D.int .u8 c.toNat]) (bytesRow ⟨⟨l⟩⟩ cap):=by
  refine⟨by simp [dJ];omega,by simp,jW,fun i row j d v e1 e2 e3=> ?_⟩
  simp only [List.getElem?_map,Option.map_eq_some_iff]at e1
  obtain⟨c,hc,rfl⟩:=e1
  cases j with
  | zero=>
   simp at e2;subst e2
   have hi:=(List.getElem?_eq_some_iff.1 hc).1
   rw [show i*1+0=i by omega,db i hi,hc]at e3
   cases e3
   exact .int _ _
  | succ j=>simp at e2
 obtain⟨r1,e1⟩:=(r.of_heap (w':=w.drew) rfl).dP l.length (bytesRow ⟨⟨l⟩⟩ cap) e ((bytesRow ⟨⟨l⟩⟩ cap).size,(bytesRow ⟨⟨l⟩⟩ cap).size+1) jW
 obtain⟨f1,f2⟩:=hR.fixed e1.le (b:=w.heap.size) (fun o ho=>by simp at ho;simp [Map.dP,ho])
 refine⟨.slice (some ⟨w.heap.size,0,none⟩) l.length cap,_,_, .inl (by simp only [Sem.run_bind,cW,Result.andThen_ok,Sem.run_pure];rfl),r1, ?_,(Ext.of_heap (M:=M) (s:=s) (w:=w) (w':=w.drew) rfl rfl rfl rfl).trans e1⟩
 have key:=RD.slice (M:=M.dP w.heap.size l.length (bytesRow ⟨⟨l⟩⟩ cap)) (s:=s) .shared 1 (l.map fun c=> [D.int .u8 c.toNat]) w.heap.size 0 cap (by simpa using Cq) hR.2.1 f1 f2 trivial
 simp only [List.length_map]at key
 exact key
theorem H6 (r:Rel M s w) {t e:TypeId} {q z:Nat} {yb:Bool} {rows:List (List D)} {v:Value} (ht:P.underlying t=some (.slice e)) (he:P.underlying e=some (.int .u8)) (hv:RD M s (.slice (.tok q yb) z rows) v) (dS:rows≠ []) (hq:s.av[q]? = some (some rows.length)) :
 b9 P M s w (do pure (.value (← convert t t v))) (.slice .shared z rows) {s with av:=s.av.set q none}:=by
 rcases hv.fJ with ⟨h0,_,_⟩ | ⟨h0,_,_⟩ | ⟨b,k,cap,rfl,hl,dJ,g1,g2,kr⟩
 ·exact(dS h0).elim
 ·exact(dS h0).elim
 ·obtain⟨_,h2⟩:=kr
  obtain⟨_,h3⟩:=h2 _ hq
  rcases h3 rfl with ⟨_,h4,_⟩ | ⟨b2,h4,gK⟩
  ·subst h4
   exact(dS (List.eq_nil_of_length_eq_zero (Nat.le_zero.1 hl))).elim
  cases h4
  obtain⟨r1,l1⟩:=r.P7 q
  rcases r.tok q rows.length hq with ⟨h4,_⟩ | ⟨b',z1,rR,vs,T,h4,h5,h6,h7,h8⟩
  ·rw [gK]at h4;cases h4
  ·rw [gK]at h4;cases h4
   have fp : ∀ p,St.live {s with av:=s.av.set q none} p→p≠q∧s.live p:=by
    rintro p ⟨n,hn⟩
    rw [List.getElem?_set]at hn
    split at hn
    ·simp at hn
    ·rename_i dS;exact⟨fun h=>dS h.symm,n,hn⟩
   obtain⟨r2,hh,kS,ho,wq,H7⟩:=r1.freeze (b:=b) vs.size 1 (fun o ho=>r.dN q b cap _ o ⟨_,hq⟩ gK ho)
    (fun p c y hp heq=>(fp p hp).1 (r.eC p q b c y cap _ (fp p hp).2 ⟨_,hq⟩ heq gK))
   have M3:w.shape? b=some (T,vs.size):=by simp [World.shape?,h5]
   refine⟨.slice (some ⟨b,0,none⟩) rows.length cap,_,M, .inl ?_,r2, ?_, ?_⟩
   ·simp [convert,run_underlying ht,run_underlying he,markStringish,M3]
   ·have h9:=(RD.slice (M:=M) (s:=s) .shared z rows b 0 cap hl dJ g1 g2 trivial).mono l1
    exact h9
   ·refine⟨l1,fun p _ _ h4=>hh p (fun e=>h4 q cap (bz yb z) ⟨_,hq⟩ (by rw [gK,e])),fun o h3 h4=> ?_,fun p b' c y hp heq=> .inl ⟨(fp p hp).2,c,y,heq⟩,fun _ _ h=>(h rfl).elim,by rw [kS];exact Nat.le_refl _,ho,wq,H7⟩
    simp at h4;omega
theorem FC (r:Rel M s w) {size:Nat} {rows:List (List D)} {vs:Array Value} (T:TypeId) (h:ju M s size rows vs) (dJ:vs.size=rows.length*size) (tu:0<size) :
 ∃ M',RD M' {s with av:=s.av++ [some rows.length]} (.slice (.tok s.av.length) size rows) (.slice (some ⟨w.heap.size,0,none⟩) rows.length rows.length)∧
 Rel M' {s with av:=s.av++ [some rows.length]} (w.alloc (.cells vs T))∧Ext M s w M' {s with av:=s.av++ [some rows.length]} (w.alloc (.cells vs T)):=by
 obtain⟨r1,e1⟩:=r.dP vs.size vs T (0,0) h.2.2.1
 have uY:zs size=size:=by show(if size=0 then 1 else size)=size;rw [if_neg (by omega)]
 obtain⟨r2,l2⟩:=r1.Kj rows.length w.heap.size rows.length size vs T (heap_alloc_new w _) (by rw [uY];exact dJ) (Nat.le_refl _) (fun h=>by omega)
  (fun off ho=>by rw [uY]at ho;simp [Map.dP];omega) (fun o ho=>by have:=r.mr ho;show M.mu o≠_;omega)
  (fun q c z' hl heq=>by have:=r.oW hl (show M.be q=some (w.heap.size,c,z')from heq);omega)
 obtain⟨f1,f2⟩:=h.fixed (e1.le.trans l2) (b:=w.heap.size) (fun o ho=>by
  have:o<vs.size:=Nat.lt_of_lt_of_le ho h.1
  simp [Map.dg,Map.dP,this])
 refine⟨_, ?_,r2, ?_⟩
 ·exact .slice _ size rows w.heap.size 0 rows.length (Nat.le_refl _) h.2.1 f1 f2 ⟨by simp,fun n hn=>by
   simp at hn;subst hn
   exact⟨Nat.le_refl _,fun _=> .inr ⟨_,rfl,by simp [Map.dg,bz]⟩⟩⟩
 ·refine⟨e1.le.trans l2,e1.kept,e1.mj,fun q b c z' hl heq=> ?_,e1.oB,e1.size,e1.os,e1.tape,e1.output⟩
  obtain⟨k,hk⟩:=hl
  rcases Nat.lt_or_ge q s.av.length with h' | h'
  ·have Ad:M.be q=some (b,c,z'):=by
    have:((M.dP w.heap.size vs.size vs).dg s.av.length (some (w.heap.size,rows.length,size))).be q=M.be q:=by simp [Map.dg,Map.dP];omega
    rw [this]at heq;exact heq
   simp only [List.getElem?_append_left h']at hk
   exact .inl ⟨⟨k,hk⟩,c,z',Ad⟩
  ·have:=(List.getElem?_eq_some_iff.1 hk).1
   simp at this
   have:q=s.av.length:=by omega
   subst this
   have:((M.dP w.heap.size vs.size vs).dg s.av.length (some (w.heap.size,rows.length,size))).be s.av.length=some (w.heap.size,rows.length,size):=by simp [Map.dg]
   rw [this]at heq;cases heq
   exact .inr (Nat.le_refl _)
end
end Go.Abs

/-! SoundM -/

namespace Go.Abs
open Go.MapKept
section
variable {P:Program} {M:Map} {s:St} {w:World}
theorem qb : ∀ (a b:List MapEntry),ff (a++b)=ff a++ff b
 | [],b=>rfl
 | e::a,b=>by simp only [List.cons_append,ff,qb a b]
theorem yk : ∀ (a:List MapEntry) (j:Nat) (e:MapEntry) (k v:Value),a[j]? = some e→e.key=k→ff (a.set j {e with key:=k,val:=v})=(ff a).set (2*j+1) v
 | [],j,e,k,v,h,_=>by simp at h
 | x::a,0,e,k,v,h,hk=>by
  simp at h;subst h;subst hk
  simp [ff]
 | x::a,j+1,e,k,v,h,hk=>by
  have:=yk a j e k v (by simpa using h) hk
  simp only [List.set_cons_succ,ff,this]
  rw [show 2*(j+1)=(2*j+1)+1 by omega,List.set_cons_succ]
theorem H8 (a b:List UInt8):((⟨⟨a⟩⟩:ByteArray) == ⟨⟨b⟩⟩)=(a==b):=by
 show((⟨a⟩:Array UInt8) == ⟨b⟩)=(a==b)
 simp
theorem find_spec {key:List UInt8} : ∀ (es:List MapEntry) (cs:List D) (i:Nat),(ff es).length=cs.length→(∀ (i:Nat) (d:D) (v:Value),cs[i]? = some d→(ff es)[i]? = some v→RD M s d v)→
 (∀ z d,rO key z cs=some d→(Instr.findNow .string (.string ⟨⟨key⟩⟩) es i=some none∧d=z)∨∃ (j:Nat) (e:MapEntry),Instr.findNow .string (.string ⟨⟨key⟩⟩) es i=some (some (i+j,e.val))∧RD M s d e.val)∧
 (∀ d fV,qE key d cs=some fV→(Instr.findNow .string (.string ⟨⟨key⟩⟩) es i=some none∧fV=cs++ [.str key,d])∨
  ∃ (j:Nat) (e:MapEntry),Instr.findNow .string (.string ⟨⟨key⟩⟩) es i=some (some (i+j,e.val))∧es[j]? = some e∧e.key = .string ⟨⟨key⟩⟩∧fV=cs.set (2*j+1) d)
 | [],cs,i,hl,hr=>by
  have:cs = []:=by cases cs <;> simp [ff]at hl;rfl
  subst this
  refine⟨fun z d h=> .inl ⟨rfl,by simp [rO]at h;exact h.symm⟩,fun d fV h=> .inl ⟨rfl,by simp [qE]at h;simp [← h]⟩⟩
 | x::es,cs,i,hl,hr=>by
  match cs,hl with
  | [],hl=>simp [ff]at hl
  | [_],hl=>simp [ff]at hl
  | c0::c1::r,hl=>
   simp only [ff,List.length_cons]at hl hr
   have h0:=hr 0 c0 x.key rfl rfl
   have h1:=hr 1 c1 x.val rfl rfl
   obtain⟨UN,UO⟩:=find_spec es r (i+1) (by omega) (fun j d v e1 e2=>hr (j+2) d v (by simpa using e1) (by simpa using e2))
   have RB : ∀ k,c0 = .str k→x.key = .string ⟨⟨k⟩⟩∧Instr.findNow .string (.string ⟨⟨key⟩⟩) (x::es) i=if key==k then some (some (i,x.val))else Instr.findNow .string (.string ⟨⟨key⟩⟩) es (i+1):=by
    intro k hk
    subst hk
    have hx:=h0.ig
    refine⟨hx, ?_⟩
    simp only [Instr.findNow,hx,Instr.sameNow,H8]
    cases hb:key==k <;> simp
   refine⟨fun z d h=> ?_,fun d fV h=> ?_⟩
   ·cases c0 <;> simp only [rO]at h <;> try (cases h;done)
    rename_i k
    obtain⟨k1,k2⟩:=RB k rfl
    rw [k2]
    by_cases sF:k=key
    ·subst sF
     simp at h
     subst h
     exact .inr ⟨0,x,by simp,h1⟩
    ·have e1:(k==key)=false:=by simpa using sF
     have e2:(key==k)=false:=by simpa using fun e:key=k=>sF (Eq.symm e)
     rw [e1]at h
     rw [e2]
     simp only [Bool.false_eq_true, ↓reduceIte]at h ⊢
     rcases UN z d h with h2 | ⟨j,e,h2,h3⟩
     ·exact .inl h2
     ·exact .inr ⟨j+1,e,by rw [h2];congr 3;omega,h3⟩
   ·cases c0 <;> simp only [qE]at h <;> try (cases h;done)
    rename_i k
    obtain⟨k1,k2⟩:=RB k rfl
    rw [k2]
    by_cases sF:k=key
    ·subst sF
     simp at h
     subst h
     exact .inr ⟨0,x,by simp,rfl,k1,by simp⟩
    ·have e1:(k==key)=false:=by simpa using sF
     have e2:(key==k)=false:=by simpa using fun e:key=k=>sF (Eq.symm e)
     rw [e1]at h
     rw [e2]
     simp only [Bool.false_eq_true, ↓reduceIte]at h ⊢
     split at h
     ·rename_i r' Fu
      cases h
      rcases UO d r' Fu with ⟨h2,h3⟩ | ⟨j,e,h2,h3,h4,h5⟩
      ·exact .inl ⟨h2,by rw [h3];rfl⟩
      ·refine .inr ⟨j+1,e,by rw [h2];congr 3;omega,by simpa using h3,h4, ?_⟩
       rw [h5,show 2*(j+1)+1=(2*j+1)+1+1 by omega]
       simp only [List.set_cons_succ]
     ·cases h
theorem Rel.M4 (r:Rel M s w) {o:Nat} {cs fV:List D} (he:s.au[o]? = some cs) (hk:M.ob o = .map) (sG:Array MapEntry) (ck:Nat) (hl:(ff sG.toList).length=fV.length)
 (h1 : ∀ v∈ff sG.toList,v.oneCell'=true) (h2 : ∀ (i:Nat) (d:D) (v:Value),fV[i]? = some d→(ff sG.toList)[i]? = some v→RD M s d v) :
 Rel M {s with au:=s.au.set o fV} {w with heap:=w.heap.setIfInBounds (M.mu o) (.map sG ck)}∧Ext M s w M {s with au:=s.au.set o fV} {w with heap:=w.heap.setIfInBounds (M.mu o) (.map sG ck)}:=by
 obtain⟨vs,T,hh,hs,⟨jW,Ki⟩,lH⟩:=r.obj o cs he
 rw [hk]at hh
 obtain⟨es,ck0,hh,kU⟩:=hh
 have ho:o<s.au.length:=(List.getElem?_eq_some_iff.1 he).1
 obtain⟨Qb,iQ⟩:=heap_set (w:=w) (o':= .map sG ck) hh
 have le:Le M s M {s with au:=s.au.set o fV}:=
  ⟨fun _ _ _ h=>h,by simp,fun _ _=>rfl,Nat.le_refl _,fun t n _ h=>⟨n,h,Nat.le_refl _,fun _=>rfl⟩⟩
 refine⟨⟨fun b q v e=> ?_,fun o' ds e=> ?_,fun q hq qF=>r.im q (by simpa using hq) qF,fun q q' hq nk e=>r.inj q q' (by simpa using hq) (by simpa using nk) e,fun t n e=> ?_,
  fun t b c z q hl e hq=>r.dN t b c z q hl e (by simpa using hq),fun t t' b c z c' z' h h' e e'=>r.eC t t' b c z c' z' h h' e e'⟩, ?_⟩
 ·obtain⟨h3,h4⟩:=r.comm b q v e
  refine⟨?_,h4⟩
  have hb:b≠M.mu o:=fun eq=>by subst eq;rw [r.im o ho q]at e;cases e
  rw [← h3]
  simp [World.cell?,iQ b hb]
 ·rw [List.getElem?_set]at e
  split at e
  ·rename_i heq
   subst heq
   simp at e
   obtain⟨_,rfl⟩:=e
   refine⟨⟨ff sG.toList⟩,0, ?_,by simpa using hl,⟨fun v hv=>h1 v (by simpa using hv),fun T' h=> ?_⟩,fun i d v e1 e2=>(h2 i d v e1 (by simpa using e2)).mono le⟩
   ·rw [hk];exact⟨sG,ck,Qb,rfl⟩
   ·have:M.ty o=none:=by
     have:(M.loc o).2 = .map:=hk
     simp [Map.ty,this,Ob.ty?]
    rw [this]at h;cases h
  ·rename_i dS
   obtain⟨dY,T',h3,h4,h5,h6⟩:=r.obj o' ds e
   have jR:o'<s.au.length:=(List.getElem?_eq_some_iff.1 e).1
   refine⟨dY,T', ?_,h4,h5,fun i d v e1 e2=>(h6 i d v e1 e2).mono le⟩
   show jt (w.heap.setIfInBounds (M.mu o) (.map sG ck))[M.mu o']? (M.ob o') _ _
   rw [iQ _ (fun eq=>dS (r.inj o o' ho jR eq.symm))];exact h3
 ·rcases r.tok t n e with h3 | ⟨b,cap,size,dY,T',h3,h4,h5⟩
  ·exact .inl h3
  ·refine .inr ⟨b,cap,size,dY,T',h3, ?_,h5⟩
   show(w.heap.setIfInBounds (M.mu o) (.map sG ck))[b]? = _
   rw [iQ b (fun eq=>r.dN t b cap size o ⟨n,e⟩ h3 ho eq.symm)];exact h4
 ·refine⟨le,fun b hb h3 _=>iQ b (fun eq=>h3 o ho eq.symm),fun q h3 h4=> ?_,fun t b c z h e=> .inl ⟨h,c,z,e⟩,fun _ _ h=>(h rfl).elim,by simp,rfl,rfl,rfl⟩
  simp at h4;omega
theorem oh (l:List UInt8):IsKey .string (.string ⟨⟨l⟩⟩):=by simp [IsKey]
theorem De (r:Rel M s w) {t kt e:TypeId} (ht:P.underlying t=some (.map kt e)):b9 P M s w (do pure (.value (← Instr.makeMap t none))) (.eR s.au.length) {s with au:=s.au++ [[]]}:=by
 obtain⟨r',e'⟩:=r.Fi [] (.map #[] 0) #[] 0 .map ⟨#[],0,rfl,rfl⟩ (fun _ h=>by cases h) rfl (by simp) (by simp)
 have hm:(M.cQ s.au.length w.heap.size .map).mu s.au.length=w.heap.size:=by simp [Map.cQ,Map.mu]
 have hv:=RD.eR (M:=M.cQ s.au.length w.heap.size .map) (s:= {s with au:=s.au++ [[]]}) s.au.length (by simp) (by simp [Map.cQ,Map.ob])
 rw [hm]at hv
 refine⟨_,_,_, .inl ?_,r',hv,e'⟩
 simp only [Instr.makeMap,newObj,Sem.run_bind,Sem.run_pure,Sem.run,Result.andThen_ok]
 rfl
theorem Df (r:Rel M s w) {t kt e:TypeId} {i:TypeInfo} {z:Value} {zd:D} (ht:P.underlying t=some (.map kt e)) (hk:P.underlying kt=some .string) (hi:P.info? e=some i) (hz:i.zero=some z) (M5:nu z=some zd)
 {o:Nat} {key:List UInt8} {cs:List D} {d:D} (rh:M.ob o = .map) (ho:s.au[o]? = some cs) (hg:rO key zd cs=some d) :
 b9 P M s w (do pure (.value (← Instr.lookup t (.map (some (M.mu o))) (.string ⟨⟨key⟩⟩) false))) d s:=by
 obtain⟨vs,T,hh,hs,⟨jW,Ki⟩,lH⟩:=r.obj o cs ho
 rw [rh]at hh
 obtain⟨es,ck,hh,kU⟩:=hh
 have vv : ∀ (i:Nat) (d:D) (v:Value),cs[i]? = some d→(ff es.toList)[i]? = some v→RD M s d v:=fun i d v e1 e2=>lH i d v e1 (by rw [← kU]at e2;simpa using e2)
 have UP:(zeroValue e).run P w = .ok z w:=by simp [zeroValue,fm P hi,hz]
 rcases(find_spec es.toList cs 0 (by rw [← kU];simpa using hs) vv).1 zd d hg with ⟨h1,rfl⟩ | ⟨j,en,h1,h2⟩
 ·refine b9.pure (v:=z) r ?_ (lN M5).1
  simp [Instr.lookup,run_underlying ht,MapKept.run_getObj_map hh,run_checkKey hk (oh key),run_findKey hk h1,UP]
 ·refine b9.pure (v:=en.val) r ?_ h2
  simp [Instr.lookup,run_underlying ht,MapKept.run_getObj_map hh,run_checkKey hk (oh key),run_findKey hk h1]
theorem FD (r:Rel M s w) {t kt e:TypeId} (ht:P.underlying t=some (.map kt e)) (hk:P.underlying kt=some .string)
 {o:Nat} {key:List UInt8} {cs fV:List D} {d:D} {v:Value} (rh:M.ob o = .map) (ho:s.au[o]? = some cs) (hv:RD M s d v) (wu:v.oneCell'=true) (hg:qE key d cs=some fV) :
 b9 P M s w (do Instr.mapUpdate t (.map (some (M.mu o))) (.string ⟨⟨key⟩⟩) v;pure .skip) (.tuple []) {s with au:=s.au.set o fV}:=by
 obtain⟨vs,T,hh,hs,⟨jW,Ki⟩,lH⟩:=r.obj o cs ho
 rw [rh]at hh
 obtain⟨es,ck,hh,kU⟩:=hh
 have vv : ∀ (i:Nat) (d:D) (v:Value),cs[i]? = some d→(ff es.toList)[i]? = some v→RD M s d v:=fun i d v e1 e2=>lH i d v e1 (by rw [← kU]at e2;simpa using e2)
 have hl:(ff es.toList).length=cs.length:=by rw [← kU];simpa using hs
 have Kt : ∀ v∈ff es.toList,v.oneCell'=true:=fun v hv=>jW v (by rw [← kU]at hv;simpa using hv)
 rcases(find_spec es.toList cs 0 hl vv).2 d fV hg with ⟨h1,rfl⟩ | ⟨j,en,h1,h2,h3,rfl⟩
 ·obtain⟨r',e'⟩:=r.M4 (fV:=cs++ [.str key,d]) ho rh (es.push {key:= .string ⟨⟨key⟩⟩,val:=v,born:=ck}) (ck+1) (by simp [qb,ff,hl]) (fun u hu=>by
   simp only [Array.toList_push,qb,ff,List.mem_append,List.mem_cons,List.not_mem_nil,or_false]at hu
   rcases hu with hu | rfl | rfl
   ·exact Kt u hu
   ·rfl
   ·exact wu) (fun i d' u e1 e2=>by
   simp only [Array.toList_push,qb,ff]at e2
   rcases Nat.lt_or_ge i cs.length with hi | hi
   ·rw [List.getElem?_append_left hi]at e1
    rw [List.getElem?_append_left (by omega)]at e2
    exact vv i d' u e1 e2
   ·rw [List.getElem?_append_right hi]at e1
    rw [List.getElem?_append_right (by omega),hl]at e2
    match i - cs.length,e1,e2 with
    | 0,e1,e2=>simp at e1 e2;subst e1 e2;exact .str _
    | 1,e1,e2=>simp at e1 e2;subst e1 e2;exact hv
    | k+2,e1,e2=>simp at e1)
  refine⟨Go.undef,_,M, .inr ⟨?_,rfl⟩,r', .undef,e'⟩
  simp [Instr.mapUpdate,run_underlying ht,MapKept.run_getObj_map hh,run_checkKey hk (oh key),run_findKey hk h1,MapKept.run_setObj_map _ hh]
 ·simp only [Nat.zero_add]at h1
  have hj:es[j]? = some en:=by simpa using h2
  have H9:(es.modify j fun e=> {e with key:= .string ⟨⟨key⟩⟩,val:=v}).toList=es.toList.set j {en with key:= .string ⟨⟨key⟩⟩,val:=v}:=by
   apply List.ext_getElem?
   intro i
   rw [Array.getElem?_toList,Array.getElem?_modify,List.getElem?_set]
   by_cases Ku:j=i
   ·subst Ku
    have:j<es.size:=by have:=(List.getElem?_eq_some_iff.1 h2).1;simpa using this
    simp [hj,this]
    have:=(Array.getElem?_eq_some_iff.1 hj).2
    rw [this]
   ·simp [Ku]
  have ke:=yk es.toList j en (.string ⟨⟨key⟩⟩) v h2 h3
  obtain⟨r',e'⟩:=r.M4 (fV:=cs.set (2*j+1) d) ho rh (es.modify j fun e=> {e with key:= .string ⟨⟨key⟩⟩,val:=v}) ck (by rw [H9,ke];simp [hl]) (fun u hu=>by
   rw [H9,ke]at hu
   rcases List.mem_or_eq_of_mem_set hu with hu | rfl
   ·exact Kt u hu
   ·exact wu) (fun i d' u e1 e2=>by
   rw [H9,ke,List.getElem?_set]at e2
   rw [List.getElem?_set]at e1
   by_cases hi:2*j+1=i
   ·rw [if_pos hi]at e1 e2
    split at e1
    ·split at e2
     ·cases e1;cases e2;exact hv
     ·cases e2
    ·cases e1
   ·rw [if_neg hi]at e1 e2
    exact vv i d' u e1 e2)
  refine⟨Go.undef,_,M, .inr ⟨?_,rfl⟩,r', .undef,e'⟩
  simp [Instr.mapUpdate,run_underlying ht,MapKept.run_getObj_map hh,run_checkKey hk (oh key),run_findKey hk h1,hj,h3,run_keyThatStays (oh key),MapKept.run_setObj_map _ hh]
end
end Go.Abs

/-! Sound8 -/

namespace Go.Abs
section
variable {P:Program} {M:Map} {s:St} {w:World}
theorem Ct {tm:Tm} {act:Act} (hr:iR M s tm act.tmps) : ∀ {l:List Operand} {xs:List X},rf l=some xs→
 xs.length=l.length∧∀ (i:Nat) (d:D) (v:Value),(xs.map (·.ev tm))[i]? = some d→(l.map act.eval)[i]? = some v→RD M s d v
 | [],xs,h=>by cases h;exact⟨rfl,by simp⟩
 | x::l,xs,h=>by
  unfold rf at h
  split at h
  ·rename_i x' r' h1 h2
   cases h
   obtain⟨g1,g2⟩:=Ct hr h2
   refine⟨by simp [g1],fun i d v e1 e2=> ?_⟩
   cases i with
   | zero=>simp at e1 e2;subst e1;subst e2;exact br h1 hr
   | succ i=>exact g2 i d v (by simpa using e1) (by simpa using e2)
  ·cases h
theorem FE {lo:Option Operand} {yl:Option X} {tm:Tm} {act:Act} (hr:iR M s tm act.tmps) (h:Ke lo=some yl) {l:Int} (hl:tf (yl.map (·.ev tm))=some l):Kk (lo.map act.eval) l:=by
 cases lo with
 | none=>cases h;simp only [Option.map_none,tf,Option.some.injEq]at hl;exact .inl ⟨rfl,hl.symm⟩
 | some x=>
  obtain⟨y,hy,rfl⟩:=map_some (f:=some) h
  have:=br hy hr
  simp only [Option.map_some]at hl ⊢
  cases hd:y.ev tm <;> rw [hd]at hl this <;> simp only [tf]at hl <;> try (cases hl;done)
  cases hl
  rw [this.gi]
  exact .inr ⟨_,rfl⟩
theorem FF {hi:Option Operand} {fW:Option X} {tm:Tm} {act:Act} (hr:iR M s tm act.tmps) (h:Ke hi=some fW) {len:Nat} {l:Int} (hl:tg (fW.map (·.ev tm)) len=some l):Kl (hi.map act.eval) len l:=by
 cases hi with
 | none=>cases h;simp only [Option.map_none,tg,Option.some.injEq]at hl;exact .inl ⟨rfl,hl.symm⟩
 | some x=>
  obtain⟨y,hy,rfl⟩:=map_some (f:=some) h
  have:=br hy hr
  simp only [Option.map_some]at hl ⊢
  cases hd:y.ev tm <;> rw [hd]at hl this <;> simp only [tg]at hl <;> try (cases hl;done)
  cases hl
  rw [this.gi]
  exact .inr ⟨_,rfl⟩
theorem Dg {t:TypeId} {f off size:Nat} {agg:Bool} (h:je P t f=some (off,size,agg)) {cs:List D} {vs:Array Value} (hl:cs.length=vs.size) (h1 : ∀ v∈vs,v.oneCell'=true)
 (h2 : ∀ (i:Nat) (d:D) (v:Value),cs[i]? = some d→vs[i]? = some v→RD M s d v) {d:D} (hp:part cs off agg size=some d) (r:Rel M s w) :
 b9 P M s w (do pure (.value (← Instr.field t (.agg vs) f))) d s:=by
 let n:=if agg then size else 1
 have iu:off+n≤vs.size:=by
  rcases oc hp with ⟨rfl,h1,_⟩ | ⟨rfl,h1⟩
  ·simp [n];omega
  ·have:=(List.getElem?_eq_some_iff.1 h1).1;simp [n];omega
 have hlen:((vs.toList.drop off).take n).length=n:=by simp;omega
 have hJ : ∀ (j:Nat),j<((vs.toList.drop off).take n).length→vs[off+j]? = ((vs.toList.drop off).take n)[j]? :=by
  intro j h
  rw [hlen]at h
  rw [List.getElem?_take,if_pos h,List.getElem?_drop];simp
 refine b9.pure (v:=if agg then .agg ((vs.toList.drop off).take n).toArray else((vs.toList.drop off).take n).getD 0 Go.undef) r (by simp only [Sem.run_bind,Fm h vs _ hlen hJ,Result.andThen_ok,Sem.run_pure]) ?_
 refine oY hp _ hlen (fun _ u hu=>h1 u (Array.mem_toList_iff.1 (List.mem_of_mem_drop (List.mem_of_mem_take hu)))) (fun j d u e1 e2=>h2 _ d u e1 ?_)
 rw [hJ j (List.getElem?_eq_some_iff.1 e2).1];exact e2
theorem nU {o:Oper} {ao:AO} {tm:Tm} {act:Act} {d:D} {s':St} (hc:v7 P o=some ao) (r:Rel M s w) (hr:iR M s tm act.tmps) (he:aH ao tm s=some (d,s')) :
 b9 P M s w (execOp act.eval o) d s':=by
 obtain⟨dst,op,type,pos,after,guard⟩:=o
 unfold v7 at hc
 simp only at hc
 cases op with
 | move x=>
  obtain⟨y,hy,rfl⟩:=map_some hc
  cases he
  exact b9.pure r rfl (br hy hr)
 | assign x=>
  obtain⟨y,hy,rfl⟩:=map_some hc
  cases he
  exact b9.pure r rfl (br hy hr)
 | pick c a b=>
  simp only at hc
  split at hc
  ·rename_i c' a' b' h1 h2 h3
   cases hc
   simp only [aH]at he
   split at he
   ·rename_i t ht
    cases he
    have RC:=br h1 hr
    rw [ht]at RC
    have:=RC.jX
    refine b9.pure (v:=if t then act.eval a else act.eval b) r ?_ ?_
    ·simp only [execOp,this,asBool]
     simp
    ·cases t
     ·exact br h3 hr
     ·exact br h2 hr
   ·cases he
  ·cases hc
 | alloc t=>
  simp only at hc
  split at hc
  ·obtain⟨z,hz,rfl⟩:=map_some hc
   simp only [aH]at he
   split at he
   ·cases he;exact BK r hz
   ·cases he
  ·obtain⟨z,hz,rfl⟩:=map_some hc
   cases he
   exact C0 r hz
 | box t x=>
  simp only at hc
  split at hc
  ·obtain⟨y,hy,rfl⟩:=map_some hc
   simp only [aH]at he
   split at he
   ·rename_i row db
    cases he
    exact Fl r (br hy hr) db
   ·cases he
  ·obtain⟨y,hy,rfl⟩:=map_some hc
   simp only [aH]at he
   split at he
   ·rename_i row db
    cases he
    exact HW r (br hy hr) db
   ·cases he
 | build t parts=>
  simp only at hc
  split at hc
  ·rename_i fs z ps h1 h2 h3
   split at hc
   ·rename_i wo
    cases hc
    simp only [aH]at he
    split at he
    ·rename_i cs nn
     cases he
     have:=Dc r hr h1 wo h2 h3 nn
     simpa [execOp]using this
    ·cases he
   ·cases hc
  ·cases hc
 | buildSlice t n parts=>
  simp only at hc
  split at hc
  ·rename_i e hu
   split at hc
   ·rename_i i z ps h1 h2 h3
    split at hc
    ·rename_i jf
     cases hc
     simp only [aH]at he
     split at he
     ·rename_i rows iC
      cases he
      obtain⟨vs,T,g1,g2,g3,g4⟩:=uZ r hr hu h1 h2 jf.1 jf.2 h3 iC
      obtain⟨f1,f2,f3⟩:=C7 r T g1
      refine⟨_,_,_, .inl ?_,f2,f1,f3⟩
      simp only [Array.toArray_toList]at g4
      simp only [execOp,Sem.run_bind,g4,Result.andThen_ok,Sem.run_pure]
      rw [g2]
     ·cases he
    ·cases hc
   ·cases hc
  ·cases hc
 | load t x=>
  simp only at hc
  split at hc
  ·rename_i y a i h1 h2 h3
   cases hc
   have hx:=br h1 hr
   simp only [aH]at he
   split at he
   ·rename_i o off ho
    rw [ho]at hx
    have Af:=hx.tn
    obtain⟨hv,_⟩:=hx.nz
    split at he
    ·rename_i cs nn
     split at he
     ·rename_i d' l8
      cases he
      have:=zi r h3 h2 nn Af l8
      simp only [execOp,hv]
      exact this
     ·cases he
    ·cases he
   ·rename_i row off ho
    rw [ho]at hx
    obtain⟨b,k,hv,g1,g2⟩:=hx.rS
    split at he
    ·rename_i d' l8
     cases he
     have:=zj r h3 h2 g1 g2 l8
     simp only [execOp,hv]
     exact this
    ·cases he
   ·cases he
  ·cases hc
 | store t a x=>
  simp only at hc
  split at hc
  ·rename_i a' x' i h1 h2 h3
   cases hc
   have ha:=br h1 hr
   have hx:=br h2 hr
   simp only [aH]at he
   split at he
   ·rename_i o off row ho db
    rw [ho]at ha
    have Af:=ha.tn
    obtain⟨hv,_⟩:=ha.nz
    split at he
    ·rename_i cs nn
     split at he
     ·rename_i iu
      cases he
      have:=C1 r h3 nn Af hx db iu.1 iu.2
      simp only [execOp,hv]
      exact this
     ·cases he
    ·cases he
   ·cases he
  ·cases hc
 | nilCheck x=>
  obtain⟨y,hy,rfl⟩:=map_some hc
  have hx:=br hy hr
  simp only [aH]at he
  split at he
  ·rename_i o off ho
   cases he
   rw [ho]at hx
   have hv:=hx.nz.1
   rw [hv]at hx
   simp only [execOp,hv]
   exact wb r hx
  ·rename_i row off ho
   cases he
   rw [ho]at hx
   obtain⟨b,k,hv,_⟩:=hx.rS
   rw [hv]at hx
   simp only [execOp,hv]
   exact wb r hx
  ·cases he
 | binOp op t x y yt=>
  simp only at hc
  split at hc
  ·rename_i x' y' h1 h2
   have hx:=br h1 hr
   have hy:=br h2 hr
   have fin : ∀ d',qD op (x'.ev tm) (y'.ev tm)=some d'→(d',s)=(d,s')→b9 P M s w (execOp act.eval ⟨dst, .binOp op t x y yt,type,pos,after,guard⟩) d s':=by
    intro d' l8 heq
    cases heq
    exact HX r hx hy l8
   have M6:(match qD op (x'.ev tm) (y'.ev tm)with | some d=>some (d,s) | none=>none)=some (d,s')→b9 P M s w (execOp act.eval ⟨dst, .binOp op t x y yt,type,pos,after,guard⟩) d s':=by
    intro h
    split at h
    ·rename_i d' l8
     exact fin d' l8 (by cases h;rfl)
    ·cases h
   have M7 : ∀ neg,op=(if neg then .neq else .eql)→P.underlying t=some .bool→aH (.yd neg x' y') tm s=some (d,s')→b9 P M s w (execOp act.eval ⟨dst, .binOp op t x y yt,type,pos,after,guard⟩) d s':=by
    intro neg jn ht h
    simp only [aH]at h
    split at h
    ·rename_i p q hp hq
     cases h
     rw [hp]at hx;rw [hq]at hy
     simp only [execOp,hx.jX,hy.jX,jn]
     exact HY r ht
    ·cases h
   have M8 : ∀ neg e,op=(if neg then .neq else .eql)→P.underlying t=some (.pointer e)→aH (.zS neg x' y') tm s=some (d,s')→b9 P M s w (execOp act.eval ⟨dst, .binOp op t x y yt,type,pos,after,guard⟩) d s':=by
    intro neg e jn ht h
    simp only [aH]at h
    split at h
    ·rename_i hp hq
     cases h
     rw [hp]at hx;rw [hq]at hy
     simp only [execOp,hx.ny,hy.ny,jn]
     have:=vr r (neg:=neg) (x:=x) (y:=y) (a:=none) ht
     cases neg <;> simpa using this
    ·rename_i o off hp hq
     cases h
     rw [hp]at hx;rw [hq]at hy
     simp only [execOp,hx.nz.1,hy.ny,jn]
     have:=vr r (neg:=neg) (x:=x) (y:=y) (a:=some ⟨M.mu o,off,none⟩) ht
     cases neg <;> simpa using this
    ·rename_i row off hp hq
     cases h
     rw [hp]at hx;rw [hq]at hy
     obtain⟨b,k,hv,_⟩:=hx.rS
     simp only [execOp,hv,hy.ny,jn]
     have:=vr r (neg:=neg) (x:=x) (y:=y) (a:=some ⟨b,k+off,none⟩) ht
     cases neg <;> simpa using this
    ·cases h
   have M9 : ∀ neg ks,op=(if neg then .neq else .eql)→lF P t=some ks→aH (.eqs neg ks x' y') tm s=some (d,s')→b9 P M s w (execOp act.eval ⟨dst, .binOp op t x y yt,type,pos,after,guard⟩) d s':=by
    intro neg ks jn ht h
    simp only [aH]at h
    split at h
    ·rename_i p q hp hq
     split at h
     ·rename_i e' UQ
      cases h
      rw [hp]at hx;rw [hq]at hy
      simp only [execOp,jn]
      exact H0 r ht hx hy UQ
     ·cases h
    ·cases h
   split at hc
   ·cases hc;exact M6 he
   ·cases hc;exact M6 he
   ·rename_i hu;cases hc;exact M7 false rfl hu he
   ·rename_i hu;cases hc;exact M7 true rfl hu he
   ·rename_i hu;cases hc;exact M8 false _ rfl hu he
   ·rename_i hu;cases hc;exact M8 true _ rfl hu he
   ·obtain⟨ks,hk,rfl⟩:=map_some hc;exact M9 false ks rfl hk he
   ·obtain⟨ks,hk,rfl⟩:=map_some hc;exact M9 true ks rfl hk he
   ·cases hc
  ·cases hc
 | unOp op t x=>
  obtain⟨y,hy,rfl⟩:=map_some hc
  have hx:=br hy hr
  simp only [aH]at he
  split at he
  ·rename_i d' l8
   cases he
   unfold zX at l8
   split at l8
   ·rename_i k n hk
    cases l8
    rw [hk]at hx
    exact b9.pure (v:= .int k (k.wrap (0 - n))) r (by simp [execOp,hx.gi,Op.unary,Op.intArith]) (.int _ _)
   ·rename_i b hb
    cases l8
    rw [hb]at hx
    exact b9.pure (v:= .bool (!b)) r (by simp [execOp,hx.jX,Op.unary]) (.bool _)
   ·cases l8
  ·cases he
 | convert src abD x=>
  simp only at hc
  split at hc
  ·rename_i y k1 k h1 h2 h3
   cases hc
   have hx:=br h1 hr
   simp only [aH]at he
   split at he
   ·rename_i k2 n hn
    cases he
    rw [hn]at hx
    refine b9.pure (v:= .int k (k.wrap n)) r ?_ (.int _ _)
    simp [execOp,hx.gi,convert,run_underlying h2,run_underlying h3,Conv.intToInt]
   ·cases he
  ·rename_i y e h1 h2 h3
   split at hc
   ·rename_i h4
    cases hc
    have hx:=br h1 hr
    simp only [aH]at he
    split at he
    ·rename_i g z rows iC
     split at he
     ·rename_i b hb
      cases he
      rw [iC]at hx
      exact Dd r h2 h4 h3 hx hb
     ·cases he
    ·cases he
   ·cases hc
  ·rename_i y e e2 h1 h2 h3
   split at hc
   ·rename_i h4
    split at hc
    ·rename_i Kv
     cases hc
     subst Kv
     have hx:=br h1 hr
     simp only [aH]at he
     split at he
     ·rename_i t z rows iC
      split at he
      ·rename_i jf
       cases he
       rw [iC]at hx
       exact H6 r h2 h4 hx jf.1 jf.2
      ·cases he
     ·cases he
    ·cases hc
   ·cases hc
  ·rename_i y e h1 h2 h3
   split at hc
   ·rename_i i h4 h5
    split at hc
    ·cases hc
     have hx:=br h1 hr
     simp only [aH]at he
     split at he
     ·rename_i l hl
      cases he
      rw [hl]at hx
      simp only [execOp,hx.ig]
      exact Ae r h2 h3 h4
     ·cases he
    ·cases hc
   ·cases hc
  ·cases hc
 | slice t x lo hi mx=>
  cases mx with
  | some m=>cases hc
  | none=>
   simp only at hc
   split at hc
   ·rename_i y yl fW h1 h2 h3 h4
    cases hc
    have hx:=br h1 hr
    simp only [aH]at he
    split at he
    ·rename_i u hu
     rw [hu]at hx
     split at he
     ·rename_i l h hl hh
      split at he
      ·rename_i jf
       cases he
       have:=Fs r h4 (FE hr h2 hl) (FF hr h3 hh) jf.1 jf.2.1 jf.2.2
       simp only [execOp,hx.ig,Option.map_none]
       exact this
      ·cases he
     ·cases he
    ·cases he
   ·rename_i y yl fW e h1 h2 h3 h4
    split at hc
    ·rename_i i Ft
     cases hc
     have hx:=br h1 hr
     simp only [aH]at he
     split at he
     ·rename_i g z rows iC
      rw [iC]at hx
      split at he
      ·rename_i l h hl hh
       split at he
       ·rename_i jf
        cases he
        have:=H4 r h4 Ft jf.1 hx (FE hr h2 hl) (FF hr h3 hh) jf.2.1 jf.2.2.1 jf.2.2.2
        simp only [execOp,Option.map_none]
        exact this
       ·cases he
      ·cases he
     ·cases he
    ·cases hc
   ·cases hc
 | fieldAddr t x f=>
  simp only at hc
  split at hc
  ·rename_i y off size a h1 h2
   cases hc
   have hx:=br h1 hr
   simp only [aH]at he
   split at he
   ·rename_i o k ho
    cases he
    rw [ho]at hx
    have Af:=hx.tn
    obtain⟨hv,hD⟩:=hx.nz
    refine b9.pure (v:= .pointer (some ⟨M.mu o,k+off,none⟩)) r ?_ (.ptr _ _ hD Af)
    simp only [execOp,hv,Sem.run_bind,yg h2,Result.andThen_ok,Sem.run_pure]
   ·rename_i row k ho
    cases he
    rw [ho]at hx
    obtain⟨b,q,hv,g1,g2⟩:=hx.rS
    refine b9.pure (v:= .pointer (some ⟨b,q+(k+off),none⟩)) r ?_ (.cV _ _ _ _ g1 g2)
    simp only [execOp,hv,Sem.run_bind,yg h2,Result.andThen_ok,Sem.run_pure,Nat.add_assoc]
   ·cases he
  ·cases hc
 | field t x f=>
  simp only at hc
  split at hc
  ·rename_i y off size a h1 h2
   cases hc
   have hx:=br h1 hr
   simp only [aH]at he
   split at he
   ·rename_i cs nn
    split at he
    ·rename_i d' l8
     cases he
     rw [nn]at hx
     obtain⟨vs,hv,g1,g2,g3⟩:=hx.xw
     simp only [execOp,hv]
     exact Dg h2 g1 g2 g3 l8 r
    ·cases he
   ·cases he
  ·cases hc
 | indexAddr t x i=>
  simp only at hc
  split at hc
  ·rename_i y j e h1 h2 h3
   split at hc
   ·rename_i inf Ia
    split at hc
    ·cases hc
     have hx:=br h1 hr
     have hj:=br h2 hr
     simp only [aH]at he
     split at he
     ·rename_i g z rows k n iC hn
      split at he
      ·rename_i jf
       obtain⟨Ag,hz⟩:=jf
       subst hz
       split at he
       ·rename_i row db
        cases he
        rw [iC]at hx;rw [hn]at hj
        simp only [execOp,hj.gi]
        exact C6 r h3 Ia hx Ag db
       ·cases he
      ·cases he
     ·cases he
    ·cases hc
   ·cases hc
  ·cases hc
 | index t x i=>
  simp only at hc
  split at hc
  ·rename_i y j h1 h2 h3
   cases hc
   have hx:=br h1 hr
   have hj:=br h2 hr
   simp only [aH]at he
   split at he
   ·rename_i l k n hl hn
    split at he
    ·rename_i Ag
     split at he
     ·rename_i c Na
      cases he
      rw [hl]at hx;rw [hn]at hj
      simp only [execOp,hj.gi,hx.ig]
      exact Fq r h3 Ag Na
     ·cases he
    ·cases he
   ·cases he
  ·cases hc
 | extract x i=>
  obtain⟨y,hy,rfl⟩:=map_some hc
  have hx:=br hy hr
  simp only [aH]at he
  split at he
  ·rename_i ds wv
   split at he
   ·rename_i d' l8
    cases he
    rw [wv]at hx
    obtain⟨vs,hv,g1,g2⟩:=hx.yf
    have hD:=(List.getElem?_eq_some_iff.1 l8).1
    have Ah:vs[i]? = some vs[i]:=Array.getElem?_eq_getElem (by omega)
    refine b9.pure (v:=vs[i]) r ?_ (g2 i _ _ l8 Ah)
    simp [execOp,hv,Instr.extract,Ah]
   ·cases he
  ·cases he
 | call c=>
  obtain⟨callee,args,kf⟩:=c
  cases callee with
  | value f=>cases hc
  | invoke f m=>cases hc
  | builtin bi=>
   have two : ∀ {x y:Operand} {x' y':X} {isMax:Bool},cX x=some x'→cX y=some y'→bi=(if isMax then .max else .min)→args.toList = [x,y]→aH (.mm isMax x' y') tm s=some (d,s')→
    b9 P M s w (execOp act.eval ⟨dst, .call ⟨.builtin bi,args,kf⟩,type,pos,after,guard⟩) d s':=by
    intro x y x' y' isMax h1 h2 hb ha h
    have kv:args = #[x,y]:=by rw [← Array.toArray_toList (xs:=args),ha]
    subst kv
    have hx:=br h1 hr
    have hy:=br h2 hr
    simp only [aH]at h
    split at h
    ·rename_i k a k' b FH Af
     split at h
     ·rename_i sF
      subst sF
      cases h
      rw [FH]at hx;rw [Af]at hy
      refine b9.pure (v:= .int k (if isMax then(if b > a then b else a)else(if b<a then b else a))) r ?_ (.int _ _)
      subst hb
      cases isMax
      ·simp [execOp,resolve,invoke,builtin,Builtin.min_,Builtin.min2,hx.gi,hy.gi]
      ·simp [execOp,resolve,invoke,builtin,Builtin.max_,Builtin.max2,hx.gi,hy.gi]
     ·cases h
    ·cases h
   cases bi <;> simp only at hc <;> try (cases hc;done)
   case append=>
    split at hc
    ·rename_i x y t u ha sH
     split at hc
     ·rename_i e e' x' y' h1 h2 h3 h4
      split at hc
      ·rename_i i z hi hz
       split at hc
       ·rename_i tu
        cases hc
        have kv:args = #[x,y]:=by rw [← Array.toArray_toList (xs:=args),ha]
        have Ai:kf = #[t,u]:=by rw [← Array.toArray_toList (xs:=kf),sH]
        subst kv;subst Ai
        obtain⟨i',v,g1,g2,g3,g4⟩:=qG hz
        rw [hi]at g1;cases g1
        have Kw:=px (M:=M) (s:=s) g4
        split at he
        ·rename_i hb
         obtain⟨rfl,wx,Nb⟩:=hb
         obtain⟨v',w',M',f1,f2,f3,f4⟩:=C9 (ty:=type) r h1 h2 hi g2 wx Nb g3 Kw.2.1 (br h3 hr) (br h4 hr) he
         refine⟨v',w',M', .inl ?_,f2,f3,f4⟩
         simp [execOp,resolve,invoke,builtin,f1]
        ·obtain⟨v',w',M',f1,f2,f3,f4⟩:=FA (ty:=type) r h1 h2 hi g2 g3 Kw.2.1 (br h3 hr) (br h4 hr) tu he
         refine⟨v',w',M', .inl ?_,f2,f3,f4⟩
         simp [execOp,resolve,invoke,builtin,f1]
       ·cases hc
      ·cases hc
     ·rename_i e x' y' h1 h2 h3 h4
      split at hc
      ·rename_i i z hi hz
       split at hc
       ·rename_i hb
        cases hc
        obtain⟨rfl,wx,Nb⟩:=hb
        have kv:args = #[x,y]:=by rw [← Array.toArray_toList (xs:=args),ha]
        have Ai:kf = #[t,u]:=by rw [← Array.toArray_toList (xs:=kf),sH]
        subst kv;subst Ai
        obtain⟨i',v,g1,g2,g3,g4⟩:=qG hz
        rw [hi]at g1;cases g1
        have Kw:=px (M:=M) (s:=s) g4
        have hy:=br h4 hr
        simp only [aH]at he
        split at he
        ·rename_i l hl
         rw [hl]at hy
         obtain⟨v',w',M',f1,f2,f3,f4⟩:=Da (ty:=type) r h1 h2 hi g2 wx Nb g3 Kw.2.1 (br h3 hr) he
         refine⟨v',w',M', .inl ?_,f2,f3,f4⟩
         simp [execOp,resolve,invoke,builtin,hy.ig,f1]
        ·cases he
       ·cases hc
      ·cases hc
     ·cases hc
    ·cases hc
   case len=>
    split at hc
    ·rename_i x t ha sH
     have kv:args = #[x]:=by rw [← Array.toArray_toList (xs:=args),ha]
     have Ai:kf = #[t]:=by rw [← Array.toArray_toList (xs:=kf),sH]
     subst kv;subst Ai
     have hex:execOp act.eval ⟨dst, .call ⟨.builtin .len, #[x], #[t]⟩,type,pos,after,guard⟩=(do pure (.value (← Builtin.len_ #[t] type #[act.eval x]))):=by
      simp [execOp,resolve,invoke,builtin]
     rw [hex]
     split at hc
     ·rename_i ht
      obtain⟨y,hy,rfl⟩:=map_some hc
      have hx:=br hy hr
      simp only [aH]at he
      split at he
      ·rename_i l hl
       cases he
       rw [hl]at hx
       rw [hx.ig]
       exact z7 r ht
      ·cases he
     ·rename_i e ht
      obtain⟨y,hy,rfl⟩:=map_some hc
      have hx:=br hy hr
      simp only [aH]at he
      split at he
      ·rename_i g z rows iC
       cases he
       rw [iC]at hx
       rcases hx.fJ with ⟨h0,hv,_⟩ | ⟨h0,_,a,cap,hv⟩ | ⟨b,q,cap,hv,_⟩
       ·rw [hv,h0];exact nB r ht
       ·rw [hv,h0];exact nB r ht
       ·rw [hv];exact nB r ht
      ·cases he
     ·cases hc
    ·cases hc
   case max=>
    split at hc
    ·rename_i x y ha
     split at hc
     ·rename_i x' y' h1 h2
      cases hc
      exact two (isMax:=true) h1 h2 rfl ha he
     ·cases hc
    ·cases hc
   case min=>
    split at hc
    ·rename_i x y ha
     split at hc
     ·rename_i x' y' h1 h2
      cases hc
      exact two (isMax:=false) h1 h2 rfl ha he
     ·cases hc
    ·cases hc
 | makeFunc fn first captured=>
  cases fn <;> simp only at hc <;> try (cases hc;done)
  split at hc
  ·rename_i f h0
   obtain⟨xs,kF,rfl⟩:=map_some hc
   simp only [aH,Option.some.injEq,Prod.mk.injEq]at he
   obtain⟨rfl,rfl⟩:=he
   obtain⟨c1,c2⟩:=Ct hr kF
   have hf:first = #[]:=Array.eq_empty_of_size_eq_zero h0
   subst hf
   refine b9.pure (v:= .func (.func f) #[] (captured.map act.eval)) r ?_ (.eW _ _ _ (by simp [c1]) (fun i d v e1 e2=>c2 i d v e1 (by simpa using e2)))
   simp [execOp,Instr.makeFunc]
  ·cases hc
 | makeMap t rv=>
  cases rv with
  | none=>
   simp only at hc
   split at hc
   ·rename_i ht
    cases hc
    simp only [aH,Option.some.injEq,Prod.mk.injEq]at he
    obtain⟨rfl,rfl⟩:=he
    simp only [execOp,Option.map_none]
    exact De r ht
   ·cases hc
  | some x=>cases hc
 | mapUpdate t m k v=>
  simp only at hc
  split at hc
  ·rename_i kt et m' k' v' ht h1 h2 h3
   split at hc
   ·rename_i Nc
    cases hc
    have hm:=br h1 hr
    have hk:=br h2 hr
    have hv:=br h3 hr
    simp only [aH]at he
    split at he
    ·rename_i o key g z rows ho Ib iC
     rw [ho]at hm;rw [Ib]at hk;rw [iC]at hv
     obtain⟨Nd,hD,rh⟩:=hm.z6
     split at he
     ·rename_i cs nn
      split at he
      ·rename_i fV Sr
       cases he
       have wu:(act.eval v).oneCell'=true:=by
        rcases hv.fJ with ⟨_,h,_⟩ | ⟨_,_,a,cap,h⟩ | ⟨b,q,cap,h,_⟩ <;> rw [h] <;> rfl
       simp only [execOp,Nd,hk.ig]
       exact FD r ht Nc rh nn hv wu Sr
      ·cases he
     ·cases he
    ·cases he
   ·cases hc
  ·cases hc
 | lookup t m k ok=>
  cases ok <;> simp only at hc <;> try (cases hc;done)
  split at hc
  ·rename_i kt et m' k' ht h1 h2
   split at hc
   ·rename_i i Nc hi
    split at hc
    ·rename_i z hz
     obtain⟨zd,M5,rfl⟩:=map_some hc
     have hm:=br h1 hr
     have hk:=br h2 hr
     simp only [aH]at he
     split at he
     ·rename_i o key ho Ib
      rw [ho]at hm;rw [Ib]at hk
      obtain⟨Nd,hD,rh⟩:=hm.z6
      split at he
      ·rename_i cs nn
       split at he
       ·rename_i d' l8
        cases he
        simp only [execOp,Nd,hk.ig]
        exact Df r ht Nc hi hz M5 rh nn l8
       ·cases he
      ·cases he
     ·cases he
    ·cases hc
   ·cases hc
  ·cases hc
 | _=>cases hc
theorem rW {o:Oper} {z:List D} {k n:Nat} {ps:List (Nat×X)} {tm:Tm} {act:Act} {d:D} {s':St} (hc:v7 P o=some (.dc z k n ps)) (r:Rel M s w) (hr:iR M s tm act.tmps) (he:aH (.ph z k n ps) tm s=some (d,s')) :
 b9 P M s w (execOp act.eval o) d s':=by
 obtain⟨dst,op,type,pos,after,guard⟩:=o
 unfold v7 at hc
 simp only at hc
 cases op with
 | buildSlice t n' parts=>
  simp only at hc
  split at hc
  ·rename_i e hu
   split at hc
   ·rename_i i z ps h1 h2 h3
    split at hc
    ·rename_i jf
     cases hc
     simp only [aH]at he
     split at he
     ·rename_i rows iC
      cases he
      obtain⟨vs,T,g1,g2,g3,g4⟩:=uZ r hr hu h1 h2 jf.1 jf.2 h3 iC
      obtain⟨M',f1,f2,f3⟩:=FC r T g1 (by rw [g3,g2]) jf.1
      refine⟨_,_,_, .inl ?_,f2,f1,f3⟩
      simp only [Array.toArray_toList]at g4
      simp only [execOp,Sem.run_bind,g4,Result.andThen_ok,Sem.run_pure]
      rw [g2]
     ·cases he
    ·cases hc
   ·cases hc
  ·cases hc
 | _=>
  exfalso
  revert hc
  try simp only
  repeat' split
  all_goals (first | (intro h;cases h;done) | (intro h;obtain⟨_,_,h⟩:=map_some h;cases h;done) | contradiction | (simp;done) | (intro h;simp_all;done))
end
end Go.Abs

/-! Code -/

namespace Go.Abs
structure fh where
 M:Map
 s:St
 w:World
 laid:Laid M s w
 US : ∀ b o v,M.G b o=some v→b<w.heap.size
def Holds (B:fh) (nt:Nat) (tm:Tm) (s:St) (act:Act) (w:World):Prop:=
 ∃ M,Ext B.M B.s B.w M s w∧Rel M s w∧iR M s tm act.tmps∧act.tmps.size=nt∧act.defers = []
def lx (B:fh) (nt:Nat) (Q:Exit→Tm→St→Prop):Exit→Act→World→Prop:=fun e act w=>∃ tm s,Q e tm s∧Holds B nt tm s act w
def dA (P:Program) (f:FuncId) (args:List D) (s:St) (Q:D→St→Prop):Prop:=
 ∀ (M:Map) (w:World) (eH:Array Value),Rel M s w→Laid M s w→eH.size=args.length→(∀ (i:Nat) (d:D) (v:Value),args[i]? = some d→eH[i]? = some v→RD M s d v)→
  Calls P f eH w fun e w'=>∃ M' d v s',e = .returned v∧Q d s'∧Ext M s w M' s' w'∧Rel M' s' w'∧RD M' s' d v
theorem dA.mono {P:Program} {f:FuncId} {args:List D} {s:St} {Q Q':D→St→Prop} (h:dA P f args s Q) (hq : ∀ d s',Q d s'→Q' d s'):dA P f args s Q':=
 fun M w eH r hd hl ha=>(h M w eH r hd hl ha).mono fun _ _ ⟨M',d,v,s',h1,h2,h3⟩=>⟨M',d,v,s',h1,hq _ _ h2,h3⟩
def guarded (g:Option (Nat×Bool)) (tm:Tm) (A B:Prop):Prop:=
 match g with
 | none=>A
 | some (t,want)=>
  match tm.get t with
  | .bool b=>(b=want→A)∧(b=(!want)→B)
  | .tuple _=>B
  | _=>False
def fE (P:Program):List AI→(Tm→St→Prop)→Tm→St→Prop
 | [],K,tm,s=>K tm s
 | .op dst g o::r,K,tm,s=>
  guarded g tm (match aH o tm s with | some (d,s')=>fE P r K (tm.put dst d) s' | none=>False) (fE P r K (tm.put dst (.tuple [])) s)
 | .call dst g f xs::r,K,tm,s=>
  guarded g tm (dA P f (xs.map (·.ev tm)) s fun d s'=>fE P r K (tm.put dst d) s') (fE P r K (tm.put dst (.tuple [])) s)
 | .nil dst g neg x::r,K,tm,s=>
  guarded g tm (match x.ev tm with
   | .slice _ _ rows=>∀ b:Bool,(rows≠ []→b=false)→fE P r K (tm.put dst (.bool (if neg then !b else b))) s
   | _=>False) (fE P r K (tm.put dst (.tuple [])) s)
 | .fQ dst g t xs::r,K,tm,s=>
  guarded g tm (match tm.get t with
   | .eW f jT=>enters P f=true∧dA P f (xs.map (·.ev tm)++jT) s fun d s'=>fE P r K (tm.put dst d) s'
   | _=>False) (fE P r K (tm.put dst (.tuple [])) s)
section
variable {P:Program}
theorem tx {f:FuncId} (h:enters P f=true) (args:Array Value) (w:World):(callFunc f args).run P w = .ok (.enter f args) w:=by
 unfold enters at h
 split at h
 ·rename_i fn hf
  simp only [Bool.and_eq_true,Bool.not_eq_true']at h
  obtain⟨h1,h2⟩:=h
  have h3:fn.body.isNone=false:=by cases hb:fn.body <;> simp_all
  simp only [callFunc,Sem.run_bind,run_program,Result.andThen_ok,hf,h2,h3]
  simp
 ·cases h
theorem qH (ρ:Operand→Value) (dst:Option Tmp) (f:FuncId) (args:Array Operand) (kf:Array TypeId) (ty:TypeId) (pos:String) (after:Array Edge) (g:Option (Nat×Bool))
 (hρ:ρ (.func f) = .func (.func f) #[] #[]) (h:enters P f=true) (w:World) :
 (execOp ρ ⟨dst, .call ⟨.value (.func f),args,kf⟩,ty,pos,after,g⟩).run P w = .ok (.enter f (args.map ρ)) w:=by
 simp [execOp,resolve,hρ,Deferred.ofValue,invoke,tx h]
theorem tz (ρ:Operand→Value) (dst:Option Tmp) (x:Operand) (f:FuncId) (jT:Array Value) (args:Array Operand) (kf:Array TypeId) (ty:TypeId) (pos:String) (after:Array Edge) (g:Option (Nat×Bool))
 (hρ:ρ x = .func (.func f) #[] jT) (h:enters P f=true) (w:World) :
 (execOp ρ ⟨dst, .call ⟨.value x,args,kf⟩,ty,pos,after,g⟩).run P w = .ok (.enter f (args.map ρ++jT)) w:=by
 simp [execOp,resolve,hρ,Deferred.ofValue,invoke,tx h]
theorem qc {M:Map} {s:St} {tm:Tm} {act:Act} (hr:iR M s tm act.tmps) : ∀ {l:List Operand} {xs:List X},rf l=some xs→
 xs.length=l.length∧∀ (i:Nat) (d:D) (v:Value),(xs.map (·.ev tm))[i]? = some d→(l.map act.eval)[i]? = some v→RD M s d v
 | [],xs,h=>by cases h;exact⟨rfl,by simp⟩
 | x::l,xs,h=>by
  unfold rf at h
  split at h
  ·rename_i x' r' h1 h2
   cases h
   obtain⟨g1,g2⟩:=qc hr h2
   refine⟨by simp [g1],fun i d v e1 e2=> ?_⟩
   cases i with
   | zero=>simp at e1 e2;subst e1;subst e2;exact br h1 hr
   | succ i=>exact g2 i d v (by simpa using e1) (by simpa using e2)
  ·cases h
theorem ym {M:Map} {s:St} {tm:Tm} {act:Act} {args:Array Operand} {xs:List X} {jT:List D} {vs:Array Value} (kF:rf args.toList=some xs) (ht:iR M s tm act.tmps) (hlen:jT.length=vs.size)
 (wy : ∀ (i:Nat) (d:D) (v:Value),jT[i]? = some d→vs[i]? = some v→RD M s d v) :
 (args.map act.eval++vs).size=(xs.map (·.ev tm)++jT).length∧∀ (i:Nat) (d:D) (v:Value),(xs.map (·.ev tm)++jT)[i]? = some d→(args.map act.eval++vs)[i]? = some v→RD M s d v:=by
 obtain⟨c1,c2⟩:=qc ht kF
 refine⟨by simp [c1,hlen],fun i d v e1 e2=> ?_⟩
 rcases Nat.lt_or_ge i args.size with u5 | u5
 ·rw [List.getElem?_append_left (by simp [c1];exact u5)]at e1
  rw [Array.getElem?_append_left (by simp;exact u5)]at e2
  exact c2 i d v e1 (by simpa using e2)
 ·rw [List.getElem?_append_right (by simp [c1];exact u5)]at e1
  rw [Array.getElem?_append_right (by simp;exact u5)]at e2
  simp only [List.length_map,c1,Array.size_map,Array.length_toList]at e1 e2
  exact wy _ d v e1 e2
theorem sI {M:Map} {s:St} {w:World} {o:Oper} {neg:Bool} {x:X} {tm:Tm} {act:Act} (hc:xu P o=some (neg,x)) (hr:iR M s tm act.tmps) {g:Tag} {z:Nat} {rows:List (List D)} (hx:x.ev tm = .slice g z rows) :
 ∃ b:Bool,(rows≠ []→b=false)∧(execOp act.eval o).run P w = .ok (.value (.bool (if neg then !b else b))) w:=by
 obtain⟨dst,op,type,pos,after,guard⟩:=o
 unfold xu at hc
 split at hc
 ·rename_i op t y yt heq
  simp only at heq
  subst heq
  have fin : ∀ e,P.underlying t=some (.slice e)→cX y=some x→op=(if neg then .neq else .eql)→∃ b:Bool,(rows≠ []→b=false)∧
   (execOp act.eval ⟨dst, .binOp op t y (.const (.slice none 0 0)) yt,type,pos,after,guard⟩).run P w = .ok (.value (.bool (if neg then !b else b))) w:=by
   intro e ht hy jn
   have hv:=br hy hr
   rw [hx]at hv
   have key : ∀ (a:Option Addr) (n c:Nat),act.eval y = .slice a n c→(execOp act.eval ⟨dst, .binOp op t y (.const (.slice none 0 0)) yt,type,pos,after,guard⟩).run P w = .ok (.value (.bool (if neg then !a.isNone else a.isNone))) w:=by
    intro a n c nD
    have hg:=kc (P:=P) (w:=w) (op:=op) (t:=t) (x:=y) (y:= .const (.slice none 0 0)) (a:= .slice a n c) (b:= .slice none 0 0) ⟨by simp,by simp⟩
    have he:(Op.equal t (.slice a n c) (.slice none 0 0)).run P w = .ok a.isNone w:=by
     have : ∀ d,(Op.equalIn (d+1) t (.slice a n c) (.slice none 0 0)).run P w = .ok a.isNone w:=by
      intro d
      cases a <;> simp [Op.equalIn,run_underlying ht]
     exact this 9999
    have Sv:act.eval (.const (.slice none 0 0)) = .slice none 0 0:=rfl
    simp only [execOp,nD,Sv]
    rw [jn]at hg ⊢
    cases neg
    ·simp only [Bool.false_eq_true,if_false]at hg ⊢
     simp [hg,binOp,he]
    ·simp only [if_true]at hg ⊢
     simp [hg,binOp,he]
   rcases hv.fJ with ⟨h0,nD,_⟩ | ⟨_,_,a,cap,nD⟩ | ⟨b,q,cap,nD,_⟩
   ·exact⟨true,fun h=>(h h0).elim,key none 0 0 nD⟩
   ·exact⟨false,fun _=>rfl,key _ _ _ nD⟩
   ·exact⟨false,fun _=>rfl,key _ _ _ nD⟩
  split at hc
  ·cases hc
   exact fin _ ‹_› ‹_› rfl
  ·cases hc
   exact fin _ ‹_› ‹_› rfl
  ·cases hc
 ·cases hc
variable {B:fh} {nt:Nat}
theorem Holds.put {tm:Tm} {s:St} {act:Act} {w:World} {M':Map} {s':St} {w':World} {M:Map} (e:Ext B.M B.s B.w M s w) (ht:iR M s tm act.tmps) (hn:act.tmps.size=nt) (hd:act.defers = [])
 {dst:Option Nat} (lT : ∀ t,dst=some t→t<nt) {d:D} {v:Value} (e':Ext M s w M' s' w') (r':Rel M' s' w') (hv:RD M' s' d v):Holds B nt (tm.put dst d) s' (act.put dst v) w':=by
 refine⟨M',e.trans e',r',(ht.mono e'.le).put (fun t h=>by rw [hn];exact lT t h) hv, ?_, ?_⟩
 ·cases dst <;> simp [Act.put,hn]
 ·cases dst <;> simp [Act.put,hd]
theorem rm {ops:Array Oper} {o:Oper} {ai:AI} (h:cI P nt ops o=some ai) : ∀ t,o.dst=some t→t<nt:=by
 intro t ht
 unfold cI at h
 split at h
 ·cases h
 ·split at h
  ·rename_i hD;rw [ht]at hD;simpa [Kf]using hD
  ·cases h
theorem gq {ops:Array Oper} {o:Oper} {g:Option (Nat×Bool)} (hg:po ops o.guard=some g) {M:Map} {s:St} {tm:Tm} {act:Act} (hr:iR M s tm act.tmps) {A C:Prop} (h:guarded g tm A C) :
 (Region.wanted o (yielded ops act.tmps)=true∧A)∨(Region.wanted o (yielded ops act.tmps)=false∧C):=by
 unfold po at hg
 split at hg
 ·rename_i hn
  cases hg
  exact .inl ⟨by simp [Region.wanted,hn],h⟩
 ·rename_i j want hn
  split at hg
  ·rename_i t ht
   cases hg
   have Kx:=hr t
   unfold guarded at h
   simp only at h
   split at h
   ·rename_i b hb
    rw [hb]at Kx
    have hv:=Kx.jX
    have Qd:act.tmps[t]? = some (.bool b):=by
     cases hc:act.tmps[t]? with
     | none=>simp [Array.getD_eq_getD_getElem?,hc,Go.undef]at hv
     | some v=>simp [Array.getD_eq_getD_getElem?,hc]at hv;rw [hv]
    have hy:yielded ops act.tmps j=some b:=by simp [yielded,ht,Qd]
    have hw:Region.wanted o (yielded ops act.tmps)=(some b==some want):=by simp [Region.wanted,hn,hy]
    by_cases Nf:b=want
    ·exact .inl ⟨by rw [hw,Nf];simp,h.1 Nf⟩
    ·refine .inr ⟨by rw [hw];simp [Nf],h.2 ?_⟩
     cases b <;> cases want <;> simp_all
   ·rename_i ds wv
    rw [wv]at Kx
    obtain⟨vs,hv,_⟩:=Kx.yf
    refine .inr ⟨?_,h⟩
    have hy:yielded ops act.tmps j=none:=by
     unfold yielded
     rw [ht]
     cases hc:act.tmps[t]? with
     | none=>simp [hc]
     | some v=>simp [Array.getD_eq_getD_getElem?,hc]at hv;simp [hc,hv]
    simp [Region.wanted,hn,hy]
   ·exact h.elim
  ·cases hg
theorem tA {ops:Array Oper} {Q:Exit→Tm→St→Prop} : ∀ (l:List Nat) (ol:List Oper) (is:List AI),l.map (ops[·]?)=ol.map some→mq P nt ops ol=some is→
 ∀ (tm:Tm) (s:St) (act:Act) (w:World),fE P is (Q .normal) tm s→Holds B nt tm s act w→wpOps P ops (lx B nt Q) l act w
 | [],[],is,_,hc,tm,s,act,w,h,hh=>by cases hc;exact⟨tm,s,h,hh⟩
 | [],_::_,_,hl,_,_,_,_,_,_,_=>by simp at hl
 | _::_,[],_,hl,_,_,_,_,_,_,_=>by simp at hl
 | i::l,o::ol,is,hl,hc,tm,s,act,w,h,hh=>by
  simp only [List.map_cons,List.cons.injEq]at hl
  obtain⟨hi,hl⟩:=hl
  unfold mq at hc
  split at hc
  ·rename_i ai FJ h1 h2
   cases hc
   obtain⟨M,e,r,ht,hn,hd⟩:=hh
   have lT:=rm h1
   have ih:=fun tm s act w=>tA (Q:=Q) l ol FJ hl h2 tm s act w
   have skip : ∀ (x:Prop),fE P FJ (Q .normal) (tm.put o.dst (.tuple [])) s→wpOps P ops (lx B nt Q) l (act.put o.dst Go.undef) w:=fun _ hk=>
    ih _ _ _ _ hk (Holds.put e ht hn hd lT (Ext.refl M s w) r .undef)
   simp only [wpOps,hi]
   unfold cI at h1
   split at h1
   ·cases h1
   ·rename_i g hg
    split at h1
    ·unfold nS at h1
     split at h1
     ·-- a call
      rename_i f args kf jn
      split at h1
      ·rename_i rX
       obtain⟨xs,kF,rfl⟩:=map_some h1
       unfold fE at h
       rcases gq hg ht h with ⟨hw,hA⟩ | ⟨hw,hB⟩
       ·simp only [hw,if_true]
        left
        have hex:(execOp act.eval o).run P w = .ok (.enter f (args.map act.eval)) w:=by
         obtain⟨dst,op,type,pos,after,guard⟩:=o
         simp only at jn
         subst jn
         exact qH act.eval dst f args kf type pos after guard rfl rX w
        obtain⟨c1,c2⟩:=qc ht kF
        unfold Oper.wp
        rw [hex,Oper.upon_enter]
        refine(hA M w (args.map act.eval) r (B.laid.ext e) (by simp [c1]) (fun i d v e1 e2=>c2 i d v e1 (by simpa using e2))).mono ?_
        rintro en w' ⟨M',d,v,s',rfl,hk,e',r',hv⟩
        exact ih _ _ _ _ hk (Holds.put e ht hn hd lT e' r' hv)
       ·simp only [hw]
        exact skip True hB
      ·cases h1
     ·-- what a slot holds is called
      rename_i t args kf jn
      obtain⟨xs,kF,rfl⟩:=map_some h1
      unfold fE at h
      rcases gq hg ht h with ⟨hw,hA⟩ | ⟨hw,hB⟩
      ·simp only [hw,if_true]
       left
       split at hA
       ·rename_i f jT Aj
        obtain⟨rX,hA⟩:=hA
        have FK:=ht t
        rw [Aj]at FK
        obtain⟨vs,kU,hlen,wy⟩:=FK.Cn
        have hex:(execOp act.eval o).run P w = .ok (.enter f (args.map act.eval++vs)) w:=by
         obtain⟨dst,op,type,pos,after,guard⟩:=o
         simp only at jn
         subst jn
         exact tz act.eval dst (.tmp t) f vs args kf type pos after guard kU rX w
        unfold Oper.wp
        rw [hex,Oper.upon_enter]
        have cc:=ym kF ht hlen wy
        refine(hA M w (args.map act.eval++vs) r (B.laid.ext e) cc.1 cc.2).mono ?_
        rintro en w' ⟨M',d,v,s',rfl,hk,e',r',hv⟩
        exact ih _ _ _ _ hk (Holds.put e ht hn hd lT e' r' hv)
       ·exact hA.elim
      ·simp only [hw]
       exact skip True hB
     ·split at h1
      ·-- a slice held against nil
       rename_i neg x Ak
       cases h1
       unfold fE at h
       rcases gq hg ht h with ⟨hw,hA⟩ | ⟨hw,hB⟩
       ·simp only [hw,if_true]
        left
        split at hA
        ·rename_i g' z rows hx
         obtain⟨b,hb,hex⟩:=sI (w:=w) Ak ht hx
         unfold Oper.wp
         rw [hex,Oper.upon_value]
         exact ih _ _ _ _ (hA b hb) (Holds.put e ht hn hd lT (Ext.refl M s w) r (.bool _))
        ·exact hA.elim
       ·simp only [hw]
        exact skip True hB
      ·-- any other operation
       have fin : ∀ ao,ai = .op o.dst g ao→(∀ d s',aH ao tm s=some (d,s')→b9 P M s w (execOp act.eval o) d s')→
        (if Region.wanted o (yielded ops act.tmps)=true then o.wp P act w (wpOps P ops (lx B nt Q) l) (lx B nt Q)∨(o.asks P act w∧LetsOut (lx B nt Q))else wpOps P ops (lx B nt Q) l (act.put o.dst Go.undef) w):=by
        intro ao qd Nh
        subst qd
        unfold fE at h
        rcases gq hg ht h with ⟨hw,hA⟩ | ⟨hw,hB⟩
        ·simp only [hw,if_true]
         left
         split at hA
         ·rename_i d s' l9
          obtain⟨v,w',M',cW,r',hv,e'⟩:=Nh d s' l9
          unfold Oper.wp
          rcases cW with cW | ⟨cW,rfl⟩
          ·rw [cW,Oper.upon_value]
           exact ih _ _ _ _ hA (Holds.put e ht hn hd lT e' r' hv)
          ·rw [cW,Oper.upon_skip]
           exact ih _ _ _ _ hA (Holds.put e ht hn hd lT e' r' hv)
         ·exact hA.elim
        ·simp only [hw]
         exact skip True hB
       split at h1
       ·rename_i z k n ps kg
        cases h1
        refine fin _ rfl (fun d s' l9=> ?_)
        split at l9
        ·exact rW kg r ht l9
        ·exact nU kg r ht l9
       ·rename_i ao kg
        cases h1
        exact fin _ rfl (fun d s' l9=>nU kg r ht l9)
       ·cases h1
    ·cases h1
  ·cases hc
end
end Go.Abs

/-! Flow -/

namespace Go.Abs
def Turned (P:Program) (nt:Nat):AC→Code→Prop
 | .skip,c=>c = .skip
 | .run is,c=>∃ id ops,c = .region id ops false∧mq P nt ops ops.toList=some is
 | .par is iK,c=>∃ id ops,c = .region id ops true∧mq P nt ops ops.toList=some is∧P.follows .mixedOrders=true∧∃ pt,zV is (ops.toList.map jy) pt iK=true
 | .seq a b,c=>∃ x y,c = .seq x y∧cC P nt x=some a∧cC P nt y=some b
 | .cond x a b,c=>∃ o p q,c = .cond o p q∧cX o=some x∧cC P nt p=some a∧cC P nt q=some b
 | .block id a,c=>∃ x,c = .block id x∧cC P nt x=some a
 | .loop a,c=>∃ x,c = .loop x∧cC P nt x=some a
 | .exit id,c=>c = .exit id
 | .scope a,c=>∃ x,c = .scope x∧cC P nt x=some a
 | .label l,c=>c = .label l
 | .goto l,c=>c = .goto l
 | .ret,c=>c = .ret
theorem iT {P:Program} {nt:Nat} {c:Code} {ac:AC} (h:cC P nt c=some ac):Turned P nt ac c:=by
 cases c with
 | skip=>cases h;rfl
 | region id ops draw=>
  cases draw
  ·obtain⟨is,h1,rfl⟩:=map_some (x:=mq P nt ops ops.toList) (f:=AC.run) (by simpa [cC]using h)
   exact⟨id,ops,rfl,h1⟩
  ·simp only [cC]at h
   split at h
   ·rename_i hm
    obtain⟨is,h1,h2⟩:=Option.bind_eq_some_iff.1 h
    unfold Kg at h2
    split at h2
    ·rename_i hp
     cases h2
     exact⟨id,ops,rfl,h1,hm,_,hp⟩
    ·cases h2
   ·cases h
 | seq a b=>
  simp only [cC]at h
  split at h
  ·rename_i a' b' h1 h2;cases h;exact⟨a,b,rfl,h1,h2⟩
  ·cases h
 | cond x a b=>
  simp only [cC]at h
  split at h
  ·rename_i x' a' b' h1 h2 h3;cases h;exact⟨x,a,b,rfl,h1,h2,h3⟩
  ·cases h
 | block id a=>
  obtain⟨a',h1,rfl⟩:=map_some (x:=cC P nt a) (f:=AC.block id) (by simpa [cC]using h)
  exact⟨a,rfl,h1⟩
 | loop a=>
  obtain⟨a',h1,rfl⟩:=map_some (x:=cC P nt a) (f:=AC.loop) (by simpa [cC]using h)
  exact⟨a,rfl,h1⟩
 | rangeFunc f p a b=>simp [cC]at h
 | exit id=>cases h;rfl
 | scope a=>
  obtain⟨a',h1,rfl⟩:=map_some (x:=cC P nt a) (f:=AC.scope) (by simpa [cC]using h)
  exact⟨a,rfl,h1⟩
 | label l=>cases h;rfl
 | goto l=>cases h;rfl
 | ret=>cases h;rfl
 | refuse w=>simp [cC]at h
def Sem (P:Program) (B:fh) (nt:Nat) (ac:AC) (Q:Exit→Tm→St→Prop) (tm:Tm) (s:St):Prop:=
 ∀ c,cC P nt c=some ac→∀ act w,Holds B nt tm s act w→c.wp P (lx B nt Q) act w
def my (next:Tm→St→Prop) (Q:Exit→Tm→St→Prop):Exit→Tm→St→Prop
 | .normal,tm,s=>next tm s
 | e,tm,s=>Q e tm s
def kV (id:Nat) (Q:Exit→Tm→St→Prop):Exit→Tm→St→Prop
 | .exit i,tm,s=>if i=id then Q .normal tm s else Q (.exit i) tm s
 | e,tm,s=>Q e tm s
section
variable {P:Program} {B:fh} {nt:Nat} {Q:Exit→Tm→St→Prop} {tm:Tm} {s:St}
theorem Sem.mono {ac:AC} {Q':Exit→Tm→St→Prop} (h:Sem P B nt ac Q tm s) (hq : ∀ e tm s,Q e tm s→Q' e tm s):Sem P B nt ac Q' tm s:=
 fun c hc act w hh=>wp_mono (h c hc act w hh) fun _ _ _ ⟨tm,s,h1,h2⟩=>⟨tm,s,hq _ _ _ h1,h2⟩
theorem Sem.skip (h:Q .normal tm s):Sem P B nt .skip Q tm s:=by
 intro c hc act w hh
 cases iT hc
 exact wp_skip ⟨tm,s,h,hh⟩
theorem Sem.label {l:Nat} (h:Q .normal tm s):Sem P B nt (.label l) Q tm s:=by
 intro c hc act w hh
 cases iT hc
 exact wp_label ⟨tm,s,h,hh⟩
theorem Sem.exit {id:Nat} (h:Q (.exit id) tm s):Sem P B nt (.exit id) Q tm s:=by
 intro c hc act w hh
 cases iT hc
 exact wp_exit ⟨tm,s,h,hh⟩
theorem Sem.goto {l:Nat} (h:Q (.goto l) tm s):Sem P B nt (.goto l) Q tm s:=by
 intro c hc act w hh
 cases iT hc
 exact wp_goto ⟨tm,s,h,hh⟩
theorem Sem.ret (h:Q .ret tm s):Sem P B nt .ret Q tm s:=by
 intro c hc act w hh
 cases iT hc
 exact wp_ret ⟨tm,s,h,hh⟩
theorem tB (ops:Array Oper):(List.range ops.size).map (ops[·]?)=ops.toList.map some:=by
 apply List.ext_getElem?
 intro i
 by_cases h:i<ops.size
 ·simp [h]
 ·simp [h]
theorem Sem.run {is:List AI} (h:fE P is (Q .normal) tm s):Sem P B nt (.run is) Q tm s:=by
 intro c hc act w hh
 obtain⟨id,ops,rfl,hi⟩:=iT hc
 exact wp_region (tA (Q:=Q) (List.range ops.size) ops.toList is (tB ops) hi tm s act w h hh)
theorem Sem.seq {a b:AC} (h:Sem P B nt a (my (Sem P B nt b Q) Q) tm s):Sem P B nt (.seq a b) Q tm s:=by
 intro c hc act w hh
 obtain⟨x,y,rfl,h1,h2⟩:=iT hc
 refine wp_seq (wp_mono (h x h1 act w hh) fun e act w hp=> ?_)
 obtain⟨bh,s',hq,iU⟩:=hp
 cases e with
 | normal=>exact hq y h2 act w iU
 | exit id=>exact⟨bh,s',hq,iU⟩
 | goto l=>exact⟨bh,s',hq,iU⟩
 | ret=>exact⟨bh,s',hq,iU⟩
 | panic ch=>exact⟨bh,s',hq,iU⟩
 | outgrown=>exact⟨bh,s',hq,iU⟩
theorem Sem.cond {x:X} {a b:AC} {t:Bool} (hx:x.ev tm = .bool t) (h1:t=true→Sem P B nt a Q tm s) (h2:t=false→Sem P B nt b Q tm s):Sem P B nt (.cond x a b) Q tm s:=by
 intro c hc act w hh
 obtain⟨o,p,q,rfl,g1,g2,g3⟩:=iT hc
 have iU:=hh
 obtain⟨M,e,r,ht,hn,hd⟩:=hh
 have hv:=br g1 ht
 rw [hx]at hv
 exact wp_cond_split hv.jX (fun h=>h1 h p g2 act w iU) (fun h=>h2 h q g3 act w iU)
theorem Sem.block {id:Nat} {a:AC} (h:Sem P B nt a (kV id Q) tm s):Sem P B nt (.block id a) Q tm s:=by
 intro c hc act w hh
 obtain⟨x,rfl,h1⟩:=iT hc
 refine wp_block (wp_mono (h x h1 act w hh) fun e act w hp=> ?_)
 obtain⟨bh,s',hq,iU⟩:=hp
 cases e with
 | exit i=>
  simp only [kV]at hq
  simp only [Exit.inBlock]
  split at hq
  ·rename_i h;rw [if_pos h];exact⟨bh,s',hq,iU⟩
  ·rename_i h;rw [if_neg h];exact⟨bh,s',hq,iU⟩
 | normal=>exact⟨bh,s',hq,iU⟩
 | goto l=>exact⟨bh,s',hq,iU⟩
 | ret=>exact⟨bh,s',hq,iU⟩
 | panic ch=>exact⟨bh,s',hq,iU⟩
 | outgrown=>exact⟨bh,s',hq,iU⟩
def rY (P:Program) (c:Code) (Q:Exit→Act→World→Prop) (a:Act) (w:World):Prop:=
 ∀ (b:Frame) (k:List Item) (cs:List Frame),∃ e a' w',Q e a' w'∧Arrives P (lone (b.at a (.code c:: .inLoop c::k)) cs w) b k cs e a' w'
theorem rY.wp {c:Code} {Q:Exit→Act→World→Prop} {a:Act} {w:World} (h:rY P c Q a w):(Code.loop c).wp P Q a w:=fun b k cs=>
 let ⟨e,a',w',hq,kv⟩:=h b k cs
 ⟨e,a',w',hq, .of_steps (.one step_loop) kv⟩
theorem rY.once {c:Code} {Q:Exit→Act→World→Prop} {a:Act} {w:World} (h:c.wp P (Exit.then (rY P c Q) Q) a w):rY P c Q a w:=by
 intro b k cs
 obtain⟨e,a₁,w₁,hq,kv⟩:=h b (.inLoop c::k) cs
 cases e with
 | normal=>
  obtain⟨e₂,a₂,w₂,UT,Qe⟩:=hq b k cs
  exact⟨e₂,a₂,w₂,UT, .of_steps (Steps.trans kv (.one step_inLoop)) Qe⟩
 | exit id=>exact⟨_,a₁,w₁,hq, .pass (x:= .inLoop c) rfl (fun _ _=> .inl (by simp)) kv⟩
 | goto l=>exact⟨_,a₁,w₁,hq, .pass (x:= .inLoop c) rfl (fun _ _=> .inl (by simp)) kv⟩
 | ret=>exact⟨_,a₁,w₁,hq, .pass (x:= .inLoop c) rfl (fun _ _=> .inl (by simp)) kv⟩
 | panic ch=>exact⟨_,a₁,w₁,hq, .pass (x:= .inLoop c) rfl (fun _ _=> .inl (by simp)) kv⟩
 | outgrown=>exact⟨_,a₁,w₁,hq, .pass (x:= .inLoop c) rfl (fun _ _=> .inl (by simp)) kv⟩
def bp (P:Program) (B:fh) (nt:Nat) (ac:AC) (Q:Exit→Tm→St→Prop) (tm:Tm) (s:St):Prop:=
 ∀ c,cC P nt c=some ac→∀ act w,Holds B nt tm s act w→rY P c (lx B nt Q) act w
theorem Sem.loop {a:AC} (h:bp P B nt a Q tm s):Sem P B nt (.loop a) Q tm s:=by
 intro c hc act w hh
 obtain⟨x,rfl,h1⟩:=iT hc
 exact(h x h1 act w hh).wp
theorem bp.once {a:AC} (h:Sem P B nt a (my (bp P B nt a Q) Q) tm s):bp P B nt a Q tm s:=by
 intro c hc act w hh
 refine rY.once (wp_mono (h c hc act w hh) fun e act w hp=> ?_)
 obtain⟨bh,s',hq,iU⟩:=hp
 cases e with
 | normal=>exact hq c hc act w iU
 | exit id=>exact⟨bh,s',hq,iU⟩
 | goto l=>exact⟨bh,s',hq,iU⟩
 | ret=>exact⟨bh,s',hq,iU⟩
 | panic ch=>exact⟨bh,s',hq,iU⟩
 | outgrown=>exact⟨bh,s',hq,iU⟩
def wz (P:Program) (c r:Code) (Q:Exit→Act→World→Prop) (a:Act) (w:World):Prop:=
 ∀ (b:Frame) (k:List Item) (cs:List Frame),∃ e a' w',Q e a' w'∧Arrives P (lone (b.at a (.code r:: .inScope c::k)) cs w) b k cs e a' w'
def abt (P:Program) (c:Code) (Q:Exit→Act→World→Prop):Exit→Act→World→Prop
 | .goto l,a,w=>∃ rest,findLabel c l=some rest∧wz P c rest Q a w
 | e,a,w=>Q e a w
theorem wz.wp {c:Code} {Q:Exit→Act→World→Prop} {a:Act} {w:World} (h:wz P c c Q a w):(Code.scope c).wp P Q a w:=fun b k cs=>
 let ⟨e,a',w',hq,kv⟩:=h b k cs
 ⟨e,a',w',hq, .of_steps (.one step_scope) kv⟩
def Dh:AC→Nat→Option AC
 | .seq a b,l=>
  match Dh a l with
  | some r=>some (.seq r b)
  | none=>Dh b l
 | .label l',l=>if l'==l then some .skip else none
 | _,_=>none
def Di (P:Program) (B:fh) (nt:Nat) (ac r:AC) (Q:Exit→Tm→St→Prop) (tm:Tm) (s:St):Prop:=
 ∀ c rest,cC P nt c=some ac→cC P nt rest=some r→∀ act w,Holds B nt tm s act w→wz P c rest (lx B nt Q) act w
def Dj (P:Program) (B:fh) (nt:Nat) (ac:AC) (Q:Exit→Tm→St→Prop):Exit→Tm→St→Prop
 | .goto l,tm,s=>∃ r,Dh ac l=some r∧Di P B nt ac r Q tm s
 | e,tm,s=>Q e tm s
theorem Sem.scope {a:AC} (h:Di P B nt a a Q tm s):Sem P B nt (.scope a) Q tm s:=by
 intro c hc act w hh
 obtain⟨x,rfl,h1⟩:=iT hc
 exact(h x x h1 h1 act w hh).wp
def Tag.fg (m:Nat):Tag→Tag
 | .tok t y=>if t<m then .tok t y else .shared
 | g=>g
mutual
def D.fg (n m:Nat):D→D
 | .ptr o off=>if o<n then .ptr o off else .junk
 | .cV row off=> .cV (D.fk n m row) off
 | .slice g z rows=> .slice (g.fg m) z (D.gL n m rows)
 | .agg cs=> .agg (D.fk n m cs)
 | .tuple ds=> .tuple (D.fk n m ds)
 | .junk=> .junk
 | .int k x=> .int k x
 | .bool b=> .bool b
 | .str l=> .str l
 | .dT=> .dT
 | .val v=> .val v
 | .dU T o=>if o<n then .dU T o else .junk
 | .eW f cs=> .eW f (D.fk n m cs)
 | .eR o=>if o<n then .eR o else .junk
def D.fk (n m:Nat):List D→List D
 | []=> []
 | d::r=>D.fg n m d::D.fk n m r
def D.gL (n m:Nat):List (List D)→List (List D)
 | []=> []
 | d::r=>D.fk n m d::D.gL n m r
end
theorem kh (n m:Nat) : ∀ l,D.fk n m l=l.map (D.fg n m)
 | []=>by simp [D.fk]
 | d::r=>by simp [D.fk,kh n m r]
theorem FL (n m:Nat) : ∀ l,D.gL n m l=l.map (D.fk n m)
 | []=>by simp [D.gL]
 | d::r=>by simp [D.gL,FL n m r]
def St.cut (s:St) (n m:Nat):St:=⟨(s.au.take n).map (D.fk n m),s.av.take m⟩
def Tm.fg (n m:Nat) (tm:Tm):Tm:=tm.map fun p=>(p.1,p.2.fg n m)
def Tm.keep (ks:List Nat) (tm:Tm):Tm:=tm.filter fun p=>ks.contains p.1
theorem lU (s:St) (n m:Nat):(s.cut n m).au.length=min n s.au.length:=by simp [St.cut]
theorem fy.fg {M:Map} {g:Tag} {z len cap:Nat} {base:Option (Nat×Nat)} (n m:Nat) (h:fy M s g z len base cap):fy M (s.cut n m) (g.fg m) z len base cap:=by
 cases g with
 | full=>exact h
 | shared=>exact h
 | tok t y=>
  simp only [Tag.fg]
  split
  ·rename_i ht
   obtain⟨h1,h2⟩:=h
   refine⟨by simp [St.cut];omega,fun k hk=>h2 k ?_⟩
   simpa [St.cut,List.getElem?_take_of_lt ht]using hk
  ·trivial
theorem RD.fg {M:Map} {d:D} {v:Value} (n m:Nat) (h:RD M s d v):RD M (s.cut n m) (d.fg n m) v:=by
 induction h with
 | junk v=>simp only [D.fg];exact .junk v
 | int k x=>simp only [D.fg];exact .int k x
 | bool b=>simp only [D.fg];exact .bool b
 | str l=>simp only [D.fg];exact .str l
 | dT=>simp only [D.fg];exact .dT
 | val v hv=>simp only [D.fg];exact .val v hv
 | dU T o v h ht hv=>
  simp only [D.fg]
  split
  ·exact .dU T o v (by rw [lU];omega) ht hv
  ·exact .junk _
 | eR o h hm=>
  simp only [D.fg]
  split
  ·exact .eR o (by rw [lU];omega) hm
  ·exact .junk _
 | eW f ds vs hl _ ih=>
  simp only [D.fg,kh]
  refine .eW f _ vs (by simpa using hl) (fun i d v e1 e2=> ?_)
  simp only [List.getElem?_map,Option.map_eq_some_iff]at e1
  obtain⟨d',e1,rfl⟩:=e1
  exact ih i d' v e1 e2
 | ptr o off h hm=>
  simp only [D.fg]
  split
  ·exact .ptr o off (by rw [lU];omega) hm
  ·exact .junk _
 | cV row off b k h1 h2 ih=>
  simp only [D.fg,kh]
  refine .cV _ off b k (fun i d e=> ?_) (fun i d u e eu=> ?_)
  ·simp only [List.getElem?_map,Option.map_eq_some_iff]at e
   obtain⟨d',e,rfl⟩:=e
   exact h1 i d' e
  ·simp only [List.getElem?_map,Option.map_eq_some_iff]at e
   obtain⟨d',e,rfl⟩:=e
   exact ih i d' u e eu
 | gf g z cap hc ht=>simp only [D.fg,D.gL];exact .gf _ z cap hc (ht.fg n m)
 | jU z a cap=>simp only [D.fg,D.gL,Tag.fg];exact .jU z a cap
 | slice g z rows b k cap hl hs h1 h2 ht ih=>
  simp only [D.fg,FL]
  have hlen:(rows.map (D.fk n m)).length=rows.length:=by simp
  have key:=RD.slice (M:=M) (s:=s.cut n m) (g.fg m) z (rows.map (D.fk n m)) b k cap (by rw [hlen];exact hl) (fun row hr=>by
   obtain⟨ku,h',rfl⟩:=List.mem_map.1 hr
   rw [kh,List.length_map];exact hs ku h')
   (fun i row j d e1 e2=>by
    simp only [List.getElem?_map,Option.map_eq_some_iff]at e1
    obtain⟨ku,e1,rfl⟩:=e1
    rw [kh]at e2
    simp only [List.getElem?_map,Option.map_eq_some_iff]at e2
    obtain⟨d',e2,rfl⟩:=e2
    exact h1 i ku j d' e1 e2)
   (fun i row j d u e1 e2 eu=>by
    simp only [List.getElem?_map,Option.map_eq_some_iff]at e1
    obtain⟨ku,e1,rfl⟩:=e1
    rw [kh]at e2
    simp only [List.getElem?_map,Option.map_eq_some_iff]at e2
    obtain⟨d',e2,rfl⟩:=e2
    exact ih i ku j d' u e1 e2 eu)
   (by rw [hlen];exact ht.fg n m)
  rw [hlen]at key
  exact key
 | agg cells vs hl h1 _ ih=>
  simp only [D.fg,kh]
  refine .agg _ vs (by simpa using hl) h1 (fun i d v e1 e2=> ?_)
  simp only [List.getElem?_map,Option.map_eq_some_iff]at e1
  obtain⟨d',e1,rfl⟩:=e1
  exact ih i d' v e1 e2
 | tuple ds vs hl _ ih=>
  simp only [D.fg,kh]
  refine .tuple _ vs (by simpa using hl) (fun i d v e1 e2=> ?_)
  simp only [List.getElem?_map,Option.map_eq_some_iff]at e1
  obtain⟨d',e1,rfl⟩:=e1
  exact ih i d' v e1 e2
theorem xC {t k n m:Nat} (h:(s.cut n m).av[t]? = some (some k)):s.av[t]? = some (some k):=by
 simp only [St.cut,List.getElem?_take]at h
 split at h
 ·exact h
 ·cases h
theorem pz {t n m:Nat} (h:(s.cut n m).live t):s.live t:=by
 obtain⟨k,hk⟩:=h
 exact⟨k,xC hk⟩
theorem Rel.cut {M:Map} {w:World} (n m:Nat) (r:Rel M s w):Rel M (s.cut n m) w:=by
 have hD : ∀ o,o<(s.cut n m).au.length→o<s.au.length:=fun o h=>by rw [lU]at h;omega
 refine⟨r.comm,fun o ds e=> ?_,fun o ho=>r.im o (hD o ho),fun o o' h h'=>r.inj o o' (hD o h) (hD o' h'),fun t k e=>r.tok t k (xC e),
  fun t b c z o hl e ho=>r.dN t b c z o (pz hl) e (hD o ho),fun t t' b c z c' z' h h' e e'=>r.eC t t' b c z c' z' (pz h) (pz h') e e'⟩
 simp only [St.cut,List.getElem?_map,Option.map_eq_some_iff,List.getElem?_take]at e
 obtain⟨kC,e,rfl⟩:=e
 split at e
 ·obtain⟨vs,T,h1,h2,h3,h4⟩:=r.obj o kC e
  refine⟨vs,T,h1,by rw [kh];simpa using h2,h3,fun i d v e1 e2=> ?_⟩
  rw [kh]at e1
  simp only [List.getElem?_map,Option.map_eq_some_iff]at e1
  obtain⟨d',e1,rfl⟩:=e1
  exact(h4 i d' v e1 e2).fg n m
 ·cases e
theorem Ext.cut {M0 M:Map} {s0:St} {w0 w:World} {n m:Nat} (e:Ext M0 s0 w0 M s w) (hn:s0.au.length≤n) (hm:s0.av.length≤m):Ext M0 s0 w0 M (s.cut n m) w:=by
 have hD : ∀ o,o<(s.cut n m).au.length→o<s.au.length:=fun o h=>by rw [lU]at h;omega
 refine⟨⟨e.le.G,by rw [lU];have:=e.le.n;omega,e.le.loc,by simp [St.cut];have:=e.le.t;omega,fun t k h1 h2=>e.le.tk t k h1 (xC h2)⟩,e.kept,fun o h1 h2=>e.mj o h1 (hD o h2),fun t b c z h=>e.ml t b c z (pz h),e.oB,e.size,e.os,e.tape,e.output⟩
end
end Go.Abs

/-! Call -/

namespace Go.Abs
def kG:Nat→List D→Tm
 | _,[]=> []
 | n,d::r=>(n,d)::kG (n+1) r
def ay:List (Nat×Option (Bool×Nat))→Tm→St→Option (List D)
 | [],_,_=>some []
 | (t,none)::r,tm,s=>match ay r tm s with | some l=>some (tm.get t::l) | none=>none
 | (t,some (agg,size))::r,tm,s=>
  match tm.get t with
  | .ptr o off=>
   match s.au[o]? with
   | some cs=>match part cs off agg size,ay r tm s with | some d,some l=>some (d::l) | _,_=>none
   | none=>none
  | _=>none
def az:List D→D
 | [d]=>d
 | l=> .tuple l
def Sw (B:fh) (res:List (Nat×Option (Bool×Nat))) (Q:D→St→Prop):Exit→Tm→St→Prop
 | .normal,tm,s | .ret,tm,s=>∃ l,ay res tm s=some l∧∃ n m,B.s.au.length≤n∧B.s.av.length≤m∧Q ((az l).fg n m) (s.cut n m)
 | _,_,_=>False
section
variable {P:Program} {M:Map} {s:St} {w:World}
theorem yn : ∀ (l:List D) (n t:Nat),(kG n l).get t=if n≤t then(l[t - n]?).getD .junk else .junk
 | [],n,t=>by simp [kG,Tm.get]
 | d::r,n,t=>by
  simp only [kG,Tm.get,yn r (n+1) t]
  by_cases h:n=t
  ·subst h;simp
  ·rw [if_neg h]
   by_cases h2:n+1≤t
   ·rw [if_pos h2,if_pos (by omega),show t - n=(t - (n+1))+1 by omega];simp
   ·rw [if_neg h2,if_neg (by omega)]
def tC (tmps:Array Value):ResultVar→Go.Sem Value
 | .tmp t=>pure (tmps.getD t Go.undef)
 | .cell a t=>do loadVar t (← asAddr (tmps.getD a Go.undef))
theorem vx (r:Rel M s w) {tm:Tm} {tmps:Array Value} (ht:iR M s tm tmps) : ∀ {rs:List ResultVar} {res:List (Nat×Option (Bool×Nat))} {l:List D},vo P rs=some res→ay res tm s=some l→
 ∃ vs:List Value,(rs.mapM (tC tmps)).run P w = .ok vs w∧vs.length=l.length∧
  ∀ (i:Nat) (d:D) (v:Value),l[i]? = some d→vs[i]? = some v→RD M s d v
 | [],res,l,hc,hl=>by cases hc;cases hl;exact⟨[],rfl,rfl,by simp⟩
 | .tmp t::rs,res,l,hc,hl=>by
  obtain⟨Sx,h1,rfl⟩:=map_some (by simpa [vo]using hc)
  simp only [ay]at hl
  split at hl
  ·rename_i l' ll
   cases hl
   obtain⟨vs,g1,g2,g3⟩:=vx r ht h1 ll
   refine⟨tmps.getD t Go.undef::vs, ?_,by simp [g2],fun i d v e1 e2=> ?_⟩
   ·rw [List.mapM_cons]
    simp only [tC,Go.Sem.run_bind,Go.Sem.run_pure,Result.andThen_ok,g1]
   ·cases i with
    | zero=>simp only [List.getElem?_cons_zero,Option.some.injEq]at e1 e2;subst e1;subst e2;exact ht t
    | succ i=>exact g3 i d v (by simpa using e1) (by simpa using e2)
  ·cases hl
 | .cell a t::rs,res,l,hc,hl=>by
  simp only [vo]at hc
  split at hc
  ·rename_i g i Sx h1 h2 h3
   cases hc
   simp only [ay]at hl
   split at hl
   ·rename_i o off ho
    split at hl
    ·rename_i cs nn
     split at hl
     ·rename_i d l' hd ll
      cases hl
      obtain⟨vs,g1,g2,g3⟩:=vx r ht h3 ll
      have hv:=ht a
      rw [ho]at hv
      have hk:=hv.tn
      obtain⟨hv,_⟩:=hv.nz
      have Qf : ∃ v,(loadVar t ⟨M.mu o,off,none⟩).run P w = .ok v w∧RD M s d v:=by
       obtain⟨dY,T,hh,dJ,⟨jW,_⟩,vv⟩:=r.obj o cs nn
       replace hh:=hh.cells hk
       let n:=if g then i.size else 1
       have iu:off+n≤dY.size:=by
        rcases oc hd with ⟨rfl,hq,_⟩ | ⟨rfl,hq⟩
        ·simp [n];omega
        ·have:=(List.getElem?_eq_some_iff.1 hq).1;simp [n];omega
       have hlen:((dY.toList.drop off).take n).length=n:=by simp;omega
       have hJ : ∀ (j:Nat) (u:Value),((dY.toList.drop off).take n)[j]? = some u→dY[off+j]? = some u:=by
        intro j u h
        rw [List.getElem?_take]at h
        split at h
        ·rw [List.getElem?_drop]at h;simpa using h
        ·cases h
       refine⟨_,vq (w:=w) P h2 h1 (M.mu o) off ((dY.toList.drop off).take n) hlen (fun j u h=>by rw [gY hh];exact hJ j u h), ?_⟩
       exact oY hd _ hlen (fun _ u hu=>jW u (Array.mem_toList_iff.1 (List.mem_of_mem_drop (List.mem_of_mem_take hu)))) (fun j d u e1 e2=>vv _ d u e1 (hJ j u e2))
      obtain⟨v,UU,UW⟩:=Qf
      refine⟨v::vs, ?_,by simp [g2],fun i d' v' e1 e2=> ?_⟩
      ·rw [List.mapM_cons]
       have jW:(tC tmps (.cell a t)).run P w = .ok v w:=by
        simp only [tC,Go.Sem.run_bind,hv,asAddr,Go.Sem.run_pure,Result.andThen_ok,UU]
       simp only [Go.Sem.run_bind,jW,Result.andThen_ok,g1,Go.Sem.run_pure]
      ·cases i with
       | zero=>simp only [List.getElem?_cons_zero,Option.some.injEq]at e1 e2;subst e1;subst e2;exact UW
       | succ i=>exact g3 i d' v' (by simpa using e1) (by simpa using e2)
     ·cases hl
    ·cases hl
   ·cases hl
  ·cases hc
theorem zl (r:Rel M s w) {tm:Tm} {tmps:Array Value} (ht:iR M s tm tmps) {fn:Func} {res:List (Nat×Option (Bool×Nat))} {l:List D} (hc:vo P fn.results.toList=some res) (hl:ay res tm s=some l) :
 ∃ v,(results fn tmps).run P w = .ok v w∧RD M s (az l) v:=by
 obtain⟨vs,g1,g2,g3⟩:=vx (P:=P) r ht hc hl
 have cW:(results fn tmps).run P w = .ok (if h:vs.toArray.size=1 then vs.toArray[0]else .tuple vs.toArray) w:=by
  have e:results fn tmps=(do let vs ← fn.results.mapM (tC tmps);pure (if h:vs.size=1 then vs[0]else .tuple vs)):=by
   unfold results
   rfl
  rw [e,Array.mapM_eq_mapM_toList]
  simp only [Go.Sem.run_bind,Go.Sem.run_map,g1,Result.andThen_ok,Go.Sem.run_pure]
 refine⟨_,cW, ?_⟩
 clear cW g1 hl
 match l,vs,g2,g3 with
 | [],[],_,_=>exact .tuple [] #[] rfl (by simp)
 | [d],[v],_,g3=>exact g3 0 d v rfl rfl
 | d::d'::l,v::v'::vs,h,g3=>
  have : ¬ ((v::v'::vs).toArray.size=1):=by simp
  rw [dif_neg this]
  exact .tuple _ _ (by simpa using h.symm) (fun i d v e1 e2=>g3 i d v e1 (by simpa using e2))
theorem dA.intro {f:FuncId} {fn:Func} {af:AF} {args:List D} {Q:D→St→Prop} (hf:P.funcs[f]? = some fn) (hc:cF P fn=some af) (hl:args.length≤af.ntmps)
 (h : ∀ B:fh,B.s=s→Sem P B af.ntmps af.body (Sw B af.results Q) (kG 0 args) s):dA P f args s Q:=by
 intro M w eH r iD dJ ha
 unfold cF at hc
 split at hc
 ·rename_i c Dk
  split at hc
  ·rename_i b res h1 h2
   cases hc
   simp only at h hl
   refine calls_of_wp hf Dk ?_
   have hs:=h ⟨M,s,w,iD,fun b o v e=>r.xv e⟩ rfl c h1 {tmps:=eH++Array.replicate (fn.ntmps - eH.size) Go.undef,defers:= []} w
    ⟨M,Ext.refl M s w,r,fun t=>by
     rw [yn]
     simp only [Nat.zero_le,if_true,Nat.sub_zero]
     cases hd:args[t]? with
     | none=>exact .junk _
     | some d=>
      have hD:=(List.getElem?_eq_some_iff.1 hd).1
      have hv:eH[t]? = some eH[t]:=Array.getElem?_eq_getElem (by omega)
      have:(eH++Array.replicate (fn.ntmps - eH.size) Go.undef).getD t Go.undef=eH[t]:=by
       rw [Array.getD_eq_getD_getElem?,Array.getElem?_append_left (by omega),hv];rfl
      rw [this]
      exact ha t d _ hd hv,by simp;omega,rfl⟩
   refine wp_mono hs fun e act w' hp=> ?_
   obtain⟨tm,s',hq,M',Sy,r',ht,_,UX⟩:=hp
   have fin:(∃ l,ay res tm s'=some l∧∃ n m,s.au.length≤n∧s.av.length≤m∧Q ((az l).fg n m) (s'.cut n m))→act.defers = []∧∃ v,(results fn act.tmps).run P w' = .ok v w'∧
    ∃ M' d v' s',Ending.returned v = .returned v'∧Q d s'∧Ext M s w M' s' w'∧Rel M' s' w'∧RD M' s' d v':=by
    rintro⟨l,hl,n,m,hn,hm,hQ⟩
    obtain⟨v,cW,lH⟩:=zl (P:=P) r' ht h2 hl
    exact⟨UX,v,cW,M',_,v,_,rfl,hQ,Sy.cut hn hm,r'.cut n m,lH.fg n m⟩
   cases e with
   | normal=>exact fin hq
   | ret=>exact fin hq
   | exit id=>exact hq.elim
   | goto l=>exact hq.elim
   | panic ch=>exact hq.elim
   | outgrown=>exact hq.elim
  ·cases hc
 ·cases hc
end
end Go.Abs

/-! Frame -/

namespace Go.Abs
def Tag.ok (m:Nat):Tag→Bool
 | .tok t _=>decide (t<m)
 | _=>true
def Tag.cU (ts:List Nat):Tag→Tag
 | .tok t y=>match ts[t]? with | some t'=> .tok t' y | none=> .shared
 | g=>g
mutual
def D.ok (n m:Nat):D→Bool
 | .ptr o _=>decide (o<n)
 | .cV row _=>D.bE n m row
 | .slice g _ rows=>g.ok m && D.gM n m rows
 | .agg cs=>D.bE n m cs
 | .tuple ds=>D.bE n m ds
 | .dU _ o=>decide (o<n)
 | .eW _ cs=>D.bE n m cs
 | .eR o=>decide (o<n)
 | _=>true
def D.bE (n m:Nat):List D→Bool
 | []=>true
 | d::r=>D.ok n m d && D.bE n m r
def D.gM (n m:Nat):List (List D)→Bool
 | []=>true
 | d::r=>D.bE n m d && D.gM n m r
end
mutual
def D.cU (os ts:List Nat):D→D
 | .ptr o off=>match os[o]? with | some o'=> .ptr o' off | none=> .junk
 | .cV row off=> .cV (D.e7 os ts row) off
 | .slice g z rows=> .slice (g.cU ts) z (D.oE os ts rows)
 | .agg cs=> .agg (D.e7 os ts cs)
 | .tuple ds=> .tuple (D.e7 os ts ds)
 | .junk=> .junk
 | .int k x=> .int k x
 | .bool b=> .bool b
 | .str l=> .str l
 | .dT=> .dT
 | .val v=> .val v
 | .dU T o=>match os[o]? with | some o'=> .dU T o' | none=> .junk
 | .eW f cs=> .eW f (D.e7 os ts cs)
 | .eR o=>match os[o]? with | some o'=> .eR o' | none=> .junk
def D.e7 (os ts:List Nat):List D→List D
 | []=> []
 | d::r=>D.cU os ts d::D.e7 os ts r
def D.oE (os ts:List Nat):List (List D)→List (List D)
 | []=> []
 | d::r=>D.e7 os ts d::D.oE os ts r
end
theorem er (os ts:List Nat) : ∀ l,D.e7 os ts l=l.map (D.cU os ts)
 | []=>by simp [D.e7]
 | d::r=>by simp [D.e7,er os ts r]
theorem uC (os ts:List Nat) : ∀ l,D.oE os ts l=l.map (D.e7 os ts)
 | []=>by simp [D.oE]
 | d::r=>by simp [D.oE,uC os ts r]
theorem Al (n m:Nat) : ∀ l,D.bE n m l=l.all (D.ok n m)
 | []=>by simp [D.bE]
 | d::r=>by simp [D.bE,Al n m r]
theorem Am (n m:Nat) : ∀ l,D.gM n m l=l.all (D.bE n m)
 | []=>by simp [D.gM]
 | d::r=>by simp [D.gM,Am n m r]
theorem pA {n m:Nat} {l:List D} (h:D.bE n m l=true) {i:Nat} {d:D} (e:l[i]? = some d):D.ok n m d=true:=by
 rw [Al]at h;exact List.all_eq_true.1 h d (List.mem_of_getElem? e)
theorem Lz {n m:Nat} {l:List (List D)} (h:D.gM n m l=true) {i:Nat} {d:List D} (e:l[i]? = some d):D.bE n m d=true:=by
 rw [Am]at h;exact List.all_eq_true.1 h d (List.mem_of_getElem? e)
section
variable {M M0:Map} {s s0:St} {os ts:List Nat}
theorem fy.zG (gK : ∀ (i:Nat) t,ts[i]? = some t→M0.be i=M.be t) (ht : ∀ (i t:Nat),ts[i]? = some t→s0.av[i]? = s.av[t]?) (hlen:s0.av.length=ts.length) {g:Tag} {z len cap:Nat} {base:Option (Nat×Nat)} (yo:g.ok ts.length=true) (h:fy M s (g.cU ts) z len base cap):fy M0 s0 g z len base cap:=by
 cases g with
 | full=>exact h
 | shared=>exact h
 | tok t y=>
  have hD:t<ts.length:=by simpa [Tag.ok]using yo
  have e:ts[t]? = some ts[t]:=List.getElem?_eq_getElem hD
  simp only [Tag.cU,e]at h
  obtain⟨h1,h2⟩:=h
  refine⟨by omega,fun n hn=> ?_⟩
  rw [ht t _ e]at hn
  rw [gK t _ e]
  exact h2 n hn
theorem RD.zG (hG:M0.G=M.G) (tD : ∀ (i:Nat) o,os[i]? = some o→M0.loc i=M.loc o) (ln:s0.au.length=os.length)
 (gK : ∀ (i:Nat) t,ts[i]? = some t→M0.be i=M.be t) (ht : ∀ (i t:Nat),ts[i]? = some t→s0.av[i]? = s.av[t]?) (hlen:s0.av.length=ts.length) {d:D} {v:Value} (h:RD M s d v) :
 ∀ d0:D,d0.cU os ts=d→d0.ok os.length ts.length=true→RD M0 s0 d0 v:=by
 have l7 : ∀ (i:Nat) o,os[i]? = some o→M0.mu i=M.mu o:=fun i o h=>congrArg Prod.fst (tD i o h)
 have tag:=fun {g z len cap base}=>@fy.zG M M0 s s0 ts gK ht hlen g z len cap base
 induction h with
 | junk v=>
  intro d0 e ok
  cases d0 <;> simp only [D.cU]at e <;> try (cases e;done)
  ·exact .junk v
  ·rename_i o off
   have hD:o<os.length:=by simpa [D.ok]using ok
   rw [List.getElem?_eq_getElem hD]at e;cases e
  ·rename_i T o
   have hD:o<os.length:=by simpa [D.ok]using ok
   rw [List.getElem?_eq_getElem hD]at e;cases e
  ·rename_i o
   have hD:o<os.length:=by simpa [D.ok]using ok
   rw [List.getElem?_eq_getElem hD]at e;cases e
 | val v hv=>intro d0 e ok;cases d0 <;> simp only [D.cU]at e <;> first | (cases e;exact .val _ hv) | (split at e <;> cases e) | cases e
 | dU T o v ho ht hv=>
  intro d0 e ok
  cases d0 <;> simp only [D.cU]at e <;> first | (split at e <;> cases e;done) | skip
  all_goals try (cases e;done)
  rename_i T0 o0
  have hD:o0<os.length:=by simpa [D.ok]using ok
  rw [List.getElem?_eq_getElem hD]at e
  cases e
  have hl:=tD o0 _ (List.getElem?_eq_getElem hD)
  exact .dU _ o0 v (by omega) ((congrArg (fun x=>x.2.ty?) hl).trans ht) (by rw [l7 o0 _ (List.getElem?_eq_getElem hD)];exact hv)
 | int k x=>intro d0 e ok;cases d0 <;> simp only [D.cU]at e <;> first | (cases e;exact .int _ _) | (split at e <;> cases e) | cases e
 | bool b=>intro d0 e ok;cases d0 <;> simp only [D.cU]at e <;> first | (cases e;exact .bool _) | (split at e <;> cases e) | cases e
 | str l=>intro d0 e ok;cases d0 <;> simp only [D.cU]at e <;> first | (cases e;exact .str _) | (split at e <;> cases e) | cases e
 | dT=>intro d0 e ok;cases d0 <;> simp only [D.cU]at e <;> first | (cases e;exact .dT) | (split at e <;> cases e) | cases e
 | eR o ho hm=>
  intro d0 e ok
  cases d0 <;> simp only [D.cU]at e <;> first | (cases e;done) | skip
  all_goals try (split at e <;> cases e;done)
  rename_i o0
  have hD:o0<os.length:=by simpa [D.ok]using ok
  rw [List.getElem?_eq_getElem hD]at e
  cases e
  rw [← l7 o0 _ (List.getElem?_eq_getElem hD)]
  exact RD.eR (s:=s0) o0 (by omega) ((congrArg Prod.snd (tD o0 _ (List.getElem?_eq_getElem hD))).trans hm)
 | eW f ds vs hl _ ih=>
  intro d0 e ok
  cases d0 <;> simp only [D.cU]at e <;> first | (split at e <;> cases e;done) | skip
  all_goals try (cases e;done)
  rename_i f0 FN
  simp only [D.eW.injEq]at e
  obtain⟨rfl,rfl⟩:=e
  simp only [D.ok]at ok
  rw [er]at hl ih
  refine .eW _ FN vs (by simpa using hl) (fun i d v e1 e2=>ih i _ v (by rw [List.getElem?_map,e1];rfl) e2 d rfl (pA ok e1))
 | ptr o off ho hm=>
  intro d0 e ok
  cases d0 <;> simp only [D.cU]at e <;> first | (cases e;done) | skip
  all_goals try (split at e <;> cases e;done)
  rename_i o0 Nk
  have hD:o0<os.length:=by simpa [D.ok]using ok
  rw [List.getElem?_eq_getElem hD]at e
  cases e
  rw [← l7 o0 _ (List.getElem?_eq_getElem hD)]
  exact RD.ptr (s:=s0) o0 _ (by omega) (by rw [show M0.ob o0=_ from congrArg Prod.snd (tD o0 _ (List.getElem?_eq_getElem hD))];exact hm)
 | cV row off b k h1 h2 ih=>
  intro d0 e ok
  cases d0 <;> simp only [D.cU]at e <;> first | (split at e <;> cases e;done) | skip
  all_goals try (cases e;done)
  rename_i Sz Nk
  simp only [D.cV.injEq]at e
  obtain⟨rfl,rfl⟩:=e
  simp only [D.ok]at ok
  rw [er]at h1 ih
  refine .cV Sz Nk b k (fun i d e=> ?_) (fun i d u e eu=> ?_)
  ·rw [hG];exact h1 i _ (by rw [List.getElem?_map,e];rfl)
  ·rw [hG]at eu;exact ih i _ u (by rw [List.getElem?_map,e];rfl) eu d rfl (pA ok e)
 | gf g z cap hc lp=>
  intro d0 e ok
  cases d0 <;> simp only [D.cU]at e <;> first | (split at e <;> cases e;done) | skip
  all_goals try (cases e;done)
  rename_i g0 z0 o4
  simp only [D.slice.injEq]at e
  obtain⟨rfl,rfl,e⟩:=e
  have:o4 = []:=by cases o4 <;> simp [D.oE]at e;rfl
  subst this
  simp only [D.ok,Bool.and_eq_true]at ok
  exact .gf g0 z0 cap hc (tag ok.1 lp)
 | jU z a cap=>
  intro d0 e ok
  cases d0 <;> simp only [D.cU]at e <;> first | (split at e <;> cases e;done) | skip
  all_goals try (cases e;done)
  rename_i g0 z0 o4
  simp only [D.slice.injEq]at e
  obtain⟨hg,rfl,e⟩:=e
  have:o4 = []:=by cases o4 <;> simp [D.oE]at e;rfl
  subst this
  simp only [D.ok,Bool.and_eq_true]at ok
  have:g0 = .shared:=by
   cases g0 with
   | tok t y=>
    have ht:t<ts.length:=by simpa [Tag.ok]using ok.1
    simp [Tag.cU,ht]at hg
   | shared=>rfl
   | _=>simp [Tag.cU]at hg
  subst this
  exact .jU _ a cap
 | slice g z rows b k cap hl hs h1 h2 lp ih=>
  intro d0 e ok
  cases d0 <;> simp only [D.cU]at e <;> first | (split at e <;> cases e;done) | skip
  all_goals try (cases e;done)
  rename_i g0 z0 o4
  simp only [D.slice.injEq]at e
  obtain⟨rfl,rfl,rfl⟩:=e
  simp only [D.ok,Bool.and_eq_true]at ok
  rw [uC]at hl hs h1 ih lp
  simp only [uC,List.length_map]at hl lp ⊢
  have db : ∀ (i:Nat) (row:List D),o4[i]? = some row→(o4.map (D.e7 os ts))[i]? = some (D.e7 os ts row):=fun i row e=>by rw [List.getElem?_map,e];rfl
  have p8 : ∀ (row:List D) (j:Nat) (d:D),row[j]? = some d→(D.e7 os ts row)[j]? = some (D.cU os ts d):=fun row j d e=>by rw [er,List.getElem?_map,e];rfl
  refine .slice g0 z0 o4 b k cap hl (fun row hr=> ?_) (fun i row j d e1 e2=> ?_) (fun i row j d u e1 e2 eu=> ?_) (tag ok.1 lp)
  ·have:=hs (D.e7 os ts row) (List.mem_map.2 ⟨row,hr,rfl⟩)
   rwa [er,List.length_map]at this
  ·rw [hG];exact h1 i _ j _ (db i row e1) (p8 row j d e2)
  ·rw [hG]at eu;exact ih i _ j _ u (db i row e1) (p8 row j d e2) eu d rfl (pA (Lz ok.2 e1) e2)
 | agg cells vs hl h1 _ ih=>
  intro d0 e ok
  cases d0 <;> simp only [D.cU]at e <;> first | (split at e <;> cases e;done) | skip
  all_goals try (cases e;done)
  rename_i FN
  simp only [D.agg.injEq]at e
  subst e
  simp only [D.ok]at ok
  rw [er]at hl ih
  refine .agg FN vs (by simpa using hl) h1 (fun i d v e1 e2=>ih i _ v (by rw [List.getElem?_map,e1];rfl) e2 d rfl (pA ok e1))
 | tuple ds vs hl _ ih=>
  intro d0 e ok
  cases d0 <;> simp only [D.cU]at e <;> first | (split at e <;> cases e;done) | skip
  all_goals try (cases e;done)
  rename_i FN
  simp only [D.tuple.injEq]at e
  subst e
  simp only [D.ok]at ok
  rw [er]at hl ih
  refine .tuple FN vs (by simpa using hl) (fun i d v e1 e2=>ih i _ v (by rw [List.getElem?_map,e1];rfl) e2 d rfl (pA ok e1))
theorem RD.cU (hG:M0.G=M.G) (tD : ∀ i,i<s0.au.length→∃ o,os[i]? = some o∧o<s.au.length∧M.loc o=M0.loc i)
 (gK : ∀ i,i<s0.av.length→∃ t,ts[i]? = some t∧t<s.av.length∧s.av[t]? = s0.av[i]? ∧M.be t=M0.be i) {d:D} {v:Value} (h:RD M0 s0 d v):RD M s (d.cU os ts) v:=by
 have tag : ∀ {g:Tag} {z len cap:Nat} {base:Option (Nat×Nat)},fy M0 s0 g z len base cap→fy M s (g.cU ts) z len base cap:=by
  intro g z len cap base h
  cases g with
  | full=>exact h
  | shared=>exact h
  | tok t y=>
   obtain⟨h1,h2⟩:=h
   obtain⟨t',e,hD,UY,hb⟩:=gK t h1
   simp only [Tag.cU,e]
   refine⟨hD,fun n hn=> ?_⟩
   rw [hb]
   exact h2 n (UY ▸ hn)
 induction h with
 | junk v=>simp only [D.cU];exact .junk v
 | int k x=>simp only [D.cU];exact .int k x
 | bool b=>simp only [D.cU];exact .bool b
 | str l=>simp only [D.cU];exact .str l
 | dT=>simp only [D.cU];exact .dT
 | ptr o off ho hk=>
  obtain⟨o',e,hD,hm⟩:=tD o ho
  simp only [D.cU,e]
  have hb:M.ob o'=M0.ob o:=congrArg Prod.snd hm
  have hm:M.mu o'=M0.mu o:=congrArg Prod.fst hm
  rw [← hm]
  exact .ptr o' off hD (by rw [hb];exact hk)
 | eR o ho hk=>
  obtain⟨o',e,hD,hm⟩:=tD o ho
  simp only [D.cU,e]
  have hb:M.ob o'=M0.ob o:=congrArg Prod.snd hm
  have hm:M.mu o'=M0.mu o:=congrArg Prod.fst hm
  rw [← hm]
  exact .eR o' hD (by rw [hb];exact hk)
 | eW f ds vs hl _ ih=>
  simp only [D.cU,er]
  refine .eW f _ vs (by simpa using hl) (fun i d v e1 e2=> ?_)
  simp only [List.getElem?_map,Option.map_eq_some_iff]at e1
  obtain⟨d',e1,rfl⟩:=e1
  exact ih i d' v e1 e2
 | val v hv=>simp only [D.cU];exact .val v hv
 | dU T o v ho ht hv=>
  obtain⟨o',e,hD,hm⟩:=tD o ho
  simp only [D.cU,e]
  have h1:M.mu o'=M0.mu o:=congrArg Prod.fst hm
  have h2:M.ty o'=M0.ty o:=congrArg (fun x=>x.2.ty?) hm
  exact .dU T o' v hD (by rw [h2];exact ht) (by rw [h1];exact hv)
 | cV row off b k h1 h2 ih=>
  simp only [D.cU,er]
  refine .cV _ off b k (fun i d e=> ?_) (fun i d u e eu=> ?_)
  ·simp only [List.getElem?_map,Option.map_eq_some_iff]at e
   obtain⟨d',e,rfl⟩:=e
   rw [← hG];exact h1 i d' e
  ·simp only [List.getElem?_map,Option.map_eq_some_iff]at e
   obtain⟨d',e,rfl⟩:=e
   rw [← hG]at eu;exact ih i d' u e eu
 | gf g z cap hc ht=>simp only [D.cU,D.oE];exact .gf _ z cap hc (tag ht)
 | jU z a cap=>simp only [D.cU,D.oE,Tag.cU];exact .jU z a cap
 | slice g z rows b k cap hl hs h1 h2 ht ih=>
  simp only [D.cU,uC]
  have hlen:(rows.map (D.e7 os ts)).length=rows.length:=by simp
  have key:=RD.slice (M:=M) (s:=s) (g.cU ts) z (rows.map (D.e7 os ts)) b k cap (by rw [hlen];exact hl) (fun row hr=>by
   obtain⟨ku,h',rfl⟩:=List.mem_map.1 hr
   rw [er,List.length_map];exact hs ku h')
   (fun i row j d e1 e2=>by
    simp only [List.getElem?_map,Option.map_eq_some_iff]at e1
    obtain⟨ku,e1,rfl⟩:=e1
    rw [er]at e2
    simp only [List.getElem?_map,Option.map_eq_some_iff]at e2
    obtain⟨d',e2,rfl⟩:=e2
    rw [← hG];exact h1 i ku j d' e1 e2)
   (fun i row j d u e1 e2 eu=>by
    simp only [List.getElem?_map,Option.map_eq_some_iff]at e1
    obtain⟨ku,e1,rfl⟩:=e1
    rw [er]at e2
    simp only [List.getElem?_map,Option.map_eq_some_iff]at e2
    obtain⟨d',e2,rfl⟩:=e2
    rw [← hG]at eu;exact ih i ku j d' u e1 e2 eu)
   (by rw [hlen];exact tag ht)
  rw [hlen]at key
  exact key
 | agg cells vs hl h1 _ ih=>
  simp only [D.cU,er]
  refine .agg _ vs (by simpa using hl) h1 (fun i d v e1 e2=> ?_)
  simp only [List.getElem?_map,Option.map_eq_some_iff]at e1
  obtain⟨d',e1,rfl⟩:=e1
  exact ih i d' v e1 e2
 | tuple ds vs hl _ ih=>
  simp only [D.cU,er]
  refine .tuple _ vs (by simpa using hl) (fun i d v e1 e2=> ?_)
  simp only [List.getElem?_map,Option.map_eq_some_iff]at e1
  obtain⟨d',e1,rfl⟩:=e1
  exact ih i d' v e1 e2
def iz {α:Type} : List Nat→List α→List α→List α
 | [],new,l=>l++new
 | _::_,[],l=>l
 | o::os,x::xs,l=>iz os xs (l.set o x)
def iM (os:List Nat) (n k:Nat):List Nat:=os++(List.range k).map (n + ·)
theorem qI {α:Type} : ∀ (os:List Nat) (xs l:List α),os.length≤xs.length→(iz os xs l).length=l.length+(xs.length - os.length)
 | [],xs,l,_=>by simp [iz]
 | o::os,[],l,h=>by simp at h
 | o::os,x::xs,l,h=>by
  simp only [iz]
  rw [qI os xs _ (by simpa using h)]
  simp
theorem vy {α:Type} : ∀ (os:List Nat) (xs l:List α),os.length≤xs.length→os.Nodup→(∀ o∈os,o<l.length)→
 (∀ (i:Nat) (o:Nat),os[i]? = some o→(iz os xs l)[o]? = xs[i]?)∧(∀ o,o<l.length→o∉os→(iz os xs l)[o]? = l[o]?)∧
 (∀ k,(iz os xs l)[l.length+k]? = xs[os.length+k]?)
 | [],xs,l,_,_,_=>by
  refine⟨by simp,fun o ho _=>by simp only [iz];rw [List.getElem?_append_left ho],fun k=>by simp only [iz];rw [List.getElem?_append_right (by omega)];simp⟩
 | o::os,[],l,h,_,_=>by simp at h
 | o::os,x::xs,l,h,hn,hD=>by
  simp only [List.nodup_cons]at hn
  have sJ : ∀ q∈os,q<(l.set o x).length:=fun q hq=>by simpa using hD q (by simp [hq])
  obtain⟨h1,h2,h3⟩:=vy os xs (l.set o x) (by simpa using h) hn.2 sJ
  have ho:o<l.length:=hD o (by simp)
  simp only [iz]
  refine⟨fun i q e=> ?_,fun q hq RE=> ?_,fun k=> ?_⟩
  ·cases i with
   | zero=>
    simp only [List.getElem?_cons_zero,Option.some.injEq]at e
    subst e
    rw [h2 o (by simpa using ho) hn.1]
    simp [ho]
   | succ i=>simpa using h1 i q (by simpa using e)
  ·have Ky:q≠o:=fun e=>RE (by simp [e])
   rw [h2 q (by simpa using hq) (fun h=>RE (by simp [h])),List.getElem?_set_ne (Ne.symm Ky)]
  ·have:=h3 k
   simp only [List.length_set]at this
   rw [this]
   simp only [List.length_cons]
   rw [show os.length+1+k=(os.length+k)+1 by omega];simp
theorem u6 (os:List Nat) (n k i:Nat):(iM os n k)[i]? = if i<os.length then os[i]? else if i<os.length+k then some (n+(i - os.length))else none:=by
 unfold iM
 split
 ·rename_i h;rw [List.getElem?_append_left h]
 ·rename_i h
  rw [List.getElem?_append_right (by omega)]
  split
  ·rename_i h2
   rw [List.getElem?_map,List.getElem?_range (by omega)];rfl
  ·rename_i h2
   rw [List.getElem?_eq_none]
   simp;omega
def posOf:List Nat→Nat→Option Nat
 | [],_=>none
 | x::r,o=>if x=o then some 0 else(posOf r o).map (· + 1)
theorem fA : ∀ {l:List Nat} {o i:Nat},posOf l o=some i→l[i]? = some o
 | x::r,o,i,h=>by
  simp only [posOf]at h
  split at h
  ·rename_i e;cases h;simp [e]
  ·cases hp:posOf r o with
   | none=>rw [hp]at h;cases h
   | some j=>rw [hp]at h;cases h;simpa using fA hp
theorem iW : ∀ {l:List Nat} {o i:Nat},l.Nodup→l[i]? = some o→posOf l o=some i
 | x::r,o,i,hn,h=>by
  simp only [List.nodup_cons]at hn
  simp only [posOf]
  cases i with
  | zero=>simp at h;simp [h]
  | succ i=>
   simp at h
   have:x≠o:=fun e=>hn.1 (by rw [e];exact List.mem_of_getElem? h)
   rw [if_neg this,iW hn.2 h];rfl
end
end Go.Abs

/-! Frame2 -/

namespace Go.Abs
theorem sK {l:List Nat} {n k:Nat} (h:l.Nodup) (hl : ∀ o∈l,o<n):(iM l n k).Nodup:=by
 unfold iM
 rw [List.nodup_append]
 refine⟨h, ?_,fun a ha b hb=> ?_⟩
 ·rw [List.nodup_iff_pairwise_ne,List.pairwise_map]
  exact List.Pairwise.imp (fun h=>by omega) (List.nodup_iff_pairwise_ne.1 List.nodup_range)
 ·obtain⟨c,hc,rfl⟩:=List.mem_map.1 hb
  have:=hl a ha
  omega
def gv (M:Map) (os ts:List Nat):Map:=⟨M.G,fun i=>M.loc (os.getD i 0),fun i=>M.be (ts.getD i 0)⟩
def rn (M M0:Map) (os ts:List Nat):Map:=
 ⟨M0.G,fun o=>match posOf os o with | some i=>M0.loc i | none=>M.loc o,fun t=>match posOf ts t with | some i=>M0.be i | none=>M.be t⟩
section
variable {P:Program} {M:Map} {s s0:St} {w:World} {os ts:List Nat}
theorem uD {l:List Nat} {i o:Nat} (h:l[i]? = some o):l.getD i 0=o:=by simp [List.getD,h]
theorem Rel.sub (r:Rel M s w) (yp:os.Nodup) (Cu:ts.Nodup) (ln : ∀ o∈os,o<s.au.length)
 (ho:s0.au.length=os.length) (Ic : ∀ (i o:Nat) (ds:List D),os[i]? = some o→s0.au[i]? = some ds→s.au[o]? = some (D.e7 os ts ds)∧D.bE os.length ts.length ds=true)
 (ht:s0.av.length=ts.length) (oC : ∀ (i t:Nat),ts[i]? = some t→s0.av[i]? = s.av[t]?):Rel (gv M os ts) s0 w:=by
 have nth : ∀ i,i<s0.au.length→∃ o,os[i]? = some o∧o<s.au.length:=fun i hi=>⟨os[i],List.getElem?_eq_getElem (by omega),ln _ (List.getElem_mem _)⟩
 have loc : ∀ (i:Nat) o,os[i]? = some o→(gv M os ts).loc i=M.loc o:=fun i o h=>by simp only [gv,uD h]
 have mu : ∀ (i:Nat) o,os[i]? = some o→(gv M os ts).mu i=M.mu o:=fun i o h=>congrArg Prod.fst (loc i o h)
 have be : ∀ (i:Nat) t,ts[i]? = some t→(gv M os ts).be i=M.be t:=fun i t h=>by simp only [gv,uD h]
 have Kz : ∀ t,s0.live t→∃ t',ts[t]? = some t'∧s.live t':=fun t ⟨n,hn⟩=>by
  have hD:=(List.getElem?_eq_some_iff.1 hn).1
  have e:ts[t]? = some ts[t]:=List.getElem?_eq_getElem (by omega)
  exact⟨_,e,n,by rw [← oC t _ e];exact hn⟩
 refine⟨r.comm,fun i ds e=> ?_,fun i hi off=> ?_,fun i i' hi fW e=> ?_,fun t n e=> ?_,fun t b c z i hl e hi=> ?_,fun t t' b c z c' z' h h' e e'=> ?_⟩
 ·obtain⟨o,h1,_⟩:=nth i (List.getElem?_eq_some_iff.1 e).1
  obtain⟨h2,h3⟩:=Ic i o ds h1 e
  obtain⟨vs,T,g1,g2,g3,g4⟩:=r.obj o _ h2
  refine⟨vs,T,by rw [mu i o h1,show(gv M os ts).ob i=M.ob o from congrArg Prod.snd (loc i o h1)];exact g1,by rw [er]at g2;simpa using g2,⟨g3.1,by rw [show(gv M os ts).ty i=M.ty o from congrArg (fun x=>x.2.ty?) (loc i o h1)];exact g3.2⟩,fun j d v e1 e2=> ?_⟩
  exact RD.zG (M:=M) (M0:=gv M os ts) (s:=s) rfl loc ho be oC ht (g4 j (d.cU os ts) v (by rw [er,List.getElem?_map,e1];rfl) e2) d rfl (pA h3 e1)
 ·obtain⟨o,h1,h2⟩:=nth i hi
  rw [mu i o h1];exact r.im o h2 off
 ·obtain⟨o,h1,h2⟩:=nth i hi
  obtain⟨o',np,rp⟩:=nth i' fW
  rw [mu i o h1,mu i' o' np]at e
  have:=r.inj o o' h2 rp e
  subst this
  have a:=iW yp h1
  have b:=iW yp np
  rw [a]at b;cases b;rfl
 ·obtain⟨t',h1,h2⟩:=Kz t ⟨n,e⟩
  rw [be t t' h1]
  exact r.tok t' n (by rw [← oC t t' h1];exact e)
 ·obtain⟨t',h1,h2⟩:=Kz t hl
  obtain⟨o,h3,h4⟩:=nth i hi
  rw [be t t' h1]at e
  rw [mu i o h3]
  exact r.dN t' b c z o h2 e h4
 ·obtain⟨q,h1,h2⟩:=Kz t h
  obtain⟨q',np,rp⟩:=Kz t' h'
  rw [be t q h1]at e
  rw [be t' q' np]at e'
  have:=r.eC q q' b c z c' z' h2 rp e e'
  subst this
  have a:=iW Cu h1
  have b:=iW Cu np
  rw [a]at b;cases b;rfl
end
def St.back (s:St) (os ts:List Nat) (s':St):St:=
 ⟨iz os (s'.au.map (D.e7 (iM os s.au.length (s'.au.length - os.length)) (iM ts s.av.length (s'.av.length - ts.length)))) s.au,iz ts s'.av s.av⟩
def D.back (s:St) (os ts:List Nat) (s':St) (d:D):D:=
 d.cU (iM os s.au.length (s'.au.length - os.length)) (iM ts s.av.length (s'.av.length - ts.length))
theorem dA.frame {P:Program} {f:FuncId} {Dl args:List D} {s s0:St} {Q0 Q:D→St→Prop} (os ts:List Nat) (h:dA P f Dl s0 Q0) (yp:os.Nodup) (Cu:ts.Nodup) (ln : ∀ o∈os,o<s.au.length) (Fk : ∀ t∈ts,t<s.av.length)
 (ho:s0.au.length=os.length) (Ic : ∀ (i o:Nat) (ds:List D),os[i]? = some o→s0.au[i]? = some ds→s.au[o]? = some (D.e7 os ts ds)∧D.bE os.length ts.length ds=true)
 (ht:s0.av.length=ts.length) (oC : ∀ (i t:Nat),ts[i]? = some t→s0.av[i]? = s.av[t]?)
 (zH:args=D.e7 os ts Dl) (yo:D.bE os.length ts.length Dl=true) (k : ∀ d s',Q0 d s'→Q (d.back s os ts s') (s.back os ts s')):dA P f args s Q:=by
 intro M w eH r iD dJ ha
 have r0:=r.sub yp Cu ln ho Ic ht oC
 have loc : ∀ (i:Nat) o,os[i]? = some o→(gv M os ts).loc i=M.loc o:=fun i o h=>by simp only [gv,uD h]
 have mu : ∀ (i:Nat) o,os[i]? = some o→(gv M os ts).mu i=M.mu o:=fun i o h=>congrArg Prod.fst (loc i o h)
 have be : ∀ (i:Nat) t,ts[i]? = some t→(gv M os ts).be i=M.be t:=fun i t h=>by simp only [gv,uD h]
 subst zH
 have Nl:Laid (gv M os ts) s0 w:=by
  intro g cs hg
  obtain⟨h1,h2,h3⟩:=iD g cs hg
  refine⟨h1,fun o hD=> ?_,fun t c z hl hb=> ?_⟩
  ·obtain⟨o',jR⟩ : ∃ o',os[o]? = some o':=⟨_,List.getElem?_eq_getElem (by omega)⟩
   rw [mu o o' jR]
   exact h2 o' (ln o' (List.mem_of_getElem? jR))
  ·obtain⟨n,hn⟩:=hl
   have hD:=(List.getElem?_eq_some_iff.1 hn).1
   obtain⟨t',FO⟩ : ∃ t',ts[t]? = some t':=⟨_,List.getElem?_eq_getElem (by omega)⟩
   rw [be t t' FO]at hb
   exact h3 t' c z ⟨n,by rw [← oC t t' FO];exact hn⟩ hb
 have hc:=h (gv M os ts) w eH r0 Nl (by rw [dJ,er,List.length_map]) (fun i d v e1 e2=>
  RD.zG (M:=M) (M0:=gv M os ts) (s:=s) rfl loc ho be oC ht (ha i (d.cU os ts) v (by rw [er,List.getElem?_map,e1];rfl) e2) d rfl (pA yo e1))
 refine hc.mono ?_
 rintro en w' ⟨qe,d,v,s',rfl,hq,e,r',hv⟩
 have Ag:=e.le.n
 have wa:=e.le.t
 generalize Dm:iM os s.au.length (s'.au.length - os.length)=iI
 generalize Dn:iM ts s.av.length (s'.av.length - ts.length)=kX
 have nd:iI.Nodup:=by rw [← Dm];exact sK yp ln
 have RF:kX.Nodup:=by rw [← Dn];exact sK Cu Fk
 have Dp : ∀ i,iI[i]? = if i<os.length then os[i]? else if i<s'.au.length then some (s.au.length+(i - os.length))else none:=fun i=>by
  rw [← Dm,u6];split
  ·rfl
  ·rw [show os.length+(s'.au.length - os.length)=s'.au.length by omega]
 have Dq : ∀ i,kX[i]? = if i<ts.length then ts[i]? else if i<s'.av.length then some (s.av.length+(i - ts.length))else none:=fun i=>by
  rw [← Dn,u6];split
  ·rfl
  ·rw [show ts.length+(s'.av.length - ts.length)=s'.av.length by omega]
 have U0:s.back os ts s' = ⟨iz os (s'.au.map (D.e7 iI kX)) s.au,iz ts s'.av s.av⟩:=by simp only [St.back,Dm,Dn]
 have U1:d.back s os ts s'=d.cU iI kX:=by simp only [D.back,Dm,Dn]
 have nk:=k d s' hq
 rw [U0,U1]at nk
 obtain⟨p1,p2,p3⟩:=vy os (s'.au.map (D.e7 iI kX)) s.au (by simp;omega) yp ln
 obtain⟨q1,q2,q3⟩:=vy ts s'.av s.av (by omega) Cu Fk
 have An:=qI os (s'.au.map (D.e7 iI kX)) s.au (by simp;omega)
 have Ao:=qI ts s'.av s.av (by omega)
 simp only [List.length_map]at An
 generalize Cp:(⟨iz os (s'.au.map (D.e7 iI kX)) s.au,iz ts s'.av s.av⟩:St)=s2 at nk
 have so:s2.au=iz os (s'.au.map (D.e7 iI kX)) s.au:=by rw [← Cp]
 have st:s2.av=iz ts s'.av s.av:=by rw [← Cp]
 -- the framed objects
 have fo : ∀ (i o:Nat),iI[i]? = some o→o<s2.au.length∧s2.au[o]? = (s'.au[i]?).map (D.e7 iI kX)∧i<s'.au.length∧(i<os.length→o<s.au.length∧os[i]? = some o)∧(os.length≤i→s.au.length≤o):=by
  intro i o hi
  rw [Dp]at hi
  split at hi
  ·rename_i h1
   have hD:=ln o (List.mem_of_getElem? hi)
   refine⟨by rw [so,An];omega,by rw [so,p1 i o hi,List.getElem?_map],by omega,fun _=>⟨hD,hi⟩,fun h=>by omega⟩
  ·split at hi
   ·rename_i h1 h2
    cases hi
    refine⟨by rw [so,An];omega, ?_,h2,fun h=>by omega,fun _=>by omega⟩
    rw [so,p3,List.getElem?_map,show os.length+(i - os.length)=i by omega]
   ·cases hi
 have ft : ∀ (i t:Nat),kX[i]? = some t→t<s2.av.length∧s2.av[t]? = s'.av[i]? ∧i<s'.av.length∧(i<ts.length→t<s.av.length∧ts[i]? = some t)∧(ts.length≤i→s.av.length≤t):=by
  intro i t hi
  rw [Dq]at hi
  split at hi
  ·rename_i h1
   have hD:=Fk t (List.mem_of_getElem? hi)
   refine⟨by rw [st,Ao];omega,by rw [st,q1 i t hi],by omega,fun _=>⟨hD,hi⟩,fun h=>by omega⟩
  ·split at hi
   ·rename_i h1 h2
    cases hi
    refine⟨by rw [st,Ao];omega, ?_,h2,fun h=>by omega,fun _=>by omega⟩
    rw [st,q3,show ts.length+(i - ts.length)=i by omega]
   ·cases hi
 -- all others
 have uo : ∀ o,o<s2.au.length→posOf iI o=none→o<s.au.length∧o∉os∧s2.au[o]? = s.au[o]? :=by
  intro o hD hp
  have kY : ∀ i,iI[i]? ≠some o:=fun i hi=>by rw [iW nd hi]at hp;cases hp
  have h1:o<s.au.length:=by
   rcases Nat.lt_or_ge o s.au.length with h | h
   ·exact h
   ·exfalso
    rw [so,An]at hD
    refine kY (os.length+(o - s.au.length)) ?_
    rw [Dp,if_neg (by omega),if_pos (by omega)]
    congr 1;omega
  have h2:o∉os:=fun hm=>by
   obtain⟨i,hi⟩:=List.mem_iff_getElem?.1 hm
   have mz:=(List.getElem?_eq_some_iff.1 hi).1
   exact kY i (by rw [Dp,if_pos mz];exact hi)
  exact⟨h1,h2,by rw [so,p2 o h1 h2]⟩
 have ut : ∀ t,t<s2.av.length→posOf kX t=none→t<s.av.length∧t∉ts∧s2.av[t]? = s.av[t]? :=by
  intro t hD hp
  have kY : ∀ i,kX[i]? ≠some t:=fun i hi=>by rw [iW RF hi]at hp;cases hp
  have h1:t<s.av.length:=by
   rcases Nat.lt_or_ge t s.av.length with h | h
   ·exact h
   ·exfalso
    rw [st,Ao]at hD
    refine kY (ts.length+(t - s.av.length)) ?_
    rw [Dq,if_neg (by omega),if_pos (by omega)]
    congr 1;omega
  have h2:t∉ts:=fun hm=>by
   obtain⟨i,hi⟩:=List.mem_iff_getElem?.1 hm
   have mz:=(List.getElem?_eq_some_iff.1 hi).1
   exact kY i (by rw [Dq,if_pos mz];exact hi)
  exact⟨h1,h2,by rw [st,q2 t h1 h2]⟩
 generalize FQ:rn M qe iI kX=M2
 have mG:qe.G=M2.G:=by rw [← FQ];rfl
 have lo : ∀ (i o:Nat),iI[i]? = some o→M2.loc o=qe.loc i:=fun i o hi=>by rw [← FQ];simp only [rn,iW nd hi]
 have KA : ∀ o,posOf iI o=none→M2.loc o=M.loc o:=fun o hp=>by rw [← FQ];simp only [rn,hp]
 have mo : ∀ (i o:Nat),iI[i]? = some o→M2.mu o=qe.mu i:=fun i o hi=>congrArg Prod.fst (lo i o hi)
 have Ap : ∀ o,posOf iI o=none→M2.mu o=M.mu o:=fun o hp=>congrArg Prod.fst (KA o hp)
 have mt : ∀ (i t:Nat),kX[i]? = some t→M2.be t=qe.be i:=fun i t hi=>by rw [← FQ];simp only [rn,iW RF hi]
 have Aq : ∀ t,posOf kX t=none→M2.be t=M.be t:=fun t hp=>by rw [← FQ];simp only [rn,hp]
 have le:Le M s M2 s2:=by
  refine⟨fun b o v hg=>by rw [← mG];exact e.le.G b o v hg,by rw [so,An];omega,fun o hD=> ?_,by rw [st,Ao];omega,fun t n' hD rk=> ?_⟩
  ·cases hp:posOf iI o with
   | none=>exact KA o hp
   | some i=>
    have hi:=fA hp
    rw [lo i o hi]
    obtain⟨_,_,_,h1,h2⟩:=fo i o hi
    have mz:i<os.length:=by
     rcases Nat.lt_or_ge i os.length with h | h
     ·exact h
     ·have:=h2 h;omega
    rw [e.le.loc i (by omega),loc i o (h1 mz).2]
  ·cases hp:posOf kX t with
   | none=>
    obtain⟨_,_,h3⟩:=ut t (by rw [st,Ao];omega) hp
    rw [h3]at rk
    exact⟨n',rk,Nat.le_refl _,fun _=>Aq t hp⟩
   | some i=>
    have hi:=fA hp
    obtain⟨_,g1,_,h1,h2⟩:=ft i t hi
    have mz:i<ts.length:=by
     rcases Nat.lt_or_ge i ts.length with h | h
     ·exact h
     ·have:=h2 h;omega
    rw [g1]at rk
    obtain⟨n,h3,h4,h5⟩:=e.le.tk i n' (by omega) rk
    refine⟨n,by rw [← oC i t (h1 mz).2];exact h3,h4,fun eq=> ?_⟩
    rw [mt i t hi,h5 eq,be i t (h1 mz).2]
 have Nn : ∀ {d:D} {v:Value},RD qe s' d v→RD M2 s2 (d.cU iI kX) v:=fun hd=>RD.cU mG
  (fun i hi=>by
   obtain⟨o,ho⟩ : ∃ o,iI[i]? = some o:=by
    rw [Dp];split
    ·rename_i h1;exact⟨_,List.getElem?_eq_getElem h1⟩
    ·exact⟨_,rfl⟩
   exact⟨o,ho,(fo i o ho).1,lo i o ho⟩)
  (fun i hi=>by
   obtain⟨t,ht⟩ : ∃ t,kX[i]? = some t:=by
    rw [Dq];split
    ·rename_i h1;exact⟨_,List.getElem?_eq_getElem h1⟩
    ·exact⟨_,rfl⟩
   exact⟨t,ht,(ft i t ht).1,(ft i t ht).2.1,mt i t ht⟩) hd
 -- blocks that the callee did not know
 have zI : ∀ i,s0.live i→∃ t,ts[i]? = some t∧s.live t:=fun i ⟨n,hn⟩=>by
  have hD:=(List.getElem?_eq_some_iff.1 hn).1
  have e1:ts[i]? = some ts[i]:=List.getElem?_eq_getElem (by omega)
  exact⟨_,e1,n,by rw [← oC i _ e1];exact hn⟩
 have Dr : ∀ b,b<w.heap.size→(∀ (i o:Nat),os[i]? = some o→M.mu o≠b)→(∀ (i t:Nat) c z,ts[i]? = some t→s.live t→M.be t≠some (b,c,z))→
  w'.heap[b]? = w.heap[b]? ∧∀ off,qe.G b off=M.G b off:=by
  intro b hb h1 h2
  refine⟨e.kept b hb (fun i hi=> ?_) (fun i c z hl=> ?_),fun off=> ?_⟩
  ·have e1:os[i]? = some os[i]:=List.getElem?_eq_getElem (by omega)
   rw [mu i _ e1];exact h1 i _ e1
  ·obtain⟨t,e1,hD⟩:=zI i hl
   rw [be i t e1];exact h2 i t c z e1 hD
  ·apply Classical.byContradiction
   intro dS
   rcases e.oB b off dS with h3 | ⟨i,c,z,hl,h3⟩
   ·omega
   ·obtain⟨t,e1,hD⟩:=zI i hl
    rw [be i t e1]at h3
    exact h2 i t c z e1 hD h3
 have KB : ∀ o,o<s.au.length→o∉os→w'.heap[M.mu o]? = w.heap[M.mu o]? ∧∀ off,qe.G (M.mu o) off=M.G (M.mu o) off:=fun o hD kY=>
  Dr _ (r.mr hD) (fun i o' h1 h2=>kY (by rw [← r.inj o' o (ln o' (List.mem_of_getElem? h1)) hD h2];exact List.mem_of_getElem? h1))
   (fun i t c z _ hl h2=>r.dN t _ c z o hl h2 hD rfl)
 have Qh : ∀ t b c z,s.live t→t∉ts→M.be t=some (b,c,z)→w'.heap[b]? = w.heap[b]? ∧∀ off,qe.G b off=M.G b off:=fun t b c z hl kY hb=>
  Dr b (r.oW hl hb) (fun i o h1=>r.dN t b c z o hl hb (ln o (List.mem_of_getElem? h1)))
   (fun i t' c' z' h1 ll h2=>kY (by rw [r.eC t t' b c z c' z' hl ll hb h2];exact List.mem_of_getElem? h1))
 have lv : ∀ t,s2.live t→(∃ i,kX[i]? = some t∧s'.live i)∨(posOf kX t=none∧s.live t∧t∉ts):=by
  rintro t ⟨n,hn⟩
  cases hp:posOf kX t with
  | none=>
   obtain⟨h1,h2,h3⟩:=ut t (List.getElem?_eq_some_iff.1 hn).1 hp
   exact .inr ⟨rfl,⟨n,by rw [← h3];exact hn⟩,h2⟩
  | some i=>
   have hi:=fA hp
   exact .inl ⟨i,hi,n,by rw [← (ft i t hi).2.1];exact hn⟩
 -- where a framed object lies
 have KD : ∀ (i o:Nat),iI[i]? = some o→(o<s.au.length∧o∈os∧qe.mu i=M.mu o)∨w.heap.size≤qe.mu i:=by
  intro i o hi
  obtain⟨_,_,h1,h2,h3⟩:=fo i o hi
  rcases Nat.lt_or_ge i os.length with h | h
  ·refine .inl ⟨(h2 h).1,List.mem_of_getElem? (h2 h).2, ?_⟩
   rw [e.le.mu i (by omega),mu i o (h2 h).2]
  ·exact .inr (e.mj i (by omega) h1)
 have KE : ∀ (i t b c z:Nat),kX[i]? = some t→s'.live i→qe.be i=some (b,c,z)→(s.live t∧t∈ts∧∃ c' z',M.be t=some (b,c',z'))∨w.heap.size≤b:=by
  intro i t b c z hi hl hb
  rcases e.ml i b c z hl hb with ⟨h1,c',z',h2⟩ | h1
  ·obtain⟨t',e1,hD⟩:=zI i h1
   have mz:=(List.getElem?_eq_some_iff.1 e1).1
   obtain⟨_,_,_,h3,_⟩:=ft i t hi
   have:=(h3 mz).2
   rw [e1]at this;cases this
   rw [be i _ e1]at h2
   exact .inl ⟨hD,List.mem_of_getElem? e1,c',z',h2⟩
  ·exact .inr h1
 refine⟨M2,d.cU iI kX,v,s2,rfl,nk, ?_, ?_,Nn hv⟩
 ·-- Ext
  refine⟨le,fun b hb h1 h2=> ?_,fun o h1 h2=> ?_,fun t b c z hl hb=> ?_,fun b off dS=> ?_,e.size,e.os,e.tape,e.output⟩
  ·exact(Dr b hb (fun i o h3=>h1 o (ln o (List.mem_of_getElem? h3))) (fun i t c z _ hl=>h2 t c z hl)).1
  ·cases hp:posOf iI o with
   | none=>have:=(uo o h2 hp).1;omega
   | some i=>
    have hi:=fA hp
    rw [mo i o hi]
    rcases KD i o hi with ⟨h3,_⟩ | h3
    ·omega
    ·exact h3
  ·rcases lv t hl with ⟨i,hi,ll⟩ | ⟨hp,ll,_⟩
   ·rw [mt i t hi]at hb
    rcases KE i t b c z hi ll hb with ⟨h1,_,h2⟩ | h1
    ·exact .inl ⟨h1,h2⟩
    ·exact .inr h1
   ·rw [Aq t hp]at hb
    exact .inl ⟨ll,c,z,hb⟩
  ·rw [← mG]at dS
   rcases e.oB b off dS with h1 | ⟨i,c,z,hl,hb⟩
   ·exact .inl h1
   ·obtain⟨t,e1,hD⟩:=zI i hl
    rw [be i t e1]at hb
    exact .inr ⟨t,c,z,hD,hb⟩
 ·-- Rel
  refine⟨fun b o v hg=>r'.comm b o v (by rw [mG];exact hg),fun o ds wv=> ?_,fun o hD off=> ?_,fun o o' hD sJ heq=> ?_,fun t n hn=> ?_,fun t b c z o hl hb hD=> ?_,fun t t' b c z c' z' hl ll hb qf=> ?_⟩
  ·cases hp:posOf iI o with
   | some i=>
    have hi:=fA hp
    obtain⟨_,g1,_⟩:=fo i o hi
    rw [g1]at wv
    obtain⟨kC,h1,rfl⟩:=Option.map_eq_some_iff.1 wv
    obtain⟨vs,T,h2,h3,h4,h5⟩:=r'.obj i kC h1
    refine⟨vs,T,by rw [mo i o hi,show M2.ob o=qe.ob i from congrArg Prod.snd (lo i o hi)];exact h2,by rw [er];simpa using h3,⟨h4.1,by rw [show M2.ty o=qe.ty i from congrArg (fun x=>x.2.ty?) (lo i o hi)];exact h4.2⟩,fun j d v e1 e2=> ?_⟩
    rw [er]at e1
    simp only [List.getElem?_map,Option.map_eq_some_iff]at e1
    obtain⟨d',e1,rfl⟩:=e1
    exact Nn (h5 j d' v e1 e2)
   | none=>
    obtain⟨h1,h2,h3⟩:=uo o (List.getElem?_eq_some_iff.1 wv).1 hp
    rw [h3]at wv
    obtain⟨vs,T,g1,g2,g3,g4⟩:=r.obj o ds wv
    exact⟨vs,T,by rw [Ap o hp,(KB o h1 h2).1,show M2.ob o=M.ob o from congrArg Prod.snd (KA o hp)];exact g1,g2,⟨g3.1,by rw [show M2.ty o=M.ty o from congrArg (fun x=>x.2.ty?) (KA o hp)];exact g3.2⟩,fun j d v e1 e2=>(g4 j d v e1 e2).mono le⟩
  ·cases hp:posOf iI o with
   | some i=>
    have hi:=fA hp
    rw [mo i o hi, ← mG];exact r'.im i (fo i o hi).2.2.1 off
   | none=>
    obtain⟨h1,h2,h3⟩:=uo o hD hp
    rw [Ap o hp, ← mG,(KB o h1 h2).2 off];exact r.im o h1 off
  ·cases hp:posOf iI o with
   | some i=>
    have hi:=fA hp
    rw [mo i o hi]at heq
    cases kH:posOf iI o' with
    | some i'=>
     have fW:=fA kH
     rw [mo i' o' fW]at heq
     have:=r'.inj i i' (fo i o hi).2.2.1 (fo i' o' fW).2.2.1 heq
     subst this
     rw [hi]at fW;cases fW;rfl
    | none=>
     obtain⟨h1,h2,_⟩:=uo o' sJ kH
     rw [Ap o' kH]at heq
     rcases KD i o hi with ⟨h3,h4,h5⟩ | h3
     ·rw [h5]at heq
      have:=r.inj o o' h3 h1 heq
      subst this;exact(h2 h4).elim
     ·have:=r.mr h1;omega
   | none=>
    obtain⟨h1,h2,_⟩:=uo o hD hp
    rw [Ap o hp]at heq
    cases kH:posOf iI o' with
    | some i'=>
     have fW:=fA kH
     rw [mo i' o' fW]at heq
     rcases KD i' o' fW with ⟨h3,h4,h5⟩ | h3
     ·rw [h5]at heq
      have:=r.inj o o' h1 h3 heq
      subst this;exact(h2 h4).elim
     ·have:=r.mr h1;omega
    | none=>
     obtain⟨np,_,_⟩:=uo o' sJ kH
     rw [Ap o' kH]at heq
     exact r.inj o o' h1 np heq
  ·rcases lv t ⟨n,hn⟩with ⟨i,hi,hl⟩ | ⟨hp,hl,kY⟩
   ·rw [mt i t hi, ← mG]
    exact r'.tok i n (by rw [← (ft i t hi).2.1];exact hn)
   ·obtain⟨_,_,h3⟩:=ut t (List.getElem?_eq_some_iff.1 hn).1 hp
    rw [h3]at hn
    rw [Aq t hp]
    rcases r.tok t n hn with h4 | ⟨b,cap,size,vs,T,g1,g2,g3,g4,g5⟩
    ·exact .inl h4
    ·obtain⟨k1,k2⟩:=Qh t b cap size hl kY g1
     exact .inr ⟨b,cap,size,vs,T,g1,by rw [k1];exact g2,g3,g4,fun off ho=>by rw [← mG,k2 off];exact g5.1 off ho,g5.2⟩
  ·rcases lv t hl with ⟨i,hi,ll⟩ | ⟨hp,ll,kY⟩
   ·rw [mt i t hi]at hb
    cases As:posOf iI o with
    | some j=>
     have hj:=fA As
     rw [mo j o hj]
     exact r'.dN i b c z j ll hb (fo j o hj).2.2.1
    | none=>
     obtain⟨h1,h2,_⟩:=uo o hD As
     rw [Ap o As]
     rcases KE i t b c z hi ll hb with ⟨h3,_,c',z',h4⟩ | h3
     ·exact r.dN t b c' z' o h3 h4 h1
     ·have:=r.mr h1;omega
   ·rw [Aq t hp]at hb
    cases As:posOf iI o with
    | some j=>
     have hj:=fA As
     rw [mo j o hj]
     rcases KD j o hj with ⟨h3,_,h5⟩ | h3
     ·rw [h5];exact r.dN t b c z o ll hb h3
     ·have:=r.oW ll hb;omega
    | none=>
     obtain⟨h1,_,_⟩:=uo o hD As
     rw [Ap o As];exact r.dN t b c z o ll hb h1
  ·rcases lv t hl with ⟨i,hi,sL⟩ | ⟨hp,hD,kY⟩
   ·rw [mt i t hi]at hb
    rcases lv t' ll with ⟨i',fW,Ig⟩ | ⟨kH,sJ,KF⟩
    ·rw [mt i' t' fW]at qf
     have:=r'.eC i i' b c z c' z' sL Ig hb qf
     subst this
     rw [hi]at fW;cases fW;rfl
    ·rw [Aq t' kH]at qf
     rcases KE i t b c z hi sL hb with ⟨h3,h4,c2,z2,h5⟩ | h3
     ·have:=r.eC t t' b c2 z2 c' z' h3 sJ h5 qf
      subst this;exact(KF h4).elim
     ·have:=r.oW sJ qf;omega
   ·rw [Aq t hp]at hb
    rcases lv t' ll with ⟨i',fW,Ig⟩ | ⟨kH,sJ,KF⟩
    ·rw [mt i' t' fW]at qf
     rcases KE i' t' b c' z' fW Ig qf with ⟨h3,h4,c2,z2,h5⟩ | h3
     ·have:=r.eC t t' b c z c2 z2 hD h3 hb h5
      subst this;exact(kY h4).elim
     ·have:=r.oW hD hb;omega
    ·rw [Aq t' kH]at qf
     exact r.eC t t' b c z c' z' hD sJ hb qf
end Go.Abs

/-! Walk -/

namespace Go.Abs
def Wk (d d':D):Prop:=∀ (M:Map) (s:St) (v:Value),RD M s d v→RD M s d' v
inductive jB:List D→List D→Prop where
 | nil:jB [] []
 | cons {d d':D} {l l':List D} (h:Wk d d') (t:jB l l'):jB (d::l) (d'::l')
inductive fK:List (List D)→List (List D)→Prop where
 | nil:fK [] []
 | cons {r r':List D} {l l':List (List D)} (h:jB r r') (t:fK l l'):fK (r::l) (r'::l')
theorem Wk.refl (d:D):Wk d d:=fun _ _ _ h=>h
theorem Wk.trans {a b c:D} (h:Wk a b) (k:Wk b c):Wk a c:=fun M s v r=>k M s v (h M s v r)
theorem Wk.junk (d:D):Wk d .junk:=fun _ _ v _=> .junk v
theorem jB.refl : ∀ l,jB l l
 | []=> .nil
 | d::l=> .cons (Wk.refl d) (jB.refl l)
theorem fK.refl : ∀ l,fK l l
 | []=> .nil
 | d::l=> .cons (jB.refl d) (fK.refl l)
theorem jB.len {l l':List D} (h:jB l l'):l.length=l'.length:=by
 induction h with
 | nil=>rfl
 | cons _ _ ih=>simp [ih]
theorem fK.len {l l':List (List D)} (h:fK l l'):l.length=l'.length:=by
 induction h with
 | nil=>rfl
 | cons _ _ ih=>simp [ih]
theorem jB.get {l l':List D} (h:jB l l') : ∀ {i:Nat} {d':D},l'[i]? = some d'→∃ d,l[i]? = some d∧Wk d d':=by
 induction h with
 | nil=>intro i d' e;simp at e
 | cons hd _ ih=>
  intro i d' e
  cases i with
  | zero=>simp at e;subst e;exact⟨_,rfl,hd⟩
  | succ i=>simp at e;simpa using ih e
theorem fK.get {l l':List (List D)} (h:fK l l') : ∀ {i:Nat} {d':List D},l'[i]? = some d'→∃ d,l[i]? = some d∧jB d d':=by
 induction h with
 | nil=>intro i d' e;simp at e
 | cons hd _ ih=>
  intro i d' e
  cases i with
  | zero=>simp at e;subst e;exact⟨_,rfl,hd⟩
  | succ i=>simp at e;simpa using ih e
theorem fK.append {a a' b b':List (List D)} (h:fK a a') (k:fK b b'):fK (a++b) (a'++b'):=by
 induction h with
 | nil=>exact k
 | cons hd _ ih=>exact .cons hd ih
theorem Wk.agg {l l':List D} (h:jB l l'):Wk (.agg l) (.agg l'):=by
 intro M s v r
 cases r with
 | agg _ vs hl h1 hr=>
  refine .agg _ vs (by rw [← hl,h.len]) h1 fun i d' u e e2=> ?_
  obtain⟨d,e1,hw⟩:=h.get e
  exact hw M s u (hr i d u e1 e2)
theorem Wk.tuple {l l':List D} (h:jB l l'):Wk (.tuple l) (.tuple l'):=by
 intro M s v r
 cases r with
 | tuple _ vs hl hr=>
  refine .tuple _ vs (by rw [← hl,h.len]) fun i d' u e e2=> ?_
  obtain⟨d,e1,hw⟩:=h.get e
  exact hw M s u (hr i d u e1 e2)
theorem Wk.rows {g:Tag} {z:Nat} {l l':List (List D)} (h:fK l l'):Wk (.slice g z l) (.slice g z l'):=by
 intro M s v r
 cases r with
 | gf _ _ cap hc ht=>cases h;exact .gf _ _ _ hc ht
 | jU _ a cap=>cases h;exact .jU _ a cap
 | slice _ _ _ b k cap hl hs h1 h2 ht=>
  rw [h.len]
  refine .slice g z l' b k cap (by rw [← h.len];exact hl) (fun row hm=> ?_) (fun i row j d e e2=> ?_) (fun i row j d u e e2 eu=> ?_) (by rw [← h.len];exact ht)
  ·obtain⟨i,hi,he⟩:=List.mem_iff_getElem.1 hm
   obtain⟨r0,g1,g2⟩:=h.get (i:=i) (by rw [List.getElem?_eq_getElem hi,he])
   rw [← g2.len];exact hs r0 (List.mem_of_getElem? g1)
  ·obtain⟨r0,g1,g2⟩:=h.get e
   obtain⟨d0,g3,_⟩:=g2.get e2
   exact h1 i r0 j d0 g1 g3
  ·obtain⟨r0,g1,g2⟩:=h.get e
   obtain⟨d0,g3,g4⟩:=g2.get e2
   exact g4 M s u (h2 i r0 j d0 u g1 g3 eu)
theorem Wk.shared (g:Tag) (z:Nat) (l:List (List D)):Wk (.slice g z l) (.slice .shared z l):=by
 intro M s v r
 cases r with
 | gf _ _ cap hc ht=>exact .gf _ _ _ hc trivial
 | jU _ a cap=>exact .jU _ a cap
 | slice _ _ _ b k cap hl hs h1 h2 ht=>exact .slice _ _ _ b k cap hl hs h1 h2 trivial
theorem Wk.slice {g:Tag} {z:Nat} {l l':List (List D)} (h:fK l l'):Wk (.slice g z l) (.slice .shared z l'):=(Wk.shared g z l).trans (Wk.rows h)
theorem Wk.nil (g:Tag) (z z':Nat):Wk (.slice g z []) (.slice .shared z' []):=by
 intro M s v r
 cases r with
 | gf _ _ cap hc ht=>exact .gf _ _ _ hc trivial
 | jU _ a cap=>exact .jU _ a cap
 | slice _ _ _ b k cap hl hs h1 h2 ht=>exact .slice _ _ [] b k cap hl (by simp) (by simp) (by simp) trivial
theorem Wk.SA (z z':Nat):Wk (.slice .full z []) (.slice .full z' []):=by
 intro M s v r
 cases r with
 | gf _ _ cap hc ht=>exact .gf _ _ _ hc ht
 | slice _ _ _ b k cap hl hs h1 h2 ht=>exact .slice _ _ [] b k cap hl (by simp) (by simp) (by simp) ht
theorem Rel.Au {M:Map} {s:St} {w:World} {au:List (List D)} (r:Rel M s w) (h:fK s.au au):Rel M ⟨au,s.av⟩ w∧Le M s M ⟨au,s.av⟩:=by
 have le:Le M s M ⟨au,s.av⟩:=⟨fun _ _ _ h=>h,Nat.le_of_eq h.len,fun _ _=>rfl,Nat.le_refl _,fun t n' _ e=>⟨n',e,Nat.le_refl _,fun _=>rfl⟩⟩
 have hl:=h.len
 refine⟨⟨r.comm,fun o ds e=> ?_,fun o ho=>r.im o (by rw [hl];exact ho),fun o o' ho jR=>r.inj o o' (by rw [hl];exact ho) (by rw [hl];exact jR),r.tok,
  fun t b c z o hv e ho=>r.dN t b c z o hv e (by rw [hl];exact ho),r.eC⟩,le⟩
 obtain⟨RG,g1,g2⟩:=h.get e
 obtain⟨vs,T,h1,h2,h3,h4⟩:=r.obj o RG g1
 refine⟨vs,T,h1,by rw [h2,g2.len],h3,fun i d v e1 e2=> ?_⟩
 obtain⟨d0,k1,k2⟩:=g2.get e1
 exact(k2 _ _ _ (h4 i d0 v k1 e2)).mono le
theorem Rel.blank {M:Map} {s:St} {w:World} (r:Rel M s w) :
 Rel (M.dg s.av.length none) {s with av:=s.av++ [some 0]} w∧Le M s (M.dg s.av.length none) {s with av:=s.av++ [some 0]}:=by
 have fp : ∀ t,St.live {s with av:=s.av++ [some 0]} t→s.live t∨t=s.av.length:=by
  rintro t ⟨k,hk⟩
  rcases Nat.lt_or_ge t s.av.length with h | h
  ·rw [List.getElem?_append_left h]at hk;exact .inl ⟨k,hk⟩
  ·have:=(List.getElem?_eq_some_iff.1 hk).1
   simp at this;exact .inr (by omega)
 have hD : ∀ t,s.live t→t<s.av.length:=fun t ⟨k,hk⟩=>(List.getElem?_eq_some_iff.1 hk).1
 have hold : ∀ t,t<s.av.length→(M.dg s.av.length none).be t=M.be t:=fun t h=>by simp [Map.dg];omega
 have c7:(M.dg s.av.length none).be s.av.length=none:=by simp [Map.dg]
 have le:Le M s (M.dg s.av.length none) {s with av:=s.av++ [some 0]}:=
  ⟨fun _ _ _ h=>h,Nat.le_refl _,fun _ _=>rfl,by simp,fun t k h e=>by
   rw [List.getElem?_append_left h]at e
   exact⟨k,e,Nat.le_refl _,fun _=>hold t h⟩⟩
 refine⟨⟨r.comm,fun o ds e=> ?_,r.im,r.inj,fun t k e=> ?_,fun t b' c z o hl e jR=> ?_,fun t t' b' c z c' z' h h' e e'=> ?_⟩,le⟩
 ·obtain⟨dY,T',h3,h4,h5,h6⟩:=r.obj o ds e
  exact⟨dY,T',h3,h4,h5,fun i d v e1 e2=>(h6 i d v e1 e2).mono le⟩
 ·rcases Nat.lt_or_ge t s.av.length with h | h
  ·rw [List.getElem?_append_left h]at e
   rw [hold t h];exact r.tok t k e
  ·have:=(List.getElem?_eq_some_iff.1 e).1
   simp at this
   have:t=s.av.length:=by omega
   subst this
   simp at e;subst e
   exact .inl ⟨c7,rfl⟩
 ·rcases fp t hl with h | h
  ·rw [hold t (hD t h)]at e;exact r.dN t b' c z o h e jR
  ·subst h;rw [c7]at e;cases e
 ·rcases fp t h with h | h <;> rcases fp t' h' with h' | h'
  ·rw [hold t (hD t h)]at e;rw [hold t' (hD t' h')]at e';exact r.eC t t' b' c z c' z' h h' e e'
  ·subst h';rw [c7]at e';cases e'
  ·subst h;rw [c7]at e;cases e
  ·omega
theorem RD.own {M:Map} {s:St} {z z':Nat} {v:Value} (h:RD M s (.slice .full z []) v):RD (M.dg s.av.length none) {s with av:=s.av++ [some 0]} (.slice (.tok s.av.length) z' []) v:=by
 have key : ∀ base:Option (Nat×Nat),fy (M.dg s.av.length none) {s with av:=s.av++ [some 0]} (.tok s.av.length) z' 0 base 0:=by
  intro base
  refine⟨by simp,fun n e=> ?_⟩
  simp at e
  subst e
  exact⟨Nat.le_refl _,fun _=> .inl ⟨by simp [Map.dg],rfl,fun h=>by cases h⟩⟩
 cases h with
 | gf _ _ cap hc ht=>subst hc;exact .gf _ _ _ rfl (key none)
 | slice _ _ _ b k cap hl hs h1 h2 ht=>
  have:cap=0:=ht
  subst this
  exact .slice _ _ [] b k 0 (Nat.le_refl _) (by simp) (by simp) (by simp) (key _)
section
variable {P:Program} {B:fh} {nt:Nat} {Q:Exit→Tm→St→Prop} {tm:Tm} {s:St}
theorem yq {M0 M:Map} {s0 s:St} {w0 w:World} (e:Ext M0 s0 w0 M s w) (le:Le M s (M.dg s.av.length none) {s with av:=s.av++ [some 0]}) :
 Ext M0 s0 w0 (M.dg s.av.length none) {s with av:=s.av++ [some 0]} w:=by
 refine e.trans ⟨le,fun _ _ _ _=>rfl,fun o h1 h2=>absurd h2 (Nat.not_lt.2 h1),fun t b c z hl eq=> ?_,fun _ _ h=>(h rfl).elim,Nat.le_refl _,rfl,rfl,rfl⟩
 obtain⟨k,hk⟩:=hl
 rcases Nat.lt_or_ge t s.av.length with h | h
 ·refine .inl ⟨⟨k,by rw [List.getElem?_append_left h]at hk;exact hk⟩,c,z, ?_⟩
  have:(M.dg s.av.length none).be t=M.be t:=by simp [Map.dg];omega
  rw [← this];exact eq
 ·have:=(List.getElem?_eq_some_iff.1 hk).1
  simp at this
  have:t=s.av.length:=by omega
  subst this
  simp [Map.dg]at eq
end
def aI (P:Program) (f:Nat) (args:List D) (s:St) (d:D) (s':St):Prop:=dA P f args s fun x y=>x=d∧y=s'
def nE (n m:Nat) (res:List (Nat×Option (Bool×Nat))) (d:D) (s':St):Exit→Tm→St→Prop
 | .normal,tm,s | .ret,tm,s=>∃ l,ay res tm s=some l∧Wk ((az l).fg n m) d∧fK (s.cut n m).au s'.au∧(s.cut n m).av=s'.av
 | _,_,_=>False
theorem dA.Au {P:Program} {f:FuncId} {args wA:List D} {s:St} {Q:D→St→Prop} (ha:jB args wA) (h:dA P f wA s Q):dA P f args s Q:=
 fun M w eH r iD hl hr=>h M w eH r iD (by rw [hl,ha.len]) fun i d v e1 e2=>by
  obtain⟨d0,g1,g2⟩:=ha.get e1
  exact g2 _ _ _ (hr i d0 v g1 e2)
theorem dA.KH {P:Program} {f:FuncId} {args:List D} {s:St} {Q Q':D→St→Prop} (h:dA P f args s Q) (hq : ∀ d s1,Q d s1→∃ d' s',Wk d d'∧fK s1.au s'.au∧s1.av=s'.av∧Q' d' s'):dA P f args s Q':=
 fun M w eH r iD hl ha=>(h M w eH r iD hl ha).mono fun _ _ ⟨M',d,v,s1,h1,h2,h3,h4,h5⟩=>by
  obtain⟨d',s',g1,g2,g3,g4⟩:=hq d s1 h2
  obtain⟨r',le⟩:=h4.Au g2
  have hs:(⟨s'.au,s1.av⟩:St)=s':=by rw [g3]
  rw [hs]at r' le
  refine⟨M',d',v,s',h1,g4,h3.trans ⟨le,fun _ _ _ _=>rfl,fun o h1 h2=> ?_,fun t b c z hl e=> .inl ⟨by obtain⟨n,hn⟩:=hl;exact⟨n,by rw [g3];exact hn⟩,c,z,e⟩,fun _ _ h=>(h rfl).elim,Nat.le_refl _,rfl,rfl,rfl⟩,r',(g1 _ _ _ h5).mono le⟩
  rw [← g2.len]at h2
  exact absurd h2 (Nat.not_lt.2 h1)
theorem aI.intro {P:Program} {f:FuncId} {af:AF} {args:List D} {s:St} {d:D} {s':St} (h0 : ∃ fn,P.funcs[f]? = some fn∧cF P fn=some af) (hl:args.length≤af.ntmps)
 (h : ∀ B:fh,B.s=s→Sem P B af.ntmps af.body (nE s.au.length s.av.length af.results d s') (kG 0 args) s):aI P f args s d s':=by
 obtain⟨fn,hf,hc⟩:=h0
 refine dA.KH (dA.intro (Q:=fun d1 s1=>Wk d1 d∧fK s1.au s'.au∧s1.av=s'.av) hf hc hl fun B hB=>(h B hB).mono fun e tm s1 hr=> ?_) fun d1 s1 ⟨h1,h2,h3⟩=>⟨d,s',h1,h2,h3,rfl,rfl⟩
 subst hB
 cases e with
 | normal=>obtain⟨l,h1,h2,h3,h4⟩:=hr;exact⟨l,h1,_,_,Nat.le_refl _,Nat.le_refl _,h2,h3,h4⟩
 | ret=>obtain⟨l,h1,h2,h3,h4⟩:=hr;exact⟨l,h1,_,_,Nat.le_refl _,Nat.le_refl _,h2,h3,h4⟩
 | exit id=>exact hr.elim
 | goto l=>exact hr.elim
 | panic ch=>exact hr.elim
 | outgrown=>exact hr.elim
theorem aI.use {P:Program} {f:FuncId} {args:List D} {s:St} {d:D} {s':St} {Q:D→St→Prop} (h:aI P f args s d s') (hq:Q d s'):dA P f args s Q:=
 dA.mono h fun x y ⟨h1,h2⟩=>by subst h1;subst h2;exact hq
mutual
theorem nF (os ts:List Nat) : ∀ d,D.ok 0 0 d=true→D.cU os ts d=d
 | .junk,_=>by simp [D.cU]
 | .int k n,_=>by simp [D.cU]
 | .bool b,_=>by simp [D.cU]
 | .str l,_=>by simp [D.cU]
 | .dT,_=>by simp [D.cU]
 | .val v,_=>by simp [D.cU]
 | .dU T o,h=>by simp [D.ok]at h
 | .eR o,h=>by simp [D.ok]at h
 | .eW f cs,h=>by
  simp only [D.ok]at h
  simp only [D.cU,e8 os ts cs h]
 | .ptr o f,h=>by simp [D.ok]at h
 | .cV r f,h=>by
  simp only [D.ok]at h
  simp only [D.cU,e8 os ts r h]
 | .slice g z rows,h=>by
  simp only [D.ok,Bool.and_eq_true]at h
  simp only [D.cU,jS os ts rows h.2]
  cases g with
  | tok t y=>simp [Tag.ok]at h
  | full=>rfl
  | shared=>rfl
 | .agg cs,h=>by
  simp only [D.ok]at h
  simp only [D.cU,e8 os ts cs h]
 | .tuple cs,h=>by
  simp only [D.ok]at h
  simp only [D.cU,e8 os ts cs h]
theorem e8 (os ts:List Nat) : ∀ l,D.bE 0 0 l=true→D.e7 os ts l=l
 | [],_=>by simp [D.e7]
 | d::r,h=>by
  simp only [D.bE,Bool.and_eq_true]at h
  simp only [D.e7,nF os ts d h.1,e8 os ts r h.2]
theorem jS (os ts:List Nat) : ∀ l,D.gM 0 0 l=true→D.oE os ts l=l
 | [],_=>by simp [D.oE]
 | d::r,h=>by
  simp only [D.gM,Bool.and_eq_true]at h
  simp only [D.oE,e8 os ts d h.1,jS os ts r h.2]
end
mutual
theorem xE {n m n' m':Nat} (hn:n≤n') (hm:m≤m') : ∀ d,D.ok n m d=true→D.ok n' m' d=true
 | .junk,_=>rfl
 | .int k n,_=>rfl
 | .bool b,_=>rfl
 | .str l,_=>rfl
 | .dT,_=>rfl
 | .val v,_=>rfl
 | .dU T o,h=>by simp [D.ok]at h ⊢;omega
 | .eR o,h=>by simp [D.ok]at h ⊢;omega
 | .eW f cs,h=>by
  simp only [D.ok]at h ⊢
  exact gF hn hm cs h
 | .ptr o f,h=>by simp only [D.ok,decide_eq_true_eq]at h ⊢;omega
 | .cV r f,h=>by
  simp only [D.ok]at h ⊢
  exact gF hn hm r h
 | .slice g z rows,h=>by
  simp only [D.ok,Bool.and_eq_true]at h ⊢
  refine⟨?_,lV hn hm rows h.2⟩
  cases g with
  | tok t y=>simp only [Tag.ok,decide_eq_true_eq]at h ⊢;omega
  | full=>rfl
  | shared=>rfl
 | .agg cs,h=>by
  simp only [D.ok]at h ⊢
  exact gF hn hm cs h
 | .tuple cs,h=>by
  simp only [D.ok]at h ⊢
  exact gF hn hm cs h
theorem gF {n m n' m':Nat} (hn:n≤n') (hm:m≤m') : ∀ l,D.bE n m l=true→D.bE n' m' l=true
 | [],_=>rfl
 | d::r,h=>by
  simp only [D.bE,Bool.and_eq_true]at h ⊢
  exact⟨xE hn hm d h.1,gF hn hm r h.2⟩
theorem lV {n m n' m':Nat} (hn:n≤n') (hm:m≤m') : ∀ l,D.gM n m l=true→D.gM n' m' l=true
 | [],_=>rfl
 | d::r,h=>by
  simp only [D.gM,Bool.and_eq_true]at h ⊢
  exact⟨gF hn hm d h.1,lV hn hm r h.2⟩
end
def S0:St:=⟨[],[]⟩
section
variable {P:Program} {f:Nat}
theorem aI.pure {args:List D} {d:D} (h:aI P f args S0 d S0) (ha:D.bE 0 0 args=true) (hd:D.ok 0 0 d=true) (s:St):aI P f args s d s:=by
 refine dA.frame [] [] h List.nodup_nil List.nodup_nil (by simp) (by simp) rfl (by simp) rfl (by simp) (by rw [e8 _ _ _ ha]) ha ?_
 rintro _ _ ⟨rfl,rfl⟩
 refine⟨nF _ _ _ hd, ?_⟩
 simp [St.back,iz,S0]
theorem aI.Ih {args row ku:List D} {d:D} (h:aI P f (.ptr 0 0::args) ⟨[row],[]⟩ d ⟨[ku],[]⟩) (ha:D.bE 0 0 args=true) (hr:D.bE 0 0 row=true) (Fu:D.bE 0 0 ku=true) (hd:D.ok 0 0 d=true)
 {s:St} {o:Nat} (ho:s.au[o]? = some row):aI P f (.ptr o 0::args) s d ⟨s.au.set o ku,s.av⟩:=by
 refine dA.frame [o] [] h (by simp) List.nodup_nil (by simpa using (List.getElem?_eq_some_iff.1 ho).1) (by simp) rfl (fun i o' ds e1 e2=> ?_) rfl (by simp) (by simp [D.e7,D.cU,e8 _ _ _ ha])
  (by simp [D.bE,D.ok,gF (Nat.zero_le 1) (Nat.le_refl 0) _ ha]) ?_
 ·cases i with
  | zero=>simp at e1 e2;subst e1;subst e2;exact⟨by rw [e8 _ _ _ hr];exact ho,gF (Nat.zero_le 1) (Nat.le_refl 0) _ hr⟩
  | succ i=>simp at e1
 ·rintro _ _ ⟨rfl,rfl⟩
  refine⟨nF _ _ _ hd, ?_⟩
  simp [St.back,iz,e8 _ _ _ Fu]
end
end Go.Abs
