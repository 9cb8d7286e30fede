/-
  What is proved here: part 0 of the road to the claim (Globs, Abs, Lang, Rel, Sound, Sound2, Sound3, Sound4, Sound5, Sound6, Sound7, SoundM, Sound8, Code, Flow, Call, Frame, Frame2, Walk).
  No conditions.
-/
import GoSem.Core.Value
import Derived.Orders
import Derived.Calls
import Derived.Below
import Derived.Laws.AppendOwn
import Derived.Deep.AppendSrc
import Derived.Laws.StructEq
import Derived.Laws.Slices
import Derived.Laws.Strings
import Derived.Laws.IdiomStrings
import Derived.Laws.BytesString
import Derived.MapKept
import Derived.Scope

set_option linter.unusedSimpArgs false
set_option linter.unusedVariables false

/-! Globs -/

namespace Go.Abs
def L7:Nat→Option (Array Value):=fun _=>none
def k6:TypeId:=1000000
end Go.Abs

/-! Abs -/

namespace Go.Abs
inductive Tag where
 | full
 | shared
 | tok (t:Nat) (byte:Bool:=false) -- 'byte': its row's block bears the bytes' type
inductive D where
 | junk
 | int (k:IntKind) (n:Int)
 | bool (b:Bool)
 | str (s:List UInt8)
 | dR
 | ptr (o off:Nat)
 | cL (row:List D) (off:Nat)
 | slice (g:Tag) (size:Nat) (rows:List (List D))
 | agg (cells:List D)
 | tuple (vs:List D)
 | val (v:Value)
 | dT (T:TypeId) (o:Nat)
 | eW (f:Nat) (jK:List D) -- a function value with what it captured
 | eU (o:Nat) -- a map, kept as an object: keys and values by turns
instance:Inhabited D:=⟨.junk⟩
inductive Ob where
 | any
 | ty (T:TypeId)
 | map
structure Map where
 G:Nat→Nat→Option Value
 loc:Nat→Nat×Ob
 be:Nat→Option (Nat×Nat×Nat)
def Map.mu (M:Map) (o:Nat):Nat:=(M.loc o).1
def Ob.ty? : Ob→Option TypeId
 | .ty T=>some T
 | _=>none
def Map.ob (M:Map) (o:Nat):Ob:=(M.loc o).2
def Map.ty (M:Map) (o:Nat):Option TypeId:=(M.loc o).2.ty?
structure St where
 au:List (List D)
 av:List (Option Nat)
def zs (z:Nat):Nat:=if z=0 then 1 else z
def bz (byte:Bool) (size:Nat):Nat:=match byte with | true=>0 | false=>size
def fw (M:Map) (s:St) (g:Tag) (size len:Nat) (base:Option (Nat×Nat)) (cap:Nat):Prop:=
 match g with
 | .full=>cap=len
 | .shared=>True
 | .tok t y=>t<s.av.length∧∀ n,s.av[t]? = some (some n)→len≤n∧
  (len=n→(M.be t=none∧cap=0∧(y=true→base=none))∨∃ b,base=some (b,0)∧M.be t=some (b,cap,bz y size))
inductive RD (M:Map) (s:St):D→Value→Prop where
 | junk (v:Value):RD M s .junk v
 | int (k:IntKind) (n:Int):RD M s (.int k n) (.int k n)
 | bool (b:Bool):RD M s (.bool b) (.bool b)
 | str (l:List UInt8):RD M s (.str l) (.string ⟨⟨l⟩⟩)
 | dR:RD M s .dR (.pointer none)
 | ptr (o off:Nat) (h:o<s.au.length) (hm:M.ob o≠ .map):RD M s (.ptr o off) (.pointer (some ⟨M.mu o,off,none⟩))
 | cL (row:List D) (off b k:Nat) (h1 : ∀ (i:Nat) (d:D),row[i]? = some d→∃ u,M.G b (k+i)=some u)
  (h2 : ∀ (i:Nat) (d:D) (u:Value),row[i]? = some d→M.G b (k+i)=some u→RD M s d u) :
  RD M s (.cL row off) (.pointer (some ⟨b,k+off,none⟩))
 | gb (g:Tag) (size cap:Nat) (hc:cap=0) (ht:fw M s g size 0 none cap):RD M s (.slice g size []) (.slice none 0 cap)
 | jL (size:Nat) (a:Addr) (cap:Nat):RD M s (.slice .shared size []) (.slice (some a) 0 cap)
 | slice (g:Tag) (size:Nat) (rows:List (List D)) (b k cap:Nat) (hl:rows.length≤cap)
  (hs : ∀ row∈rows,row.length=size)
  (h1 : ∀ (i:Nat) (row:List D) (j:Nat) (d:D),rows[i]? = some row→row[j]? = some d→∃ u,M.G b (k+(i*size+j))=some u)
  (h2 : ∀ (i:Nat) (row:List D) (j:Nat) (d:D) (u:Value),rows[i]? = some row→row[j]? = some d→M.G b (k+(i*size+j))=some u→RD M s d u)
  (ht:fw M s g size rows.length (some (b,k)) cap) :
  RD M s (.slice g size rows) (.slice (some ⟨b,k,none⟩) rows.length cap)
 | agg (cells:List D) (vs:Array Value) (hl:cells.length=vs.size) (h1 : ∀ v∈vs,v.oneCell'=true)
  (h : ∀ (i:Nat) (d:D) (v:Value),cells[i]? = some d→vs[i]? = some v→RD M s d v):RD M s (.agg cells) (.agg vs)
 | tuple (ds:List D) (vs:Array Value) (hl:ds.length=vs.size)
  (h : ∀ (i:Nat) (d:D) (v:Value),ds[i]? = some d→vs[i]? = some v→RD M s d v):RD M s (.tuple ds) (.tuple vs)
 | val (v:Value) (h:v.oneCell'=true):RD M s (.val v) v
 | dT (T:TypeId) (o:Nat) (v:Value) (h:o<s.au.length) (ht:M.ty o=some T) (hv:v = .pointer none∨v = .pointer (some ⟨M.mu o,0,none⟩)):RD M s (.dT T o) v
 | eW (f:Nat) (ds:List D) (vs:Array Value) (hl:ds.length=vs.size)
  (h : ∀ (i:Nat) (d:D) (v:Value),ds[i]? = some d→vs[i]? = some v→RD M s d v):RD M s (.eW f ds) (.func (.func f) #[] vs)
 | eU (o:Nat) (h:o<s.au.length) (hm:M.ob o = .map):RD M s (.eU o) (.map (some (M.mu o)))
structure Le (M:Map) (s:St) (M':Map) (s':St):Prop where
 G : ∀ b o v,M.G b o=some v→M'.G b o=some v
 n:s.au.length≤s'.au.length
 loc : ∀ o,o<s.au.length→M'.loc o=M.loc o
 t:s.av.length≤s'.av.length
 tk : ∀ t n',t<s.av.length→s'.av[t]? = some (some n')→∃ n,s.av[t]? = some (some n)∧n≤n'∧(n'=n→M'.be t=M.be t)
theorem Le.mu {M:Map} {s:St} {M':Map} {s':St} (h:Le M s M' s') : ∀ o,o<s.au.length→M'.mu o=M.mu o:=fun o ho=>congrArg Prod.fst (h.loc o ho)
theorem Le.ob {M:Map} {s:St} {M':Map} {s':St} (h:Le M s M' s') : ∀ o,o<s.au.length→M'.ob o=M.ob o:=fun o ho=>congrArg Prod.snd (h.loc o ho)
theorem Le.ty {M:Map} {s:St} {M':Map} {s':St} (h:Le M s M' s') : ∀ o,o<s.au.length→M'.ty o=M.ty o:=fun o ho=>congrArg (fun x=>x.2.ty?) (h.loc o ho)
theorem Le.refl (M:Map) (s:St):Le M s M s:=⟨fun _ _ _ h=>h,Nat.le_refl _,fun _ _=>rfl,Nat.le_refl _,fun _ n _ h=>⟨n,h,Nat.le_refl _,fun _=>rfl⟩⟩
theorem Le.trans {M M' BL:Map} {s s' ED:St} (h:Le M s M' s') (k:Le M' s' BL ED):Le M s BL ED:=
 ⟨fun b o v e=>k.G b o v (h.G b o v e),Nat.le_trans h.n k.n,fun o ho=>(k.loc o (Nat.lt_of_lt_of_le ho h.n)).trans (h.loc o ho),Nat.le_trans h.t k.t,
  fun t QM ht e=>by
   obtain⟨n',e',l,b⟩:=k.tk t QM (Nat.lt_of_lt_of_le ht h.t) e
   obtain⟨n,EE,l',b'⟩:=h.tk t n' ht e'
   refine⟨n,EE,Nat.le_trans l' l,fun eq=> ?_⟩
   have h1:n'=n:=by omega
   have h2:QM=n':=by omega
   rw [b h2,b' h1]⟩
theorem fw.mono {M M':Map} {s s':St} (h:Le M s M' s') {g:Tag} {size len cap:Nat} {base:Option (Nat×Nat)} (ht:fw M s g size len base cap) :
 fw M' s' g size len base cap:=by
 cases g with
 | full=>exact ht
 | shared=>trivial
 | tok t y=>
  obtain⟨hD,ht⟩:=ht
  refine⟨Nat.lt_of_lt_of_le hD h.t,fun n' e'=> ?_⟩
  obtain⟨n,e,l,b⟩:=h.tk t n' hD e'
  obtain⟨l',b'⟩:=ht n e
  refine⟨Nat.le_trans l' l,fun eq=> ?_⟩
  have h1:n'=n:=by omega
  have h2:len=n:=by omega
  rw [b h1]
  exact b' h2
theorem RD.mono {M M':Map} {s s':St} (h:Le M s M' s') {d:D} {v:Value} (r:RD M s d v):RD M' s' d v:=by
 induction r with
 | junk v=>exact .junk v
 | int k n=>exact .int k n
 | bool b=>exact .bool b
 | str l=>exact .str l
 | dR=>exact .dR
 | ptr o off ho hm=>rw [← h.mu o ho];exact .ptr o off (Nat.lt_of_lt_of_le ho h.n) (by rw [h.ob o ho];exact hm)
 | cL row off b k h1 h2 ih=>
  refine .cL row off b k (fun i d e=> ?_) (fun i d u e eu=> ?_)
  ·obtain⟨u,hu⟩:=h1 i d e;exact⟨u,h.G _ _ _ hu⟩
  ·obtain⟨u',hu⟩:=h1 i d e
   have:=h.G _ _ _ hu
   rw [eu]at this
   cases this
   exact ih i d u e hu
 | gb g size cap hc ht=>exact .gb g size cap hc (ht.mono h)
 | jL size a cap=>exact .jL size a cap
 | slice g size rows b k cap hl hs h1 h2 ht ih=>
  refine .slice g size rows b k cap hl hs (fun i row j d e e2=> ?_) (fun i row j d u e e2 eu=> ?_) (ht.mono h)
  ·obtain⟨u,hu⟩:=h1 i row j d e e2;exact⟨u,h.G _ _ _ hu⟩
  ·obtain⟨u',hu⟩:=h1 i row j d e e2
   have:=h.G _ _ _ hu
   rw [eu]at this
   cases this
   exact ih i row j d u e e2 hu
 | agg cells vs hl h1 _ ih=>exact .agg cells vs hl h1 ih
 | tuple ds vs hl _ ih=>exact .tuple ds vs hl ih
 | val v hv=>exact .val v hv
 | dT T o v ho ht hv=>exact .dT T o v (Nat.lt_of_lt_of_le ho h.n) (by rw [h.ty o ho];exact ht) (by rw [h.mu o ho];exact hv)
 | eW f ds vs hl _ ih=>exact .eW f ds vs hl ih
 | eU o ho hm=>rw [← h.mu o ho];exact .eU o (Nat.lt_of_lt_of_le ho h.n) (by rw [h.ob o ho];exact hm)
def St.live (s:St) (t:Nat):Prop:=∃ n,s.av[t]? = some (some n)
def fb:List MapEntry→List Value
 | []=> []
 | e::l=>e.key::e.val::fb l
def ji (x:Option Obj) (k:Ob) (vs:Array Value) (T:TypeId):Prop:=
 match k with
 | .map=>∃ es ck,x=some (.map es ck)∧vs.toList=fb es.toList
 | _=>x=some (.cells vs T (0,0))
theorem ji.cells {x:Option Obj} {k:Ob} {vs:Array Value} {T:TypeId} (h:ji x k vs T) (hk:k≠ .map):x=some (.cells vs T (0,0)):=by
 cases k with
 | map=>exact absurd rfl hk
 | any=>exact h
 | ty _=>exact h
theorem ji.of {x:Option Obj} {k:Ob} {vs:Array Value} {T:TypeId} (h:x=some (.cells vs T (0,0))) (hk:k≠ .map):ji x k vs T:=by
 cases k with
 | map=>exact absurd rfl hk
 | any=>exact h
 | ty _=>exact h
theorem ji.some {x:Option Obj} {k:Ob} {vs:Array Value} {T:TypeId} (h:ji x k vs T) : ∃ o,x=some o:=by
 cases k with
 | map=>obtain⟨es,ck,h,_⟩:=h;exact⟨_,h⟩
 | any=>exact⟨_,h⟩
 | ty _=>exact⟨_,h⟩
theorem ji.lt {w:World} {b:Nat} {k:Ob} {vs:Array Value} {T:TypeId} (h:ji w.heap[b]? k vs T):b<w.heap.size:=by
 obtain⟨o,h⟩:=h.some
 exact(Array.getElem?_eq_some_iff.1 h).1
structure Rel (M:Map) (s:St) (w:World):Prop where
 comm : ∀ b o v,M.G b o=some v→w.cell? ⟨b,o,none⟩=some v∧v.oneCell'=true
 obj : ∀ (o:Nat) (ds:List D),s.au[o]? = some ds→∃ (vs:Array Value) (T:TypeId),ji w.heap[M.mu o]? (M.ob o) vs T∧vs.size=ds.length∧
  ((∀ v∈vs,v.oneCell'=true)∧∀ T',M.ty o=some T'→T'=T)∧∀ (i:Nat) (d:D) (v:Value),ds[i]? = some d→vs[i]? = some v→RD M s d v
 hZ : ∀ o,o<s.au.length→∀ off,M.G (M.mu o) off=none
 inj : ∀ o o',o<s.au.length→o'<s.au.length→M.mu o=M.mu o'→o=o'
 tok : ∀ t n,s.av[t]? = some (some n)→(M.be t=none∧n=0)∨∃ (b cap z:Nat) (vs:Array Value) (T:TypeId),M.be t=some (b,cap,z)∧
  w.heap[b]? = some (.cells vs T (0,0))∧vs.size=cap*zs z∧n≤cap∧(∀ off,n*zs z≤off→M.G b off=none)∧(z=0→T=k6)
 dI : ∀ t b c z o,s.live t→M.be t=some (b,c,z)→o<s.au.length→M.mu o≠b
 eA : ∀ t t' b c z c' z',s.live t→s.live t'→M.be t=some (b,c,z)→M.be t'=some (b,c',z')→t=t'
structure Ext (M:Map) (s:St) (w:World) (M':Map) (s':St) (w':World):Prop where
 le:Le M s M' s'
 kept : ∀ b,b<w.heap.size→(∀ o,o<s.au.length→M.mu o≠b)→(∀ t c z,s.live t→M.be t≠some (b,c,z))→w'.heap[b]? = w.heap[b]?
 l8 : ∀ o,s.au.length≤o→o<s'.au.length→w.heap.size≤M'.mu o
 l9 : ∀ t b c z,s'.live t→M'.be t=some (b,c,z)→(s.live t∧∃ c' z',M.be t=some (b,c',z'))∨w.heap.size≤b
 n8 : ∀ b o,M'.G b o≠M.G b o→w.heap.size≤b∨∃ t c z,s.live t∧M.be t=some (b,c,z)
 size:w.heap.size≤w'.heap.size
 os:w'.os=w.os
 tape:w'.tape=w.tape
 output:w'.output=w.output
theorem Ext.refl (M:Map) (s:St) (w:World):Ext M s w M s w:=
 ⟨Le.refl M s,fun _ _ _ _=>rfl,fun o h h'=>by omega,fun t b c z h e=> .inl ⟨h,c,z,e⟩,fun _ _ h=>(h rfl).elim,Nat.le_refl _,rfl,rfl,rfl⟩
theorem Ext.trans {M M' BL:Map} {s s' ED:St} {w w' QN:World} (h:Ext M s w M' s' w') (k:Ext M' s' w' BL ED QN):Ext M s w BL ED QN:=by
 refine⟨h.le.trans k.le,fun b hb ho ht=> ?_,fun o h1 h2=> ?_,fun t b c z h1 e=> ?_,fun b o dQ=> ?_,Nat.le_trans h.size k.size,
  k.os.trans h.os,k.tape.trans h.tape,k.output.trans h.output⟩
 ·rw [k.kept b (Nat.lt_of_lt_of_le hb h.size) (fun o hD e=> ?_) (fun t c z hD e=> ?_),h.kept b hb ho ht]
  ·rcases Nat.lt_or_ge o s.au.length with h1 | h1
   ·exact ho o h1 ((h.le.mu o h1).symm.trans e)
   ·have:=h.l8 o h1 hD;omega
  ·rcases h.l9 t b c z hD e with ⟨h1,c',z',e'⟩ | h1
   ·exact ht t c' z' h1 e'
   ·omega
 ·rcases Nat.lt_or_ge o s'.au.length with h3 | h3
  ·rw [k.le.mu o h3];exact h.l8 o h1 h3
  ·exact Nat.le_trans h.size (k.l8 o h3 h2)
 ·rcases k.l9 t b c z h1 e with ⟨h2,c',z',e'⟩ | h2
  ·exact h.l9 t b c' z' h2 e'
  ·exact .inr (Nat.le_trans h.size h2)
 ·by_cases e:M'.G b o=M.G b o
  ·have:BL.G b o≠M'.G b o:=fun e'=>dQ (e'.trans e)
   rcases k.n8 b o this with h1 | ⟨t,c,z,h1,h2⟩
   ·exact .inl (Nat.le_trans h.size h1)
   ·rcases h.l9 t b c z h1 h2 with ⟨h3,c',z',e'⟩ | h3
    ·exact .inr ⟨t,c',z',h3,e'⟩
    ·exact .inl h3
  ·exact h.n8 b o e
def Laid (M:Map) (s:St) (w:World):Prop:=∀ g cs,L7 g=some cs→
 (∃ T fr,w.heap[g]? = some (.cells cs T fr))∧(∀ o,o<s.au.length→M.mu o≠g)∧∀ t c z,s.live t→M.be t≠some (g,c,z)
theorem Laid.ext {M M':Map} {s s':St} {w w':World} (h:Laid M s w) (e:Ext M s w M' s' w'):Laid M' s' w':=by
 intro g cs hg
 obtain⟨⟨T,fr,h1⟩,h2,h3⟩:=h g cs hg
 have hD:g<w.heap.size:=(Array.getElem?_eq_some_iff.1 h1).1
 refine⟨⟨T,fr,by rw [e.kept g hD h2 h3];exact h1⟩,fun o ho=> ?_,fun t c z hl hb=> ?_⟩
 ·rcases Nat.lt_or_ge o s.au.length with h4 | h4
  ·rw [e.le.mu o h4];exact h2 o h4
  ·have:=e.l8 o h4 ho;omega
 ·rcases e.l9 t g c z hl hb with ⟨h4,c',z',h5⟩ | h4
  ·exact h3 t c' z' h4 h5
  ·omega
end Go.Abs

/-! Lang -/

namespace Go.Abs
abbrev Tm:=List (Nat×D)
def Tm.get:Tm→Nat→D
 | [],_=> .junk
 | (k,d)::r,t=>if k=t then d else Tm.get r t
def Tm.set:Tm→Nat→D→Tm
 | [],t,d=> [(t,d)]
 | (k,e)::r,t,d=>if k=t then(k,d)::r else(k,e)::Tm.set r t d
def Tm.put (tm:Tm) (dst:Option Nat) (d:D):Tm:=
 match dst with
 | some t=>tm.set t d
 | none=>tm
inductive X where
 | s (t:Nat)
 | k (d:D)
def X.ev (tm:Tm):X→D
 | .s t=>tm.get t
 | .k d=>d
inductive AO where
 | mv (x:X)
 | pick (c a b:X)
 | alloc (zero:List D)
 | box (x:X)
 | build (zero:List D) (parts:List (Nat×Nat×X))
 | dc (zero:List D) (size n:Nat) (parts:List (Nat×X))
 | o4 (zero:List D) (size n:Nat) (parts:List (Nat×X))
 | sK (x:X)
 | load (x:X) (agg:Bool) (size:Nat)
 | store (p x:X) (size:Nat)
 | fJ (x:X)
 | bin (op:BinOp) (x y:X)
 | xE (neg:Bool) (x y:X)
 | eqs (neg:Bool) (ks:List Nat) (x y:X) -- the fields' kinds: 0 an integer, 1 a bool, 2 a text
 | zi (neg:Bool) (x y:X)
 | un (op:UnOp) (x:X)
 | conv (k:IntKind) (x:X)
 | vy (x:X)
 | qP (x:X)
 | zj (size:Nat) (x:X) (lo hi:Option X)
 | zk (x:X) (lo hi:Option X)
 | aC (x:X) (off:Nat)
 | se (x:X) (off:Nat) (agg:Bool) (size:Nat)
 | bV (x i:X) (size:Nat)
 | sL (x i:X)
 | ext (x:X) (i:Nat)
 | len (x:X)
 | o5 (x:X)
 | app (size bytes:Nat) (x y:X)
 | mm (isMax:Bool) (x y:X)
 | nL (zero:List D) (T:TypeId) -- a new object whose first cell is to hold its own address
 | sM (x:X) (T:TypeId)
 | sN (x y:X) -- bytes behind others
 | apps (x y:X) -- a text's bytes behind others
 | oL (f:Nat) (xs:List X) -- a function value
 | oM
 | rq (m k v:X) -- a text's slice in a map
 | pL (m k:X) (zero:D)
inductive AI where
 | fM (dst:Option Nat) (g:Option (Nat×Bool)) (t:Nat) (xs:List X) -- what a slot holds is called
 | nil (dst:Option Nat) (g:Option (Nat×Bool)) (neg:Bool) (x:X) -- is a slice nil? (of an empty one nothing is known)
 | op (dst:Option Nat) (g:Option (Nat×Bool)) (o:AO)
 | call (dst:Option Nat) (g:Option (Nat×Bool)) (f:Nat) (xs:List X)
inductive AC where
 | skip
 | run (is:List AI)
 | par (is:List AI) (iD:List (Nat×Nat))
 | seq (a b:AC)
 | cond (x:X) (a b:AC)
 | block (id:Nat) (a:AC)
 | loop (a:AC)
 | exit (id:Nat)
 | scope (a:AC)
 | label (l:Nat)
 | goto (l:Nat)
 | ret
structure AF where
 ntmps:Nat
 results:List (Nat×Option (Bool×Nat)) -- a slot; or a slot that holds the address, whether an aggregate, how many cells
 body:AC
inductive AK where
 | pure
 | load
 | alloc
 | core
 deriving DecidableEq
def AO.kind:AO→AK
 | .alloc _=> .core
 | .box _=> .core
 | .o4 .. => .core
 | .sK _=> .core
 | .store .. => .core
 | .app .. => .core
 | .nL .. => .core
 | .sM .. => .core
 | .sN .. => .core
 | .apps .. => .core
 | .oM=> .core
 | .rq .. => .core
 | .pL .. => .load
 | .load .. => .load
 | _=> .pure
def AI.kind:AI→AK
 | .op (some _) none (.alloc _)=> .alloc
 | .op _ _ o=>o.kind
 | _=> .core
def AI.dst:AI→Option Nat
 | .op d _ _=>d
 | .call d _ _ _=>d
 | .nil d _ _ _=>d
 | .fM d _ _ _=>d
def X.reads:X→List Nat
 | .s t=> [t]
 | .k _=> []
def jU:List X→List Nat
 | []=> []
 | x::r=>x.reads++jU r
def sO:Option X→List Nat
 | none=> []
 | some x=>x.reads
def AO.reads:AO→List Nat
 | .mv x=>x.reads
 | .pick c a b=>c.reads++(a.reads++b.reads)
 | .alloc _=> []
 | .box x=>x.reads
 | .build _ ps=>jU (ps.map (·.2.2))
 | .dc _ _ _ ps=>jU (ps.map (·.2))
 | .o4 _ _ _ ps=>jU (ps.map (·.2))
 | .sK x=>x.reads
 | .load x _ _=>x.reads
 | .store p x _=>p.reads++x.reads
 | .fJ x=>x.reads
 | .bin _ x y=>x.reads++y.reads
 | .xE _ x y=>x.reads++y.reads
 | .eqs _ _ x y=>x.reads++y.reads
 | .zi _ x y=>x.reads++y.reads
 | .un _ x=>x.reads
 | .conv _ x=>x.reads
 | .vy x=>x.reads
 | .qP x=>x.reads
 | .zj _ x lo hi=>x.reads++(sO lo++sO hi)
 | .zk x lo hi=>x.reads++(sO lo++sO hi)
 | .aC x _=>x.reads
 | .se x _ _ _=>x.reads
 | .bV x i _=>x.reads++i.reads
 | .sL x i=>x.reads++i.reads
 | .ext x _=>x.reads
 | .len x=>x.reads
 | .o5 x=>x.reads
 | .app _ _ x y=>x.reads++y.reads
 | .mm _ x y=>x.reads++y.reads
 | .nL _ _=> []
 | .sM x _=>x.reads
 | .sN x y=>x.reads++y.reads
 | .apps x y=>x.reads++y.reads
 | .oL _ xs=>jU xs
 | .oM=> []
 | .rq m k v=>m.reads++(k.reads++v.reads)
 | .pL m k _=>m.reads++k.reads
def o6:Option (Nat×Bool)→List Nat
 | none=> []
 | some (t,_)=> [t]
def AI.reads:AI→List Nat
 | .op _ g o=>o6 g++o.reads
 | .call _ g _ xs=>o6 g++jU xs
 | .nil _ g _ x=>o6 g++x.reads
 | .fM _ g t xs=>o6 g++(t::jU xs)
def vA (d:Option Nat) (l:List Nat):Bool:=
 match d with
 | none=>true
 | some t=> !l.contains t
def AI.apart (a q:AI):Bool:=
 vA a.dst q.reads && vA q.dst a.reads && (match a.dst,q.dst with | some x,some y=>x != y | _,_=>true)
def eZ (l:List (List Nat)) (i:Nat):List Nat:=l.getD i []
def fN (is:List AI) (i:Nat):AK:=
 match is[i]? with
 | some a=>a.kind
 | none=> .core
def gW (is:List AI) (i j:Nat):Bool:=
 match is[i]?,is[j]? with
 | some a,some b=>a.apart b
 | _,_=>false
def eK:AK→Bool
 | .core=>true
 | .alloc=>true
 | _=>false
def fQ (is:List AI) (l:List Nat):Nat:=(l.filter fun i=>eK (fN is i)).length
def gQ (is:List AI) (pq:List Nat):List Nat→Bool
 | []=>true
 | a::r=>(!(fN is a == .alloc && pq.contains a) || r.all pq.contains) && gQ is pq r
def kH (is:List AI) (pt:List (List Nat)) (pre:List Nat) (q b:Nat):Bool:=
 match fN is q with
 | .core=>pre.all (eZ pt q).contains
 | .alloc=>pre.all fun a=>gW is a q
 | .pure=>(pre.all fun a=>(eZ pt q).contains a || gW is a q) && gQ is (eZ pt q) pre
 | .load=>(pre.all fun a=>(eZ pt q).contains a || gW is a q) && gQ is (eZ pt q) pre &&
  decide (fQ is (pre.filter fun a=> !(eZ pt q).contains a)≤b)
def oF (is:List AI) (af pt:List (List Nat)):List Nat→List (Nat×Nat)→Bool
 | _,[]=>true
 | pre,(q,b)::r=>kH is pt pre q b && !pre.contains q && ((eZ af q).all fun j=>j != q && !(r.map (·.1)).contains j) && oF is af pt (q::pre) r
def qQ (af pt:List (List Nat)):Nat→Bool
 | 0=>true
 | i+1=>((eZ pt i).all fun j=>(eZ af i).contains j || (eZ af i).any fun k=>(eZ pt k).contains j) && qQ af pt i
def zl (is:List AI) (af pt:List (List Nat)) (iD:List (Nat×Nat)):Bool:=
 qQ af pt is.length && oF is af pt [] iD && (List.range is.length).all (iD.map (·.1)).contains && iD.all (fun p=>decide (p.1<is.length)) &&
  (List.range is.length).all fun i=>(eZ af i).all fun j=>decide (j<is.length)
def jm (o:Oper):List Nat:=(o.after.toList.filter (Region.binds .any)).map (·.on)
def zm:List (List Nat)→List (List Nat)→List (List Nat)
 | done,[]=>done
 | done,es::r=>zm (done++ [(es.flatMap fun k=>eZ done k).foldl (fun l j=>if l.contains j then l else l++ [j]) es]) r
def Jx (is:List AI) (pt:List (List Nat)):List Nat→List Nat→List Nat→List Nat
 | [],rest,out=>out++((rest.filter fun j=>fN is j == .alloc)++rest.filter fun j=> !(fN is j == .alloc))
 | c::cs,rest,out=>
  let Hg:=rest.filter fun j=>(eZ pt c).contains j
  Jx is pt cs (rest.filter fun j=> !(Hg.contains j) && j != c) (out++((Hg.filter fun j=>fN is j == .alloc)++(Hg.filter fun j=> !(fN is j == .alloc))++ [c]))
def Jy (is:List AI) (pt:List (List Nat)):List Nat→List Nat→List (Nat×Nat)
 | _,[]=> []
 | pre,q::r=>(q,if fN is q == .load then fQ is (pre.filter fun a=> !(eZ pt q).contains a)else 0)::Jy is pt (q::pre) r
def EF (is:List AI) (af:List (List Nat)):List (Nat×Nat):=
 let pt:=zm [] af
 let all:=List.range is.length
 Jy is pt [] (Jx is pt (all.filter fun i=>fN is i == .core) all [])
def D.row:D→Option (List D)
 | .agg cs=>some cs
 | .junk=>none
 | .tuple _=>none
 | d=>some [d]
def part (cs:List D) (off:Nat) (agg:Bool) (size:Nat):Option D:=
 match agg with
 | true=>if off+size≤cs.length then some (.agg ((cs.drop off).take size))else none
 | false=>cs[off]?
def fY (cs:List D) (off:Nat) (r:List D):List D:=cs.take off++r++cs.drop (off+r.length)
def ma (cells:List D):List (Nat×Nat×D)→Option (List D)
 | []=>some cells
 | (off,size,d)::rest=>
  match d.row with
  | none=>none
  | some r=>if r.length=size∧off+size≤cells.length then ma (fY cells off r) rest else none
def fC (zero:List D):Nat→List (List D)
 | 0=> []
 | n+1=>zero::fC zero n
def gd (size:Nat) (rows:List (List D)):List (Nat×D)→Option (List (List D))
 | []=>some rows
 | (i,d)::rest=>
  match d.row with
  | none=>none
  | some r=>if r.length=size∧i<rows.length then gd size (rows.set i r) rest else none
def bytesLess:List UInt8→List UInt8→Bool:=Op.bytesLess
def bH:Nat:=1099511627776
def eh (op:BinOp) (k:IntKind) (a b:Int):Option D:=
 match op with
 | .add=>some (.int k (k.wrap (a+b)))
 | .sub=>some (.int k (k.wrap (a - b)))
 | .mul=>some (.int k (k.wrap (a*b)))
 | .quo=>if b=0 then none else some (.int k (k.wrap (a.tdiv b)))
 | .rem=>if b=0 then none else some (.int k (a.tmod b))
 | .eql=>some (.bool (a==b))
 | .neq=>some (.bool (a != b))
 | .lss=>some (.bool (decide (a<b)))
 | .leq=>some (.bool (decide (a≤b)))
 | .gtr=>some (.bool (decide (a > b)))
 | .geq=>some (.bool (decide (a≥b)))
 | _=>none
def jV (op:BinOp) (a b:List UInt8):Option D:=
 match op with
 | .add=>if a.length+b.length≤bH then some (.str (a++b))else none
 | .eql=>some (.bool (a==b))
 | .neq=>some (.bool (!(a==b)))
 | .lss=>some (.bool (bytesLess a b))
 | _=>none
def qp (op:BinOp) (x y:D):Option D:=
 match x,y with
 | .int k a, .int k' b=>if k=k' then eh op k a b else none
 | .str a, .str b=>jV op a b
 | _,_=>none
def jn:Nat→D→D→Option Bool
 | 0, .int k a, .int k' b=>if k=k' then some (a==b)else none
 | 1, .bool a, .bool b=>some (a==b)
 | 2, .str a, .str b=>some (a==b)
 | _,_,_=>none
def gX:List Nat→List D→List D→Option Bool
 | [],[],[]=>some true
 | k::ks,x::xs,y::ys=>
  match jn k x y with
  | none=>none
  | some true=>gX ks xs ys
  | some false=>some false
 | _,_,_=>none
def zn (op:UnOp) (x:D):Option D:=
 match op,x with
 | .neg, .int k n=>some (.int k (k.wrap (0 - n)))
 | .not, .bool b=>some (.bool (!b))
 | _,_=>none
def xF:List D→Option UInt8
 | [.int .u8 n]=>some (UInt8.ofNat n.toNat)
 | _=>none
def ke:List (List D)→Option (List UInt8)
 | []=>some []
 | r::rs=>
  match xF r,ke rs with
  | some b,some bs=>some (b::bs)
  | _,_=>none
def Tag.cut (g:Tag) (whole:Bool):Tag:=
 match g with
 | .full=>if whole then .full else .shared
 | g=>g
def sP (lo:Option D):Option Int:=
 match lo with
 | none=>some 0
 | some (.int _ n)=>some n
 | _=>none
def sQ (hi:Option D) (len:Nat):Option Int:=
 match hi with
 | none=>some len
 | some (.int _ n)=>some n
 | _=>none
def kI (size bytes:Nat) (x y:D) (s:St):Option (D×St):=
 match x,y with
 | .slice g z rows, .slice _ z' new=>
  if(rows = []∨z=size)∧(new = []∨z'=size)∧(rows.length+new.length)*(bytes+1)≤bH then
   match new with
   | []=>some (.slice g z rows,s)
   | _::_=>
    match g with
    | .full=>some (.slice (.tok s.av.length) size (rows++new),{s with av:=s.av++ [some (rows.length+new.length)]})
    | .shared=>none
    | .tok _ true=>none
    | .tok t false=>if z=size∧s.av[t]? = some (some rows.length)then some (.slice (.tok t) size (rows++new),{s with av:=s.av.set t (some (rows.length+new.length))})else none
  else none
 | _,_=>none
def sR (x y:D) (s:St):Option (D×St):=
 match x,y with
 | .slice g z rows, .slice _ z' new=>
  if(rows = []∨z=1)∧(new = []∨z'=1)∧(rows.length+new.length)*2≤bH then
   match new with
   | []=>some (.slice g z rows,s)
   | _::_=>
    match g with
    | .full=>some (.slice (.tok s.av.length true) 1 (rows++new),{s with av:=s.av++ [some (rows.length+new.length)]})
    | .shared=>none
    | .tok t y=>if z=1∧s.av[t]? = some (some rows.length)then some (.slice (.tok t y) 1 (rows++new),{s with av:=s.av.set t (some (rows.length+new.length))})else none
  else none
 | _,_=>none
def rr (key:List UInt8) (zero:D):List D→Option D
 | []=>some zero
 | .str k::d::r=>if k==key then some d else rr key zero r
 | _=>none
def qq (key:List UInt8) (v:D):List D→Option (List D)
 | []=>some [.str key,v]
 | .str k::d::r=>if k==key then some (.str k::v::r)else match qq key v r with | some r'=>some (.str k::d::r') | none=>none
 | _=>none
def aG (o:AO) (tm:Tm) (s:St):Option (D×St):=
 match o with
 | .mv x=>some (x.ev tm,s)
 | .pick c a b=>
  match c.ev tm with
  | .bool t=>some (if t then a.ev tm else b.ev tm,s)
  | _=>none
 | .alloc zero=>some (.ptr s.au.length 0,{s with au:=s.au++ [zero]})
 | .box x=>
  match (x.ev tm).row with
  | some r=>some (.ptr s.au.length 0,{s with au:=s.au++ [r]})
  | none=>none
 | .build zero parts=>
  match ma zero (parts.map fun p=>(p.1,p.2.1,p.2.2.ev tm))with
  | some cs=>some (.agg cs,s)
  | none=>none
 | .dc zero size n parts=>
  match gd size (fC zero n) (parts.map fun p=>(p.1,p.2.ev tm))with
  | some rows=>some (.slice .full size rows,s)
  | none=>none
 | .o4 zero size n parts=>
  match gd size (fC zero n) (parts.map fun p=>(p.1,p.2.ev tm))with
  | some rows=>some (.slice (.tok s.av.length) size rows,{s with av:=s.av++ [some rows.length]})
  | none=>none
 | .sK x=>
  match x.ev tm with
  | .slice (.tok t _) z rows=>if rows≠ []∧s.av[t]? = some (some rows.length)then some (.slice .shared z rows,{s with av:=s.av.set t none})else none
  | _=>none
 | .load x agg size=>
  match x.ev tm with
  | .ptr o off=>
   match s.au[o]? with
   | some cs=>match part cs off agg size with | some d=>some (d,s) | none=>none
   | none=>none
  | .cL row off=>match part row off agg size with | some d=>some (d,s) | none=>none
  | _=>none
 | .store p x size=>
  match p.ev tm,(x.ev tm).row with
  | .ptr o off,some r=>
   match s.au[o]? with
   | some cs=>if r.length=size∧off+size≤cs.length then some (.tuple [],{s with au:=s.au.set o (fY cs off r)})else none
   | none=>none
  | _,_=>none
 | .fJ x=>
  match x.ev tm with
  | .ptr o off=>some (.ptr o off,s)
  | .cL row off=>some (.cL row off,s)
  | _=>none
 | .bin op x y=>match qp op (x.ev tm) (y.ev tm)with | some d=>some (d,s) | none=>none
 | .xE neg x y=>
  match x.ev tm,y.ev tm with
  | .bool a, .bool b=>some (.bool (if neg then !(a==b)else a==b),s)
  | _,_=>none
 | .eqs neg ks x y=>
  match x.ev tm,y.ev tm with
  | .agg a, .agg b=>match gX ks a b with | some e=>some (.bool (if neg then !e else e),s) | none=>none
  | _,_=>none
 | .zi neg x y=>
  match x.ev tm,y.ev tm with
  | .dR, .dR=>some (.bool (!neg),s)
  | .ptr _ _, .dR=>some (.bool neg,s)
  | .cL _ _, .dR=>some (.bool neg,s)
  | _,_=>none
 | .un op x=>match zn op (x.ev tm)with | some d=>some (d,s) | none=>none
 | .conv k x=>match x.ev tm with | .int _ n=>some (.int k (k.wrap n),s) | _=>none
 | .vy x=>
  match x.ev tm with
  | .slice _ _ rows=>match ke rows with | some b=>some (.str b,s) | none=>none
  | _=>none
 | .qP x=>
  match x.ev tm with
  | .str l=>some (.slice .shared 1 (l.map fun c=> [.int .u8 c.toNat]),s)
  | _=>none
 | .zj size x lo hi=>
  match x.ev tm with
  | .slice g z rows=>
   match sP (lo.map (·.ev tm)),sQ (hi.map (·.ev tm)) rows.length with
   | some l,some h=>
    if(rows = []∨z=size)∧0≤l∧l≤h∧h≤rows.length then
     some (.slice (if l=0 then g.cut (h=rows.length)else .shared) z ((rows.take h.toNat).drop l.toNat),s)else none
   | _,_=>none
  | _=>none
 | .zk x lo hi=>
  match x.ev tm with
  | .str t=>
   match sP (lo.map (·.ev tm)),sQ (hi.map (·.ev tm)) t.length with
   | some l,some h=>if 0≤l∧l≤h∧h≤t.length then some (.str ((t.take h.toNat).drop l.toNat),s)else none
   | _,_=>none
  | _=>none
 | .aC x off=>
  match x.ev tm with
  | .ptr o k=>some (.ptr o (k+off),s)
  | .cL row k=>some (.cL row (k+off),s)
  | _=>none
 | .se x off agg size=>
  match x.ev tm with
  | .agg cs=>match part cs off agg size with | some d=>some (d,s) | none=>none
  | _=>none
 | .bV x i size=>
  match x.ev tm,i.ev tm with
  | .slice _ z rows, .int _ n=>
   if 0≤n∧z=size then
    match rows[n.toNat]? with
    | some row=>some (.cL row 0,s)
    | none=>none
   else none
  | _,_=>none
 | .sL x i=>
  match x.ev tm,i.ev tm with
  | .str t, .int _ n=>
   if 0≤n then
    match t[n.toNat]? with
    | some c=>some (.int .u8 c.toNat,s)
    | none=>none
   else none
  | _,_=>none
 | .ext x i=>
  match x.ev tm with
  | .tuple ds=>match ds[i]? with | some d=>some (d,s) | none=>none
  | _=>none
 | .o5 x=>
  match x.ev tm with
  | .str t=>some (.int .i64 t.length,s)
  | _=>none
 | .len x=>
  match x.ev tm with
  | .slice _ _ rows=>some (.int .i64 rows.length,s)
  | _=>none
 | .app size bytes x y=>kI size bytes (x.ev tm) (y.ev tm) s
 | .mm isMax x y=>
  match x.ev tm,y.ev tm with
  | .int k a, .int k' b=>if k=k' then some (.int k (if isMax then(if b > a then b else a)else(if b<a then b else a)),s)else none
  | _,_=>none
 | .nL zero T=>
  match zero with
  | .dR::r=>some (.ptr s.au.length 0,{s with au:=s.au++ [.dT T s.au.length::r]})
  | _=>none
 | .sM x T=>
  match (x.ev tm).row with
  | some (.dR::r)=>some (.ptr s.au.length 0,{s with au:=s.au++ [.dT T s.au.length::r]})
  | _=>none
 | .sN x y=>sR (x.ev tm) (y.ev tm) s
 | .apps x y=>
  match y.ev tm with
  | .str l=>sR (x.ev tm) (.slice .shared 1 (l.map fun c=> [.int .u8 c.toNat])) s
  | _=>none
 | .oL f xs=>some (.eW f (xs.map (·.ev tm)),s)
 | .oM=>some (.eU s.au.length,{s with au:=s.au++ [[]]})
 | .rq m k v=>
  match m.ev tm,k.ev tm,v.ev tm with
  | .eU o, .str key, .slice g z rows=>
   match s.au[o]? with
   | some cs=>match qq key (.slice g z rows) cs with | some fT=>some (.tuple [],{s with au:=s.au.set o fT}) | none=>none
   | none=>none
  | _,_,_=>none
 | .pL m k zero=>
  match m.ev tm,k.ev tm with
  | .eU o, .str key=>
   match s.au[o]? with
   | some cs=>match rr key zero cs with | some d=>some (d,s) | none=>none
   | none=>none
  | _,_=>none
def Hh (b:ByteArray):List UInt8:=b.data.toList
def mX:Value→Option D
 | .int k n=>some (.int k n)
 | .bool b=>some (.bool b)
 | .string b=>some (.str (Hh b))
 | .pointer none=>some .dR
 | .slice none 0 0=>some (.slice .full 0 [])
 | .nilIface=>some (.val .nilIface)
 | _=>none
def jM:List Value→Option (List D)
 | []=>some []
 | v::r=>match mX v,jM r with | some d,some ds=>some (d::ds) | _,_=>none
def uT:Value→Option D
 | .slice none 0 0=>some (.val (.slice none 0 0))
 | v=>mX v
def pM:List Value→Option (List D)
 | []=>some []
 | v::r=>match uT v,pM r with | some d,some ds=>some (d::ds) | _,_=>none
def Ci:Value→Option D
 | .agg cs=>(jM cs.toList).map .agg
 | .tuple ⟨[]⟩=>some (.tuple [])
 | v=>mX v
def cX:Operand→Option X
 | .tmp t=>some (.s t)
 | .const v=>(Ci v).map .k
 | .func f=>some (.k (.eW f []))
 | _=>none
def qR:List Operand→Option (List X)
 | []=>some []
 | x::r=>match cX x,qR r with | some d,some ds=>some (d::ds) | _,_=>none
def Jz:Option Operand→Option (Option X)
 | none=>some none
 | some x=>(cX x).map some
section
variable (P:Program)
def nM (t:TypeId):Option Bool:=
 match P.underlying t with
 | some (.struct _) | some (.array _ _)=>some true
 | some _=>some false
 | none=>none
def zeroOf (t:TypeId):Option (List D):=
 match P.info? t with
 | some i=>match i.zero with | some z=>if z.cells.size=i.size then jM z.cells.toList else none | none=>none
 | none=>none
def iW (t:TypeId) (f:Nat):Option (Nat×Nat×Bool):=
 match P.underlying t with
 | some (.struct fs)=>
  match fs[f]? with
  | some fd=>match P.info? fd.type,nM P fd.type with
   | some i,some a=>if i.size=0 then none else some (fd.offset,i.size,a)
   | _,_=>none
  | none=>none
 | _=>none
def EG (t u:TypeId):Bool:=
 match P.underlying u with
 | some (.pointer e)=>e==t
 | _=>false
def L8 (t:TypeId):Bool:=
 match P.underlying t with
 | some (.struct fs)=>
  match fs[0]? with
  | some f=>EG P t f.type
  | none=>false
 | _=>false
def Cj (t:TypeId):Bool:=
 match P.underlying t with
 | some (.struct fs)=>
  match fs[0]? with
  | some f=>EG P t f.type || L8 P f.type
  | none=>false
 | _=>false
def Ck (self:Bool) (l:List Value):Option (List D):=if self then pM l else jM l
def ry (t:TypeId):Option (List D):=
 match P.info? t with
 | some i=>match i.zero with | some z=>if z.cells.size=i.size then Ck (Cj P t) z.cells.toList else none | none=>none
 | none=>none
def sS (t:TypeId):List (Nat×Operand)→Option (List (Nat×Nat×X))
 | []=>some []
 | (i,x)::r=>match iW P t i,cX x,sS t r with
  | some (off,size,_),some x',some r'=>some ((off,size,x')::r')
  | _,_,_=>none
def zo:List (Nat×Operand)→Option (List (Nat×X))
 | []=>some []
 | (i,x)::r=>match cX x,zo r with
  | some x',some r'=>some ((i,x')::r')
  | _,_=>none
def jo (t:TypeId):Option Nat:=
 match P.underlying t with
 | some (.int _)=>some 0
 | some .bool=>some 1
 | some .string=>some 2
 | _=>none
def tU:Nat→List Field→Option (List Nat)
 | _,[]=>some []
 | n,f::fs=>
  if f.offset=n∧f.name≠ "_" then
   match jo P f.type,tU (n+1) fs with
   | some k,some ks=>some (k::ks)
   | _,_=>none
  else none
def lr (t:TypeId):Option (List Nat):=
 match P.underlying t with
 | some (.struct fs)=>if P.eqGuardType P.depth t=false∧P.stoodInHeld t=false then tU P 0 fs.toList else none
 | _=>none
def vB (o:Oper):Option AO:=
 match o.op with
 | .move x | .assign x=>(cX x).map .mv
 | .pick c a b=>match cX c,cX a,cX b with | some c,some a,some b=>some (.pick c a b) | _,_,_=>none
 | .alloc t=>if Cj P t then(ry P t).map (.nL · t)else(zeroOf P t).map .alloc
 | .box t x=>if Cj P t then(cX x).map (.sM · t)else(cX x).map .box
 | .build t parts=>
  match P.underlying t,ry P t,sS P t parts.toList with
  | some (.struct fs),some z,some ps=>if fs.toList.all fun f=>(P.info? f.type).isSome then some (.build z ps)else none
  | _,_,_=>none
 | .buildSlice t n parts=>
  match P.underlying t with
  | some (.slice e)=>
   match P.info? e,zeroOf P e,zo parts.toList with
   | some i,some z,some ps=>if 0<i.size∧n*i.size≤65536 then some (.dc z i.size n ps)else none
   | _,_,_=>none
  | _=>none
 | .load t x=>
  match cX x,nM P t,P.info? t with
  | some x,some a,some i=>some (.load x a i.size)
  | _,_,_=>none
 | .store t a x=>
  match cX a,cX x,P.info? t with
  | some a,some x,some i=>some (.store a x i.size)
  | _,_,_=>none
 | .nilCheck x=>(cX x).map .fJ
 | .binOp op t x y _=>
  match cX x,cX y with
  | some x,some y=>
   match P.underlying t,op with
   | some (.int _),_=>some (.bin op x y)
   | some .string,_=>some (.bin op x y)
   | some .bool, .eql=>some (.xE false x y)
   | some .bool, .neq=>some (.xE true x y)
   | some (.pointer _), .eql=>some (.zi false x y)
   | some (.pointer _), .neq=>some (.zi true x y)
   | some (.struct _), .eql=>(lr P t).map (.eqs false · x y)
   | some (.struct _), .neq=>(lr P t).map (.eqs true · x y)
   | _,_=>none
  | _,_=>none
 | .unOp op _ x=>(cX x).map (.un op)
 | .convert src dst x=>
  match cX x,P.underlying src,P.underlying dst with
  | some x,some (.int _),some (.int k)=>some (.conv k x)
  | some x,some (.slice e),some .string=>match P.underlying e with | some (.int .u8)=>some (.vy x) | _=>none
  | some x,some (.slice e),some (.slice _)=>match P.underlying e with | some (.int .u8)=>if src=dst then some (.sK x)else none | _=>none
  | some x,some .string,some (.slice e)=>match P.underlying e,P.info? e with | some (.int .u8),some i=>if i.size=1 then some (.qP x)else none | _,_=>none
  | _,_,_=>none
 | .slice t x lo hi none=>
  match cX x,Jz lo,Jz hi,P.underlying t with
  | some x,some lo,some hi,some .string=>some (.zk x lo hi)
  | some x,some lo,some hi,some (.slice e)=>match P.info? e with | some i=>some (.zj i.size x lo hi) | none=>none
  | _,_,_,_=>none
 | .fieldAddr t x f=>match cX x,iW P t f with | some x,some (off,_,_)=>some (.aC x off) | _,_=>none
 | .field t x f=>match cX x,iW P t f with | some x,some (off,size,a)=>some (.se x off a size) | _,_=>none
 | .indexAddr t x i=>
  match cX x,cX i,P.underlying t with
  | some x,some i,some (.slice e)=>match P.info? e with | some j=>if 0<j.size then some (.bV x i j.size)else none | none=>none
  | _,_,_=>none
 | .index t x i=>match cX x,cX i,P.underlying t with | some x,some i,some .string=>some (.sL x i) | _,_,_=>none
 | .extract x i=>(cX x).map (.ext · i)
 | .call {callee:= .builtin .len,args,argTypes}=>
  match args.toList,argTypes.toList with
  | [x],[t]=>match P.underlying t with
   | some .string=>(cX x).map .o5
   | some (.slice _)=>(cX x).map .len
   | _=>none
  | _,_=>none
 | .call {callee:= .builtin .append,args,argTypes}=>
  match args.toList,argTypes.toList with
  | [x,y],[t,u]=>match P.underlying t,P.underlying u,cX x,cX y with
   | some (.slice e),some (.slice _),some x,some y=>match P.info? e,zeroOf P e with
    | some i,some _=>if 0<i.size then some (if e=k6∧i.size=1∧i.bytes=1 then .sN x y else .app i.size i.bytes x y)else none
    | _,_=>none
   | some (.slice e),some .string,some x,some y=>match P.info? e,zeroOf P e with
    | some i,some _=>if e=k6∧i.size=1∧i.bytes=1 then some (.apps x y)else none
    | _,_=>none
   | _,_,_,_=>none
  | _,_=>none
 | .call {callee:= .builtin .max,args, ..}=>
  match args.toList with
  | [x,y]=>match cX x,cX y with | some x,some y=>some (.mm true x y) | _,_=>none
  | _=>none
 | .call {callee:= .builtin .min,args, ..}=>
  match args.toList with
  | [x,y]=>match cX x,cX y with | some x,some y=>some (.mm false x y) | _,_=>none
  | _=>none
 | .makeFunc (.func f) first captured=>if first.size=0 then(qR captured.toList).map (.oL f)else none
 | .makeMap t none=>match P.underlying t with | some (.map _ _)=>some .oM | _=>none
 | .mapUpdate t m k v=>
  match P.underlying t,cX m,cX k,cX v with
  | some (.map kt _),some m,some k,some v=>match P.underlying kt with | some .string=>some (.rq m k v) | _=>none
  | _,_,_,_=>none
 | .lookup t m k false=>
  match P.underlying t,cX m,cX k with
  | some (.map kt e),some m,some k=>
   match P.underlying kt,P.info? e with
   | some .string,some i=>match i.zero with | some z=>(mX z).map (.pL m k) | none=>none
   | _,_=>none
  | _,_,_=>none
 | _=>none
def o7 (ops:Array Oper):Option (Nat×Bool)→Option (Option (Nat×Bool))
 | none=>some none
 | some (j,b)=>
  match (ops[j]?).bind (·.dst)with
  | some t=>some (some (t,b))
  | none=>none
def enters (f:FuncId):Bool:=
 match P.funcs[f]? with
 | some fn=>fn.body.isSome && !(fn.name == "runtime.NumGoroutine")
 | none=>false
def frozenIn (ops:Array Oper) (dst:Option Nat):Bool:=
 ops.toList.any fun o=>match o.op,dst with
  | .convert s d (.tmp t),some t'=>t==t' && s==d
  | _,_=>false
def wT (o:Oper):Option (Bool×X):=
 match o.op with
 | .binOp op t x (.const (.slice none 0 0)) _=>
  match P.underlying t,op,cX x with
  | some (.slice _), .eql,some x=>some (false,x)
  | some (.slice _), .neq,some x=>some (true,x)
  | _,_,_=>none
 | _=>none
def JA (nt:Nat) (dst:Option Nat):Bool:=
 match dst with
 | some d=>decide (d<nt)
 | none=>true
def nz (ops:Array Oper) (o:Oper) (g:Option (Nat×Bool)):Option AI:=
 match o.op with
 | .call {callee:= .value (.func f),args, ..}=>if enters P f then(qR args.toList).map (.call o.dst g f)else none
 | .call {callee:= .value (.tmp t),args, ..}=>(qR args.toList).map (.fM o.dst g t)
 | _=>
  match wT P o with
  | some (neg,x)=>some (.nil o.dst g neg x)
  | none=>
   match vB P o with
   | some (.dc z k n ps)=>some (.op o.dst g (if frozenIn ops o.dst then .o4 z k n ps else .dc z k n ps))
   | some ao=>some (.op o.dst g ao)
   | none=>none
def cI (nt:Nat) (ops:Array Oper) (o:Oper):Option AI:=
 match o7 ops o.guard with
 | none=>none
 | some g=>if JA nt o.dst=true then nz P ops o g else none
def mb (nt:Nat) (ops:Array Oper):List Oper→Option (List AI)
 | []=>some []
 | o::r=>match cI P nt ops o,mb nt ops r with | some i,some is=>some (i::is) | _,_=>none
def JB (is:List AI) (af:List (List Nat)):Option AC:=
 if zl is af (zm [] af) (EF is af)then some (.par is (EF is af))else none
def cC (nt:Nat):Code→Option AC
 | .skip=>some .skip
 | .region _ ops false=>(mb P nt ops ops.toList).map .run
 | .region _ ops true=>if P.follows .mixedOrders then(mb P nt ops ops.toList).bind (JB · (ops.toList.map jm))else none
 | .seq a b=>match cC nt a,cC nt b with | some a,some b=>some (.seq a b) | _,_=>none
 | .cond x a b=>match cX x,cC nt a,cC nt b with | some x,some a,some b=>some (.cond x a b) | _,_,_=>none
 | .block id a=>(cC nt a).map (.block id)
 | .loop a=>(cC nt a).map .loop
 | .exit id=>some (.exit id)
 | .scope a=>(cC nt a).map .scope
 | .label l=>some (.label l)
 | .goto l=>some (.goto l)
 | .ret=>some .ret
 | _=>none
def uU:List ResultVar→Option (List (Nat×Option (Bool×Nat)))
 | []=>some []
 | .tmp t::r=>(uU r).map ((t,none):: ·)
 | .cell a t::r=>match nM P t,P.info? t,uU r with
  | some g,some i,some r'=>some ((a,some (g,i.size))::r')
  | _,_,_=>none
def cF (fn:Func):Option AF:=
 match fn.body with
 | some c=>match cC P fn.ntmps c,uU P fn.results.toList with
  | some b,some r=>some ⟨fn.ntmps,r,b⟩
  | _,_=>none
 | none=>none
end
end Go.Abs

/-! Rel -/

namespace Go.Abs
theorem gR {w:World} {b:Nat} {vs:Array Value} {T:TypeId} {fr:Nat×Nat} (h:w.heap[b]? = some (.cells vs T fr)) (o:Nat):w.cell? ⟨b,o,none⟩=vs[o]? :=by
 simp [World.cell?,h]
theorem iJ {w:World} {b:Nat} {o:Obj} (h:w.heap[b]? = some o):b<w.heap.size:=(Array.getElem?_eq_some_iff.1 h).1
section
variable {M:Map} {s:St} {w:World}
theorem Rel.wU (r:Rel M s w) {b o:Nat} {v:Value} (h:M.G b o=some v):b<w.heap.size:=World.block_lt_of_cell? w _ (r.comm b o v h).1
theorem Rel.JC (r:Rel M s w) {b:Nat} (h:w.heap.size≤b) (o:Nat):M.G b o=none:=by
 cases e:M.G b o with
 | none=>rfl
 | some v=>have:=r.wU e;omega
theorem Rel.mc (r:Rel M s w) {o:Nat} (h:o<s.au.length):M.mu o<w.heap.size:=by
 obtain⟨vs,T,hh,_⟩:=r.obj o _ (List.getElem?_eq_getElem h)
 exact hh.lt
theorem Rel.oN (r:Rel M s w) {t b c z:Nat} (h:s.live t) (e:M.be t=some (b,c,z)):b<w.heap.size:=by
 obtain⟨n,hn⟩:=h
 rcases r.tok t n hn with ⟨h1,_⟩ | ⟨b',cap,size,vs,T,h1,h2,_⟩
 ·rw [e]at h1;cases h1
 ·rw [e]at h1;cases h1;exact iJ h2
theorem Rel.of_heap (r:Rel M s w) {w':World} (h:w'.heap=w.heap):Rel M s w':=by
 refine⟨fun b o v e=> ?_,fun o ds e=> ?_,r.hZ,r.inj,fun t n e=> ?_,r.dI,r.eA⟩
 ·obtain⟨h1,h2⟩:=r.comm b o v e
  refine⟨?_,h2⟩
  rw [← h1];simp [World.cell?,h]
 ·rw [h];exact r.obj o ds e
 ·rw [h];exact r.tok t n e
theorem Ext.of_heap {w':World} (h:w'.heap=w.heap) (h1:w'.os=w.os) (h2:w'.tape=w.tape) (h3:w'.output=w.output):Ext M s w M s w':=
 ⟨Le.refl M s,fun _ _ _ _=>by rw [h],fun o h h'=>by omega,fun t b c z h e=> .inl ⟨h,c,z,e⟩,fun _ _ h=>(h rfl).elim,by rw [h];exact Nat.le_refl _,h1,h2,h3⟩
def Map.cB (M:Map) (n b:Nat) (x:Ob:= .any):Map:= {M with loc:=fun o=>if o=n then(b,x)else M.loc o}
theorem o8 (s:St) (b:Nat) (ds:List D) (x:Ob:= .any):Le M s (M.cB s.au.length b x) {s with au:=s.au++ [ds]}:=
 ⟨fun _ _ _ h=>h,by simp,fun o ho=>by simp [Map.cB];omega,Nat.le_refl _,fun t n _ h=>⟨n,h,Nat.le_refl _,fun _=>rfl⟩⟩
theorem Rel.EH (r:Rel M s w) (ds:List D) (ob:Obj) (vs:Array Value) (T:TypeId) (x:Ob) (qS:ji (some ob) x vs T) (hx : ∀ T',x.ty? = some T'→T'=T) (hl:vs.size=ds.length) (h1 : ∀ v∈vs,v.oneCell'=true)
 (h2 : ∀ (i:Nat) (d:D) (v:Value),ds[i]? = some d→vs[i]? = some v→RD (M.cB s.au.length w.heap.size x) {s with au:=s.au++ [ds]} d v) :
 Rel (M.cB s.au.length w.heap.size x) {s with au:=s.au++ [ds]} (w.alloc ob)∧
 Ext M s w (M.cB s.au.length w.heap.size x) {s with au:=s.au++ [ds]} (w.alloc ob):=by
 have le:=o8 (M:=M) s w.heap.size ds x
 have lU : ∀ o,o<s.au.length→(M.cB s.au.length w.heap.size x).mu o=M.mu o:=le.mu
 have cU:(M.cB s.au.length w.heap.size x).mu s.au.length=w.heap.size:=by simp [Map.cB,Map.mu]
 have Pb:(M.cB s.au.length w.heap.size x).ty s.au.length=x.ty? :=by simp [Map.cB,Map.ty]
 have Pe:(M.cB s.au.length w.heap.size x).ob s.au.length=x:=by simp [Map.cB,Map.ob]
 refine⟨⟨fun b o v e=> ?_,fun o kr e=> ?_,fun o ho off=> ?_,fun o o' ho jI e=> ?_,fun t n e=> ?_,fun t b c z o hl e ho=> ?_,fun t t' b c z c' z' h h' e e'=>r.eA t t' b c z c' z' h h' e e'⟩, ?_⟩
 ·obtain⟨h3,h4⟩:=r.comm b o v e
  refine⟨?_,h4⟩
  rw [World.cell?_alloc_lt]
  ·exact h3
  ·exact r.wU e
 ·rcases Nat.lt_or_ge o s.au.length with ho | ho
  ·rw [List.getElem?_append_left ho]at e
   obtain⟨dV,T',h3,h4,h5,h6⟩:=r.obj o kr e
   refine⟨dV,T', ?_,h4,⟨h5.1,by rw [le.ty o ho];exact h5.2⟩,fun i d v e1 e2=>(h6 i d v e1 e2).mono le⟩
   rw [lU o ho,le.ob o ho,heap_alloc_old w _ _ h3.lt];exact h3
  ·rw [List.getElem?_append_right ho]at e
   have:o=s.au.length:=by
    have:=(List.getElem?_eq_some_iff.1 e).1
    simp at this;omega
   subst this
   simp at e;subst e
   refine⟨vs,T, ?_,hl,⟨h1,by rw [Pb];exact hx⟩,fun i d v e1 e2=>h2 i d v e1 e2⟩
   rw [cU,Pe,heap_alloc_new];exact qS
 ·simp at ho
  rcases Nat.lt_or_ge o s.au.length with h3 | h3
  ·rw [lU o h3];exact r.hZ o h3 off
  ·have:o=s.au.length:=by omega
   subst this
   rw [cU];exact r.JC (Nat.le_refl _) off
 ·simp at ho jI
  rcases Nat.lt_or_ge o s.au.length with h3 | h3 <;> rcases Nat.lt_or_ge o' s.au.length with h4 | h4
  ·rw [lU o h3,lU o' h4]at e;exact r.inj o o' h3 h4 e
  ·have:o'=s.au.length:=by omega
   subst this
   rw [lU o h3,cU]at e
   have:=r.mc h3;omega
  ·have:o=s.au.length:=by omega
   subst this
   rw [lU o' h4,cU]at e
   have:=r.mc h4;omega
  ·omega
 ·rcases r.tok t n e with h3 | ⟨b,cap,size,dV,T',h3,h4,h5⟩
  ·exact .inl h3
  ·exact .inr ⟨b,cap,size,dV,T',h3,by rw [heap_alloc_old w _ _ (iJ h4)];exact h4,h5⟩
 ·simp at ho
  rcases Nat.lt_or_ge o s.au.length with h3 | h3
  ·rw [lU o h3];exact r.dI t b c z o hl e h3
  ·have:o=s.au.length:=by omega
   subst this
   rw [cU]
   have:=r.oN hl e;omega
 ·refine⟨le,fun b hb _ _=>heap_alloc_old w _ b hb,fun o h3 h4=> ?_,fun t b c z h e=> .inl ⟨h,c,z,e⟩,fun _ _ h=>(h rfl).elim,by simp,rfl,rfl,rfl⟩
  simp at h4
  have:o=s.au.length:=by omega
  subst this
  rw [cU];exact Nat.le_refl _
theorem Rel.zp (r:Rel M s w) (ds:List D) (vs:Array Value) (T:TypeId) (x:Ob) (hk:x≠ .map) (hx : ∀ T',x.ty? = some T'→T'=T) (hl:vs.size=ds.length) (h1 : ∀ v∈vs,v.oneCell'=true)
 (h2 : ∀ (i:Nat) (d:D) (v:Value),ds[i]? = some d→vs[i]? = some v→RD (M.cB s.au.length w.heap.size x) {s with au:=s.au++ [ds]} d v) :
 Rel (M.cB s.au.length w.heap.size x) {s with au:=s.au++ [ds]} (w.alloc (.cells vs T))∧
 Ext M s w (M.cB s.au.length w.heap.size x) {s with au:=s.au++ [ds]} (w.alloc (.cells vs T)):=
 r.EH ds _ vs T x (ji.of rfl hk) hx hl h1 h2
theorem Rel.cB (r:Rel M s w) (ds:List D) (vs:Array Value) (T:TypeId) (hl:vs.size=ds.length) (h1 : ∀ v∈vs,v.oneCell'=true)
 (h2 : ∀ (i:Nat) (d:D) (v:Value),ds[i]? = some d→vs[i]? = some v→RD M s d v) :
 Rel (M.cB s.au.length w.heap.size) {s with au:=s.au++ [ds]} (w.alloc (.cells vs T))∧
 Ext M s w (M.cB s.au.length w.heap.size) {s with au:=s.au++ [ds]} (w.alloc (.cells vs T)):=
 r.zp ds vs T .any (by simp) (fun _ h=>by cases h) hl h1 fun i d v e1 e2=>(h2 i d v e1 e2).mono (o8 s w.heap.size ds)
theorem pN (cs:List D) (off:Nat) (r:List D) (h:off+r.length≤cs.length) (i:Nat) :
 (fY cs off r)[i]? = if i<off then cs[i]? else if i<off+r.length then r[i - off]? else cs[i]? :=by
 unfold fY
 have hl:(cs.take off).length=off:=by simp;omega
 split
 ·rename_i h1
  rw [List.append_assoc,List.getElem?_append_left (by omega),List.getElem?_take_of_lt h1]
 ·rename_i h1
  rw [List.append_assoc,List.getElem?_append_right (by omega),hl]
  split
  ·rename_i h2
   rw [List.getElem?_append_left (by omega)]
  ·rename_i h2
   rw [List.getElem?_append_right (by omega),List.getElem?_drop]
   congr 1;omega
theorem sf (cs:List D) (off:Nat) (r:List D) (h:off+r.length≤cs.length):(fY cs off r).length=cs.length:=by
 unfold fY;simp;omega
theorem Rel.RJ (P:Program) (r:Rel M s w) {o off:Nat} {cs:List D} (he:s.au[o]? = some cs) (hk:M.ob o≠ .map) (row:List D) (us:List Value) (hu:us.length=row.length) (ib:off+row.length≤cs.length)
 (h1 : ∀ u∈us,u.oneCell'=true) (h2 : ∀ (i:Nat) (d:D) (v:Value),row[i]? = some d→us[i]? = some v→RD M s d v) :
 ∃ w',(storeCells (⟨M.mu o,off,none⟩:Addr) us).run P w = .ok () w'∧Rel M {s with au:=s.au.set o (fY cs off row)} w'∧Ext M s w M {s with au:=s.au.set o (fY cs off row)} w':=by
 obtain⟨vs,T,hh,hs,⟨jN,JD⟩,lx⟩:=r.obj o cs he
 replace hh:=hh.cells hk
 have ho:o<s.au.length:=(List.getElem?_eq_some_iff.1 he).1
 have uw:=run_storeCells_at P (M.mu o) off T us 0 vs w hh (by omega) h1
 simp only [Nat.add_zero]at uw
 have le:Le M s M {s with au:=s.au.set o (fY cs off row)}:=
  ⟨fun _ _ _ h=>h,by simp,fun _ _=>rfl,Nat.le_refl _,fun t n _ h=>⟨n,h,Nat.le_refl _,fun _=>rfl⟩⟩
 generalize cU:(vs.toList.take off++us++vs.toList.drop (off+us.length)).toArray=pO at uw
 have Hi:pO.size=vs.size:=by rw [← cU];simp;omega
 have hJ : ∀ i,pO[i]? = if i<off then vs[i]? else if i<off+row.length then us[i - off]? else vs[i]? :=by
  intro i
  rw [← cU]
  simp only [List.getElem?_toArray]
  have hl:(vs.toList.take off).length=off:=by simp;omega
  split
  ·rename_i h3
   rw [List.append_assoc,List.getElem?_append_left (by omega),List.getElem?_take_of_lt h3];simp
  ·rename_i h3
   rw [List.append_assoc,List.getElem?_append_right (by omega),hl]
   split
   ·rename_i h4
    rw [List.getElem?_append_left (by omega)]
   ·rename_i h4
    rw [List.getElem?_append_right (by omega),List.getElem?_drop]
    rw [show off+us.length+(i - off - us.length)=i by omega];simp
 have iK : ∀ b,b≠M.mu o→(w.setRow (M.mu o) pO).heap[b]? = w.heap[b]? :=fun b hb=>setRow_other w (M.mu o) b _ hb
 refine⟨_,uw,⟨fun b q v e=> ?_,fun o' ds e=> ?_,fun q hq qs=>r.hZ q (by simpa using hq) qs,fun q q' hq mT e=>r.inj q q' (by simpa using hq) (by simpa using mT) e,fun t n e=> ?_,
  fun t b c z q hl e hq=>r.dI t b c z q hl e (by simpa using hq),fun t t' b c z c' z' h h' e e'=>r.eA t t' b c z c' z' h h' e e'⟩, ?_⟩
 ·obtain⟨h3,h4⟩:=r.comm b q v e
  refine⟨?_,h4⟩
  have hb:b≠M.mu o:=fun eq=>by subst eq;rw [r.hZ o ho q]at e;cases e
  rw [← h3]
  simp [World.cell?,iK b hb]
 ·rw [List.getElem?_set]at e
  split at e
  ·rename_i heq
   subst heq
   simp at e
   obtain⟨_,rfl⟩:=e
   refine⟨pO,T,ji.of (setRow_heap w (M.mu o) vs pO T (0,0) hh) hk,by rw [Hi,hs,sf cs off row ib],⟨fun v hv=> ?_,JD⟩,fun i d v e1 e2=> ?_⟩
   ·rw [← cU]at hv
    simp at hv
    rcases hv with hv | hv | hv
    ·exact jN v (Array.mem_toList_iff.1 (List.mem_of_mem_take hv))
    ·exact h1 v hv
    ·exact jN v (Array.mem_toList_iff.1 (List.mem_of_mem_drop hv))
   ·rw [pN cs off row ib]at e1
    rw [hJ]at e2
    split at e1
    ·rename_i h3;simp only [h3,if_true]at e2;exact(lx i d v e1 e2).mono le
    ·rename_i h3
     simp only [h3,if_false]at e2
     split at e1
     ·rename_i h4;simp only [h4,if_true]at e2;exact(h2 _ d v e1 e2).mono le
     ·rename_i h4;simp only [h4,if_false]at e2;exact(lx i d v e1 e2).mono le
  ·rename_i dQ
   obtain⟨dV,T',h3,h4,h5,h6⟩:=r.obj o' ds e
   have jI:o'<s.au.length:=(List.getElem?_eq_some_iff.1 e).1
   refine⟨dV,T', ?_,h4,h5,fun i d v e1 e2=>(h6 i d v e1 e2).mono le⟩
   rw [iK _ (fun eq=>dQ (r.inj o o' ho jI eq.symm))];exact h3
 ·rcases r.tok t n e with h3 | ⟨b,cap,size,dV,T',h3,h4,h5⟩
  ·exact .inl h3
  ·refine .inr ⟨b,cap,size,dV,T',h3, ?_,h5⟩
   rw [iK b (fun eq=>r.dI t b cap size o ⟨n,e⟩ h3 ho eq.symm)];exact h4
 ·refine⟨le,fun b hb h3 _=>iK b (fun eq=>h3 o ho eq.symm),fun q h3 h4=> ?_,fun t b c z h e=> .inl ⟨h,c,z,e⟩,fun _ _ h=>(h rfl).elim,by simp,rfl,rfl,rfl⟩
  simp at h4;omega
def Map.dK (M:Map) (b n:Nat) (vs:Array Value):Map:= {M with G:=fun b' o=>if b'=b then(if o<n then vs[o]? else none)else M.G b' o}
theorem EI (r:Rel M s w) (n:Nat) (vs:Array Value):Le M s (M.dK w.heap.size n vs) s:=
 ⟨fun b o v h=>by
  have hb:b≠w.heap.size:=fun e=>by have:=r.wU h;omega
  simp [Map.dK,hb,h],Nat.le_refl _,fun _ _=>rfl,Nat.le_refl _,fun t n _ h=>⟨n,h,Nat.le_refl _,fun _=>rfl⟩⟩
theorem Rel.dK (r:Rel M s w) (n:Nat) (vs:Array Value) (T:TypeId) (fr:Nat×Nat) (h1 : ∀ v∈vs,v.oneCell'=true) :
 Rel (M.dK w.heap.size n vs) s (w.alloc (.cells vs T fr))∧Ext M s w (M.dK w.heap.size n vs) s (w.alloc (.cells vs T fr)):=by
 have le:=EI r n vs
 have hold : ∀ b,b<w.heap.size→∀ o,(M.dK w.heap.size n vs).G b o=M.G b o:=fun b hb o=>by
  have:b≠w.heap.size:=by omega
  simp [Map.dK,this]
 refine⟨⟨fun b o v e=> ?_,fun o ds e=> ?_,fun o ho off=> ?_,r.inj,fun t k e=> ?_,r.dI,r.eA⟩, ?_⟩
 ·by_cases hb:b=w.heap.size
  ·subst hb
   simp [Map.dK]at e
   obtain⟨_,e⟩:=e
   refine⟨by rw [gR (heap_alloc_new w _)];exact e,h1 v (Array.mem_of_getElem? e)⟩
  ·simp [Map.dK,hb]at e
   obtain⟨h3,h4⟩:=r.comm b o v e
   refine⟨?_,h4⟩
   rw [World.cell?_alloc_lt]
   ·exact h3
   ·exact r.wU e
 ·obtain⟨dV,T',h3,h4,h5,h6⟩:=r.obj o ds e
  exact⟨dV,T',by show ji (w.alloc _).heap[M.mu o]? (M.ob o) _ _;rw [heap_alloc_old w _ _ h3.lt];exact h3,h4,h5,fun i d v e1 e2=>(h6 i d v e1 e2).mono le⟩
 ·rw [hold]
  ·exact r.hZ o ho off
  ·exact r.mc ho
 ·rcases r.tok t k e with h3 | ⟨b,cap,size,dV,T',h3,h4,h5,h6,h7⟩
  ·exact .inl h3
  ·exact .inr ⟨b,cap,size,dV,T',h3,by rw [heap_alloc_old w _ _ (iJ h4)];exact h4,h5,h6,fun off ho=>by rw [hold b (iJ h4)];exact h7.1 off ho,h7.2⟩
 ·refine⟨le,fun b hb _ _=>heap_alloc_old w _ b hb,fun o h3 h4=>by omega,fun t b c z h e=> .inl ⟨h,c,z,e⟩,fun b o h=> ?_,by simp,rfl,rfl,rfl⟩
  rcases Nat.lt_or_ge b w.heap.size with hb | hb
  ·exact(h (hold b hb o)).elim
  ·exact .inl hb
def Map.c6 (M:Map) (t:Nat) (x:Option (Nat×Nat×Nat)):Map:= {M with be:=fun t'=>if t'=t then x else M.be t'}
theorem Rel.JE (r:Rel M s w) (n b cap size:Nat) (vs:Array Value) (T:TypeId) (hb:w.heap[b]? = some (.cells vs T (0,0))) (dE:vs.size=cap*zs size) (hn:n≤cap) (hy:size=0→T=k6)
 (hG : ∀ off,n*zs size≤off→M.G b off=none) (ho : ∀ o,o<s.au.length→M.mu o≠b) (ht : ∀ t c z,s.live t→M.be t≠some (b,c,z)) :
 Rel (M.c6 s.av.length (some (b,cap,size))) {s with av:=s.av++ [some n]} w∧Le M s (M.c6 s.av.length (some (b,cap,size))) {s with av:=s.av++ [some n]}:=by
 have fl : ∀ t,St.live {s with av:=s.av++ [some n]} t→s.live t∨t=s.av.length:=by
  rintro t ⟨k,hk⟩
  rcases Nat.lt_or_ge t s.av.length with h | h
  ·rw [List.getElem?_append_left h]at hk;exact .inl ⟨k,hk⟩
  ·have:=(List.getElem?_eq_some_iff.1 hk).1
   simp at this;exact .inr (by omega)
 have hD : ∀ t,s.live t→t<s.av.length:=fun t ⟨k,hk⟩=>(List.getElem?_eq_some_iff.1 hk).1
 have hold : ∀ t,t<s.av.length→(M.c6 s.av.length (some (b,cap,size))).be t=M.be t:=fun t h=>by simp [Map.c6];omega
 have cU:(M.c6 s.av.length (some (b,cap,size))).be s.av.length=some (b,cap,size):=by simp [Map.c6]
 have le:Le M s (M.c6 s.av.length (some (b,cap,size))) {s with av:=s.av++ [some n]}:=
  ⟨fun _ _ _ h=>h,Nat.le_refl _,fun _ _=>rfl,by simp,fun t k h e=>by
   rw [List.getElem?_append_left h]at e
   exact⟨k,e,Nat.le_refl _,fun _=>hold t h⟩⟩
 refine⟨⟨r.comm,fun o ds e=> ?_,r.hZ,r.inj,fun t k e=> ?_,fun t b' c z o hl e jI=> ?_,fun t t' b' c z c' z' h h' e e'=> ?_⟩,le⟩
 ·obtain⟨dV,T',h3,h4,h5,h6⟩:=r.obj o ds e
  exact⟨dV,T',h3,h4,h5,fun i d v e1 e2=>(h6 i d v e1 e2).mono le⟩
 ·rcases Nat.lt_or_ge t s.av.length with h | h
  ·rw [List.getElem?_append_left h]at e
   rw [hold t h];exact r.tok t k e
  ·have:=(List.getElem?_eq_some_iff.1 e).1
   simp at this
   have:t=s.av.length:=by omega
   subst this
   simp at e;subst e
   exact .inr ⟨b,cap,size,vs,T,cU,hb,dE,hn,hG,hy⟩
 ·rcases fl t hl with h | h
  ·rw [hold t (hD t h)]at e;exact r.dI t b' c z o h e jI
  ·subst h;rw [cU]at e;cases e;exact ho o jI
 ·rcases fl t h with h | h <;> rcases fl t' h' with h' | h'
  ·rw [hold t (hD t h)]at e;rw [hold t' (hD t' h')]at e';exact r.eA t t' b' c z c' z' h h' e e'
  ·subst h';rw [cU]at e';cases e';rw [hold t (hD t h)]at e;exact(ht t c z h e).elim
  ·subst h;rw [cU]at e;cases e;rw [hold t' (hD t' h')]at e';exact(ht t' c' z' h' e').elim
  ·omega
theorem Rel.Pf (r:Rel M s w) (t n n' b cap size:Nat) (vs:Array Value) (T:TypeId) (vD:s.av[t]? = some (some n)) (hnn:n<n') (hb:w.heap[b]? = some (.cells vs T (0,0))) (dE:vs.size=cap*zs size) (hn:n'≤cap) (hy:size=0→T=k6)
 (hG : ∀ off,n'*zs size≤off→M.G b off=none) (ho : ∀ o,o<s.au.length→M.mu o≠b) (ht : ∀ t c z,s.live t→M.be t≠some (b,c,z)) :
 Rel (M.c6 t (some (b,cap,size))) {s with av:=s.av.set t (some n')} w∧Le M s (M.c6 t (some (b,cap,size))) {s with av:=s.av.set t (some n')}:=by
 have EJ:t<s.av.length:=(List.getElem?_eq_some_iff.1 vD).1
 have fl : ∀ q,St.live {s with av:=s.av.set t (some n')} q→s.live q:=by
  rintro q ⟨k,hk⟩
  rw [List.getElem?_set]at hk
  split at hk
  ·rename_i h;subst h;exact⟨n,vD⟩
  ·exact⟨k,hk⟩
 have hold : ∀ q,q≠t→(M.c6 t (some (b,cap,size))).be q=M.be q:=fun q h=>by simp [Map.c6,h]
 have cU:(M.c6 t (some (b,cap,size))).be t=some (b,cap,size):=by simp [Map.c6]
 have le:Le M s (M.c6 t (some (b,cap,size))) {s with av:=s.av.set t (some n')}:=
  ⟨fun _ _ _ h=>h,Nat.le_refl _,fun _ _=>rfl,by simp,fun q k h e=>by
   rw [List.getElem?_set]at e
   split at e
   ·rename_i h2;subst h2
    simp at e;subst e
    exact⟨n,vD,by omega,fun h=>by omega⟩
   ·rename_i h2
    exact⟨k,e,Nat.le_refl _,fun _=>hold q (fun h=>h2 h.symm)⟩⟩
 refine⟨⟨r.comm,fun o ds e=> ?_,r.hZ,r.inj,fun q k e=> ?_,fun q b' c z o hl e jI=> ?_,fun q q' b' c z c' z' h h' e e'=> ?_⟩,le⟩
 ·obtain⟨dV,T',h3,h4,h5,h6⟩:=r.obj o ds e
  exact⟨dV,T',h3,h4,h5,fun i d v e1 e2=>(h6 i d v e1 e2).mono le⟩
 ·rw [List.getElem?_set]at e
  split at e
  ·rename_i h2;subst h2
   simp at e;subst e
   exact .inr ⟨b,cap,size,vs,T,cU,hb,dE,hn,hG,hy⟩
  ·rename_i h2
   rw [hold q (fun h=>h2 h.symm)];exact r.tok q k e
 ·by_cases h:q=t
  ·subst h;rw [cU]at e;cases e;exact ho o jI
  ·rw [hold q h]at e;exact r.dI q b' c z o (fl q hl) e jI
 ·by_cases h1:q=t <;> by_cases h2:q'=t
  ·omega
  ·subst h1;rw [cU]at e;cases e;rw [hold q' h2]at e';exact(ht q' c' z' (fl q' h') e').elim
  ·subst h2;rw [cU]at e';cases e';rw [hold q h1]at e;exact(ht q c z (fl q h) e).elim
  ·rw [hold q h1]at e;rw [hold q' h2]at e';exact r.eA q q' b' c z c' z' (fl q h) (fl q' h') e e'
def Map.fix (M:Map) (b lo:Nat) (us:List Value):Map:=
 {M with G:=fun b' o=>if b'=b∧lo≤o∧o<lo+us.length then us[o - lo]? else M.G b' o}
theorem Rel.Ph (r:Rel M s w) (t n m b cap z size:Nat) (us:List Value) (hz:zs z=size) (vD:s.av[t]? = some (some n)) (gE:M.be t=some (b,cap,z)) (ux:us.length=m*size) (rz:n+m≤cap) (hm:0<m)
 (h1 : ∀ u∈us,u.oneCell'=true) (vs:Array Value) (T:TypeId) (hh:w.heap[b]? = some (.cells vs T (0,0))) (dE:vs.size=cap*size) (hy:z=0→T=k6) :
 Rel (M.fix b (n*size) us) {s with av:=s.av.set t (some (n+m))} (w.setRow b (vs.toList.take (n*size)++us++vs.toList.drop (n*size+us.length)).toArray)∧
 Ext M s w (M.fix b (n*size) us) {s with av:=s.av.set t (some (n+m))} (w.setRow b (vs.toList.take (n*size)++us++vs.toList.drop (n*size+us.length)).toArray):=by
 have EJ:t<s.av.length:=(List.getElem?_eq_some_iff.1 vD).1
 have qT:s.live t:=⟨n,vD⟩
 have Cl : ∀ off,n*size≤off→M.G b off=none:=by
  rcases r.tok t n vD with ⟨h3,_⟩ | ⟨b',zq,rA,dV,T',h3,h4,h5,h6,h7⟩
  ·rw [gE]at h3;cases h3
  ·rw [gE]at h3;cases h3;rw [← hz];exact h7.1
 have ib:n*size+us.length≤vs.size:=by rw [ux,dE, ← Nat.add_mul];exact Nat.mul_le_mul_right _ rz
 have fl : ∀ q,St.live {s with av:=s.av.set t (some (n+m))} q→s.live q:=by
  rintro q ⟨k,hk⟩
  rw [List.getElem?_set]at hk
  split at hk
  ·rename_i h;subst h;exact qT
  ·exact⟨k,hk⟩
 generalize cU:(vs.toList.take (n*size)++us++vs.toList.drop (n*size+us.length)).toArray=pO
 have Hi:pO.size=vs.size:=by rw [← cU];simp;omega
 have hJ : ∀ i,pO[i]? = if i<n*size then vs[i]? else if i<n*size+us.length then us[i - n*size]? else vs[i]? :=by
  intro i
  rw [← cU]
  simp only [List.getElem?_toArray]
  have hl:(vs.toList.take (n*size)).length=n*size:=by simp;omega
  split
  ·rename_i h3
   rw [List.append_assoc,List.getElem?_append_left (by omega),List.getElem?_take_of_lt h3];simp
  ·rename_i h3
   rw [List.append_assoc,List.getElem?_append_right (by omega),hl]
   split
   ·rename_i h4
    rw [List.getElem?_append_left (by omega)]
   ·rename_i h4
    rw [List.getElem?_append_right (by omega),List.getElem?_drop]
    rw [show n*size+us.length+(i - n*size - us.length)=i by omega];simp
 have cW:(w.setRow b pO).heap[b]? = some (.cells pO T (0,0)):=setRow_heap w b vs pO T (0,0) hh
 have iK : ∀ q,q≠b→(w.setRow b pO).heap[q]? = w.heap[q]? :=fun q hq=>setRow_other w b q _ hq
 have le:Le M s (M.fix b (n*size) us) {s with av:=s.av.set t (some (n+m))}:=by
  refine⟨fun b' o v h=> ?_,Nat.le_refl _,fun _ _=>rfl,by simp,fun q k h e=> ?_⟩
  ·show(if b'=b∧n*size≤o∧o<n*size+us.length then us[o - n*size]? else M.G b' o)=some v
   rw [if_neg]
   ·exact h
   ·rintro⟨rfl,h3,_⟩;rw [Cl o h3]at h;cases h
  ·rw [List.getElem?_set]at e
   split at e
   ·rename_i h2;subst h2
    simp at e;subst e
    exact⟨n,vD,by omega,fun h=>by omega⟩
   ·exact⟨k,e,Nat.le_refl _,fun _=>rfl⟩
 have nN : ∀ b' o,b'≠b→(M.fix b (n*size) us).G b' o=M.G b' o:=fun b' o h=>by simp [Map.fix,h]
 refine⟨⟨fun b' o v e=> ?_,fun o ds e=> ?_,fun o ho off=> ?_,r.inj,fun q k e=> ?_,fun q b' c z o hl e jI=>r.dI q b' c z o (fl q hl) e jI,
  fun q q' b' c z c' z' h h' e e'=>r.eA q q' b' c z c' z' (fl q h) (fl q' h') e e'⟩, ?_⟩
 ·by_cases hb:b'=b
  ·subst hb
   rw [gR cW,hJ]
   have e':(if b'=b'∧n*size≤o∧o<n*size+us.length then us[o - n*size]? else M.G b' o)=some v:=e
   by_cases h3:n*size≤o
   ·by_cases h4:o<n*size+us.length
    ·rw [if_pos ⟨rfl,h3,h4⟩]at e'
     rw [if_neg (by omega),if_pos h4]
     exact⟨e',h1 v (List.mem_of_getElem? e')⟩
    ·rw [if_neg (fun h=>h4 h.2.2),Cl o h3]at e';cases e'
   ·rw [if_neg (fun h=>h3 h.2.1)]at e'
    obtain⟨h5,h6⟩:=r.comm b' o v e'
    rw [gR hh]at h5
    rw [if_pos (by omega)]
    exact⟨h5,h6⟩
  ·rw [nN b' o hb]at e
   obtain⟨h5,h6⟩:=r.comm b' o v e
   refine⟨?_,h6⟩
   rw [← h5]
   simp [World.cell?,iK b' hb]
 ·obtain⟨dV,T',h3,h4,h5,h6⟩:=r.obj o ds e
  have ho:o<s.au.length:=(List.getElem?_eq_some_iff.1 e).1
  refine⟨dV,T', ?_,h4,h5,fun i d v e1 e2=>(h6 i d v e1 e2).mono le⟩
  show ji (w.setRow b pO).heap[M.mu o]? (M.ob o) _ _
  rw [iK _ (r.dI t b cap z o qT gE ho)];exact h3
 ·show(M.fix b (n*size) us).G (M.mu o) off=none
  rw [nN _ _ (r.dI t b cap z o qT gE ho)];exact r.hZ o ho off
 ·rw [List.getElem?_set]at e
  split at e
  ·rename_i h2;subst h2
   simp at e;subst e
   refine .inr ⟨b,cap,z,pO,T,gE,cW,by rw [Hi,dE,hz],rz,fun off ho=> ?_,hy⟩
   rw [hz]at ho
   show(if b=b∧n*size≤off∧off<n*size+us.length then us[off - n*size]? else M.G b off)=none
   rw [Nat.add_mul]at ho
   rw [if_neg (by rintro⟨_,_,h⟩;omega)]
   exact Cl off (by omega)
  ·rename_i h2
   rcases r.tok q k e with h3 | ⟨b',zq,rA,dV,T',h3,h4,h5,h6,h7⟩
   ·exact .inl h3
   ·have dQ:b'≠b:=fun h=>h2 (r.eA t q b cap z zq rA qT ⟨k,e⟩ gE (by rw [h3,h]))
    exact .inr ⟨b',zq,rA,dV,T',h3,by rw [iK b' dQ];exact h4,h5,h6,fun off ho=>by rw [nN b' off dQ];exact h7.1 off ho,h7.2⟩
 ·refine⟨le,fun q _ _ h4=>iK q (fun h=>h4 t cap z qT (by rw [gE,h])),fun o h3 h4=>by simp at h4;omega,fun q b' c z h e=> .inl ⟨fl q h,c,z,e⟩,fun b' o h=> ?_,by simp,rfl,rfl,rfl⟩
  by_cases hb:b'=b
  ·exact .inr ⟨t,cap,z,qT,by rw [gE,hb]⟩
  ·exact(h (nN b' o hb)).elim
theorem Rel.freeze (r:Rel M s w) {b:Nat} (off n:Nat) (ho : ∀ o,o<s.au.length→M.mu o≠b) (ht : ∀ t c z,s.live t→M.be t≠some (b,c,z)) :
 Rel M s (w.freeze ⟨b,off,none⟩ n)∧(∀ q,q≠b→(w.freeze ⟨b,off,none⟩ n).heap[q]? = w.heap[q]?)∧(w.freeze ⟨b,off,none⟩ n).heap.size=w.heap.size∧
 (w.freeze ⟨b,off,none⟩ n).os=w.os∧(w.freeze ⟨b,off,none⟩ n).tape=w.tape∧(w.freeze ⟨b,off,none⟩ n).output=w.output:=by
 by_cases hn:n=0
 ·simp [World.freeze,hn,r]
 ·have hh : ∀ q,q≠b→(w.freeze ⟨b,off,none⟩ n).heap[q]? = w.heap[q]? :=fun q hq=>by
   simp [World.freeze,hn,Array.getElem?_modify,Ne.symm hq]
  have pP : ∀ q o,(w.freeze ⟨b,off,none⟩ n).cell? ⟨q,o,none⟩=w.cell? ⟨q,o,none⟩:=by
   intro q o
   by_cases hq:q=b
   ·subst hq
    unfold World.cell?
    simp only [World.freeze,hn,if_false,Array.getElem?_modify,if_true]
    cases h:w.heap[q]? with
    | none=>rfl
    | some x=>cases x <;> rfl
   ·simp [World.cell?,hh q hq]
  refine⟨⟨fun q o v e=> ?_,fun o ds e=> ?_,r.hZ,r.inj,fun t k e=> ?_,r.dI,r.eA⟩,hh,by simp [World.freeze,hn],by simp [World.freeze,hn],by simp [World.freeze,hn],by simp [World.freeze,hn]⟩
  ·rw [pP];exact r.comm q o v e
  ·rw [hh _ (ho o (List.getElem?_eq_some_iff.1 e).1)];exact r.obj o ds e
  ·rcases r.tok t k e with h3 | ⟨b',cap,size,vs,T,h3,h4,h5⟩
   ·exact .inl h3
   ·refine .inr ⟨b',cap,size,vs,T,h3, ?_,h5⟩
    rw [hh]
    ·exact h4
    ·rintro rfl;exact ht t cap size ⟨k,e⟩ h3
theorem Rel.Pj (r:Rel M s w) (t:Nat):Rel M {s with av:=s.av.set t none} w∧Le M s M {s with av:=s.av.set t none}:=by
 have fl : ∀ q,St.live {s with av:=s.av.set t none} q→s.live q:=by
  rintro q ⟨k,hk⟩
  rw [List.getElem?_set]at hk
  split at hk
  ·split at hk <;> simp at hk
  ·exact⟨k,hk⟩
 have oa : ∀ (q k:Nat),(s.av.set t none)[q]? = some (some k)→s.av[q]? = some (some k):=by
  intro q k e
  rw [List.getElem?_set]at e
  split at e
  ·split at e <;> simp at e
  ·exact e
 have le:Le M s M {s with av:=s.av.set t none}:=
  ⟨fun _ _ _ h=>h,Nat.le_refl _,fun _ _=>rfl,by simp,fun q k _ e=>⟨k,oa q k e,Nat.le_refl _,fun _=>rfl⟩⟩
 refine⟨⟨r.comm,fun o ds e=> ?_,r.hZ,r.inj,fun q k e=>r.tok q k (oa q k e),fun q b' c z o hl e jI=>r.dI q b' c z o (fl q hl) e jI,
  fun q q' b' c z c' z' h h' e e'=>r.eA q q' b' c z c' z' (fl q h) (fl q' h') e e'⟩,le⟩
 obtain⟨dV,T',h3,h4,h5,h6⟩:=r.obj o ds e
 exact⟨dV,T',h3,h4,h5,fun i d v e1 e2=>(h6 i d v e1 e2).mono le⟩
end
end Go.Abs

/-! Sound -/

namespace Go.Abs
section
variable {M:Map} {s:St} {w:World}
theorem RD.gf {k:IntKind} {n:Int} {v:Value} (h:RD M s (.int k n) v):v = .int k n:=by cases h;rfl
theorem RD.jO {b:Bool} {v:Value} (h:RD M s (.bool b) v):v = .bool b:=by cases h;rfl
theorem RD.gY {l:List UInt8} {v:Value} (h:RD M s (.str l) v):v = .string ⟨⟨l⟩⟩:=by cases h;rfl
theorem RD.mZ {v:Value} (h:RD M s .dR v):v = .pointer none:=by cases h;rfl
theorem RD.na {o off:Nat} {v:Value} (h:RD M s (.ptr o off) v):v = .pointer (some ⟨M.mu o,off,none⟩)∧o<s.au.length:=by
 cases h with | ptr _ _ h hm=>exact⟨rfl,h⟩
theorem RD.sT {o off:Nat} {v:Value} (h:RD M s (.ptr o off) v):M.ob o≠ .map:=by cases h with | ptr _ _ h hm=>exact hm
theorem RD.zr {o:Nat} {v:Value} (h:RD M s (.eU o) v):v = .map (some (M.mu o))∧o<s.au.length∧M.ob o = .map:=by cases h with | eU _ h hm=>exact⟨rfl,h,hm⟩
theorem RD.BM {f:Nat} {ds:List D} {v:Value} (h:RD M s (.eW f ds) v) : ∃ vs:Array Value,v = .func (.func f) #[] vs∧ds.length=vs.size∧
 ∀ (i:Nat) (d:D) (v:Value),ds[i]? = some d→vs[i]? = some v→RD M s d v:=by
 cases h with | eW _ _ vs h1 h2=>exact⟨vs,rfl,h1,h2⟩
theorem RD.rB {row:List D} {off:Nat} {v:Value} (h:RD M s (.cL row off) v) : ∃ b k,v = .pointer (some ⟨b,k+off,none⟩)∧
 (∀ (i:Nat) (d:D),row[i]? = some d→∃ u,M.G b (k+i)=some u)∧(∀ (i:Nat) (d:D) (u:Value),row[i]? = some d→M.G b (k+i)=some u→RD M s d u):=by
 cases h with | cL _ _ b k h1 h2=>exact⟨b,k,rfl,h1,h2⟩
theorem RD.wV {ds:List D} {v:Value} (h:RD M s (.agg ds) v) : ∃ vs:Array Value,v = .agg vs∧ds.length=vs.size∧(∀ v∈vs,v.oneCell'=true)∧
 ∀ (i:Nat) (d:D) (v:Value),ds[i]? = some d→vs[i]? = some v→RD M s d v:=by
 cases h with | agg _ vs h1 h2 h3=>exact⟨vs,rfl,h1,h2,h3⟩
theorem RD.xG {ds:List D} {v:Value} (h:RD M s (.tuple ds) v) : ∃ vs:Array Value,v = .tuple vs∧ds.length=vs.size∧
 ∀ (i:Nat) (d:D) (v:Value),ds[i]? = some d→vs[i]? = some v→RD M s d v:=by
 cases h with | tuple _ vs h1 h2=>exact⟨vs,rfl,h1,h2⟩
theorem RD.undef:RD M s (.tuple []) Go.undef:= .tuple [] #[] rfl (fun i d v h=>by simp at h)
theorem RD.fG {g:Tag} {z:Nat} {rows:List (List D)} {v:Value} (h:RD M s (.slice g z rows) v) :
 (rows = []∧v = .slice none 0 0∧fw M s g z 0 none 0)∨(rows = []∧g = .shared∧∃ a cap,v = .slice (some a) 0 cap)∨
 ∃ b k cap,v = .slice (some ⟨b,k,none⟩) rows.length cap∧rows.length≤cap∧(∀ row∈rows,row.length=z)∧
  (∀ (i:Nat) (row:List D) (j:Nat) (d:D),rows[i]? = some row→row[j]? = some d→∃ u,M.G b (k+(i*z+j))=some u)∧
  (∀ (i:Nat) (row:List D) (j:Nat) (d:D) (u:Value),rows[i]? = some row→row[j]? = some d→M.G b (k+(i*z+j))=some u→RD M s d u)∧
  fw M s g z rows.length (some (b,k)) cap:=by
 cases h with
 | gb _ _ cap hc ht=>subst hc;exact .inl ⟨rfl,rfl,ht⟩
 | jL _ a cap=>exact .inr (.inl ⟨rfl,rfl,a,cap,rfl⟩)
 | slice _ _ _ b k cap hl hs h1 h2 ht=>exact .inr (.inr ⟨b,k,cap,rfl,hl,hs,h1,h2,ht⟩)
theorem RD.row {d:D} {v:Value} (h:RD M s d v) {r:List D} (hr:d.row=some r):v.cells.size=r.length∧(∀ u∈v.cells,u.oneCell'=true)∧
 ∀ (i:Nat) (d':D) (u:Value),r[i]? = some d'→v.cells[i]? = some u→RD M s d' u:=by
 have one : ∀ (x:Value),x.oneCell'=true→x.cells = #[x]:=by intro x hx;cases x <;> first | rfl | (simp [Value.oneCell']at hx)
 have go : ∀ (x:Value),x.oneCell'=true→RD M s d x→d.row=some [d]→x.cells.size=r.length∧(∀ u∈x.cells,u.oneCell'=true)∧
  ∀ (i:Nat) (d':D) (u:Value),r[i]? = some d'→x.cells[i]? = some u→RD M s d' u:=by
  intro x hx hd h1
  rw [h1]at hr;cases hr
  rw [one x hx]
  refine⟨rfl,by simp [hx],fun i d' u e1 e2=> ?_⟩
  cases i with
  | zero=>simp at e1 e2;subst e1;subst e2;exact hd
  | succ i=>simp at e1
 cases h with
 | junk v=>cases hr
 | int k n=>exact go _ rfl (.int k n) rfl
 | bool b=>exact go _ rfl (.bool b) rfl
 | str l=>exact go _ rfl (.str l) rfl
 | dR=>exact go _ rfl .dR rfl
 | val v hv=>exact go _ hv (.val v hv) rfl
 | dT T o v h ht hv=>exact go _ (by rcases hv with rfl | rfl <;> rfl) (.dT T o v h ht hv) rfl
 | ptr o off h hm=>exact go _ rfl (.ptr o off h hm) rfl
 | eW f ds vs hl h=>exact go _ rfl (.eW f ds vs hl h) rfl
 | eU o h hm=>exact go _ rfl (.eU o h hm) rfl
 | cL row off b k h1 h2=>exact go _ rfl (.cL row off b k h1 h2) rfl
 | gb g z cap hc ht=>exact go _ rfl (.gb g z cap hc ht) rfl
 | jL z a cap=>exact go _ rfl (.jL z a cap) rfl
 | slice g z rows b k cap hl hs h1 h2 ht=>exact go _ rfl (.slice g z rows b k cap hl hs h1 h2 ht) rfl
 | agg cells vs hl h1 h2=>cases hr;exact⟨hl.symm,h1,h2⟩
 | tuple ds vs hl h1=>cases hr
theorem lG {v:Value} {d:D} (h:mX v=some d):RD M s d v∧v.oneCell'=true:=by
 unfold mX at h
 split at h <;> first | (cases h;done) | skip
 ·cases h;exact⟨.int _ _,rfl⟩
 ·cases h;exact⟨.bool _,rfl⟩
 ·cases h;exact⟨.str _,rfl⟩
 ·cases h;exact⟨.dR,rfl⟩
 ·cases h;exact⟨.gb _ _ 0 rfl rfl,rfl⟩
 ·cases h;exact⟨.val _ rfl,rfl⟩
theorem gZ : ∀ {vs:List Value} {ds:List D},jM vs=some ds→ds.length=vs.length∧(∀ v∈vs,v.oneCell'=true)∧
 ∀ (i:Nat) (d:D) (v:Value),ds[i]? = some d→vs[i]? = some v→RD M s d v
 | [],ds,h=>by cases h;exact⟨rfl,by simp,by simp⟩
 | v::r,ds,h=>by
  unfold jM at h
  split at h
  ·rename_i d kr h1 h2
   cases h
   obtain⟨a,b⟩:=lG (M:=M) (s:=s) h1
   obtain⟨i1,i2,i3⟩:=gZ h2
   refine⟨by simp [i1],fun u hu=> ?_,fun i d' u e1 e2=> ?_⟩
   ·rcases List.mem_cons.1 hu with rfl | hu
    ·exact b
    ·exact i2 u hu
   ·cases i with
    | zero=>simp at e1 e2;subst e1;subst e2;exact a
    | succ i=>simp at e1 e2;exact i3 i d' u e1 e2
  ·cases h
theorem wW {v:Value} {d:D} (h:uT v=some d):RD M s d v∧v.oneCell'=true:=by
 unfold uT at h
 split at h
 ·cases h;exact⟨.val _ rfl,rfl⟩
 ·exact lG h
theorem pQ : ∀ {vs:List Value} {ds:List D},pM vs=some ds→ds.length=vs.length∧(∀ v∈vs,v.oneCell'=true)∧
 ∀ (i:Nat) (d:D) (v:Value),ds[i]? = some d→vs[i]? = some v→RD M s d v
 | [],ds,h=>by cases h;exact⟨rfl,by simp,by simp⟩
 | v::r,ds,h=>by
  unfold pM at h
  split at h
  ·rename_i d kr h1 h2
   cases h
   obtain⟨g1,g2⟩:=wW (M:=M) (s:=s) h1
   obtain⟨k1,k2,k3⟩:=pQ h2
   refine⟨by simp [k1],fun u hu=> ?_,fun i d' u e1 e2=> ?_⟩
   ·rcases List.mem_cons.1 hu with rfl | hu
    ·exact g2
    ·exact k2 u hu
   ·cases i with
    | zero=>simp at e1 e2;subst e1;subst e2;exact g1
    | succ i=>exact k3 i d' u (by simpa using e1) (by simpa using e2)
  ·cases h
theorem uy {b:Bool} {vs:List Value} {ds:List D} (h:Ck b vs=some ds):ds.length=vs.length∧(∀ v∈vs,v.oneCell'=true)∧
 ∀ (i:Nat) (d:D) (v:Value),ds[i]? = some d→vs[i]? = some v→RD M s d v:=by
 unfold Ck at h
 split at h
 ·exact pQ h
 ·exact gZ h
theorem Cm {v:Value} {d:D} (h:Ci v=some d):RD M s d v:=by
 unfold Ci at h
 split at h
 ·rename_i cs
  cases hc:jM cs.toList with
  | none=>rw [hc]at h;cases h
  | some ds=>
   rw [hc]at h;cases h
   obtain⟨h1,h2,h3⟩:=gZ (M:=M) (s:=s) hc
   exact .agg ds cs (by simpa using h1) (fun v hv=>h2 v (by simpa using hv)) (fun i d v e1 e2=>h3 i d v e1 (by simpa using e2))
 ·cases h;exact .undef
 ·exact(lG h).1
def iL (M:Map) (s:St) (tm:Tm) (tmps:Array Value):Prop:=∀ t,RD M s (tm.get t) (tmps.getD t Go.undef)
theorem iL.mono {M':Map} {s':St} {tm:Tm} {tmps:Array Value} (h:iL M s tm tmps) (le:Le M s M' s'):iL M' s' tm tmps:=fun t=>(h t).mono le
theorem bo {x:Operand} {y:X} (h:cX x=some y) {tm:Tm} {act:Act} (hr:iL M s tm act.tmps):RD M s (y.ev tm) (act.eval x):=by
 unfold cX at h
 split at h
 ·cases h;exact hr _
 ·rename_i v
  cases hv:Ci v with
  | none=>rw [hv]at h;cases h
  | some d=>rw [hv]at h;cases h;exact Cm hv
 ·cases h;exact .eW _ [] #[] rfl (by simp)
 ·cases h
theorem Tm.wX (tm:Tm) (t:Nat) (d:D) (u:Nat):(tm.set t d).get u=if u=t then d else tm.get u:=by
 induction tm with
 | nil=>
  simp only [Tm.set,Tm.get]
  by_cases h:t=u
  ·simp [h]
  ·rw [if_neg h,if_neg (fun e=>h e.symm)]
 | cons p r ih=>
  obtain⟨k,e⟩:=p
  simp only [Tm.set]
  split
  ·rename_i h
   subst h
   simp only [Tm.get]
   by_cases h:k=u
   ·simp [h]
   ·rw [if_neg h,if_neg (fun e=>h e.symm),if_neg h]
  ·rename_i h
   simp only [Tm.get,ih]
   by_cases h1:k=u
   ·subst h1;simp [h]
   ·simp [h1]
theorem iL.put {tm:Tm} {act:Act} (h:iL M s tm act.tmps) {dst:Option Nat} (hd : ∀ t,dst=some t→t<act.tmps.size) {d:D} {v:Value} (hv:RD M s d v) :
 iL M s (tm.put dst d) (act.put dst v).tmps:=by
 intro u
 cases dst with
 | none=>exact h u
 | some t=>
  simp only [Tm.put,Act.put,Tm.wX]
  have ht:=hd t rfl
  by_cases hu:u=t
  ·subst hu
   simp [ht];exact hv
  ·rw [if_neg hu]
   have:=h u
   simpa [Array.getElem?_setIfInBounds_ne (fun e=>hu e.symm)]using this
theorem fj (P:Program) {t:TypeId} {i:TypeInfo} (h:P.info? t=some i) (w:World):(typeInfo t).run P w = .ok i w:=by
 simp [typeInfo,h]
theorem nc (b o n:Nat):Addr.add ⟨b,o,none⟩ n = ⟨b,o+n,none⟩:=Addr.add_lit b o n
theorem uV (P:Program) {t:TypeId} {i:TypeInfo} {agg:Bool} (hi:P.info? t=some i) (ha:nM P t=some agg) (b k:Nat) (us:List Value)
 (hl:us.length=if agg then i.size else 1) (h : ∀ (j:Nat) (u:Value),us[j]? = some u→w.cell? ⟨b,k+j,none⟩=some u) :
 (loadVar t ⟨b,k,none⟩).run P w = .ok (if agg then .agg us.toArray else us.getD 0 Go.undef) w:=by
 have sU:(isAgg t).run P w = .ok agg w:=by
  unfold nM at ha
  unfold isAgg
  cases hu:P.underlying t with
  | none=>rw [hu]at ha;cases ha
  | some d=>
   rw [hu]at ha
   simp only [Sem.run_bind,run_underlying hu,Result.andThen_ok]
   cases d <;> simp_all
 cases agg with
 | true=>
  simp only [if_true]at hl ⊢
  have hc:=run_loadCells_list (P:=P) w ⟨b,k,none⟩ us (fun j v e=>by rw [nc];exact h j v e)
  simp [loadVar,sU,sizeOf,fj P hi, ← hl,hc]
 | false=>
  simp only [Bool.false_eq_true,if_false]at hl ⊢
  match us,hl with
  | [u],_=>
   have:=h 0 u rfl
   simp only [Nat.add_zero]at this
   simp [loadVar,sU,this]
theorem nO {cs:List D} {off:Nat} {agg:Bool} {size:Nat} {d:D} (h:part cs off agg size=some d) :
 (agg=true∧off+size≤cs.length∧d = .agg ((cs.drop off).take size))∨(agg=false∧cs[off]? = some d):=by
 unfold part at h
 split at h
 ·split at h
  ·cases h;exact .inl ⟨rfl, ‹_›,rfl⟩
  ·cases h
 ·exact .inr ⟨rfl,h⟩
theorem oO {cs:List D} {off size:Nat} {agg:Bool} {d:D} (h:part cs off agg size=some d) (us:List Value) (hl:us.length=if agg then size else 1)
 (jN:agg=true→∀ u∈us,u.oneCell'=true)
 (hr : ∀ (j:Nat) (d:D) (u:Value),cs[off+j]? = some d→us[j]? = some u→RD M s d u):RD M s d (if agg then .agg us.toArray else us.getD 0 Go.undef):=by
 rcases nO h with ⟨rfl,h1,rfl⟩ | ⟨rfl,h1⟩
 ·simp only [if_true]at hl ⊢
  refine .agg _ _ (by simp [hl];omega) (fun v hv=>jN rfl v (by simpa using hv)) (fun i d v e1 e2=> ?_)
  rw [List.getElem?_take]at e1
  split at e1
  ·rw [List.getElem?_drop]at e1
   exact hr i d v e1 (by simpa using e2)
  ·cases e1
 ·simp only [Bool.false_eq_true,if_false]at hl ⊢
  match us,hl with
  | [u],_=>exact hr 0 d u (by simpa using h1) rfl
end
end Go.Abs

/-! Sound2 -/

namespace Go.Abs
def bZ (P:Program) (M:Map) (s:St) (w:World) (x:Sem Next) (d:D) (s':St):Prop:=
 ∃ v w' M',(x.run P w = .ok (.value v) w'∨(x.run P w = .ok .skip w'∧v=Go.undef))∧Rel M' s' w'∧RD M' s' d v∧Ext M s w M' s' w'
section
variable {P:Program} {M:Map} {s:St} {w:World}
theorem bZ.pure {x:Sem Next} {d:D} {v:Value} (r:Rel M s w) (h:x.run P w = .ok (.value v) w) (hd:RD M s d v):bZ P M s w x d s:=
 ⟨v,w,M, .inl h,r,hd,Ext.refl M s w⟩
theorem Cn (r:Rel M s w) {t:TypeId} {z:List D} (hz:zeroOf P t=some z) :
 bZ P M s w (do pure (.value (← Instr.alloc t true (.tuple #[])))) (.ptr s.au.length 0) {s with au:=s.au++ [z]}:=by
 unfold zeroOf at hz
 split at hz
 ·rename_i i hi
  split at hz
  ·rename_i v hv
   split at hz
   ·rename_i dE
    obtain⟨h1,h2,h3⟩:=gZ (M:=M) (s:=s) hz
    obtain⟨r',e'⟩:=r.cB z v.cells t (by rw [h1];simp) (fun u hu=>h2 u (by simpa using hu)) (fun i d u e1 e2=>h3 i d u e1 (by simpa using e2))
    refine⟨_,_,_, .inl ?_,r', .ptr _ _ (by simp) (by simp [Map.cB,Map.ob]),e'⟩
    simp [Instr.alloc,zeroValue,fj P hi,hv,newVar,newRow,Map.cB,Map.mu]
   ·cases hz
  ·cases hz
 ·cases hz
theorem Ba (r:Rel M s w) {t:TypeId} {z:List D} (hz:ry P t=some (.dR::z)) :
 bZ P M s w (do pure (.value (← Instr.alloc t true (.tuple #[])))) (.ptr s.au.length 0) {s with au:=s.au++ [.dT t s.au.length::z]}:=by
 unfold ry at hz
 split at hz
 ·rename_i i hi
  split at hz
  ·rename_i v hv
   split at hz
   ·rename_i dE
    obtain⟨h1,h2,h3⟩:=uy (M:=M) (s:=s) hz
    obtain⟨r',e'⟩:=r.zp (.dT t s.au.length::z) v.cells t (.ty t) (by simp) (fun _ h=>by cases h;rfl) (by simp at h1 ⊢;omega) (fun u hu=>h2 u (by simpa using hu)) (fun i d u e1 e2=>by
     cases i with
     | zero=>
      simp at e1;subst e1
      have:=(h3 0 .dR u rfl (by simpa using e2)).mZ
      exact .dT t _ u (by simp) (by simp [Map.cB,Map.ty,Ob.ty?]) (.inl this)
     | succ i=>exact(h3 (i+1) d u (by simpa using e1) (by simpa using e2)).mono (o8 s w.heap.size _ _))
    refine⟨_,_,_, .inl ?_,r', .ptr _ _ (by simp) (by simp [Map.cB,Map.ob]),e'⟩
    simp [Instr.alloc,zeroValue,fj P hi,hv,newVar,newRow,Map.cB,Map.mu]
   ·cases hz
  ·cases hz
 ·cases hz
theorem Hj (r:Rel M s w) {t:TypeId} {d:D} {v:Value} {row:List D} (hd:RD M s d v) (hr:d.row=some row) :
 bZ P M s w (do pure (.value (← Instr.box t v))) (.ptr s.au.length 0) {s with au:=s.au++ [row]}:=by
 obtain⟨h1,h2,h3⟩:=hd.row hr
 obtain⟨r',e'⟩:=r.cB row v.cells t h1 h2 h3
 refine⟨_,_,_, .inl ?_,r', .ptr _ _ (by simp) (by simp [Map.cB,Map.ob]),e'⟩
 simp [Instr.box,newVar,newRow,Map.cB,Map.mu]
theorem EK (r:Rel M s w) {t:TypeId} {d:D} {v:Value} {row:List D} (hd:RD M s d v) (hr:d.row=some (.dR::row)) :
 bZ P M s w (do pure (.value (← Instr.box t v))) (.ptr s.au.length 0) {s with au:=s.au++ [.dT t s.au.length::row]}:=by
 obtain⟨h1,h2,h3⟩:=hd.row hr
 obtain⟨r',e'⟩:=r.zp (.dT t s.au.length::row) v.cells t (.ty t) (by simp) (fun _ h=>by cases h;rfl) (by simp at h1 ⊢;omega) h2 (fun i d u e1 e2=>by
  cases i with
  | zero=>
   simp at e1;subst e1
   have:=(h3 0 .dR u rfl e2).mZ
   exact .dT t _ u (by simp) (by simp [Map.cB,Map.ty,Ob.ty?]) (.inl this)
  | succ i=>exact(h3 (i+1) d u (by simpa using e1) e2).mono (o8 s w.heap.size _ _))
 refine⟨_,_,_, .inl ?_,r', .ptr _ _ (by simp) (by simp [Map.cB,Map.ob]),e'⟩
 simp [Instr.box,newVar,newRow,Map.cB,Map.mu]
theorem yB (r:Rel M s w) {t:TypeId} {i:TypeInfo} {agg:Bool} (hi:P.info? t=some i) (ha:nM P t=some agg) {o off:Nat} {cs:List D} {d:D}
 (ho:s.au[o]? = some cs) (hk:M.ob o≠ .map) (hp:part cs off agg i.size=some d) :
 bZ P M s w (do pure (.value (← Instr.loadAt t (.pointer (some ⟨M.mu o,off,none⟩))))) d s:=by
 obtain⟨vs,T,hh,dE,⟨jN,_⟩,lx⟩:=r.obj o cs ho
 replace hh:=hh.cells hk
 let n:=if agg then i.size else 1
 have ib:off+n≤vs.size:=by
  rcases nO hp with ⟨rfl,h1,_⟩ | ⟨rfl,h1⟩
  ·simp [n];omega
  ·have:=(List.getElem?_eq_some_iff.1 h1).1;simp [n];omega
 have hlen:((vs.toList.drop off).take n).length=n:=by simp;omega
 have hJ : ∀ (j:Nat) (u:Value),((vs.toList.drop off).take n)[j]? = some u→vs[off+j]? = some u:=by
  intro j u h
  rw [List.getElem?_take]at h
  split at h
  ·rw [List.getElem?_drop]at h;simpa using h
  ·cases h
 have cM:=uV (w:=w) P hi ha (M.mu o) off ((vs.toList.drop off).take n) hlen (fun j u h=>by rw [gR hh];exact hJ j u h)
 refine bZ.pure (v:=if agg then .agg ((vs.toList.drop off).take n).toArray else((vs.toList.drop off).take n).getD 0 Go.undef) r (by simp [Instr.loadAt,Instr.sureAddr,cM]) ?_
 refine oO hp _ hlen (fun _ u hu=>jN u ?_) (fun j d u e1 e2=>lx _ d u e1 (hJ j u e2))
 exact Array.mem_toList_iff.1 (List.mem_of_mem_drop (List.mem_of_mem_take hu))
theorem rD {b:Nat} : ∀ (n k:Nat),(∀ j,j<n→∃ u,M.G b (k+j)=some u)→∃ us:List Value,us.length=n∧∀ (j:Nat) (u:Value),us[j]? = some u→M.G b (k+j)=some u
 | 0,_,_=>⟨[],rfl,fun j u h=>by simp at h⟩
 | n+1,k,h=>by
  obtain⟨u0,h0⟩:=h 0 (by omega)
  obtain⟨us,h1,h2⟩:=rD n (k+1) (fun j hj=>by obtain⟨u,hu⟩:=h (j+1) (by omega);exact⟨u,by rw [show k+1+j=k+(j+1) by omega];exact hu⟩)
  refine⟨u0::us,by simp [h1],fun j u hj=> ?_⟩
  cases j with
  | zero=>simp at hj;subst hj;exact h0
  | succ j=>simp at hj;have:=h2 j u hj;rw [show k+(j+1)=k+1+j by omega];exact this
theorem yC (r:Rel M s w) {t:TypeId} {i:TypeInfo} {agg:Bool} (hi:P.info? t=some i) (ha:nM P t=some agg) {row:List D} {off b k:Nat} {d:D}
 (h1 : ∀ (i:Nat) (d:D),row[i]? = some d→∃ u,M.G b (k+i)=some u) (h2 : ∀ (i:Nat) (d:D) (u:Value),row[i]? = some d→M.G b (k+i)=some u→RD M s d u)
 (hp:part row off agg i.size=some d) :
 bZ P M s w (do pure (.value (← Instr.loadAt t (.pointer (some ⟨b,k+off,none⟩))))) d s:=by
 let n:=if agg then i.size else 1
 have ib:off+n≤row.length:=by
  rcases nO hp with ⟨rfl,h1,_⟩ | ⟨rfl,h1⟩
  ·simp [n];omega
  ·have:=(List.getElem?_eq_some_iff.1 h1).1;simp [n];omega
 obtain⟨us,hl,ux⟩:=rD (M:=M) (b:=b) n (k+off) (fun j hj=>by
  obtain⟨d,hd⟩ : ∃ d,row[off+j]? = some d:=⟨_,List.getElem?_eq_getElem (by omega)⟩
  obtain⟨u,hu⟩:=h1 _ d hd
  exact⟨u,by rw [show k+off+j=k+(off+j) by omega];exact hu⟩)
 have cM:=uV (w:=w) P hi ha b (k+off) us hl (fun j u h=>(r.comm _ _ _ (ux j u h)).1)
 refine bZ.pure (v:=if agg then .agg us.toArray else us.getD 0 Go.undef) r (by simp [Instr.loadAt,Instr.sureAddr,cM]) ?_
 refine oO hp us hl (fun _ u hu=> ?_) (fun j d u e1 e2=>h2 _ d u e1 (by rw [show k+(off+j)=k+off+j by omega];exact ux j u e2))
 obtain⟨j,hj⟩:=List.mem_iff_getElem?.1 hu
 exact(r.comm _ _ _ (ux j u hj)).2
theorem Co (r:Rel M s w) {t:TypeId} {i:TypeInfo} (hi:P.info? t=some i) {o off:Nat} {cs row:List D} {d:D} {v:Value} (ho:s.au[o]? = some cs) (hk:M.ob o≠ .map)
 (hd:RD M s d v) (hr:d.row=some row) (hl:row.length=i.size) (ib:off+i.size≤cs.length) :
 bZ P M s w (do Instr.storeAt t (.pointer (some ⟨M.mu o,off,none⟩)) v;pure .skip) (.tuple []) {s with au:=s.au.set o (fY cs off row)}:=by
 obtain⟨h1,h2,h3⟩:=hd.row hr
 obtain⟨w',cM,r',e'⟩:=r.RJ P ho hk row v.cells.toList (by simpa using h1) (by rw [hl];exact ib) (fun u hu=>h2 u (by simpa using hu)) (fun i d u e1 e2=>h3 i d u e1 (by simpa using e2))
 refine⟨Go.undef,w',M, .inr ⟨?_,rfl⟩,r', .undef,e'⟩
 have dE:v.cells.size=i.size:=by omega
 simp [Instr.storeAt,Instr.sureAddr,storeVar,sizeOf,fj P hi,dE,cM]
theorem vE (r:Rel M s w) {d:D} {a:Addr} (hd:RD M s d (.pointer (some a))) :
 bZ P M s w (pure (.value (.pointer (some a)))) d s:=bZ.pure r rfl hd
theorem xH {t:TypeId} {f off size:Nat} {agg:Bool} (h:iW P t f=some (off,size,agg)) (b k:Nat) :
 (Instr.fieldAt t (.pointer (some ⟨b,k,none⟩)) f).run P w = .ok (.pointer (some ⟨b,k+off,none⟩)) w:=by
 unfold iW at h
 split at h
 ·rename_i fs hu
  split at h
  ·rename_i fd hf
   split at h
   ·rename_i i a hi ha
    split at h
    ·cases h
    ·rename_i dQ
     cases h
     simp [Instr.fieldAt,run_underlying hu,hf,Instr.sureAddr,fieldPlace,sizeOf,fj P hi,dQ,nc]
   ·cases h
  ·cases h
 ·cases h
theorem EL {t:TypeId} {f off size:Nat} {agg:Bool} (h:iW P t f=some (off,size,agg)) (vs:Array Value) (us:List Value) (hl:us.length=if agg then size else 1)
 (hg : ∀ j,j<us.length→vs[off+j]? = us[j]?) :
 (Instr.field t (.agg vs) f).run P w = .ok (if agg then .agg us.toArray else us.getD 0 Go.undef) w:=by
 unfold iW at h
 split at h
 ·rename_i fs hu
  split at h
  ·rename_i fd hf
   split at h
   ·rename_i i a hi ha
    split at h
    ·cases h
    ·rename_i dQ
     cases h
     have sU:(isAgg fd.type).run P w = .ok agg w:=by
      unfold nM at ha
      unfold isAgg
      cases hu:P.underlying fd.type with
      | none=>rw [hu]at ha;cases ha
      | some d=>
       rw [hu]at ha
       simp only [Sem.run_bind,run_underlying hu,Result.andThen_ok]
       cases d <;> simp_all
     cases agg with
     | true=>
      simp only [if_true]at hl ⊢
      have:vs.extract fd.offset (fd.offset+i.size)=us.toArray:=by
       apply Array.ext_getElem?
       intro j
       rw [Array.getElem?_extract]
       by_cases hj:j<us.length
       ·rw [← hl,if_pos (by
         have h1:=hg j hj
         rw [List.getElem?_eq_getElem hj]at h1
         have:=(Array.getElem?_eq_some_iff.1 h1).1
         have h2:=hg (us.length - 1) (by omega)
         rw [List.getElem?_eq_getElem (by omega)]at h2
         have:=(Array.getElem?_eq_some_iff.1 h2).1
         omega),hg j hj]
        simp
       ·have hn:us.toArray[j]? = none:=by simp;omega
        rw [hn,if_neg (by omega)]
      simp [Instr.field,run_underlying hu,hf,asAgg,Go.part,sU,sizeOf,fj P hi,this]
     | false=>
      simp only [Bool.false_eq_true,if_false]at hl ⊢
      match us,hl with
      | [u],_=>
       have:=hg 0 (by simp)
       simp at this
       simp [Instr.field,run_underlying hu,hf,asAgg,Go.part,sU,this]
   ·cases h
  ·cases h
 ·cases h
end
end Go.Abs

/-! Sound3 -/

namespace Go.Abs
section
variable {P:Program} {M:Map} {s:St} {w:World}
theorem Cp {op : BinOp} {t : TypeId} {k : IntKind} {a b : Int} {d : D} (h : eh op k a b = some d) :
   ∃ v, (binOp op t (.int k a) (.int k b)).run P w = .ok v w ∧ RD M s d v := by
 cases op <;> simp only [eh] at h <;> first
   | (cases h; done)
   | (split at h
      · cases h
      · cases h
        exact ⟨_, by simp [binOp, Op.intDiv, *], .int _ _⟩)
   | (cases h; exact ⟨_, by simp [binOp, Op.intArith], .int _ _⟩)
   | (cases h; exact ⟨_, by simp [binOp, Op.intCmp], .bool _⟩)
theorem Cq {op:BinOp} {t:TypeId} {a b:List UInt8} {d:D} (h:jV op a b=some d) :
 ∃ v,(binOp op t (.string ⟨⟨a⟩⟩) (.string ⟨⟨b⟩⟩)).run P w = .ok v w∧RD M s d v:=by
 have sz : ∀ l:List UInt8,(⟨⟨l⟩⟩:ByteArray).size=l.length:=fun _=>rfl
 cases op <;> simp only [jV]at h <;> first
  | (cases h;done)
  | skip
 case add=>
  split at h
  ·rename_i hl
   cases h
   refine⟨.string ⟨⟨a++b⟩⟩, ?_, .str _⟩
   have h1 : ¬ ((((⟨⟨a⟩⟩:ByteArray).size+(⟨⟨b⟩⟩:ByteArray).size:Nat):Int) > IntKind.i64.max):=by
    rw [sz,sz,IntKind.max_i64];simp only [bH]at hl;omega
   simp only [binOp,Op.stringOp,h1,if_false]
   simp only [Sem.run_pure]
   congr 2
  ·cases h
 case eql=>cases h;exact⟨_,by simp [binOp,Op.stringOp], .bool _⟩
 case neq=>cases h;exact⟨_,by simp [binOp,Op.stringOp], .bool _⟩
 case lss=>cases h;exact⟨_,by simp [binOp,Op.stringOp,bytesLess], .bool _⟩
theorem jW {op:BinOp} {t:TypeId} {x y:Operand} {a b:Value} (h:(∀ vs,a≠ .agg vs)∧a≠ .nilIface):(eqGuard op t x y a b).run P w = .ok () w:=by
 obtain⟨h1,h2⟩:=h
 cases a <;> first
  | exact(h2 rfl).elim
  | exact(h1 _ rfl).elim
  | (cases op <;> simp [eqGuard])
theorem Hk (r:Rel M s w) {op:BinOp} {t:TypeId} {x y:Operand} {dx dy d:D} {a b:Value} (ha:RD M s dx a) (hb:RD M s dy b) (h:qp op dx dy=some d) :
 bZ P M s w (do pure (.value (← (do eqGuard op t x y a b;binOp op t a b)))) d s:=by
 unfold qp at h
 split at h
 ·rename_i k n k' m
  split at h
  ·rename_i hk;subst hk
   rw [ha.gf,hb.gf]
   obtain⟨v,hv,hd⟩:=Cp (P:=P) (M:=M) (s:=s) (w:=w) (t:=t) h
   exact bZ.pure r (by simp [jW (P:=P) (w:=w) (op:=op) (t:=t) (x:=x) (y:=y) (a:= .int k n) (b:= .int k m) ⟨by simp,by simp⟩,hv]) hd
  ·cases h
 ·rename_i l m
  rw [ha.gY,hb.gY]
  obtain⟨v,hv,hd⟩:=Cq (P:=P) (M:=M) (s:=s) (w:=w) (t:=t) h
  exact bZ.pure r (by simp [jW (P:=P) (w:=w) (op:=op) (t:=t) (x:=x) (y:=y) (a:= .string ⟨⟨l⟩⟩) (b:= .string ⟨⟨m⟩⟩) ⟨by simp,by simp⟩,hv]) hd
 ·cases h
theorem Hl (r:Rel M s w) {neg:Bool} {t:TypeId} {x y:Operand} {p q:Bool} (ht:P.underlying t=some .bool) :
 bZ P M s w (do pure (.value (← (do eqGuard (if neg then .neq else .eql) t x y (.bool p) (.bool q);binOp (if neg then .neq else .eql) t (.bool p) (.bool q))))) (.bool (if neg then !(p==q)else p==q)) s:=by
 refine bZ.pure (v:= .bool (if neg then !(p==q)else p==q)) r ?_ (.bool _)
 have hg:=jW (P:=P) (w:=w) (op:=if neg then .neq else .eql) (t:=t) (x:=x) (y:=y) (a:= .bool p) (b:= .bool q) ⟨by simp,by simp⟩
 have he:(Op.equal t (.bool p) (.bool q)).run P w = .ok (p==q) w:=by
  exact run_equalIn_bool w 9999 t p q ht
 cases neg
 ·simp only [Bool.false_eq_true,if_false]at hg ⊢
  simp [hg,binOp,he]
 ·simp only [if_true]at hg ⊢
  simp [hg,binOp,he]
theorem Bb (n:Nat) {t e:TypeId} {a:Option Addr} (ht:P.underlying t=some (.pointer e)):(Op.equalIn (n+1) t (.pointer a) (.pointer none)).run P w = .ok a.isNone w:=by
 cases a <;> simp [Op.equalIn,run_underlying ht]
theorem uW (r:Rel M s w) {neg:Bool} {t e:TypeId} {x y:Operand} {a:Option Addr} (ht:P.underlying t=some (.pointer e)) :
 bZ P M s w (do pure (.value (← (do eqGuard (if neg then .neq else .eql) t x y (.pointer a) (.pointer none);binOp (if neg then .neq else .eql) t (.pointer a) (.pointer none))))) (.bool (if neg then !a.isNone else a.isNone)) s:=by
 refine bZ.pure (v:= .bool (if neg then !a.isNone else a.isNone)) r ?_ (.bool _)
 have hg:=jW (P:=P) (w:=w) (op:=if neg then .neq else .eql) (t:=t) (x:=x) (y:=y) (a:= .pointer a) (b:= .pointer none) ⟨by simp,by simp⟩
 have he:(Op.equal t (.pointer a) (.pointer none)).run P w = .ok a.isNone w:=by
  exact Bb 9999 ht
 cases neg
 ·simp only [Bool.false_eq_true,if_false]at hg ⊢
  simp [hg,binOp,he]
 ·simp only [if_true]at hg ⊢
  simp [hg,binOp,he]
theorem Cs (n:Nat) {t:TypeId} {k:Nat} (hk:jo P t=some k) {x y:D} {v u:Value} (rv:RD M s x v) (ru:RD M s y u) {b:Bool} (h:jn k x y=some b) :
 (Op.equalIn (n+1) t v u).run P w = .ok b w:=by
 unfold jo at hk
 split at hk <;> first | (cases hk;done) | skip
 ·rename_i kk hu
  cases hk
  cases x <;> cases y <;> simp [jn]at h
  obtain⟨rfl,rfl⟩:=h
  rw [rv.gf,ru.gf]
  exact run_equalIn_int w n t _ _ _ _ hu
 ·rename_i hu
  cases hk
  cases x <;> cases y <;> simp [jn]at h
  subst h
  rw [rv.jO,ru.jO]
  exact run_equalIn_bool w n t _ _ hu
 ·rename_i hu
  cases hk
  cases x <;> cases y <;> simp [jn]at h
  subst h
  rw [rv.gY,ru.gY]
  rw [run_equalIn_string w n t _ _ hu]
  simp
theorem sV (n:Nat) : ∀ (fs:List Field) (off:Nat) (ks:List Nat) (xs ys:List D) (vs us:Array Value) (e:Bool),
 tU P off fs=some ks→(∀ (i:Nat) (d:D) (v:Value),xs[i]? = some d→vs[off+i]? = some v→RD M s d v)→(∀ i,i<xs.length→(vs[off+i]?).isSome)→
 (∀ (i:Nat) (d:D) (v:Value),ys[i]? = some d→us[off+i]? = some v→RD M s d v)→(∀ i,i<ys.length→(us[off+i]?).isSome)→
 gX ks xs ys=some e→(Op.eqFields (n+1) vs us fs).run P w = .ok e w
 | [],off,ks,xs,ys,vs,us,e,hk,_,_,_,_,h=>by
  cases hk
  cases xs <;> cases ys <;> simp [gX]at h
  subst h;rfl
 | f::fs,off,ks,xs,ys,vs,us,e,hk,h1,h2,h3,h4,h=>by
  unfold tU at hk
  split at hk
  ·rename_i hf
   obtain⟨ho,Pk⟩:=hf
   split at hk
   ·rename_i k TB uz bB
    cases hk
    match xs,ys with
    | [],[]=>cases h
    | [],_::_=>cases h
    | _::_,[]=>cases h
    | x::xs,y::ys=>
     obtain⟨v,hv⟩:=Option.isSome_iff_exists.1 (h2 0 (by simp))
     obtain⟨u,hu⟩:=Option.isSome_iff_exists.1 (h4 0 (by simp))
     simp only [Nat.add_zero]at hv hu
     have rv:=h1 0 x v rfl hv
     have ru:=h3 0 y u rfl hu
     have sU:(isAgg f.type).run P w = .ok false w:=by
      unfold isAgg
      unfold jo at uz
      cases hu:P.underlying f.type with
      | none=>rw [hu]at uz;simp at uz
      | some d=>simp only [Sem.run_bind,run_underlying hu,Result.andThen_ok];rw [hu]at uz;cases d <;> simp_all
     have pv:(Go.part f.type vs f.offset).run P w = .ok v w:=by simp [Go.part,sU,ho,hv]
     have pu:(Go.part f.type us f.offset).run P w = .ok u w:=by simp [Go.part,sU,ho,hu]
     cases hc:jn k x y with
     | none=>simp [gX,hc]at h
     | some b=>
      have hb:=Cs (w:=w) n uz rv ru hc
      simp only [gX,hc]at h
      simp only [Op.eqFields,if_pos Pk,Sem.run_bind,pv,pu,hb,Result.andThen_ok,Sem.run_ite,Sem.run_pure]
      cases b with
      | false=>cases h;rfl
      | true=>
       have:=sV n fs (off+1) TB xs ys vs us e bB
        (fun i d v e1 e2=>h1 (i+1) d v (by simpa using e1) (by rw [show off+(i+1)=off+1+i by omega];exact e2))
        (fun i hi=>by have:=h2 (i+1) (by simpa using hi);rwa [show off+(i+1)=off+1+i by omega]at this)
        (fun i d v e1 e2=>h3 (i+1) d v (by simpa using e1) (by rw [show off+(i+1)=off+1+i by omega];exact e2))
        (fun i hi=>by have:=h4 (i+1) (by simpa using hi);rwa [show off+(i+1)=off+1+i by omega]at this) h
       simp [this]
   ·cases hk
  ·cases hk
theorem Hn (r:Rel M s w) {neg:Bool} {t:TypeId} {x y:Operand} {ks:List Nat} {xs ys:List D} {a b:Value} {e:Bool} (ht:lr P t=some ks) (ha:RD M s (.agg xs) a) (hb:RD M s (.agg ys) b) (he:gX ks xs ys=some e) :
 bZ P M s w (do pure (.value (← (do eqGuard (if neg then .neq else .eql) t x y a b;binOp (if neg then .neq else .eql) t a b)))) (.bool (if neg then !e else e)) s:=by
 obtain⟨vs,rfl,hl,_,h1⟩:=ha.wV
 obtain⟨us,rfl,ld,_,h2⟩:=hb.wV
 unfold lr at ht
 split at ht
 ·rename_i fs hu
  split at ht
  ·rename_i hg
   obtain⟨EN,TC⟩:=hg
   have hf:P.fieldsOf t=fs:=by simp [Program.fieldsOf,hu]
   have cM:(Op.equalIn 10000 t (.agg vs) (.agg us)).run P w = .ok e w:=by
    rw [run_equalIn_struct w 9999 t vs us (by rw [hf];exact hu) TC,hf]
    exact sV 9998 fs.toList 0 ks xs ys vs us e ht (fun i d v e1 e2=>h1 i d v e1 (by simpa using e2)) (fun i hi=>by simp;omega)
     (fun i d v e1 e2=>h2 i d v e1 (by simpa using e2)) (fun i hi=>by simp;omega) he
   have xI:=run_eqGuard_agg (P:=P) w (if neg then .neq else .eql) t x y vs us EN
   refine bZ.pure (v:= .bool (if neg then !e else e)) r ?_ (.bool _)
   cases neg
   ·simp only [Bool.false_eq_true,if_false]at xI ⊢
    simp only [Sem.run_bind,xI,Result.andThen_ok,run_eql_struct,cM,Sem.run_pure]
   ·simp only [if_true]at xI ⊢
    simp only [Sem.run_bind,xI,Result.andThen_ok,run_neq_struct,cM,Sem.run_pure]
  ·cases ht
 ·cases ht
end
end Go.Abs

/-! Sound4 -/

namespace Go.Abs
section
variable {P:Program} {M:Map} {s:St} {w:World}
theorem tV (l:List UInt8):(⟨⟨l⟩⟩:ByteArray).size=l.length:=rfl
theorem extract_mk (l:List UInt8) (a b:Nat):(⟨⟨l⟩⟩:ByteArray).extract a b = ⟨⟨(l.take b).drop a⟩⟩:=by
 apply ByteArray.ext
 rw [ByteArray.data_extract]
 apply Array.ext'
 simp [List.drop_take]
theorem getElem?_mk (l:List UInt8) (n:Nat):(⟨⟨l⟩⟩:ByteArray)[n]? = l[n]? :=by
 by_cases h:n<l.length
 ·rw [getElem?_pos (⟨⟨l⟩⟩:ByteArray) n h,List.getElem?_eq_getElem h];rfl
 ·rw [List.getElem?_eq_none (by omega)]
  rw [getElem?_neg (c:=(⟨⟨l⟩⟩:ByteArray)) (i:=n)]
  show ¬ n<(⟨⟨l⟩⟩:ByteArray).size
  rw [tV];omega
theorem EO (r:Rel M s w) {t:TypeId} {l:List UInt8} {k:IntKind} {n:Int} {c:UInt8} (ht:P.underlying t=some .string) (h0:0≤n) (hc:l[n.toNat]? = some c) :
 bZ P M s w (do pure (.value (← Instr.index t (.string ⟨⟨l⟩⟩) (.int k n)))) (.int .u8 c.toNat) s:=by
 refine bZ.pure (v:= .int .u8 c.toNat) r ?_ (.int _ _)
 simp [Instr.index,asIntOf,run_underlying ht,h0,getElem?_mk,hc]
theorem zt (r:Rel M s w) {t ty:TypeId} {l:List UInt8} (ht:P.underlying t=some .string) :
 bZ P M s w (do pure (.value (← Builtin.len_ #[t] ty #[.string ⟨⟨l⟩⟩]))) (.int .i64 l.length) s:=by
 refine bZ.pure (v:= .int .i64 l.length) r ?_ (.int _ _)
 simp [Builtin.len_,run_underlying ht,goInt,tV]
theorem nf (r:Rel M s w) {t ty e:TypeId} {a:Option Addr} {n c:Nat} (ht:P.underlying t=some (.slice e)) :
 bZ P M s w (do pure (.value (← Builtin.len_ #[t] ty #[.slice a n c]))) (.int .i64 n) s:=by
 refine bZ.pure (v:= .int .i64 n) r ?_ (.int _ _)
 simp [Builtin.len_,run_underlying ht,goInt]
theorem Ct (r:Rel M s w) {t e:TypeId} {i:TypeInfo} {g:Tag} {rows:List (List D)} {row:List D} {v:Value} {k:IntKind} {n:Int} (ht:P.underlying t=some (.slice e)) (hi:P.info? e=some i)
 (hd:RD M s (.slice g i.size rows) v) (h0:0≤n) (hr:rows[n.toNat]? = some row) :
 bZ P M s w (do pure (.value (← Instr.indexAt t v (.int k n)))) (.cL row 0) s:=by
 have hD:=(List.getElem?_eq_some_iff.1 hr).1
 rcases hd.fG with ⟨rfl,_,_⟩ | ⟨rfl,_,_⟩ | ⟨b,q,cap,rfl,hl,hs,h1,h2,_⟩
 ·simp at hr
 ·simp at hr
 ·refine bZ.pure (v:= .pointer (some ⟨b,q+n.toNat*i.size+0,none⟩)) r ?_ ?_
  ·have:n<(rows.length:Int):=by omega
   simp [Instr.indexAt,asIntOf,run_underlying ht,h0,this,sizeOf,fj P hi,nc]
  ·refine .cL row 0 b (q+n.toNat*i.size) (fun j d hj=> ?_) (fun j d u hj hu=> ?_)
   ·obtain⟨u,hu⟩:=h1 n.toNat row j d hr hj
    exact⟨u,by rw [Nat.add_assoc];exact hu⟩
   ·exact h2 n.toNat row j d u hr hj (by rw [← Nat.add_assoc];exact hu)
def JF (lv:Option Value) (l:Int):Prop:=(lv=none∧l=0)∨∃ k,lv=some (.int k l)
def JG (hv:Option Value) (len:Nat) (h:Int):Prop:=(hv=none∧h=len)∨∃ k,hv=some (.int k h)
theorem oP {isSlice:Bool} {lv hv:Option Value} {len cap:Nat} {l h:Int} (h1:JF lv l) (h2:JG hv len h) (a:0≤l) (b:l≤h) (c:h≤len) (d:len≤cap) :
 (Instr.sliceBounds isSlice len cap lv hv none).run P w = .ok (l.toNat,h.toNat,cap) w:=by
 have h0:0≤h:=by omega
 have hc:h≤cap:=by omega
 rcases h1 with ⟨rfl,rfl⟩ | ⟨k,rfl⟩ <;> rcases h2 with ⟨rfl,rfl⟩ | ⟨k',rfl⟩
 ·simp [Instr.sliceBounds]
 ·simp [Instr.sliceBounds,run_sliceBound w _ _ _ _ h0 hc]
 ·simp [Instr.sliceBounds,run_sliceBound w _ _ _ _ a b]
 ·have e:(h.toNat:Int)=h:=Int.toNat_of_nonneg h0
  simp [Instr.sliceBounds,run_sliceBound w _ _ _ _ h0 hc,run_sliceBound w _ _ _ _ a (show l≤(h.toNat:Int) by omega)]
theorem EP (r:Rel M s w) {t:TypeId} {lv hv:Option Value} {x:List UInt8} {l h:Int} (ht:P.underlying t=some .string) (h1:JF lv l) (h2:JG hv x.length h) (a:0≤l) (b:l≤h) (c:h≤x.length) :
 bZ P M s w (do pure (.value (← Instr.sliceAt t (.string ⟨⟨x⟩⟩) lv hv none))) (.str ((x.take h.toNat).drop l.toNat)) s:=by
 have hb:=oP (P:=P) (w:=w) (isSlice:=false) (cap:=x.length) h1 h2 a b c (Nat.le_refl _)
 refine bZ.pure (v:= .string ⟨⟨(x.take h.toNat).drop l.toNat⟩⟩) r ?_ (.str _)
 simp [Instr.sliceAt,run_underlying ht,Instr.slice,tV,hb,extract_mk]
theorem fw.cut {g:Tag} {z len Ho cap:Nat} {base:Option (Nat×Nat)} (h:fw M s g z len base cap) (hl:Ho≤len) (whole:Bool) (hw:whole=true→Ho=len):fw M s (g.cut whole) z Ho base cap:=by
 cases g with
 | full=>
  cases whole with
  | true=>rw [hw rfl];exact h
  | false=>trivial
 | shared=>trivial
 | tok t y=>
  obtain⟨x1,x2⟩:=h
  refine⟨x1,fun n hn=>⟨Nat.le_trans hl (x2 n hn).1,fun e=> ?_⟩⟩
  have:len=n:=by have:=(x2 n hn).1;omega
  exact(x2 n hn).2 this
theorem Hp (r:Rel M s w) {t e:TypeId} {i:TypeInfo} {g:Tag} {z:Nat} {lv hv:Option Value} {rows:List (List D)} {v:Value} {l h:Int} (ht:P.underlying t=some (.slice e)) (ER:P.info? e=some i) (hz:rows = []∨z=i.size)
 (hd:RD M s (.slice g z rows) v) (h1:JF lv l) (h2:JG hv rows.length h) (a:0≤l) (b:l≤h) (c:h≤rows.length) :
 bZ P M s w (do pure (.value (← Instr.sliceAt t v lv hv none))) (.slice (if l=0 then g.cut (h=rows.length)else .shared) z ((rows.take h.toNat).drop l.toNat)) s:=by
 have hlen:((rows.take h.toNat).drop l.toNat).length=h.toNat - l.toNat:=by simp;omega
 have tag : ∀ base cap,fw M s g z rows.length base cap→fw M s (if l=0 then g.cut (h=rows.length)else .shared) z ((rows.take h.toNat).drop l.toNat).length base cap:=by
  intro base cap kg
  split
  ·exact kg.cut (by omega) _ (fun hh=>by simp at hh;omega)
  ·trivial
 rcases hd.fG with ⟨rfl,rfl,kg⟩ | ⟨rfl,rfl,a',cap,rfl⟩ | ⟨b',q,cap,rfl,hl,hs,g1,g2,kg⟩
 ·have hb:=oP (P:=P) (w:=w) (isSlice:=true) (cap:=0) h1 h2 a b c (Nat.le_refl _)
  have BN:l=0:=by simp at c;omega
  have Ma:h=0:=by simp at c;omega
  subst BN;subst Ma
  refine bZ.pure (v:= .slice none 0 0) r ?_ ?_
  ·simp at hb
   simp [Instr.sliceAt,run_underlying ht,Instr.slice,hb,sizeOf,fj P ER]
  ·have:=tag _ _ kg
   simp only [Int.toNat_zero,List.take_nil,List.drop_nil,List.length_nil]at this ⊢
   exact .gb _ _ 0 rfl this
 ·have hb:=oP (P:=P) (w:=w) (isSlice:=true) (cap:=cap) h1 h2 a b c (Nat.zero_le _)
  have BN:l=0:=by simp at c;omega
  have Ma:h=0:=by simp at c;omega
  subst BN;subst Ma
  simp only [List.length_nil]at hb
  have cM : ∃ a2:Addr,(Instr.sliceAt t (.slice (some a') 0 cap) lv hv none).run P w = .ok (.slice (some a2) 0 cap) w:=by
   refine⟨if cap=(0:Int).toNat then a' else a'.add ((0:Int).toNat*i.size), ?_⟩
   simp only [Instr.sliceAt,Sem.run_bind,run_underlying ht,Result.andThen_ok,Instr.slice,hb,sizeOf,fj P ER,Sem.run_pure]
   split <;> simp
  obtain⟨a2,cM⟩:=cM
  refine bZ.pure (v:= .slice (some a2) 0 cap) r (by simp [cM]) ?_
  simp only [↓reduceIte,Int.toNat_zero,List.take_nil,List.drop_nil]
  have:Tag.cut .shared (decide ((0:Int)=(([] : List (List D)).length:Int))) = .shared:=rfl
  rw [this]
  exact .jL _ a2 cap
 ·have hb:=oP (P:=P) (w:=w) (isSlice:=true) (cap:=cap) h1 h2 a b c hl
  have cM:(Instr.sliceAt t (.slice (some ⟨b',q,none⟩) rows.length cap) lv hv none).run P w = .ok (.slice (some (if cap=l.toNat then⟨b',q,none⟩else⟨b',q+l.toNat*i.size,none⟩)) (h.toNat - l.toNat) (cap - l.toNat)) w:=by
   simp only [Instr.sliceAt,Sem.run_bind,run_underlying ht,Result.andThen_ok,Instr.slice,hb,sizeOf,fj P ER,Sem.run_pure]
   split <;> simp [nc]
  by_cases BN:l=0
  ·subst BN
   have e:(if cap=(0:Int).toNat then(⟨b',q,none⟩:Addr)else⟨b',q+(0:Int).toNat*i.size,none⟩) = ⟨b',q,none⟩:=by simp
   rw [e]at cM
   refine bZ.pure (v:= .slice (some ⟨b',q,none⟩) ((rows.take h.toNat).drop (0:Int).toNat).length cap) r (by simp [cM];omega) ?_
   refine .slice _ z _ b' q cap (by omega) (fun row hr=>hs row ?_) (fun i row j d e1 e2=> ?_) (fun i row j d u e1 e2 eu=> ?_) (tag _ _ kg)
   ·simp at hr;exact List.mem_of_mem_take hr
   ·simp [List.getElem?_take]at e1;exact g1 i row j d e1.2 e2
   ·simp [List.getElem?_take]at e1;exact g2 i row j d u e1.2 e2 eu
  ·rw [if_neg BN]
   by_cases oc:cap=l.toNat
   ·have:(rows.take h.toNat).drop l.toNat = []:=List.eq_nil_of_length_eq_zero (by omega)
    rw [this]
    rw [if_pos oc]at cM
    refine bZ.pure (v:= .slice (some ⟨b',q,none⟩) ([] : List (List D)).length (cap - l.toNat)) r (by simp [cM];omega) ?_
    exact .slice _ z [] b' q _ (by simp) (by simp) (by simp) (by simp) trivial
   ·rw [if_neg oc]at cM
    refine bZ.pure (v:= .slice (some ⟨b',q+l.toNat*i.size,none⟩) ((rows.take h.toNat).drop l.toNat).length (cap - l.toNat)) r (by simp [cM];omega) ?_
    have cW : ∀ (k:Nat) (row:List D),((rows.take h.toNat).drop l.toNat)[k]? = some row→rows[l.toNat+k]? = some row:=by
     intro k row e
     rw [List.getElem?_drop,List.getElem?_take]at e
     split at e
     ·exact e
     ·cases e
    have QO : ∀ (k:Nat) (row:List D),((rows.take h.toNat).drop l.toNat)[k]? = some row→z=i.size:=by
     intro k row e
     rcases hz with rfl | hz
     ·simp at e
     ·exact hz
    refine .slice _ z _ b' _ _ (by omega) (fun row hr=>hs row (List.mem_of_mem_take (List.mem_of_mem_drop hr))) (fun k row j d e1 e2=> ?_) (fun k row j d u e1 e2 eu=> ?_) trivial
    ·obtain⟨u,hu⟩:=g1 _ row j d (cW k row e1) e2
     refine⟨u, ?_⟩
     rw [← hu, ← QO k row e1]
     congr 1
     rw [Nat.add_mul];omega
    ·refine g2 _ row j d u (cW k row e1) e2 ?_
     rw [← eu, ← QO k row e1]
     congr 1
     rw [Nat.add_mul];omega
theorem pR (off:Nat) : ∀ (l:List Value) (k:Nat) (cells:Array Value) (i:Nat),
 ((l.zipIdx k).foldl (fun cs p=>cs.setIfInBounds (off+p.2) p.1) cells).size=cells.size∧
 (off+k+l.length≤cells.size→((l.zipIdx k).foldl (fun cs p=>cs.setIfInBounds (off+p.2) p.1) cells)[i]? = if off+k≤i∧i<off+k+l.length then l[i - (off+k)]? else cells[i]?)
 | [],k,cells,i=>by simp;intro _ h1 h2;omega
 | v::l,k,cells,i=>by
  obtain⟨h1,h2⟩:=pR off l (k+1) (cells.setIfInBounds (off+k) v) i
  simp only [List.zipIdx_cons,List.foldl_cons]
  refine⟨by rw [h1];simp,fun ib=> ?_⟩
  simp only [List.length_cons]at ib
  rw [h2 (by simp;omega)]
  rw [Array.getElem?_setIfInBounds]
  by_cases hi:off+k=i
  ·subst hi
   rw [if_neg (by omega),if_pos rfl,if_pos (by omega),if_pos (by simp)]
   simp
  ·rw [if_neg hi]
   by_cases hr:off+(k+1)≤i∧i<off+(k+1)+l.length
   ·rw [if_pos hr,if_pos (by simp;omega)]
    rw [show i - (off+k)=(i - (off+(k+1)))+1 by omega]
    simp
   ·rw [if_neg hr,if_neg (by simp;omega)]
def nP (M:Map) (s:St) (ds:List D) (vs:Array Value):Prop:=vs.size=ds.length∧(∀ v∈vs,v.oneCell'=true)∧∀ (i:Nat) (d:D) (v:Value),ds[i]? = some d→vs[i]? = some v→RD M s d v
theorem nP.fY {ds:List D} {vs:Array Value} (h:nP M s ds vs) {d:D} {v:Value} {row:List D} (hd:RD M s d v) (hr:d.row=some row) {off:Nat} (ib:off+row.length≤ds.length) :
 nP M s (fY ds off row) (v.cells.zipIdx.foldl (fun cs (p:Value×Nat)=>cs.setIfInBounds (off+p.2) p.1) vs):=by
 obtain⟨h1,h2,h3⟩:=hd.row hr
 obtain⟨g1,g2,g3⟩:=h
 have e:v.cells.zipIdx.foldl (fun cs (p:Value×Nat)=>cs.setIfInBounds (off+p.2) p.1) vs=(v.cells.toList.zipIdx 0).foldl (fun cs p=>cs.setIfInBounds (off+p.2) p.1) vs:=by
  rw [← Array.foldl_toList];simp
 rw [e]
 have hl:v.cells.toList.length=row.length:=by simpa using h1
 have fs:=fun i=>pR off v.cells.toList 0 vs i
 have get : ∀ i,((v.cells.toList.zipIdx 0).foldl (fun cs p=>cs.setIfInBounds (off+p.2) p.1) vs)[i]? = if off≤i∧i<off+row.length then v.cells.toList[i - off]? else vs[i]? :=by
  intro i
  have:=(fs i).2 (by omega)
  rw [hl]at this
  simpa using this
 refine⟨by rw [(fs 0).1,g1,sf ds off row ib],fun u hu=> ?_,fun i d' u e1 e2=> ?_⟩
 ·obtain⟨i,hi⟩:=Array.mem_iff_getElem?.1 hu
  rw [get]at hi
  split at hi
  ·exact h2 u (Array.mem_toList_iff.1 (List.mem_of_getElem? hi))
  ·exact g2 u (Array.mem_of_getElem? hi)
 ·rw [pN ds off row ib]at e1
  rw [get]at e2
  by_cases h5:off≤i
  ·by_cases h6:i<off+row.length
   ·rw [if_pos ⟨h5,h6⟩]at e2
    rw [if_neg (by omega),if_pos h6]at e1
    exact h3 _ d' u e1 (by simpa using e2)
   ·rw [if_neg (fun h=>h6 h.2)]at e2
    rw [if_neg (by omega),if_neg h6]at e1
    exact g3 i d' u e1 e2
  ·rw [if_neg (fun h=>h5 h.1)]at e2
   rw [if_pos (by omega)]at e1
   exact g3 i d' u e1 e2
theorem zu {place:Nat→Option (Nat×Nat)} : ∀ (vp:List (Nat×Value)) (dp:List (Nat×Nat×D)) (ds:List D) (vs:Array Value) (kr:List D),nP M s ds vs→
 dp.length=vp.length→(∀ (j:Nat) (i:Nat) (v:Value) (off size:Nat) (d:D),vp[j]? = some (i,v)→dp[j]? = some (off,size,d)→place i=some (off,size)∧RD M s d v)→
 ma ds dp=some kr→∃ dV,Instr.fill place vs vp=some dV∧nP M s kr dV
 | [],[],ds,vs,kr,h,_,_,e=>by cases e;exact⟨vs,rfl,h⟩
 | [],_::_,_,_,_,_,hl,_,_=>by simp at hl
 | _::_,[],_,_,_,_,hl,_,_=>by simp at hl
 | (i,v)::vp,(off,size,d)::dp,ds,vs,kr,h,hl,hp,e=>by
  obtain⟨h1,h2⟩:=hp 0 i v off size d rfl rfl
  unfold ma at e
  split at e
  ·cases e
  ·rename_i row hr
   split at e
   ·rename_i hc
    obtain⟨c1,c2⟩:=hc
    have dE:=(h2.row hr).1
    obtain⟨dV,f1,f2⟩:=zu vp dp (fY ds off row) _ kr (h.fY h2 hr (by omega)) (by simpa using hl)
     (fun j i v off size d e1 e2=>hp (j+1) i v off size d (by simpa using e1) (by simpa using e2)) e
    refine⟨dV, ?_,f2⟩
    unfold Instr.fill
    simp only [h1]
    rw [if_neg]
    ·exact f1
    ·simp;exact⟨by omega,by have:=h.1;omega⟩
   ·cases e
end
end Go.Abs

/-! Sound5 -/

namespace Go.Abs
section
variable {P:Program} {M:Map} {s:St} {w:World}
def jj (M:Map) (s:St) (size:Nat) (rows:List (List D)) (vs:Array Value):Prop:=
 rows.length*size≤vs.size∧(∀ row∈rows,row.length=size)∧(∀ v∈vs,v.oneCell'=true)∧
 ∀ (i:Nat) (row:List D) (j:Nat) (d:D) (v:Value),rows[i]? = some row→row[j]? = some d→vs[i*size+j]? = some v→RD M s d v
theorem sW {size:Nat} {rows:List (List D)} (hs : ∀ row∈rows,row.length=size) {i:Nat} {row:List D} {j:Nat} {d:D} (h1:rows[i]? = some row) (h2:row[j]? = some d):i*size+j<rows.length*size:=by
 have hi:=(List.getElem?_eq_some_iff.1 h1).1
 have hj:=(List.getElem?_eq_some_iff.1 h2).1
 have:=hs row (List.mem_of_getElem? h1)
 have:i*size+size≤rows.length*size:=by rw [← Nat.succ_mul];exact Nat.mul_le_mul_right _ hi
 omega
theorem jj.fixed {size:Nat} {rows:List (List D)} {vs:Array Value} (h:jj M s size rows vs) {M':Map} {s':St} (le:Le M s M' s') {b:Nat}
 (hG : ∀ o,o<rows.length*size→M'.G b o=vs[o]?) :
 (∀ (i:Nat) (row:List D) (j:Nat) (d:D),rows[i]? = some row→row[j]? = some d→∃ u,M'.G b (0+(i*size+j))=some u)∧
 (∀ (i:Nat) (row:List D) (j:Nat) (d:D) (u:Value),rows[i]? = some row→row[j]? = some d→M'.G b (0+(i*size+j))=some u→RD M' s' d u):=by
 obtain⟨h1,h2,h3,h4⟩:=h
 refine⟨fun i row j d e1 e2=> ?_,fun i row j d u e1 e2 eu=> ?_⟩
 ·have hD:=sW h2 e1 e2
  rw [Nat.zero_add,hG _ hD]
  exact⟨_,Array.getElem?_eq_getElem (by omega)⟩
 ·have hD:=sW h2 e1 e2
  rw [Nat.zero_add,hG _ hD]at eu
  exact(h4 i row j d u e1 e2 eu).mono le
theorem ku (z:List D) : ∀ n,(fC z n).length=n
 | 0=>rfl
 | n+1=>by simp [fC,ku z n]
theorem me (z:List D) : ∀ n,∀ row∈fC z n,row=z
 | 0,_,h=>by cases h
 | n+1,row,h=>by
  rcases List.mem_cons.1 h with rfl | h
  ·rfl
  ·exact me z n row h
theorem jj.zero {z:List D} {zs:Array Value} (h:nP M s z zs) (hp:0<z.length) (n:Nat):jj M s z.length (fC z n) ((Array.range (n*z.length)).map (zs[· % zs.size]!)):=by
 obtain⟨h1,h2,h3⟩:=h
 have get : ∀ q,q<n*z.length→((Array.range (n*z.length)).map (zs[· % zs.size]!))[q]? = zs[q % z.length]? :=by
  intro q hq
  have:q % z.length<zs.size:=by rw [h1];exact Nat.mod_lt _ hp
  simp only [Array.getElem?_map,Array.getElem?_range,hq,if_true,Option.map_some]
  rw [h1,getElem!_pos zs (q % z.length) this,Array.getElem?_eq_getElem this]
 refine⟨by simp [ku],fun row hr=>by rw [me z n row hr],fun v hv=> ?_,fun i row j d v e1 e2 e3=> ?_⟩
 ·obtain⟨q,hq⟩:=Array.mem_iff_getElem?.1 hv
  have hD:q<n*z.length:=by have:=(Array.getElem?_eq_some_iff.1 hq).1;simpa using this
  rw [get q hD]at hq
  exact h2 v (Array.mem_of_getElem? hq)
 ·have cW:=me z n row (List.mem_of_getElem? e1)
  subst cW
  have hD:=sW (size:=row.length) (fun r hr=>by rw [me row n r hr]) e1 e2
  rw [ku]at hD
  rw [get _ hD]at e3
  have hj:=(List.getElem?_eq_some_iff.1 e2).1
  rw [Nat.mul_comm,Nat.mul_add_mod,Nat.mod_eq_of_lt hj]at e3
  exact h3 j d v e2 e3
theorem jj.set {size:Nat} {rows:List (List D)} {vs:Array Value} (h:jj M s size rows vs) {d:D} {v:Value} {row:List D} (hd:RD M s d v) (hr:d.row=some row) (hl:row.length=size) {i:Nat} (hi:i<rows.length) :
 jj M s size (rows.set i row) (v.cells.zipIdx.foldl (fun cs (p:Value×Nat)=>cs.setIfInBounds (i*size+p.2) p.1) vs):=by
 obtain⟨h1,h2,h3⟩:=hd.row hr
 obtain⟨g1,g2,g3,g4⟩:=h
 have e:v.cells.zipIdx.foldl (fun cs (p:Value×Nat)=>cs.setIfInBounds (i*size+p.2) p.1) vs=(v.cells.toList.zipIdx 0).foldl (fun cs p=>cs.setIfInBounds (i*size+p.2) p.1) vs:=by
  rw [← Array.foldl_toList];simp
 rw [e]
 have kv:v.cells.toList.length=size:=by simp [h1,hl]
 have ib:i*size+size≤vs.size:=by
  have:(i+1)*size≤rows.length*size:=Nat.mul_le_mul_right _ hi
  rw [Nat.succ_mul]at this;omega
 have fs:=fun q=>pR (i*size) v.cells.toList 0 vs q
 have get : ∀ q,((v.cells.toList.zipIdx 0).foldl (fun cs p=>cs.setIfInBounds (i*size+p.2) p.1) vs)[q]? = if i*size≤q∧q<i*size+size then v.cells.toList[q - i*size]? else vs[q]? :=by
  intro q
  have:=(fs q).2 (by omega)
  rw [kv]at this
  simpa using this
 refine⟨by rw [(fs 0).1];simpa using g1,fun r ES=> ?_,fun u hu=> ?_,fun i' kh j d' u e1 e2 e3=> ?_⟩
 ·rcases List.mem_or_eq_of_mem_set ES with h | rfl
  ·exact g2 r h
  ·exact hl
 ·obtain⟨q,hq⟩:=Array.mem_iff_getElem?.1 hu
  rw [get]at hq
  split at hq
  ·exact h2 u (Array.mem_toList_iff.1 (List.mem_of_getElem? hq))
  ·exact g3 u (Array.mem_of_getElem? hq)
 ·rw [List.getElem?_set]at e1
  rw [get]at e3
  split at e1
  ·rename_i heq;subst heq
   simp at e1
   obtain⟨_,rfl⟩:=e1
   have hj:=(List.getElem?_eq_some_iff.1 e2).1
   rw [if_pos (by omega)]at e3
   rw [show i*size+j - i*size=j by omega]at e3
   exact h3 j d' u e2 (by simpa using e3)
  ·rename_i dQ
   have hj:=(List.getElem?_eq_some_iff.1 e2).1
   have ET:=g2 kh (List.mem_of_getElem? e1)
   rw [if_neg]at e3
   ·exact g4 i' kh j d' u e1 e2 e3
   ·rintro⟨a,b⟩
    rcases Nat.lt_or_gt_of_ne dQ with h | h
    ·have:(i+1)*size≤i'*size:=Nat.mul_le_mul_right _ h
     rw [Nat.succ_mul]at this;omega
    ·have:(i'+1)*size≤i*size:=Nat.mul_le_mul_right _ h
     rw [Nat.succ_mul]at this;omega
theorem sX {size:Nat} : ∀ (vp:List (Nat×Value)) (dp:List (Nat×D)) (rows:List (List D)) (vs:Array Value) (nA:List (List D)),jj M s size rows vs→
 dp.length=vp.length→(∀ (j:Nat) (i:Nat) (v:Value) (i':Nat) (d:D),vp[j]? = some (i,v)→dp[j]? = some (i',d)→i'=i∧RD M s d v)→
 gd size rows dp=some nA→∃ dV,Instr.fill (fun i=>some (i*size,size)) vs vp=some dV∧jj M s size nA dV∧nA.length=rows.length∧dV.size=vs.size
 | [],[],rows,vs,nA,h,_,_,e=>by cases e;exact⟨vs,rfl,h,rfl,rfl⟩
 | [],_::_,_,_,_,_,hl,_,_=>by simp at hl
 | _::_,[],_,_,_,_,hl,_,_=>by simp at hl
 | (i,v)::vp,(i',d)::dp,rows,vs,nA,h,hl,hp,e=>by
  obtain⟨h1,h2⟩:=hp 0 i v i' d rfl rfl
  subst h1
  unfold gd at e
  split at e
  ·cases e
  ·rename_i row hr
   split at e
   ·rename_i hc
    obtain⟨c1,c2⟩:=hc
    have dE:=(h2.row hr).1
    have Pl:=h.set h2 hr c1 c2
    obtain⟨dV,f1,f2,f3,f4⟩:=sX vp dp (rows.set i' row) _ nA Pl (by simpa using hl)
     (fun j i v i' d e1 e2=>hp (j+1) i v i' d (by simpa using e1) (by simpa using e2)) e
    have ib:i'*size+size≤vs.size:=by
     have:(i'+1)*size≤rows.length*size:=Nat.mul_le_mul_right _ c2
     have:=h.1
     rw [Nat.succ_mul]at *;omega
    refine⟨dV, ?_,f2,by rw [f3];simp, ?_⟩
    ·unfold Instr.fill
     simp only
     rw [if_neg]
     ·exact f1
     ·simp;exact⟨by omega,by omega⟩
    ·rw [f4]
     have:=(pR (i'*size) v.cells.toList 0 vs 0).1
     rw [← this, ← Array.foldl_toList];simp
   ·cases e
theorem Cu (r:Rel M s w) {size:Nat} {rows:List (List D)} {vs:Array Value} (T:TypeId) (h:jj M s size rows vs) :
 RD (M.dK w.heap.size vs.size vs) s (.slice .full size rows) (.slice (some ⟨w.heap.size,0,none⟩) rows.length rows.length)∧
 Rel (M.dK w.heap.size vs.size vs) s (w.alloc (.cells vs T))∧Ext M s w (M.dK w.heap.size vs.size vs) s (w.alloc (.cells vs T)):=by
 obtain⟨r',e'⟩:=r.dK vs.size vs T (0,0) h.2.2.1
 obtain⟨g1,g2⟩:=h.fixed e'.le (b:=w.heap.size) (fun o ho=>by
  have:o<vs.size:=Nat.lt_of_lt_of_le ho h.1
  simp [Map.dK,this])
 exact⟨.slice .full size rows w.heap.size 0 rows.length (Nat.le_refl _) h.2.1 g1 g2 rfl,r',e'⟩
theorem lK {t u ty e:TypeId} {i:TypeInfo} (ht:P.underlying t=some (.slice e)) (hi:P.info? e=some i) {base:Option Addr} {len cap:Nat} {y:Value} (hs:Src P i.size u y 0 [] w) (hc:len≤cap) :
 (Builtin.append_ #[t,u] ty #[.slice base len cap,y]).run P w = .ok (.slice base len cap) w:=by
 have iM:=hs.cells
 rcases hs.kind with ⟨e',hk⟩ | hk <;> cases base <;> simp [Builtin.append_,run_underlying ht,run_underlying hk,sizeOf,typeInfo,hi,hs.len,hc,iM,storeCells]
theorem xJ (r:Rel M s w) {u e':TypeId} (hu:P.underlying u=some (.slice e')) {g:Tag} {size:Nat} {rows:List (List D)} {y:Value} (hy:RD M s (.slice g size rows) y) :
 ∃ news:List Value,Src P size u y rows.length news w∧
  (∀ (i:Nat) (row:List D) (j:Nat) (d:D) (v:Value),rows[i]? = some row→row[j]? = some d→news[i*size+j]? = some v→RD M s d v)∧
  ∀ (b q n c:Nat),y = .slice (some ⟨b,q,none⟩) n c→∀ o,o<rows.length*size→M.G b (q+o)=news[o]? :=by
 rcases hy.fG with ⟨rfl,rfl,_⟩ | ⟨rfl,_,a,cap,rfl⟩ | ⟨b,q,cap,rfl,hl,hs,g1,g2,_⟩
 ·exact⟨[],Src.ofNil w hu 0,by simp,by simp⟩
 ·exact⟨[],Src.ofSlice w hu a 0 cap [] (by simp) (by simp) (by simp),by simp,by simp⟩
 ·obtain⟨us,hlen,ux⟩:=rD (M:=M) (b:=b) (rows.length*size) q (fun k hk=>by
   have hz:0<size:=by
    rcases Nat.eq_zero_or_pos size with h | h
    ·subst h;simp at hk
    ·exact h
   have hi:k / size<rows.length:=by rw [Nat.div_lt_iff_lt_mul hz];exact hk
   obtain⟨row,cW⟩ : ∃ row,rows[k / size]? = some row:=⟨_,List.getElem?_eq_getElem hi⟩
   have ET:=hs row (List.mem_of_getElem? cW)
   have hj:k % size<row.length:=by rw [ET];exact Nat.mod_lt _ hz
   obtain⟨u,hu⟩:=g1 _ row _ _ cW (List.getElem?_eq_getElem hj)
   refine⟨u, ?_⟩
   rw [← hu,Nat.mul_comm (k / size) size,Nat.div_add_mod])
  refine⟨us,Src.ofSlice w hu ⟨b,q,none⟩ rows.length cap us hlen (fun j u h=>by rw [nc];exact(r.comm _ _ _ (ux j u h)).1) (fun u hu=> ?_),fun i row j d v e1 e2 e3=>g2 i row j d v e1 e2 (ux _ v e3),
   fun b' q' n c heq o ho=>by
    cases heq
    rw [ux o _ (List.getElem?_eq_getElem (by omega)),List.getElem?_eq_getElem (by omega)]⟩
  obtain⟨j,hj⟩:=List.mem_iff_getElem?.1 hu
  exact(r.comm _ _ _ (ux j u hj)).2
theorem vH {size:Nat} {rows new:List (List D)} {lg news:List Value} (xK : ∀ row∈rows,row.length=size) (BO : ∀ row∈new,row.length=size)
 (l1:lg.length=rows.length*size) (l2:news.length=new.length*size) (o1 : ∀ u∈lg,u.oneCell'=true) (o2 : ∀ u∈news,u.oneCell'=true)
 (h1 : ∀ (i:Nat) (row:List D) (j:Nat) (d:D) (v:Value),rows[i]? = some row→row[j]? = some d→lg[i*size+j]? = some v→RD M s d v)
 (h2 : ∀ (i:Nat) (row:List D) (j:Nat) (d:D) (v:Value),new[i]? = some row→row[j]? = some d→news[i*size+j]? = some v→RD M s d v)
 (z:Array Value) (hz : ∀ v∈z,v.oneCell'=true):jj M s size (rows++new) ((lg++news).toArray++z):=by
 have hs : ∀ row∈rows++new,row.length=size:=fun row h=>(List.mem_append.1 h).elim (xK row) (BO row)
 refine⟨by simp [l1,l2,Nat.add_mul],hs,fun v hv=> ?_,fun i row j d v e1 e2 e3=> ?_⟩
 ·simp at hv
  rcases hv with (h | h) | h
  ·exact o1 v h
  ·exact o2 v h
  ·exact hz v h
 ·have hD:=sW hs e1 e2
  rw [List.length_append,Nat.add_mul]at hD
  rw [Array.getElem?_append_left (by simp [l1,l2];omega),List.getElem?_toArray]at e3
  by_cases hi:i<rows.length
  ·rw [List.getElem?_append_left hi]at e1
   have:=sW xK e1 e2
   rw [List.getElem?_append_left (by omega)]at e3
   exact h1 i row j d v e1 e2 e3
  ·rw [List.getElem?_append_right (by omega)]at e1
   have BP:rows.length*size≤i*size:=Nat.mul_le_mul_right _ (by omega)
   rw [List.getElem?_append_right (by omega),l1]at e3
   refine h2 (i - rows.length) row j d v e1 e2 ?_
   rw [← e3]
   congr 1
   rw [Nat.sub_mul];omega
theorem yD {z:Array Value} (h : ∀ v∈z,v.oneCell'=true) (n:Nat) : ∀ v∈Builtin.zeroCells z n,v.oneCell'=true:=by
 intro v hv
 unfold Builtin.zeroCells at hv
 obtain⟨q,hq,rfl⟩:=Array.mem_map.1 hv
 have hD:q<n*z.size:=by simpa using hq
 have hz:0<z.size:=by
  rcases Nat.eq_zero_or_pos z.size with h | h
  ·rw [h]at hD;simp at hD
  ·exact h
 have:=Nat.mod_lt q hz
 rw [getElem!_pos z (q % z.size) this]
 exact h _ (Array.getElem_mem this)
def wY (eb:Bool) (size bytes:Nat) (x y:D) (s:St):Option (D×St):=
 match x,y with
 | .slice g z rows, .slice _ z' new=>
  if(rows = []∨z=size)∧(new = []∨z'=size)∧(rows.length+new.length)*(bytes+1)≤bH then
   match new with
   | []=>some (.slice g z rows,s)
   | _::_=>
    match g with
    | .full=>some (.slice (.tok s.av.length eb) size (rows++new),{s with av:=s.av++ [some (rows.length+new.length)]})
    | .shared=>none
    | .tok t y=>if(y=true→eb=true)∧z=size∧s.av[t]? = some (some rows.length)then some (.slice (.tok t y) size (rows++new),{s with av:=s.av.set t (some (rows.length+new.length))})else none
  else none
 | _,_=>none
theorem Mb {size bytes:Nat} {x y d:D} {s s':St} (h:kI size bytes x y s=some (d,s')):wY false size bytes x y s=some (d,s'):=by
 unfold kI at h
 unfold wY
 split at h
 ·split at h
  ·rename_i hc
   simp only [hc,and_self,if_true]
   split at h
   ·exact h
   ·split at h
    ·exact h
    ·exact h
    ·cases h
    ·split at h
     ·rename_i hq
      simp only [hq,and_self,Bool.false_eq_true,false_imp_iff,if_true]
      exact h
     ·cases h
  ·cases h
 ·cases h
theorem EU {x y d:D} {s s':St} (h:sR x y s=some (d,s')):wY true 1 1 x y s=some (d,s'):=by
 unfold sR at h
 unfold wY
 split at h
 ·split at h
  ·rename_i hc
   simp only [hc,and_self,if_true]
   split at h
   ·exact h
   ·split at h
    ·exact h
    ·exact h
    ·split at h
     ·rename_i hq
      simp only [hq,and_self,imp_true_iff,if_true]
      exact h
     ·cases h
  ·cases h
 ·cases h
theorem JH {b:Bool} {n:Nat} (h:b=true→n=1) (hn:0<n):zs (bz b n)=n:=by
 cases b
 ·show(if n=0 then 1 else n)=n
  rw [if_neg (by omega)]
 ·simp [zs,bz,h rfl]
theorem uX (eb:Bool) (r:Rel M s w) {t u ty e:TypeId} {i:TypeInfo} {z:Value} (ht:P.underlying t=some (.slice e)) (hi:P.info? e=some i) (hz:i.zero=some z)
 (uA:z.cells.size=i.size) (zw : ∀ v∈z.cells,v.oneCell'=true) {dx dy d:D} {x y:Value} {s':St} (hx:RD M s dx x) (JI:eb=true→e=k6∧i.size=1) (sY:0<i.size) (he:wY eb i.size i.bytes dx dy s=some (d,s'))
 (src : ∀ (g:Tag) (size:Nat) (rows:List (List D)),dy = .slice g size rows→(rows = []→Src P i.size u y 0 [] w)∧(rows≠ []→size=i.size→(∀ row∈rows,row.length=i.size)∧∃ news:List Value,Src P i.size u y rows.length news w∧
  (∀ (k:Nat) (row:List D) (j:Nat) (d:D) (v:Value),rows[k]? = some row→row[j]? = some d→news[k*i.size+j]? = some v→RD M s d v))) :
 ∃ v w' M',(Builtin.append_ #[t,u] ty #[x,y]).run P w = .ok v w'∧Rel M' s' w'∧RD M' s' d v∧Ext M s w M' s' w':=by
 unfold wY at he
 split at he
 case h_2=>cases he
 rename_i g zx rows g' zy new
 split at he
 case isFalse=>cases he
 rename_i hc
 obtain⟨nR,Md,JJ⟩:=hc
 cases new with
 | nil=>
  simp only at he
  cases he
  have Me:Src P i.size u y 0 [] w:=(src _ _ _ rfl).1 rfl
  rcases hx.fG with ⟨_,hv,_⟩ | ⟨_,_,a,cap,hv⟩ | ⟨b,q,cap,hv,hl,_⟩
  ·refine⟨x,w,M, ?_,r,hx,Ext.refl M s w⟩
   rw [hv]
   exact lK ht hi Me (Nat.le_refl _)
  ·refine⟨x,w,M, ?_,r,hx,Ext.refl M s w⟩
   rw [hv]
   exact lK ht hi Me (Nat.zero_le _)
  ·refine⟨x,w,M, ?_,r,hx,Ext.refl M s w⟩
   rw [hv]
   exact lK ht hi Me hl
 | cons n0 new=>
  have dQ:(n0::new)≠ []:=by simp
  generalize cU:n0::new=fq at *
  have TE:zy=i.size:=Md.resolve_left dQ
  subst TE
  obtain⟨JK,news,hs,JL⟩:=(src _ _ _ rfl).2 dQ rfl
  have hm:0<fq.length:=List.length_pos_iff.2 dQ
  have vJ:(rows.length+fq.length)*i.bytes≤140737488355328:=by rw [Nat.mul_succ]at JJ;simp only [bH]at JJ;omega
  have TF:rows.length+fq.length≤1099511627776:=by rw [Nat.mul_succ]at JJ;simp only [bH]at JJ;omega
  -- what the first argument reads as
  obtain⟨base,cap,lg,TG,hle,ly,TH,JM,Mf,QP,TI,kg⟩ : ∃ (base:Option Addr) (cap:Nat) (lg:List Value),x = .slice base rows.length cap∧rows.length≤cap∧lg.length=rows.length*i.size∧
   (Builtin.firstCells i.size rows.length (.slice base rows.length cap)).run P w.drew = .ok lg.toArray w.drew∧(∀ u∈lg,u.oneCell'=true)∧
   (∀ (k:Nat) (row:List D) (j:Nat) (d:D) (v:Value),rows[k]? = some row→row[j]? = some d→lg[k*i.size+j]? = some v→RD M s d v)∧(∀ row∈rows,row.length=i.size)∧
   (∀ b q,base=some ⟨b,q,none⟩→∀ o,o<rows.length*i.size→M.G b (q+o)=lg[o]?)∧
   ((base=none∧rows = []∧fw M s g zx 0 none cap)∨∃ b q,base=some ⟨b,q,none⟩∧fw M s g zx rows.length (some (b,q)) cap):=by
   rcases nR with h0 | h0
   ·subst h0
    rcases hx.fG with ⟨_,hv,kg⟩ | ⟨_,rfl,_⟩ | ⟨b,q,cap,hv,hl,_,_,_,kg⟩
    ·exact⟨none,0,[],hv,Nat.le_refl _,by simp,by simp [Builtin.firstCells],by simp,by simp,by simp,by simp, .inl ⟨rfl,rfl,kg⟩⟩
    ·exfalso;simp only [← cU]at he;cases he
    ·exact⟨some ⟨b,q,none⟩,cap,[],hv,hl,by simp,by simp [Builtin.firstCells,loadCells,loadCellsFrom],by simp,by simp,by simp,by simp, .inr ⟨b,q,rfl,kg⟩⟩
   ·subst h0
    obtain⟨lg,BQ,QQ,TJ⟩:=xJ r ht hx
    rcases hx.fG with ⟨h0,hv,kg⟩ | ⟨_,rfl,_⟩ | ⟨b,q,cap,hv,hl,kK,_,_,kg⟩
    ·subst h0
     refine⟨none,0,lg,hv,Nat.le_refl _,BQ.newsLen, ?_,BQ.one,QQ,by simp,by simp, .inl ⟨rfl,rfl,kg⟩⟩
     have:=BQ.cellsD;rw [hv]at this;exact this
    ·exfalso;simp only [← cU]at he;cases he
    ·refine⟨some ⟨b,q,none⟩,cap,lg,hv,hl,BQ.newsLen, ?_,BQ.one,QQ,kK,fun b' q' heq o ho=> ?_, .inr ⟨b,q,rfl,kg⟩⟩
     ·have:=BQ.cellsD;rw [hv]at this;exact this
     ·cases heq;exact TJ b q _ cap hv o ho
  subst TG
  -- the way that makes a new row
  have grow : ∀ (hg:cap<rows.length+fq.length),∃ (w':World) (M1:Map) (vs:Array Value) (kL:Nat),
   (Builtin.append_ #[t,u] ty #[.slice base rows.length cap,y]).run P w = .ok (.slice (some ⟨w.heap.size,0,none⟩) (rows.length+fq.length) kL) w'∧
   w'.heap[w.heap.size]? = some (.cells vs e (0,0))∧vs.size=kL*i.size∧rows.length+fq.length≤kL∧M1=M.dK w.heap.size ((rows.length+fq.length)*i.size) vs∧
   jj M s i.size (rows++fq) vs∧Rel M1 s w'∧Ext M s w M1 s w':=by
   intro hg
   have BP:=grownCap_ge w (rows.length+fq.length) cap e
   have cM:=run_append_grow_src (P:=P) w t u ty e i z ht hi hz base rows.length cap lg TH y fq.length news hs hg (by omega) (growslice_fits hg vJ)
   have cW:=vH (M:=M) (s:=s) QP JK ly hs.newsLen JM hs.one Mf JL (Builtin.zeroCells z.cells (grownCap w (rows.length+fq.length) cap e - (rows.length+fq.length))) (yD zw _)
   obtain⟨r1,e1⟩:=(r.of_heap (w':=w.drew) rfl).dK ((rows.length+fq.length)*i.size) _ e (0,0) cW.2.2.1
   refine⟨_,_,_,_,cM,heap_alloc_new w.drew _, ?_,BP,rfl,cW,r1,(Ext.of_heap (M:=M) (s:=s) (w:=w) (w':=w.drew) rfl rfl rfl rfl).trans e1⟩
   simp only [Array.size_append,List.size_toArray,List.length_append,size_zeroCells,uA,ly,hs.newsLen, ← Nat.add_mul]
   congr 1;omega
  have hlen:(rows++fq).length=rows.length+fq.length:=by simp
  cases g with
  | shared=>simp only [← cU]at he;cases he
  | full=>
   have oc:cap=rows.length:=by
    rcases kg with ⟨_,h0,h1⟩ | ⟨_,_,_,h1⟩
    ·subst h0;exact h1
    ·exact h1
   obtain⟨w',M1,vs,kL,cM,hh,dE,hn,vK,cW,r1,e1⟩:=grow (by omega)
   simp only [← cU]at he
   simp only [cU]at he
   cases he
   have zz:zs (bz eb i.size)=i.size:=JH (fun h=>(JI h).2) sY
   have JN:bz eb i.size=0→e=k6:=fun h0=>by
    cases eb with
    | true=>exact(JI rfl).1
    | false=>simp [bz]at h0;omega
   obtain⟨r2,l2⟩:=r1.JE (rows.length+fq.length) w.heap.size kL (bz eb i.size) vs e hh (by rw [zz];exact dE) hn JN
    (fun off ho=>by rw [zz]at ho;rw [vK];simp [Map.dK];omega)
    (fun o ho=>by have:=r.mc ho;rw [vK];show M.mu o≠_;omega) (fun q c z' hl heq=>by
     have:M.be q=some (w.heap.size,c,z'):=by rw [vK]at heq;exact heq
     have:=r.oN hl this;omega)
   refine⟨_,w',_,cM,r2, ?_, ?_⟩
   ·obtain⟨f1,f2⟩:=cW.fixed (e1.le.trans l2) (b:=w.heap.size) (fun o ho=>by
     rw [vK,hlen]at *
     simp [Map.c6,Map.dK,ho])
    have key:=RD.slice (M:=M1.c6 s.av.length (some (w.heap.size,kL,bz eb i.size))) (s:= {s with av:=s.av++ [some (rows.length+fq.length)]}) (.tok s.av.length eb) i.size (rows++fq) w.heap.size 0 kL (by rw [hlen];exact hn) cW.2.1 f1 f2
     ⟨by simp,fun n qV=>by
      simp at qV
      subst qV
      exact⟨by rw [hlen];exact Nat.le_refl _,fun _=> .inr ⟨_,rfl,by simp [Map.c6]⟩⟩⟩
    rw [hlen]at key
    exact key
   ·refine⟨e1.le.trans l2,e1.kept,e1.l8,fun q b c z' hl heq=> ?_,e1.n8,e1.size,e1.os,e1.tape,e1.output⟩
    obtain⟨k,hk⟩:=hl
    rcases Nat.lt_or_ge q s.av.length with h | h
    ·have zA:M1.be q=some (b,c,z'):=by
      have:(M1.c6 s.av.length (some (w.heap.size,kL,bz eb i.size))).be q=M1.be q:=by simp [Map.c6];omega
      rw [this]at heq;exact heq
     simp only [List.getElem?_append_left h]at hk
     exact e1.l9 q b c z' ⟨k,hk⟩ zA
    ·have:=(List.getElem?_eq_some_iff.1 hk).1
     simp at this
     have:q=s.av.length:=by omega
     subst this
     have:(M1.c6 s.av.length (some (w.heap.size,kL,bz eb i.size))).be s.av.length=some (w.heap.size,kL,bz eb i.size):=by simp [Map.c6]
     rw [this]at heq;cases heq
     exact .inr (Nat.le_refl _)
  | tok q yb=>
   simp only [← cU]at he
   simp only [cU]at he
   split at he
   case isFalse=>cases he
   rename_i hq
   obtain⟨JN,TK,hq⟩:=hq
   cases he
   have zz:zs (bz yb i.size)=i.size:=JH (fun h=>(JI (JN h)).2) sY
   have RL:bz yb i.size=0→e=k6:=fun h0=>by
    cases yb with
    | true=>exact(JI (JN rfl)).1
    | false=>simp [bz]at h0;omega
   have Cv : ∀ (hg:cap<rows.length+fq.length),∃ v w' M',(Builtin.append_ #[t,u] ty #[.slice base rows.length cap,y]).run P w = .ok v w'∧Rel M' {s with av:=s.av.set q (some (rows.length+fq.length))} w'∧
    RD M' {s with av:=s.av.set q (some (rows.length+fq.length))} (.slice (.tok q yb) i.size (rows++fq)) v∧Ext M s w M' {s with av:=s.av.set q (some (rows.length+fq.length))} w':=by
    intro hg
    obtain⟨w',M1,vs,kL,cM,hh,dE,hn,vK,cW,r1,e1⟩:=grow hg
    have EW:q<s.av.length:=(List.getElem?_eq_some_iff.1 hq).1
    obtain⟨r2,l2⟩:=r1.Pf q rows.length (rows.length+fq.length) w.heap.size kL (bz yb i.size) vs e hq (by omega) hh (by rw [zz];exact dE) hn RL
     (fun off ho=>by rw [zz]at ho;rw [vK];simp [Map.dK];omega)
     (fun o ho=>by have:=r.mc ho;rw [vK];show M.mu o≠_;omega) (fun q c z' hl heq=>by
      have:M.be q=some (w.heap.size,c,z'):=by rw [vK]at heq;exact heq
      have:=r.oN hl this;omega)
    refine⟨_,w',_,cM,r2, ?_, ?_⟩
    ·obtain⟨f1,f2⟩:=cW.fixed (e1.le.trans l2) (b:=w.heap.size) (fun o ho=>by
      rw [vK,hlen]at *
      simp [Map.c6,Map.dK,ho])
     have key:=RD.slice (M:=M1.c6 q (some (w.heap.size,kL,bz yb i.size))) (s:= {s with av:=s.av.set q (some (rows.length+fq.length))}) (.tok q yb) i.size (rows++fq) w.heap.size 0 kL (by rw [hlen];exact hn) cW.2.1 f1 f2
      ⟨by simp [EW],fun n qV=>by
       simp [EW]at qV
       subst qV
       exact⟨by rw [hlen];exact Nat.le_refl _,fun _=> .inr ⟨_,rfl,by simp [Map.c6]⟩⟩⟩
     rw [hlen]at key
     exact key
    ·refine⟨e1.le.trans l2,e1.kept,e1.l8,fun q' b c z' hl heq=> ?_,e1.n8,e1.size,e1.os,e1.tape,e1.output⟩
     obtain⟨k,hk⟩:=hl
     by_cases h:q'=q
     ·subst h
      have:(M1.c6 q' (some (w.heap.size,kL,bz yb i.size))).be q'=some (w.heap.size,kL,bz yb i.size):=by simp [Map.c6]
      rw [this]at heq;cases heq
      exact .inr (Nat.le_refl _)
     ·have zA:M1.be q'=some (b,c,z'):=by
       have:(M1.c6 q (some (w.heap.size,kL,bz yb i.size))).be q'=M1.be q':=by simp [Map.c6,h]
       rw [this]at heq;exact heq
      simp only [List.getElem?_set_ne (Ne.symm h)]at hk
      exact e1.l9 q' b c z' ⟨k,hk⟩ zA
   rcases kg with ⟨rfl,rfl,h1⟩ | ⟨b,k,rfl,h1⟩
   ·obtain⟨_,h2⟩:=h1
    obtain⟨_,h3⟩:=h2 _ hq
    rcases h3 rfl with ⟨_,h4⟩ | ⟨b,h4,_⟩
    ·exact Cv (by simp;omega)
    ·cases h4
   ·obtain⟨_,h2⟩:=h1
    obtain⟨_,h3⟩:=h2 _ hq
    rcases h3 rfl with ⟨_,h4⟩ | ⟨b2,h4,gE⟩
    ·exact Cv (by omega)
    cases h4
    subst TK
    by_cases rz:rows.length+fq.length≤cap
    ·rcases r.tok q rows.length hq with ⟨h4,_⟩ | ⟨b',zq,rA,vs,T,h4,h5,h6,h7,h8⟩
     ·rw [gE]at h4;cases h4
     ·rw [gE]at h4;cases h4
      rw [zz]at h6
      obtain⟨r2,e2⟩:=r.Ph q rows.length fq.length b cap (bz yb i.size) i.size news zz hq gE hs.newsLen rz hm hs.one vs T h5 h6 h8.2
      have ib:rows.length*i.size+news.length≤vs.size:=by rw [hs.newsLen,h6, ← Nat.add_mul];exact Nat.mul_le_mul_right _ rz
      have uw:=run_storeCells_at P b (rows.length*i.size) T news 0 vs w h5 (by simpa using ib) hs.one
      simp only [Nat.add_zero]at uw
      have cM:(Builtin.append_ #[t,u] ty #[.slice (some ⟨b,0,none⟩) rows.length cap,y]).run P w = .ok (.slice (some ⟨b,0,none⟩) (rows.length+fq.length) cap) (w.setRow b (vs.toList.take (rows.length*i.size)++news++vs.toList.drop (rows.length*i.size+news.length)).toArray):=by
       rcases hs.kind with ⟨EE,hk⟩ | hk <;> simp [Builtin.append_,run_underlying ht,run_underlying hk,sizeOf,typeInfo,hi,hs.len,rz,hs.cells,Addr.add_lit,uw]
      refine⟨_,_,_,cM,r2, ?_,e2⟩
      have hG : ∀ o,o<(rows++fq).length*i.size→(M.fix b (rows.length*i.size) news).G b o=(lg++news).toArray[o]? :=by
       intro o ho
       rw [hlen,Nat.add_mul]at ho
       rw [List.getElem?_toArray]
       by_cases h9:o<rows.length*i.size
       ·rw [List.getElem?_append_left (by omega)]
        have:(M.fix b (rows.length*i.size) news).G b o=M.G b o:=by simp [Map.fix];omega
        rw [this]
        have:=TI b 0 rfl o h9
        rwa [Nat.zero_add]at this
       ·rw [List.getElem?_append_right (by omega),ly]
        have:(M.fix b (rows.length*i.size) news).G b o=news[o - rows.length*i.size]? :=by
         simp only [Map.fix];rw [if_pos ⟨trivial,by omega,by rw [hs.newsLen];omega⟩]
        rw [this]
      have cW:=vH (M:=M) (s:=s) QP JK ly hs.newsLen JM hs.one Mf JL #[] (by simp)
      rw [Array.append_empty]at cW
      obtain⟨f1,f2⟩:=cW.fixed e2.le (b:=b) hG
      have EW:q<s.av.length:=(List.getElem?_eq_some_iff.1 hq).1
      have key:=RD.slice (M:=M.fix b (rows.length*i.size) news) (s:= {s with av:=s.av.set q (some (rows.length+fq.length))}) (.tok q yb) i.size (rows++fq) b 0 cap (by rw [hlen];exact rz) cW.2.1 f1 f2
       ⟨by simp [EW],fun n qV=>by
        simp [EW]at qV
        subst qV
        exact⟨by rw [hlen];exact Nat.le_refl _,fun _=> .inr ⟨_,rfl,gE⟩⟩⟩
      rw [hlen]at key
      exact key
    ·exact Cv (by omega)
theorem BR (r:Rel M s w) {u e':TypeId} {i:TypeInfo} (hu:P.underlying u=some (.slice e')) {y:Value} {dy:D} (hy:RD M s dy y) (g:Tag) (size:Nat) (rows:List (List D)) (Mg:dy = .slice g size rows) :
 (rows = []→Src P i.size u y 0 [] w)∧(rows≠ []→size=i.size→(∀ row∈rows,row.length=i.size)∧∃ news:List Value,Src P i.size u y rows.length news w∧
  (∀ (k:Nat) (row:List D) (j:Nat) (d:D) (v:Value),rows[k]? = some row→row[j]? = some d→news[k*i.size+j]? = some v→RD M s d v)):=by
 subst Mg
 refine⟨fun h0=> ?_,fun dQ dE=> ?_⟩
 ·subst h0
  rcases hy.fG with ⟨_,rfl,_⟩ | ⟨_,_,a,cap,rfl⟩ | ⟨b,q,cap,rfl,_⟩
  ·exact Src.ofNil w hu 0
  ·exact Src.ofSlice w hu a 0 cap [] (by simp) (by simp) (by simp)
  ·exact Src.ofSlice w hu ⟨b,q,none⟩ 0 cap [] (by simp) (by simp) (by simp)
 ·subst dE
  obtain⟨news,h1,h2,_⟩:=xJ r hu hy
  refine⟨?_,news,h1,h2⟩
  rcases hy.fG with ⟨h0,_⟩ | ⟨h0,_⟩ | ⟨_,_,_,_,_,h,_⟩
  ·exact(dQ h0).elim
  ·exact(dQ h0).elim
  ·exact h
theorem EX (r:Rel M s w) {t u ty e e':TypeId} {i:TypeInfo} {z:Value} (ht:P.underlying t=some (.slice e)) (hu:P.underlying u=some (.slice e')) (hi:P.info? e=some i) (hz:i.zero=some z)
 (uA:z.cells.size=i.size) (zw : ∀ v∈z.cells,v.oneCell'=true) {dx dy d:D} {x y:Value} {s':St} (hx:RD M s dx x) (hy:RD M s dy y) (sY:0<i.size) (he:kI i.size i.bytes dx dy s=some (d,s')) :
 ∃ v w' M',(Builtin.append_ #[t,u] ty #[x,y]).run P w = .ok v w'∧Rel M' s' w'∧RD M' s' d v∧Ext M s w M' s' w':=
 uX false r ht hi hz uA zw hx (fun h=>by cases h) sY (Mb he) (BR r hu hy)
theorem Cw (r:Rel M s w) {t u ty e':TypeId} {i:TypeInfo} {z:Value} (ht:P.underlying t=some (.slice k6)) (hu:P.underlying u=some (.slice e')) (hi:P.info? k6=some i) (hz:i.zero=some z) (h1:i.size=1) (h2:i.bytes=1)
 (uA:z.cells.size=i.size) (zw : ∀ v∈z.cells,v.oneCell'=true) {dx dy d:D} {x y:Value} {s':St} (hx:RD M s dx x) (hy:RD M s dy y) (he:sR dx dy s=some (d,s')) :
 ∃ v w' M',(Builtin.append_ #[t,u] ty #[x,y]).run P w = .ok v w'∧Rel M' s' w'∧RD M' s' d v∧Ext M s w M' s' w':=
 uX true r ht hi hz uA zw hx (fun _=>⟨rfl,h1⟩) (by omega) (by rw [h1,h2];exact EU he) (BR r hu hy)
theorem Cx (r:Rel M s w) {t u ty:TypeId} {i:TypeInfo} {z:Value} (ht:P.underlying t=some (.slice k6)) (hu:P.underlying u=some .string) (hi:P.info? k6=some i) (hz:i.zero=some z) (h1:i.size=1) (h2:i.bytes=1)
 (uA:z.cells.size=i.size) (zw : ∀ v∈z.cells,v.oneCell'=true) {dx d:D} {x:Value} {l:List UInt8} {s':St} (hx:RD M s dx x) (he:sR dx (.slice .shared 1 (l.map fun c=> [.int .u8 c.toNat])) s=some (d,s')) :
 ∃ v w' M',(Builtin.append_ #[t,u] ty #[x, .string ⟨⟨l⟩⟩]).run P w = .ok v w'∧Rel M' s' w'∧RD M' s' d v∧Ext M s w M' s' w':=by
 have hs:Src P i.size u (.string ⟨⟨l⟩⟩) l.length (l.map fun c=> .int .u8 c.toNat) w:=by
  rw [h1]
  exact Src.ofString w hu ⟨⟨l⟩⟩
 refine uX true r ht hi hz uA zw hx (fun _=>⟨rfl,h1⟩) (by omega) (by rw [h1,h2];exact EU he) fun g size rows Mg=> ?_
 cases Mg
 refine⟨fun h0=> ?_,fun dQ dE=> ?_⟩
 ·have:l = []:=by simpa using h0
  subst this
  exact hs
 ·refine⟨fun row hr=> ?_,_,by simpa using hs,fun k row j d v e1 e2 e3=> ?_⟩
  ·obtain⟨c,_,rfl⟩:=List.mem_map.1 hr
   rw [h1];rfl
  ·rw [List.getElem?_map,Option.map_eq_some_iff]at e1
   obtain⟨c,e1,rfl⟩:=e1
   cases j with
   | zero=>
    simp at e2
    subst e2
    simp [h1,e1]at e3
    subst e3
    exact .int _ _
   | succ j=>simp at e2
end
end Go.Abs

/-! Sound6 -/

namespace Go.Abs
section
variable {P:Program} {M:Map} {s:St} {w:World}
theorem map_some {α β:Type} {f:α→β} {x:Option α} {y:β} (h:x.map f=some y) : ∃ a,x=some a∧y=f a:=by
 cases x with
 | none=>cases h
 | some a=>cases h;exact⟨a,rfl,rfl⟩
theorem qt {t:TypeId} {z:List D} (h:zeroOf P t=some z) : ∃ i v,P.info? t=some i∧i.zero=some v∧v.cells.size=i.size∧jM v.cells.toList=some z:=by
 unfold zeroOf at h
 split at h
 ·rename_i i hi
  split at h
  ·rename_i v hv
   split at h
   ·exact⟨i,v,hi,hv, ‹_›,h⟩
   ·cases h
  ·cases h
 ·cases h
theorem o9 {z:List D} {v:Value} (h:jM v.cells.toList=some z):nP M s z v.cells:=by
 obtain⟨h1,h2,h3⟩:=gZ (M:=M) (s:=s) h
 exact⟨by simpa using h1.symm,fun u hu=>h2 u (by simpa using hu),fun i d u e1 e2=>h3 i d u e1 (by simpa using e2)⟩
theorem Cy {t:TypeId} {z:List D} (h:ry P t=some z) : ∃ i v,P.info? t=some i∧i.zero=some v∧v.cells.size=i.size∧nP M s z v.cells:=by
 unfold ry at h
 split at h
 ·rename_i i hi
  split at h
  ·rename_i v hv
   split at h
   ·refine⟨i,v,hi,hv, ‹_›, ?_⟩
    obtain⟨h1,h2,h3⟩:=uy (M:=M) (s:=s) h
    exact⟨by simpa using h1.symm,fun u hu=>h2 u (by simpa using hu),fun i d u e1 e2=>h3 i d u e1 (by simpa using e2)⟩
   ·cases h
  ·cases h
 ·cases h
theorem sZ {t:TypeId} {tm:Tm} {act:Act} (hr:iL M s tm act.tmps) : ∀ {l:List (Nat×Operand)} {ps:List (Nat×Nat×X)},sS P t l=some ps→
 (ps.map fun p=>(p.1,p.2.1,p.2.2.ev tm)).length=(l.map fun p=>(p.1,act.eval p.2)).length∧
 ∀ (j:Nat) (i:Nat) (v:Value) (off size:Nat) (d:D),(l.map fun p=>(p.1,act.eval p.2))[j]? = some (i,v)→(ps.map fun p=>(p.1,p.2.1,p.2.2.ev tm))[j]? = some (off,size,d)→
  (∃ a,iW P t i=some (off,size,a))∧RD M s d v
 | [],ps,h=>by cases h;exact⟨rfl,by simp⟩
 | (i0,x)::l,ps,h=>by
  unfold sS at h
  split at h
  ·rename_i off size a x' r' h1 h2 h3
   cases h
   obtain⟨g1,g2⟩:=sZ hr h3
   refine⟨by simpa using g1,fun j i v qs rA d e1 e2=> ?_⟩
   cases j with
   | zero=>
    simp at e1 e2
    obtain⟨rfl,rfl⟩:=e1
    obtain⟨rfl,rfl,rfl⟩:=e2
    exact⟨⟨a,h1⟩,bo h2 hr⟩
   | succ j=>exact g2 j i v qs rA d (by simpa using e1) (by simpa using e2)
  ·cases h
theorem vL {tm:Tm} {act:Act} (hr:iL M s tm act.tmps) : ∀ {l:List (Nat×Operand)} {ps:List (Nat×X)},zo l=some ps→
 (ps.map fun p=>(p.1,p.2.ev tm)).length=(l.map fun p=>(p.1,act.eval p.2)).length∧
 ∀ (j:Nat) (i:Nat) (v:Value) (i':Nat) (d:D),(l.map fun p=>(p.1,act.eval p.2))[j]? = some (i,v)→(ps.map fun p=>(p.1,p.2.ev tm))[j]? = some (i',d)→i'=i∧RD M s d v
 | [],ps,h=>by cases h;exact⟨rfl,by simp⟩
 | (i0,x)::l,ps,h=>by
  unfold zo at h
  split at h
  ·rename_i x' r' h1 h2
   cases h
   obtain⟨g1,g2⟩:=vL hr h2
   refine⟨by simpa using g1,fun j i v i' d e1 e2=> ?_⟩
   cases j with
   | zero=>
    simp at e1 e2
    obtain⟨rfl,rfl⟩:=e1
    obtain⟨rfl,rfl⟩:=e2
    exact⟨rfl,bo h1 hr⟩
   | succ j=>exact g2 j i v i' d (by simpa using e1) (by simpa using e2)
  ·cases h
theorem vM : ∀ (l:List Field),(∀ f∈l,(P.info? f.type).isSome)→
 ∃ ps:List (Nat×Nat),(l.mapM fun f=>do pure (f.offset, ← sizeOf f.type):Sem (List (Nat×Nat))).run P w = .ok ps w∧
  ∀ (j:Nat) (f:Field) (i:TypeInfo),l[j]? = some f→P.info? f.type=some i→ps[j]? = some (f.offset,i.size)
 | [],_=>⟨[],rfl,by simp⟩
 | f::l,h=>by
  obtain⟨i,hi⟩:=Option.isSome_iff_exists.1 (h f (by simp))
  obtain⟨ps,h1,h2⟩:=vM l (fun g hg=>h g (by simp [hg]))
  refine⟨(f.offset,i.size)::ps, ?_,fun j g i' e1 e2=> ?_⟩
  ·rw [List.mapM_cons]
   simp only [Sem.run_bind,sizeOf,fj P hi,Result.andThen_ok,Sem.run_pure]at h1 ⊢
   simp only [h1,Result.andThen_ok]
  ·cases j with
   | zero=>simp at e1;subst e1;rw [hi]at e2;cases e2;rfl
   | succ j=>exact h2 j g i' (by simpa using e1) e2
theorem Cz (r:Rel M s w) {t:TypeId} {fs:Array Field} {z:List D} {l:List (Nat×Operand)} {ps:List (Nat×Nat×X)} {tm:Tm} {act:Act} {cs:List D} (hr:iL M s tm act.tmps)
 (ht:P.underlying t=some (.struct fs)) (vN:(fs.toList.all fun f=>(P.info? f.type).isSome)=true) (hz:ry P t=some z) (hp:sS P t l=some ps) (hf:ma z (ps.map fun p=>(p.1,p.2.1,p.2.2.ev tm))=some cs) :
 bZ P M s w (do pure (.value (← Instr.build t (l.toArray.map fun(i,x)=>(i,act.eval x))))) (.agg cs) s:=by
 obtain⟨i,v,h1,h2,h3,hc⟩:=Cy (M:=M) (s:=s) hz
 obtain⟨g1,g2⟩:=sZ hr hp
 obtain⟨pl,p1,p2⟩:=vM (P:=P) (w:=w) fs.toList (fun f TL=>by simpa using List.all_eq_true.1 vN f TL)
 have KQ:(fs.mapM fun f=>do pure (f.offset, ← sizeOf f.type):Sem (Array (Nat×Nat))).run P w = .ok pl.toArray w:=by
  rw [Array.mapM_eq_mapM_toList,Sem.run_map,p1];rfl
 obtain⟨vs,f1,f2⟩:=zu (place:=(pl.toArray[·]?)) (l.map fun p=>(p.1,act.eval p.2)) _ z v.cells cs hc g1 (fun j i v off size d e1 e2=>by
  obtain⟨⟨a,ha⟩,hd⟩:=g2 j i v off size d e1 e2
  refine⟨?_,hd⟩
  unfold iW at ha
  rw [ht]at ha
  simp only at ha
  split at ha
  ·rename_i fd TN
   split at ha
   ·rename_i i' a' fU _
    split at ha
    ·cases ha
    ·cases ha
     simpa using p2 i fd i' (by simpa using TN) fU
   ·cases ha
  ·cases ha) hf
 refine bZ.pure (v:= .agg vs) r ?_ (.agg _ _ f2.1.symm f2.2.1 f2.2.2)
 have qW:(l.toArray.map fun(i,x)=>(i,act.eval x)).toList=l.map fun p=>(p.1,act.eval p.2):=by simp
 unfold Instr.build
 simp only [Sem.run_bind,zeroValue,fj P h1,h2,Result.andThen_ok,Sem.run_pure,run_underlying ht,KQ,qW,f1]
theorem uB (r:Rel M s w) {t e:TypeId} {i:TypeInfo} {z:List D} {n:Nat} {l:List (Nat×Operand)} {ps:List (Nat×X)} {tm:Tm} {act:Act} {rows:List (List D)} (hr:iL M s tm act.tmps)
 (ht:P.underlying t=some (.slice e)) (hi:P.info? e=some i) (hz:zeroOf P e=some z) (sY:0<i.size) (hn:n*i.size≤65536) (hp:zo l=some ps)
 (hf:gd i.size (fC z n) (ps.map fun p=>(p.1,p.2.ev tm))=some rows) :
 ∃ (vs:Array Value) (T:TypeId),jj M s i.size rows vs∧rows.length=n∧vs.size=n*i.size∧
  (Instr.buildSlice t n (l.toArray.map fun(i,x)=>(i,act.eval x))).run P w = .ok (.slice (some ⟨w.heap.size,0,none⟩) n n) (w.alloc (.cells vs T)):=by
 obtain⟨i',v,h1,h2,h3,h4⟩:=qt hz
 rw [hi]at h1;cases h1
 have hc:=o9 (M:=M) (s:=s) h4
 have TO:z.length=i.size:=by rw [← hc.1,h3]
 have EY:=jj.zero hc (by omega) n
 rw [TO]at EY
 obtain⟨g1,g2⟩:=vL hr hp
 obtain⟨vs,f1,f2,f3,f4⟩:=sX (l.map fun p=>(p.1,act.eval p.2)) _ _ _ rows EY g1 g2 hf
 have TP:=ku z n
 refine⟨vs,e,f2,by rw [f3,TP],by rw [f4];simp, ?_⟩
 have vJ : ¬ (n*i.size > 2 ^ 24):=by omega
 have qW:(l.toArray.map fun(i,x)=>(i,act.eval x)).toList=l.map fun p=>(p.1,act.eval p.2):=by simp
 by_cases h0:n*i.size=0
 ·have iM:(Array.range (n*i.size)).map ((#[] : Array Value)[· % (#[] : Array Value).size]!)=(Array.range (n*i.size)).map (v.cells[· % v.cells.size]!):=by rw [h0];simp
  unfold Instr.buildSlice
  simp only [Sem.run_bind,run_underlying ht,Result.andThen_ok,sizeOf,fj P hi,Sem.run_pure,if_neg vJ,if_pos h0,iM,qW,f1,newRow,run_newObj]
  rfl
 ·unfold Instr.buildSlice
  simp only [Sem.run_bind,run_underlying ht,Result.andThen_ok,sizeOf,fj P hi,Sem.run_pure,if_neg vJ,if_neg h0,zeroValue,h2,qW,f1,newRow,run_newObj]
  rfl
end
end Go.Abs

/-! Sound7 -/

namespace Go.Abs
section
variable {P:Program} {M:Map} {s:St} {w:World}
theorem foldl_push (ns:List Int) : ∀ r:ByteArray,ns.foldl (fun r n=>r.push (UInt8.ofNat n.toNat)) r = ⟨r.data++(ns.map fun n=>UInt8.ofNat n.toNat).toArray⟩:=by
 induction ns with
 | nil=>intro r;simp
 | cons n ns ih=>intro r;simp only [List.foldl_cons];rw [ih];simp [ByteArray.push]
theorem pb : ∀ {rows:List (List D)} {l:List UInt8},ke rows=some l→∃ ns:List Int,rows=ns.map (fun n=> [.int .u8 n])∧l=ns.map fun n=>UInt8.ofNat n.toNat
 | [],l,h=>by cases h;exact⟨[],rfl,rfl⟩
 | r::rs,l,h=>by
  unfold ke at h
  split at h
  ·rename_i b bs h1 h2
   cases h
   obtain⟨ns,g1,g2⟩:=pb h2
   unfold xF at h1
   split at h1
   ·rename_i n
    cases h1
    exact⟨n::ns,by rw [g1];rfl,by rw [g2];rfl⟩
   ·cases h1
  ·cases h
theorem CA (r:Rel M s w) {src dst e:TypeId} {g:Tag} {z:Nat} {rows:List (List D)} {v:Value} {l:List UInt8} (hs:P.underlying src=some (.slice e)) (he:P.underlying e=some (.int .u8)) (hd:P.underlying dst=some .string)
 (hv:RD M s (.slice g z rows) v) (hb:ke rows=some l):bZ P M s w (do pure (.value (← convert src dst v))) (.str l) s:=by
 obtain⟨ns,rfl,rfl⟩:=pb hb
 refine bZ.pure (v:= .string ⟨⟨ns.map fun n=>UInt8.ofNat n.toNat⟩⟩) r ?_ (.str _)
 rcases hv.fG with ⟨h0,rfl,_⟩ | ⟨h0,_,a,cap,rfl⟩ | ⟨b,q,cap,rfl,hl,dE,g1,g2,_⟩
 ·have:ns = []:=by simpa using h0
  subst this
  have:=run_convert_bytes_string w src dst e none 0 0 hs he hd
  simp only [Sem.run_bind,this,Conv.bytesToString,Sem.run_pure,Result.andThen_ok]
  rfl
 ·have:ns = []:=by simpa using h0
  subst this
  have h2:=run_convert_bytes_string w src dst e (some a) 0 cap hs he hd
  simp only [Sem.run_bind,h2,Conv.bytesToString,Sem.run_pure,Result.andThen_ok]
  rfl
 ·have iM:=run_loadCells_list (P:=P) w ⟨b,q,none⟩ (ns.map (Value.int .u8)) (fun j v hj=>by
   rw [nc]
   simp only [List.getElem?_map,Option.map_eq_some_iff]at hj
   obtain⟨n,hn,rfl⟩:=hj
   have cW:(ns.map (fun n=> [D.int .u8 n]))[j]? = some [.int .u8 n]:=by simp [hn]
   have hz:z=1:=by have:=dE [.int .u8 n] (List.mem_of_getElem? cW);simpa using this.symm
   subst hz
   obtain⟨u,hu⟩:=g1 j _ 0 _ cW rfl
   have:=g2 j _ 0 _ u cW rfl hu
   rw [this.gf]at hu
   have:=(r.comm _ _ _ hu).1
   simpa using this)
  simp only [List.length_map]at iM ⊢
  have h1:=run_bytesToString (P:=P) w ⟨b,q,none⟩ ns.length cap ns iM
  have h2:=run_convert_bytes_string w src dst e (some ⟨b,q,none⟩) ns.length cap hs he hd
  simp only [Sem.run_bind,h2,h1,Sem.run_pure,Result.andThen_ok,foldl_push]
  congr 3
  simp [ByteArray.empty,ByteArray.emptyWithCapacity]
  rfl
theorem zB (r:Rel M s w) {src dst e:TypeId} {l:List UInt8} (hs:P.underlying src=some .string) (hd:P.underlying dst=some (.slice e)) (he:P.underlying e=some (.int .u8)) :
 bZ P M s w (do pure (.value (← convert src dst (.string ⟨⟨l⟩⟩)))) (.slice .shared 1 (l.map fun c=> [.int .u8 c.toNat])) s:=by
 have cM:=run_bytes_of_string (P:=P) w src dst e ⟨⟨l⟩⟩ hs hd he
 generalize oc:grownCap w (ByteArray.size ⟨⟨l⟩⟩) 0 e=cap at cM
 have BP:l.length≤cap:=by rw [← oc];exact grownCap_ge w l.length 0 e
 have cW : ∀ j,j<l.length→(bytesRow ⟨⟨l⟩⟩ cap)[j]? = some (.int .u8 ((l[j]?.getD 0).toNat:Int)):=by
  intro j hj
  unfold bytesRow
  rw [Array.getElem?_append_left (by simpa using hj)]
  simp [hj]
 have dE:(bytesRow ⟨⟨l⟩⟩ cap).size=cap:=by simp [bytesRow,tV];omega
 have jN : ∀ v∈bytesRow ⟨⟨l⟩⟩ cap,v.oneCell'=true:=by
  intro v hv
  unfold bytesRow at hv
  simp at hv
  rcases hv with ⟨a,_,rfl⟩ | ⟨_,rfl⟩ <;> rfl
 have hR:jj M s 1 (l.map fun c=> [D.int .u8 c.toNat]) (bytesRow ⟨⟨l⟩⟩ cap):=by
  refine⟨by simp [dE];omega,by simp,jN,fun i row j d v e1 e2 e3=> ?_⟩
  simp only [List.getElem?_map,Option.map_eq_some_iff]at e1
  obtain⟨c,hc,rfl⟩:=e1
  cases j with
  | zero=>
   simp at e2;subst e2
   have hi:=(List.getElem?_eq_some_iff.1 hc).1
   rw [show i*1+0=i by omega,cW i hi,hc]at e3
   cases e3
   exact .int _ _
  | succ j=>simp at e2
 obtain⟨r1,e1⟩:=(r.of_heap (w':=w.drew) rfl).dK l.length (bytesRow ⟨⟨l⟩⟩ cap) e ((bytesRow ⟨⟨l⟩⟩ cap).size,(bytesRow ⟨⟨l⟩⟩ cap).size+1) jN
 obtain⟨f1,f2⟩:=hR.fixed e1.le (b:=w.heap.size) (fun o ho=>by simp at ho;simp [Map.dK,ho])
 refine⟨.slice (some ⟨w.heap.size,0,none⟩) l.length cap,_,_, .inl (by simp only [Sem.run_bind,cM,Result.andThen_ok,Sem.run_pure];rfl),r1, ?_,(Ext.of_heap (M:=M) (s:=s) (w:=w) (w':=w.drew) rfl rfl rfl rfl).trans e1⟩
 have key:=RD.slice (M:=M.dK w.heap.size l.length (bytesRow ⟨⟨l⟩⟩ cap)) (s:=s) .shared 1 (l.map fun c=> [D.int .u8 c.toNat]) w.heap.size 0 cap (by simpa using BP) hR.2.1 f1 f2 trivial
 simp only [List.length_map]at key
 exact key
theorem Hr (r:Rel M s w) {t e:TypeId} {q z:Nat} {yb:Bool} {rows:List (List D)} {v:Value} (ht:P.underlying t=some (.slice e)) (he:P.underlying e=some (.int .u8)) (hv:RD M s (.slice (.tok q yb) z rows) v) (dQ:rows≠ []) (hq:s.av[q]? = some (some rows.length)) :
 bZ P M s w (do pure (.value (← convert t t v))) (.slice .shared z rows) {s with av:=s.av.set q none}:=by
 rcases hv.fG with ⟨h0,_,_⟩ | ⟨h0,_,_⟩ | ⟨b,k,cap,rfl,hl,dE,g1,g2,kg⟩
 ·exact(dQ h0).elim
 ·exact(dQ h0).elim
 ·obtain⟨_,h2⟩:=kg
  obtain⟨_,h3⟩:=h2 _ hq
  rcases h3 rfl with ⟨_,h4,_⟩ | ⟨b2,h4,gE⟩
  ·subst h4
   exact(dQ (List.eq_nil_of_length_eq_zero (Nat.le_zero.1 hl))).elim
  cases h4
  obtain⟨r1,l1⟩:=r.Pj q
  rcases r.tok q rows.length hq with ⟨h4,_⟩ | ⟨b',zq,rA,vs,T,h4,h5,h6,h7,h8⟩
  ·rw [gE]at h4;cases h4
  ·rw [gE]at h4;cases h4
   have fl : ∀ p,St.live {s with av:=s.av.set q none} p→p≠q∧s.live p:=by
    rintro p ⟨n,hn⟩
    rw [List.getElem?_set]at hn
    split at hn
    ·simp at hn
    ·rename_i dQ;exact⟨fun h=>dQ h.symm,n,hn⟩
   obtain⟨r2,hh,kK,ho,vO,Hs⟩:=r1.freeze (b:=b) vs.size 1 (fun o ho=>r.dI q b cap _ o ⟨_,hq⟩ gE ho)
    (fun p c y hp heq=>(fl p hp).1 (r.eA p q b c y cap _ (fl p hp).2 ⟨_,hq⟩ heq gE))
   have Mh:w.shape? b=some (T,vs.size):=by simp [World.shape?,h5]
   refine⟨.slice (some ⟨b,0,none⟩) rows.length cap,_,M, .inl ?_,r2, ?_, ?_⟩
   ·simp [convert,run_underlying ht,run_underlying he,markStringish,Mh]
   ·have h9:=(RD.slice (M:=M) (s:=s) .shared z rows b 0 cap hl dE g1 g2 trivial).mono l1
    exact h9
   ·refine⟨l1,fun p _ _ h4=>hh p (fun e=>h4 q cap (bz yb z) ⟨_,hq⟩ (by rw [gE,e])),fun o h3 h4=> ?_,fun p b' c y hp heq=> .inl ⟨(fl p hp).2,c,y,heq⟩,fun _ _ h=>(h rfl).elim,by rw [kK];exact Nat.le_refl _,ho,vO,Hs⟩
    simp at h4;omega
theorem EZ (r:Rel M s w) {size:Nat} {rows:List (List D)} {vs:Array Value} (T:TypeId) (h:jj M s size rows vs) (dE:vs.size=rows.length*size) (sY:0<size) :
 ∃ M',RD M' {s with av:=s.av++ [some rows.length]} (.slice (.tok s.av.length) size rows) (.slice (some ⟨w.heap.size,0,none⟩) rows.length rows.length)∧
 Rel M' {s with av:=s.av++ [some rows.length]} (w.alloc (.cells vs T))∧Ext M s w M' {s with av:=s.av++ [some rows.length]} (w.alloc (.cells vs T)):=by
 obtain⟨r1,e1⟩:=r.dK vs.size vs T (0,0) h.2.2.1
 have uA:zs size=size:=by show(if size=0 then 1 else size)=size;rw [if_neg (by omega)]
 obtain⟨r2,l2⟩:=r1.JE rows.length w.heap.size rows.length size vs T (heap_alloc_new w _) (by rw [uA];exact dE) (Nat.le_refl _) (fun h=>by omega)
  (fun off ho=>by rw [uA]at ho;simp [Map.dK];omega) (fun o ho=>by have:=r.mc ho;show M.mu o≠_;omega)
  (fun q c z' hl heq=>by have:=r.oN hl (show M.be q=some (w.heap.size,c,z')from heq);omega)
 obtain⟨f1,f2⟩:=h.fixed (e1.le.trans l2) (b:=w.heap.size) (fun o ho=>by
  have:o<vs.size:=Nat.lt_of_lt_of_le ho h.1
  simp [Map.c6,Map.dK,this])
 refine⟨_, ?_,r2, ?_⟩
 ·exact .slice _ size rows w.heap.size 0 rows.length (Nat.le_refl _) h.2.1 f1 f2 ⟨by simp,fun n hn=>by
   simp at hn;subst hn
   exact⟨Nat.le_refl _,fun _=> .inr ⟨_,rfl,by simp [Map.c6,bz]⟩⟩⟩
 ·refine⟨e1.le.trans l2,e1.kept,e1.l8,fun q b c z' hl heq=> ?_,e1.n8,e1.size,e1.os,e1.tape,e1.output⟩
  obtain⟨k,hk⟩:=hl
  rcases Nat.lt_or_ge q s.av.length with h' | h'
  ·have zA:M.be q=some (b,c,z'):=by
    have:((M.dK w.heap.size vs.size vs).c6 s.av.length (some (w.heap.size,rows.length,size))).be q=M.be q:=by simp [Map.c6,Map.dK];omega
    rw [this]at heq;exact heq
   simp only [List.getElem?_append_left h']at hk
   exact .inl ⟨⟨k,hk⟩,c,z',zA⟩
  ·have:=(List.getElem?_eq_some_iff.1 hk).1
   simp at this
   have:q=s.av.length:=by omega
   subst this
   have:((M.dK w.heap.size vs.size vs).c6 s.av.length (some (w.heap.size,rows.length,size))).be s.av.length=some (w.heap.size,rows.length,size):=by simp [Map.c6]
   rw [this]at heq;cases heq
   exact .inr (Nat.le_refl _)
end
end Go.Abs

/-! SoundM -/

namespace Go.Abs
open Go.MapKept
section
variable {P:Program} {M:Map} {s:St} {w:World}
theorem pS : ∀ (a b:List MapEntry),fb (a++b)=fb a++fb b
 | [],b=>rfl
 | e::a,b=>by simp only [List.cons_append,fb,pS a b]
theorem xL : ∀ (a:List MapEntry) (j:Nat) (e:MapEntry) (k v:Value),a[j]? = some e→e.key=k→fb (a.set j {e with key:=k,val:=v})=(fb a).set (2*j+1) v
 | [],j,e,k,v,h,_=>by simp at h
 | x::a,0,e,k,v,h,hk=>by
  simp at h;subst h;subst hk
  simp [fb]
 | x::a,j+1,e,k,v,h,hk=>by
  have:=xL a j e k v (by simpa using h) hk
  simp only [List.set_cons_succ,fb,this]
  rw [show 2*(j+1)=(2*j+1)+1 by omega,List.set_cons_succ]
theorem Ht (a b:List UInt8):((⟨⟨a⟩⟩:ByteArray) == ⟨⟨b⟩⟩)=(a==b):=by
 show((⟨a⟩:Array UInt8) == ⟨b⟩)=(a==b)
 simp
theorem find_spec {key:List UInt8} : ∀ (es:List MapEntry) (cs:List D) (i:Nat),(fb es).length=cs.length→(∀ (i:Nat) (d:D) (v:Value),cs[i]? = some d→(fb es)[i]? = some v→RD M s d v)→
 (∀ z d,rr key z cs=some d→(Instr.findNow .string (.string ⟨⟨key⟩⟩) es i=some none∧d=z)∨∃ (j:Nat) (e:MapEntry),Instr.findNow .string (.string ⟨⟨key⟩⟩) es i=some (some (i+j,e.val))∧RD M s d e.val)∧
 (∀ d fT,qq key d cs=some fT→(Instr.findNow .string (.string ⟨⟨key⟩⟩) es i=some none∧fT=cs++ [.str key,d])∨
  ∃ (j:Nat) (e:MapEntry),Instr.findNow .string (.string ⟨⟨key⟩⟩) es i=some (some (i+j,e.val))∧es[j]? = some e∧e.key = .string ⟨⟨key⟩⟩∧fT=cs.set (2*j+1) d)
 | [],cs,i,hl,hr=>by
  have:cs = []:=by cases cs <;> simp [fb]at hl;rfl
  subst this
  refine⟨fun z d h=> .inl ⟨rfl,by simp [rr]at h;exact h.symm⟩,fun d fT h=> .inl ⟨rfl,by simp [qq]at h;simp [← h]⟩⟩
 | x::es,cs,i,hl,hr=>by
  match cs,hl with
  | [],hl=>simp [fb]at hl
  | [_],hl=>simp [fb]at hl
  | c0::c1::r,hl=>
   simp only [fb,List.length_cons]at hl hr
   have h0:=hr 0 c0 x.key rfl rfl
   have h1:=hr 1 c1 x.val rfl rfl
   obtain⟨TQ,TR⟩:=find_spec es r (i+1) (by omega) (fun j d v e1 e2=>hr (j+2) d v (by simpa using e1) (by simpa using e2))
   have QR : ∀ k,c0 = .str k→x.key = .string ⟨⟨k⟩⟩∧Instr.findNow .string (.string ⟨⟨key⟩⟩) (x::es) i=if key==k then some (some (i,x.val))else Instr.findNow .string (.string ⟨⟨key⟩⟩) es (i+1):=by
    intro k hk
    subst hk
    have hx:=h0.gY
    refine⟨hx, ?_⟩
    simp only [Instr.findNow,hx,Instr.sameNow,Ht]
    cases hb:key==k <;> simp
   refine⟨fun z d h=> ?_,fun d fT h=> ?_⟩
   ·cases c0 <;> simp only [rr]at h <;> try (cases h;done)
    rename_i k
    obtain⟨k1,k2⟩:=QR k rfl
    rw [k2]
    by_cases sg:k=key
    ·subst sg
     simp at h
     subst h
     exact .inr ⟨0,x,by simp,h1⟩
    ·have e1:(k==key)=false:=by simpa using sg
     have e2:(key==k)=false:=by simpa using fun e:key=k=>sg (Eq.symm e)
     rw [e1]at h
     rw [e2]
     simp only [Bool.false_eq_true, ↓reduceIte]at h ⊢
     rcases TQ z d h with h2 | ⟨j,e,h2,h3⟩
     ·exact .inl h2
     ·exact .inr ⟨j+1,e,by rw [h2];congr 3;omega,h3⟩
   ·cases c0 <;> simp only [qq]at h <;> try (cases h;done)
    rename_i k
    obtain⟨k1,k2⟩:=QR k rfl
    rw [k2]
    by_cases sg:k=key
    ·subst sg
     simp at h
     subst h
     exact .inr ⟨0,x,by simp,rfl,k1,by simp⟩
    ·have e1:(k==key)=false:=by simpa using sg
     have e2:(key==k)=false:=by simpa using fun e:key=k=>sg (Eq.symm e)
     rw [e1]at h
     rw [e2]
     simp only [Bool.false_eq_true, ↓reduceIte]at h ⊢
     split at h
     ·rename_i r' ES
      cases h
      rcases TR d r' ES with ⟨h2,h3⟩ | ⟨j,e,h2,h3,h4,h5⟩
      ·exact .inl ⟨h2,by rw [h3];rfl⟩
      ·refine .inr ⟨j+1,e,by rw [h2];congr 3;omega,by simpa using h3,h4, ?_⟩
       rw [h5,show 2*(j+1)+1=(2*j+1)+1+1 by omega]
       simp only [List.set_cons_succ]
     ·cases h
theorem Rel.Mi (r:Rel M s w) {o:Nat} {cs fT:List D} (he:s.au[o]? = some cs) (hk:M.ob o = .map) (sh:Array MapEntry) (ck:Nat) (hl:(fb sh.toList).length=fT.length)
 (h1 : ∀ v∈fb sh.toList,v.oneCell'=true) (h2 : ∀ (i:Nat) (d:D) (v:Value),fT[i]? = some d→(fb sh.toList)[i]? = some v→RD M s d v) :
 Rel M {s with au:=s.au.set o fT} {w with heap:=w.heap.setIfInBounds (M.mu o) (.map sh ck)}∧Ext M s w M {s with au:=s.au.set o fT} {w with heap:=w.heap.setIfInBounds (M.mu o) (.map sh ck)}:=by
 obtain⟨vs,T,hh,hs,⟨jN,JD⟩,lx⟩:=r.obj o cs he
 rw [hk]at hh
 obtain⟨es,ck0,hh,kM⟩:=hh
 have ho:o<s.au.length:=(List.getElem?_eq_some_iff.1 he).1
 obtain⟨Po,iK⟩:=heap_set (w:=w) (o':= .map sh ck) hh
 have le:Le M s M {s with au:=s.au.set o fT}:=
  ⟨fun _ _ _ h=>h,by simp,fun _ _=>rfl,Nat.le_refl _,fun t n _ h=>⟨n,h,Nat.le_refl _,fun _=>rfl⟩⟩
 refine⟨⟨fun b q v e=> ?_,fun o' ds e=> ?_,fun q hq qs=>r.hZ q (by simpa using hq) qs,fun q q' hq mT e=>r.inj q q' (by simpa using hq) (by simpa using mT) e,fun t n e=> ?_,
  fun t b c z q hl e hq=>r.dI t b c z q hl e (by simpa using hq),fun t t' b c z c' z' h h' e e'=>r.eA t t' b c z c' z' h h' e e'⟩, ?_⟩
 ·obtain⟨h3,h4⟩:=r.comm b q v e
  refine⟨?_,h4⟩
  have hb:b≠M.mu o:=fun eq=>by subst eq;rw [r.hZ o ho q]at e;cases e
  rw [← h3]
  simp [World.cell?,iK b hb]
 ·rw [List.getElem?_set]at e
  split at e
  ·rename_i heq
   subst heq
   simp at e
   obtain⟨_,rfl⟩:=e
   refine⟨⟨fb sh.toList⟩,0, ?_,by simpa using hl,⟨fun v hv=>h1 v (by simpa using hv),fun T' h=> ?_⟩,fun i d v e1 e2=>(h2 i d v e1 (by simpa using e2)).mono le⟩
   ·rw [hk];exact⟨sh,ck,Po,rfl⟩
   ·have:M.ty o=none:=by
     have:(M.loc o).2 = .map:=hk
     simp [Map.ty,this,Ob.ty?]
    rw [this]at h;cases h
  ·rename_i dQ
   obtain⟨dV,T',h3,h4,h5,h6⟩:=r.obj o' ds e
   have jI:o'<s.au.length:=(List.getElem?_eq_some_iff.1 e).1
   refine⟨dV,T', ?_,h4,h5,fun i d v e1 e2=>(h6 i d v e1 e2).mono le⟩
   show ji (w.heap.setIfInBounds (M.mu o) (.map sh ck))[M.mu o']? (M.ob o') _ _
   rw [iK _ (fun eq=>dQ (r.inj o o' ho jI eq.symm))];exact h3
 ·rcases r.tok t n e with h3 | ⟨b,cap,size,dV,T',h3,h4,h5⟩
  ·exact .inl h3
  ·refine .inr ⟨b,cap,size,dV,T',h3, ?_,h5⟩
   show(w.heap.setIfInBounds (M.mu o) (.map sh ck))[b]? = _
   rw [iK b (fun eq=>r.dI t b cap size o ⟨n,e⟩ h3 ho eq.symm)];exact h4
 ·refine⟨le,fun b hb h3 _=>iK b (fun eq=>h3 o ho eq.symm),fun q h3 h4=> ?_,fun t b c z h e=> .inl ⟨h,c,z,e⟩,fun _ _ h=>(h rfl).elim,by simp,rfl,rfl,rfl⟩
  simp at h4;omega
theorem nS (l:List UInt8):IsKey .string (.string ⟨⟨l⟩⟩):=by simp [IsKey]
theorem CC (r:Rel M s w) {t kt e:TypeId} (ht:P.underlying t=some (.map kt e)):bZ P M s w (do pure (.value (← Instr.makeMap t none))) (.eU s.au.length) {s with au:=s.au++ [[]]}:=by
 obtain⟨r',e'⟩:=r.EH [] (.map #[] 0) #[] 0 .map ⟨#[],0,rfl,rfl⟩ (fun _ h=>by cases h) rfl (by simp) (by simp)
 have hm:(M.cB s.au.length w.heap.size .map).mu s.au.length=w.heap.size:=by simp [Map.cB,Map.mu]
 have hv:=RD.eU (M:=M.cB s.au.length w.heap.size .map) (s:= {s with au:=s.au++ [[]]}) s.au.length (by simp) (by simp [Map.cB,Map.ob])
 rw [hm]at hv
 refine⟨_,_,_, .inl ?_,r',hv,e'⟩
 simp only [Instr.makeMap,newObj,Sem.run_bind,Sem.run_pure,Sem.run,Result.andThen_ok]
 rfl
theorem CD (r:Rel M s w) {t kt e:TypeId} {i:TypeInfo} {z:Value} {zd:D} (ht:P.underlying t=some (.map kt e)) (hk:P.underlying kt=some .string) (hi:P.info? e=some i) (hz:i.zero=some z) (Mj:mX z=some zd)
 {o:Nat} {key:List UInt8} {cs:List D} {d:D} (qS:M.ob o = .map) (ho:s.au[o]? = some cs) (hg:rr key zd cs=some d) :
 bZ P M s w (do pure (.value (← Instr.lookup t (.map (some (M.mu o))) (.string ⟨⟨key⟩⟩) false))) d s:=by
 obtain⟨vs,T,hh,hs,⟨jN,JD⟩,lx⟩:=r.obj o cs ho
 rw [qS]at hh
 obtain⟨es,ck,hh,kM⟩:=hh
 have uZ : ∀ (i:Nat) (d:D) (v:Value),cs[i]? = some d→(fb es.toList)[i]? = some v→RD M s d v:=fun i d v e1 e2=>lx i d v e1 (by rw [← kM]at e2;simpa using e2)
 have TS:(zeroValue e).run P w = .ok z w:=by simp [zeroValue,fj P hi,hz]
 rcases(find_spec es.toList cs 0 (by rw [← kM];simpa using hs) uZ).1 zd d hg with ⟨h1,rfl⟩ | ⟨j,en,h1,h2⟩
 ·refine bZ.pure (v:=z) r ?_ (lG Mj).1
  simp [Instr.lookup,run_underlying ht,MapKept.run_getObj_map hh,run_checkKey hk (nS key),run_findKey hk h1,TS]
 ·refine bZ.pure (v:=en.val) r ?_ h2
  simp [Instr.lookup,run_underlying ht,MapKept.run_getObj_map hh,run_checkKey hk (nS key),run_findKey hk h1]
theorem E0 (r:Rel M s w) {t kt e:TypeId} (ht:P.underlying t=some (.map kt e)) (hk:P.underlying kt=some .string)
 {o:Nat} {key:List UInt8} {cs fT:List D} {d:D} {v:Value} (qS:M.ob o = .map) (ho:s.au[o]? = some cs) (hv:RD M s d v) (vP:v.oneCell'=true) (hg:qq key d cs=some fT) :
 bZ P M s w (do Instr.mapUpdate t (.map (some (M.mu o))) (.string ⟨⟨key⟩⟩) v;pure .skip) (.tuple []) {s with au:=s.au.set o fT}:=by
 obtain⟨vs,T,hh,hs,⟨jN,JD⟩,lx⟩:=r.obj o cs ho
 rw [qS]at hh
 obtain⟨es,ck,hh,kM⟩:=hh
 have uZ : ∀ (i:Nat) (d:D) (v:Value),cs[i]? = some d→(fb es.toList)[i]? = some v→RD M s d v:=fun i d v e1 e2=>lx i d v e1 (by rw [← kM]at e2;simpa using e2)
 have hl:(fb es.toList).length=cs.length:=by rw [← kM];simpa using hs
 have JO : ∀ v∈fb es.toList,v.oneCell'=true:=fun v hv=>jN v (by rw [← kM]at hv;simpa using hv)
 rcases(find_spec es.toList cs 0 hl uZ).2 d fT hg with ⟨h1,rfl⟩ | ⟨j,en,h1,h2,h3,rfl⟩
 ·obtain⟨r',e'⟩:=r.Mi (fT:=cs++ [.str key,d]) ho qS (es.push {key:= .string ⟨⟨key⟩⟩,val:=v,born:=ck}) (ck+1) (by simp [pS,fb,hl]) (fun u hu=>by
   simp only [Array.toList_push,pS,fb,List.mem_append,List.mem_cons,List.not_mem_nil,or_false]at hu
   rcases hu with hu | rfl | rfl
   ·exact JO u hu
   ·rfl
   ·exact vP) (fun i d' u e1 e2=>by
   simp only [Array.toList_push,pS,fb]at e2
   rcases Nat.lt_or_ge i cs.length with hi | hi
   ·rw [List.getElem?_append_left hi]at e1
    rw [List.getElem?_append_left (by omega)]at e2
    exact uZ i d' u e1 e2
   ·rw [List.getElem?_append_right hi]at e1
    rw [List.getElem?_append_right (by omega),hl]at e2
    match i - cs.length,e1,e2 with
    | 0,e1,e2=>simp at e1 e2;subst e1 e2;exact .str _
    | 1,e1,e2=>simp at e1 e2;subst e1 e2;exact hv
    | k+2,e1,e2=>simp at e1)
  refine⟨Go.undef,_,M, .inr ⟨?_,rfl⟩,r', .undef,e'⟩
  simp [Instr.mapUpdate,run_underlying ht,MapKept.run_getObj_map hh,run_checkKey hk (nS key),run_findKey hk h1,MapKept.run_setObj_map _ hh]
 ·simp only [Nat.zero_add]at h1
  have hj:es[j]? = some en:=by simpa using h2
  have Hu:(es.modify j fun e=> {e with key:= .string ⟨⟨key⟩⟩,val:=v}).toList=es.toList.set j {en with key:= .string ⟨⟨key⟩⟩,val:=v}:=by
   apply List.ext_getElem?
   intro i
   rw [Array.getElem?_toList,Array.getElem?_modify,List.getElem?_set]
   by_cases JP:j=i
   ·subst JP
    have:j<es.size:=by have:=(List.getElem?_eq_some_iff.1 h2).1;simpa using this
    simp [hj,this]
    have:=(Array.getElem?_eq_some_iff.1 hj).2
    rw [this]
   ·simp [JP]
  have kN:=xL es.toList j en (.string ⟨⟨key⟩⟩) v h2 h3
  obtain⟨r',e'⟩:=r.Mi (fT:=cs.set (2*j+1) d) ho qS (es.modify j fun e=> {e with key:= .string ⟨⟨key⟩⟩,val:=v}) ck (by rw [Hu,kN];simp [hl]) (fun u hu=>by
   rw [Hu,kN]at hu
   rcases List.mem_or_eq_of_mem_set hu with hu | rfl
   ·exact JO u hu
   ·exact vP) (fun i d' u e1 e2=>by
   rw [Hu,kN,List.getElem?_set]at e2
   rw [List.getElem?_set]at e1
   by_cases hi:2*j+1=i
   ·rw [if_pos hi]at e1 e2
    split at e1
    ·split at e2
     ·cases e1;cases e2;exact hv
     ·cases e2
    ·cases e1
   ·rw [if_neg hi]at e1 e2
    exact uZ i d' u e1 e2)
  refine⟨Go.undef,_,M, .inr ⟨?_,rfl⟩,r', .undef,e'⟩
  simp [Instr.mapUpdate,run_underlying ht,MapKept.run_getObj_map hh,run_checkKey hk (nS key),run_findKey hk h1,hj,h3,run_keyThatStays (nS key),MapKept.run_setObj_map _ hh]
end
end Go.Abs

/-! Sound8 -/

namespace Go.Abs
section
variable {P:Program} {M:Map} {s:St} {w:World}
theorem BS {tm:Tm} {act:Act} (hr:iL M s tm act.tmps) : ∀ {l:List Operand} {xs:List X},qR l=some xs→
 xs.length=l.length∧∀ (i:Nat) (d:D) (v:Value),(xs.map (·.ev tm))[i]? = some d→(l.map act.eval)[i]? = some v→RD M s d v
 | [],xs,h=>by cases h;exact⟨rfl,by simp⟩
 | x::l,xs,h=>by
  unfold qR at h
  split at h
  ·rename_i x' r' h1 h2
   cases h
   obtain⟨g1,g2⟩:=BS hr h2
   refine⟨by simp [g1],fun i d v e1 e2=> ?_⟩
   cases i with
   | zero=>simp at e1 e2;subst e1;subst e2;exact bo h1 hr
   | succ i=>exact g2 i d v (by simpa using e1) (by simpa using e2)
  ·cases h
theorem E1 {lo:Option Operand} {xM:Option X} {tm:Tm} {act:Act} (hr:iL M s tm act.tmps) (h:Jz lo=some xM) {l:Int} (hl:sP (xM.map (·.ev tm))=some l):JF (lo.map act.eval) l:=by
 cases lo with
 | none=>cases h;simp only [Option.map_none,sP,Option.some.injEq]at hl;exact .inl ⟨rfl,hl.symm⟩
 | some x=>
  obtain⟨y,hy,rfl⟩:=map_some (f:=some) h
  have:=bo hy hr
  simp only [Option.map_some]at hl ⊢
  cases hd:y.ev tm <;> rw [hd]at hl this <;> simp only [sP]at hl <;> try (cases hl;done)
  cases hl
  rw [this.gf]
  exact .inr ⟨_,rfl⟩
theorem E2 {hi:Option Operand} {fU:Option X} {tm:Tm} {act:Act} (hr:iL M s tm act.tmps) (h:Jz hi=some fU) {len:Nat} {l:Int} (hl:sQ (fU.map (·.ev tm)) len=some l):JG (hi.map act.eval) len l:=by
 cases hi with
 | none=>cases h;simp only [Option.map_none,sQ,Option.some.injEq]at hl;exact .inl ⟨rfl,hl.symm⟩
 | some x=>
  obtain⟨y,hy,rfl⟩:=map_some (f:=some) h
  have:=bo hy hr
  simp only [Option.map_some]at hl ⊢
  cases hd:y.ev tm <;> rw [hd]at hl this <;> simp only [sQ]at hl <;> try (cases hl;done)
  cases hl
  rw [this.gf]
  exact .inr ⟨_,rfl⟩
theorem CF {t:TypeId} {f off size:Nat} {agg:Bool} (h:iW P t f=some (off,size,agg)) {cs:List D} {vs:Array Value} (hl:cs.length=vs.size) (h1 : ∀ v∈vs,v.oneCell'=true)
 (h2 : ∀ (i:Nat) (d:D) (v:Value),cs[i]? = some d→vs[i]? = some v→RD M s d v) {d:D} (hp:part cs off agg size=some d) (r:Rel M s w) :
 bZ P M s w (do pure (.value (← Instr.field t (.agg vs) f))) d s:=by
 let n:=if agg then size else 1
 have ib:off+n≤vs.size:=by
  rcases nO hp with ⟨rfl,h1,_⟩ | ⟨rfl,h1⟩
  ·simp [n];omega
  ·have:=(List.getElem?_eq_some_iff.1 h1).1;simp [n];omega
 have hlen:((vs.toList.drop off).take n).length=n:=by simp;omega
 have hJ : ∀ (j:Nat),j<((vs.toList.drop off).take n).length→vs[off+j]? = ((vs.toList.drop off).take n)[j]? :=by
  intro j h
  rw [hlen]at h
  rw [List.getElem?_take,if_pos h,List.getElem?_drop];simp
 refine bZ.pure (v:=if agg then .agg ((vs.toList.drop off).take n).toArray else((vs.toList.drop off).take n).getD 0 Go.undef) r (by simp only [Sem.run_bind,EL h vs _ hlen hJ,Result.andThen_ok,Sem.run_pure]) ?_
 refine oO hp _ hlen (fun _ u hu=>h1 u (Array.mem_toList_iff.1 (List.mem_of_mem_drop (List.mem_of_mem_take hu)))) (fun j d u e1 e2=>h2 _ d u e1 ?_)
 rw [hJ j (List.getElem?_eq_some_iff.1 e2).1];exact e2
theorem nB {o:Oper} {ao:AO} {tm:Tm} {act:Act} {d:D} {s':St} (hc:vB P o=some ao) (r:Rel M s w) (hr:iL M s tm act.tmps) (he:aG ao tm s=some (d,s')) :
 bZ P M s w (execOp act.eval o) d s':=by
 obtain⟨dst,op,type,pos,after,guard⟩:=o
 unfold vB at hc
 simp only at hc
 cases op with
 | move x=>
  obtain⟨y,hy,rfl⟩:=map_some hc
  cases he
  exact bZ.pure r rfl (bo hy hr)
 | assign x=>
  obtain⟨y,hy,rfl⟩:=map_some hc
  cases he
  exact bZ.pure r rfl (bo hy hr)
 | pick c a b=>
  simp only at hc
  split at hc
  ·rename_i c' a' b' h1 h2 h3
   cases hc
   simp only [aG]at he
   split at he
   ·rename_i t ht
    cases he
    have QS:=bo h1 hr
    rw [ht]at QS
    have:=QS.jO
    refine bZ.pure (v:=if t then act.eval a else act.eval b) r ?_ ?_
    ·simp only [execOp,this,asBool]
     simp
    ·cases t
     ·exact bo h3 hr
     ·exact bo h2 hr
   ·cases he
  ·cases hc
 | alloc t=>
  simp only at hc
  split at hc
  ·obtain⟨z,hz,rfl⟩:=map_some hc
   simp only [aG]at he
   split at he
   ·cases he;exact Ba r hz
   ·cases he
  ·obtain⟨z,hz,rfl⟩:=map_some hc
   cases he
   exact Cn r hz
 | box t x=>
  simp only at hc
  split at hc
  ·obtain⟨y,hy,rfl⟩:=map_some hc
   simp only [aG]at he
   split at he
   ·rename_i row cW
    cases he
    exact EK r (bo hy hr) cW
   ·cases he
  ·obtain⟨y,hy,rfl⟩:=map_some hc
   simp only [aG]at he
   split at he
   ·rename_i row cW
    cases he
    exact Hj r (bo hy hr) cW
   ·cases he
 | build t parts=>
  simp only at hc
  split at hc
  ·rename_i fs z ps h1 h2 h3
   split at hc
   ·rename_i vN
    cases hc
    simp only [aG]at he
    split at he
    ·rename_i cs mU
     cases he
     have:=Cz r hr h1 vN h2 h3 mU
     simpa [execOp]using this
    ·cases he
   ·cases hc
  ·cases hc
 | buildSlice t n parts=>
  simp only at hc
  split at hc
  ·rename_i e hu
   split at hc
   ·rename_i i z ps h1 h2 h3
    split at hc
    ·rename_i iX
     cases hc
     simp only [aG]at he
     split at he
     ·rename_i rows im
      cases he
      obtain⟨vs,T,g1,g2,g3,g4⟩:=uB r hr hu h1 h2 iX.1 iX.2 h3 im
      obtain⟨f1,f2,f3⟩:=Cu r T g1
      refine⟨_,_,_, .inl ?_,f2,f1,f3⟩
      simp only [Array.toArray_toList]at g4
      simp only [execOp,Sem.run_bind,g4,Result.andThen_ok,Sem.run_pure]
      rw [g2]
     ·cases he
    ·cases hc
   ·cases hc
  ·cases hc
 | load t x=>
  simp only at hc
  split at hc
  ·rename_i y a i h1 h2 h3
   cases hc
   have hx:=bo h1 hr
   simp only [aG]at he
   split at he
   ·rename_i o off ho
    rw [ho]at hx
    have zC:=hx.sT
    obtain⟨hv,_⟩:=hx.na
    split at he
    ·rename_i cs mU
     split at he
     ·rename_i d' lV
      cases he
      have:=yB r h3 h2 mU zC lV
      simp only [execOp,hv]
      exact this
     ·cases he
    ·cases he
   ·rename_i row off ho
    rw [ho]at hx
    obtain⟨b,k,hv,g1,g2⟩:=hx.rB
    split at he
    ·rename_i d' lV
     cases he
     have:=yC r h3 h2 g1 g2 lV
     simp only [execOp,hv]
     exact this
    ·cases he
   ·cases he
  ·cases hc
 | store t a x=>
  simp only at hc
  split at hc
  ·rename_i a' x' i h1 h2 h3
   cases hc
   have ha:=bo h1 hr
   have hx:=bo h2 hr
   simp only [aG]at he
   split at he
   ·rename_i o off row ho cW
    rw [ho]at ha
    have zC:=ha.sT
    obtain⟨hv,_⟩:=ha.na
    split at he
    ·rename_i cs mU
     split at he
     ·rename_i ib
      cases he
      have:=Co r h3 mU zC hx cW ib.1 ib.2
      simp only [execOp,hv]
      exact this
     ·cases he
    ·cases he
   ·cases he
  ·cases hc
 | nilCheck x=>
  obtain⟨y,hy,rfl⟩:=map_some hc
  have hx:=bo hy hr
  simp only [aG]at he
  split at he
  ·rename_i o off ho
   cases he
   rw [ho]at hx
   have hv:=hx.na.1
   rw [hv]at hx
   simp only [execOp,hv]
   exact vE r hx
  ·rename_i row off ho
   cases he
   rw [ho]at hx
   obtain⟨b,k,hv,_⟩:=hx.rB
   rw [hv]at hx
   simp only [execOp,hv]
   exact vE r hx
  ·cases he
 | binOp op t x y yt=>
  simp only at hc
  split at hc
  ·rename_i x' y' h1 h2
   have hx:=bo h1 hr
   have hy:=bo h2 hr
   have fin : ∀ d',qp op (x'.ev tm) (y'.ev tm)=some d'→(d',s)=(d,s')→bZ P M s w (execOp act.eval ⟨dst, .binOp op t x y yt,type,pos,after,guard⟩) d s':=by
    intro d' lV heq
    cases heq
    exact Hk r hx hy lV
   have Mk:(match qp op (x'.ev tm) (y'.ev tm)with | some d=>some (d,s) | none=>none)=some (d,s')→bZ P M s w (execOp act.eval ⟨dst, .binOp op t x y yt,type,pos,after,guard⟩) d s':=by
    intro h
    split at h
    ·rename_i d' lV
     exact fin d' lV (by cases h;rfl)
    ·cases h
   have Ml : ∀ neg,op=(if neg then .neq else .eql)→P.underlying t=some .bool→aG (.xE neg x' y') tm s=some (d,s')→bZ P M s w (execOp act.eval ⟨dst, .binOp op t x y yt,type,pos,after,guard⟩) d s':=by
    intro neg jd ht h
    simp only [aG]at h
    split at h
    ·rename_i p q hp hq
     cases h
     rw [hp]at hx;rw [hq]at hy
     simp only [execOp,hx.jO,hy.jO,jd]
     exact Hl r ht
    ·cases h
   have Mm : ∀ neg e,op=(if neg then .neq else .eql)→P.underlying t=some (.pointer e)→aG (.zi neg x' y') tm s=some (d,s')→bZ P M s w (execOp act.eval ⟨dst, .binOp op t x y yt,type,pos,after,guard⟩) d s':=by
    intro neg e jd ht h
    simp only [aG]at h
    split at h
    ·rename_i hp hq
     cases h
     rw [hp]at hx;rw [hq]at hy
     simp only [execOp,hx.mZ,hy.mZ,jd]
     have:=uW r (neg:=neg) (x:=x) (y:=y) (a:=none) ht
     cases neg <;> simpa using this
    ·rename_i o off hp hq
     cases h
     rw [hp]at hx;rw [hq]at hy
     simp only [execOp,hx.na.1,hy.mZ,jd]
     have:=uW r (neg:=neg) (x:=x) (y:=y) (a:=some ⟨M.mu o,off,none⟩) ht
     cases neg <;> simpa using this
    ·rename_i row off hp hq
     cases h
     rw [hp]at hx;rw [hq]at hy
     obtain⟨b,k,hv,_⟩:=hx.rB
     simp only [execOp,hv,hy.mZ,jd]
     have:=uW r (neg:=neg) (x:=x) (y:=y) (a:=some ⟨b,k+off,none⟩) ht
     cases neg <;> simpa using this
    ·cases h
   have Mn : ∀ neg ks,op=(if neg then .neq else .eql)→lr P t=some ks→aG (.eqs neg ks x' y') tm s=some (d,s')→bZ P M s w (execOp act.eval ⟨dst, .binOp op t x y yt,type,pos,after,guard⟩) d s':=by
    intro neg ks jd ht h
    simp only [aG]at h
    split at h
    ·rename_i p q hp hq
     split at h
     ·rename_i e' TT
      cases h
      rw [hp]at hx;rw [hq]at hy
      simp only [execOp,jd]
      exact Hn r ht hx hy TT
     ·cases h
    ·cases h
   split at hc
   ·cases hc;exact Mk he
   ·cases hc;exact Mk he
   ·rename_i hu;cases hc;exact Ml false rfl hu he
   ·rename_i hu;cases hc;exact Ml true rfl hu he
   ·rename_i hu;cases hc;exact Mm false _ rfl hu he
   ·rename_i hu;cases hc;exact Mm true _ rfl hu he
   ·obtain⟨ks,hk,rfl⟩:=map_some hc;exact Mn false ks rfl hk he
   ·obtain⟨ks,hk,rfl⟩:=map_some hc;exact Mn true ks rfl hk he
   ·cases hc
  ·cases hc
 | unOp op t x=>
  obtain⟨y,hy,rfl⟩:=map_some hc
  have hx:=bo hy hr
  simp only [aG]at he
  split at he
  ·rename_i d' lV
   cases he
   unfold zn at lV
   split at lV
   ·rename_i k n hk
    cases lV
    rw [hk]at hx
    exact bZ.pure (v:= .int k (k.wrap (0 - n))) r (by simp [execOp,hx.gf,Op.unary,Op.intArith]) (.int _ _)
   ·rename_i b hb
    cases lV
    rw [hb]at hx
    exact bZ.pure (v:= .bool (!b)) r (by simp [execOp,hx.jO,Op.unary]) (.bool _)
   ·cases lV
  ·cases he
 | convert src aaG x=>
  simp only at hc
  split at hc
  ·rename_i y k1 k h1 h2 h3
   cases hc
   have hx:=bo h1 hr
   simp only [aG]at he
   split at he
   ·rename_i k2 n hn
    cases he
    rw [hn]at hx
    refine bZ.pure (v:= .int k (k.wrap n)) r ?_ (.int _ _)
    simp [execOp,hx.gf,convert,run_underlying h2,run_underlying h3,Conv.intToInt]
   ·cases he
  ·rename_i y e h1 h2 h3
   split at hc
   ·rename_i h4
    cases hc
    have hx:=bo h1 hr
    simp only [aG]at he
    split at he
    ·rename_i g z rows im
     split at he
     ·rename_i b hb
      cases he
      rw [im]at hx
      exact CA r h2 h4 h3 hx hb
     ·cases he
    ·cases he
   ·cases hc
  ·rename_i y e e2 h1 h2 h3
   split at hc
   ·rename_i h4
    split at hc
    ·rename_i JQ
     cases hc
     subst JQ
     have hx:=bo h1 hr
     simp only [aG]at he
     split at he
     ·rename_i t z rows im
      split at he
      ·rename_i iX
       cases he
       rw [im]at hx
       exact Hr r h2 h4 hx iX.1 iX.2
      ·cases he
     ·cases he
    ·cases hc
   ·cases hc
  ·rename_i y e h1 h2 h3
   split at hc
   ·rename_i i h4 h5
    split at hc
    ·cases hc
     have hx:=bo h1 hr
     simp only [aG]at he
     split at he
     ·rename_i l hl
      cases he
      rw [hl]at hx
      simp only [execOp,hx.gY]
      exact zB r h2 h3 h4
     ·cases he
    ·cases hc
   ·cases hc
  ·cases hc
 | slice t x lo hi mx=>
  cases mx with
  | some m=>cases hc
  | none=>
   simp only at hc
   split at hc
   ·rename_i y xM fU h1 h2 h3 h4
    cases hc
    have hx:=bo h1 hr
    simp only [aG]at he
    split at he
    ·rename_i u hu
     rw [hu]at hx
     split at he
     ·rename_i l h hl hh
      split at he
      ·rename_i iX
       cases he
       have:=EP r h4 (E1 hr h2 hl) (E2 hr h3 hh) iX.1 iX.2.1 iX.2.2
       simp only [execOp,hx.gY,Option.map_none]
       exact this
      ·cases he
     ·cases he
    ·cases he
   ·rename_i y xM fU e h1 h2 h3 h4
    split at hc
    ·rename_i i ER
     cases hc
     have hx:=bo h1 hr
     simp only [aG]at he
     split at he
     ·rename_i g z rows im
      rw [im]at hx
      split at he
      ·rename_i l h hl hh
       split at he
       ·rename_i iX
        cases he
        have:=Hp r h4 ER iX.1 hx (E1 hr h2 hl) (E2 hr h3 hh) iX.2.1 iX.2.2.1 iX.2.2.2
        simp only [execOp,Option.map_none]
        exact this
       ·cases he
      ·cases he
     ·cases he
    ·cases hc
   ·cases hc
 | fieldAddr t x f=>
  simp only at hc
  split at hc
  ·rename_i y off size a h1 h2
   cases hc
   have hx:=bo h1 hr
   simp only [aG]at he
   split at he
   ·rename_i o k ho
    cases he
    rw [ho]at hx
    have zC:=hx.sT
    obtain⟨hv,hD⟩:=hx.na
    refine bZ.pure (v:= .pointer (some ⟨M.mu o,k+off,none⟩)) r ?_ (.ptr _ _ hD zC)
    simp only [execOp,hv,Sem.run_bind,xH h2,Result.andThen_ok,Sem.run_pure]
   ·rename_i row k ho
    cases he
    rw [ho]at hx
    obtain⟨b,q,hv,g1,g2⟩:=hx.rB
    refine bZ.pure (v:= .pointer (some ⟨b,q+(k+off),none⟩)) r ?_ (.cL _ _ _ _ g1 g2)
    simp only [execOp,hv,Sem.run_bind,xH h2,Result.andThen_ok,Sem.run_pure,Nat.add_assoc]
   ·cases he
  ·cases hc
 | field t x f=>
  simp only at hc
  split at hc
  ·rename_i y off size a h1 h2
   cases hc
   have hx:=bo h1 hr
   simp only [aG]at he
   split at he
   ·rename_i cs mU
    split at he
    ·rename_i d' lV
     cases he
     rw [mU]at hx
     obtain⟨vs,hv,g1,g2,g3⟩:=hx.wV
     simp only [execOp,hv]
     exact CF h2 g1 g2 g3 lV r
    ·cases he
   ·cases he
  ·cases hc
 | indexAddr t x i=>
  simp only at hc
  split at hc
  ·rename_i y j e h1 h2 h3
   split at hc
   ·rename_i inf Hv
    split at hc
    ·cases hc
     have hx:=bo h1 hr
     have hj:=bo h2 hr
     simp only [aG]at he
     split at he
     ·rename_i g z rows k n im hn
      split at he
      ·rename_i iX
       obtain⟨zD,hz⟩:=iX
       subst hz
       split at he
       ·rename_i row cW
        cases he
        rw [im]at hx;rw [hn]at hj
        simp only [execOp,hj.gf]
        exact Ct r h3 Hv hx zD cW
       ·cases he
      ·cases he
     ·cases he
    ·cases hc
   ·cases hc
  ·cases hc
 | index t x i=>
  simp only at hc
  split at hc
  ·rename_i y j h1 h2 h3
   cases hc
   have hx:=bo h1 hr
   have hj:=bo h2 hr
   simp only [aG]at he
   split at he
   ·rename_i l k n hl hn
    split at he
    ·rename_i zD
     split at he
     ·rename_i c Mp
      cases he
      rw [hl]at hx;rw [hn]at hj
      simp only [execOp,hj.gf,hx.gY]
      exact EO r h3 zD Mp
     ·cases he
    ·cases he
   ·cases he
  ·cases hc
 | extract x i=>
  obtain⟨y,hy,rfl⟩:=map_some hc
  have hx:=bo hy hr
  simp only [aG]at he
  split at he
  ·rename_i ds vQ
   split at he
   ·rename_i d' lV
    cases he
    rw [vQ]at hx
    obtain⟨vs,hv,g1,g2⟩:=hx.xG
    have hD:=(List.getElem?_eq_some_iff.1 lV).1
    have zE:vs[i]? = some vs[i]:=Array.getElem?_eq_getElem (by omega)
    refine bZ.pure (v:=vs[i]) r ?_ (g2 i _ _ lV zE)
    simp [execOp,hv,Instr.extract,zE]
   ·cases he
  ·cases he
 | call c=>
  obtain⟨callee,args,jX⟩:=c
  cases callee with
  | value f=>cases hc
  | invoke f m=>cases hc
  | builtin bi=>
   have two : ∀ {x y:Operand} {x' y':X} {isMax:Bool},cX x=some x'→cX y=some y'→bi=(if isMax then .max else .min)→args.toList = [x,y]→aG (.mm isMax x' y') tm s=some (d,s')→
    bZ P M s w (execOp act.eval ⟨dst, .call ⟨.builtin bi,args,jX⟩,type,pos,after,guard⟩) d s':=by
    intro x y x' y' isMax h1 h2 hb ha h
    have ki:args = #[x,y]:=by rw [← Array.toArray_toList (xs:=args),ha]
    subst ki
    have hx:=bo h1 hr
    have hy:=bo h2 hr
    simp only [aG]at h
    split at h
    ·rename_i k a k' b E4 zC
     split at h
     ·rename_i sg
      subst sg
      cases h
      rw [E4]at hx;rw [zC]at hy
      refine bZ.pure (v:= .int k (if isMax then(if b > a then b else a)else(if b<a then b else a))) r ?_ (.int _ _)
      subst hb
      cases isMax
      ·simp [execOp,resolve,invoke,builtin,Builtin.min_,Builtin.min2,hx.gf,hy.gf]
      ·simp [execOp,resolve,invoke,builtin,Builtin.max_,Builtin.max2,hx.gf,hy.gf]
     ·cases h
    ·cases h
   cases bi <;> simp only at hc <;> try (cases hc;done)
   case append=>
    split at hc
    ·rename_i x y t u ha si
     split at hc
     ·rename_i e e' x' y' h1 h2 h3 h4
      split at hc
      ·rename_i i z hi hz
       split at hc
       ·rename_i sY
        cases hc
        have ki:args = #[x,y]:=by rw [← Array.toArray_toList (xs:=args),ha]
        have zF:jX = #[t,u]:=by rw [← Array.toArray_toList (xs:=jX),si]
        subst ki;subst zF
        obtain⟨i',v,g1,g2,g3,g4⟩:=qt hz
        rw [hi]at g1;cases g1
        have JR:=o9 (M:=M) (s:=s) g4
        split at he
        ·rename_i hb
         obtain⟨rfl,vR,Mq⟩:=hb
         obtain⟨v',w',M',f1,f2,f3,f4⟩:=Cw (ty:=type) r h1 h2 hi g2 vR Mq g3 JR.2.1 (bo h3 hr) (bo h4 hr) he
         refine⟨v',w',M', .inl ?_,f2,f3,f4⟩
         simp [execOp,resolve,invoke,builtin,f1]
        ·obtain⟨v',w',M',f1,f2,f3,f4⟩:=EX (ty:=type) r h1 h2 hi g2 g3 JR.2.1 (bo h3 hr) (bo h4 hr) sY he
         refine⟨v',w',M', .inl ?_,f2,f3,f4⟩
         simp [execOp,resolve,invoke,builtin,f1]
       ·cases hc
      ·cases hc
     ·rename_i e x' y' h1 h2 h3 h4
      split at hc
      ·rename_i i z hi hz
       split at hc
       ·rename_i hb
        cases hc
        obtain⟨rfl,vR,Mq⟩:=hb
        have ki:args = #[x,y]:=by rw [← Array.toArray_toList (xs:=args),ha]
        have zF:jX = #[t,u]:=by rw [← Array.toArray_toList (xs:=jX),si]
        subst ki;subst zF
        obtain⟨i',v,g1,g2,g3,g4⟩:=qt hz
        rw [hi]at g1;cases g1
        have JR:=o9 (M:=M) (s:=s) g4
        have hy:=bo h4 hr
        simp only [aG]at he
        split at he
        ·rename_i l hl
         rw [hl]at hy
         obtain⟨v',w',M',f1,f2,f3,f4⟩:=Cx (ty:=type) r h1 h2 hi g2 vR Mq g3 JR.2.1 (bo h3 hr) he
         refine⟨v',w',M', .inl ?_,f2,f3,f4⟩
         simp [execOp,resolve,invoke,builtin,hy.gY,f1]
        ·cases he
       ·cases hc
      ·cases hc
     ·cases hc
    ·cases hc
   case len=>
    split at hc
    ·rename_i x t ha si
     have ki:args = #[x]:=by rw [← Array.toArray_toList (xs:=args),ha]
     have zF:jX = #[t]:=by rw [← Array.toArray_toList (xs:=jX),si]
     subst ki;subst zF
     have hex:execOp act.eval ⟨dst, .call ⟨.builtin .len, #[x], #[t]⟩,type,pos,after,guard⟩=(do pure (.value (← Builtin.len_ #[t] type #[act.eval x]))):=by
      simp [execOp,resolve,invoke,builtin]
     rw [hex]
     split at hc
     ·rename_i ht
      obtain⟨y,hy,rfl⟩:=map_some hc
      have hx:=bo hy hr
      simp only [aG]at he
      split at he
      ·rename_i l hl
       cases he
       rw [hl]at hx
       rw [hx.gY]
       exact zt r ht
      ·cases he
     ·rename_i e ht
      obtain⟨y,hy,rfl⟩:=map_some hc
      have hx:=bo hy hr
      simp only [aG]at he
      split at he
      ·rename_i g z rows im
       cases he
       rw [im]at hx
       rcases hx.fG with ⟨h0,hv,_⟩ | ⟨h0,_,a,cap,hv⟩ | ⟨b,q,cap,hv,_⟩
       ·rw [hv,h0];exact nf r ht
       ·rw [hv,h0];exact nf r ht
       ·rw [hv];exact nf r ht
      ·cases he
     ·cases hc
    ·cases hc
   case max=>
    split at hc
    ·rename_i x y ha
     split at hc
     ·rename_i x' y' h1 h2
      cases hc
      exact two (isMax:=true) h1 h2 rfl ha he
     ·cases hc
    ·cases hc
   case min=>
    split at hc
    ·rename_i x y ha
     split at hc
     ·rename_i x' y' h1 h2
      cases hc
      exact two (isMax:=false) h1 h2 rfl ha he
     ·cases hc
    ·cases hc
 | makeFunc fn first captured=>
  cases fn <;> simp only at hc <;> try (cases hc;done)
  split at hc
  ·rename_i f h0
   obtain⟨xs,kx,rfl⟩:=map_some hc
   simp only [aG,Option.some.injEq,Prod.mk.injEq]at he
   obtain⟨rfl,rfl⟩:=he
   obtain⟨c1,c2⟩:=BS hr kx
   have hf:first = #[]:=Array.eq_empty_of_size_eq_zero h0
   subst hf
   refine bZ.pure (v:= .func (.func f) #[] (captured.map act.eval)) r ?_ (.eW _ _ _ (by simp [c1]) (fun i d v e1 e2=>c2 i d v e1 (by simpa using e2)))
   simp [execOp,Instr.makeFunc]
  ·cases hc
 | makeMap t rv=>
  cases rv with
  | none=>
   simp only at hc
   split at hc
   ·rename_i ht
    cases hc
    simp only [aG,Option.some.injEq,Prod.mk.injEq]at he
    obtain⟨rfl,rfl⟩:=he
    simp only [execOp,Option.map_none]
    exact CC r ht
   ·cases hc
  | some x=>cases hc
 | mapUpdate t m k v=>
  simp only at hc
  split at hc
  ·rename_i kt et m' k' v' ht h1 h2 h3
   split at hc
   ·rename_i Mr
    cases hc
    have hm:=bo h1 hr
    have hk:=bo h2 hr
    have hv:=bo h3 hr
    simp only [aG]at he
    split at he
    ·rename_i o key g z rows ho Hw im
     rw [ho]at hm;rw [Hw]at hk;rw [im]at hv
     obtain⟨Ms,hD,qS⟩:=hm.zr
     split at he
     ·rename_i cs mU
      split at he
      ·rename_i fT RN
       cases he
       have vP:(act.eval v).oneCell'=true:=by
        rcases hv.fG with ⟨_,h,_⟩ | ⟨_,_,a,cap,h⟩ | ⟨b,q,cap,h,_⟩ <;> rw [h] <;> rfl
       simp only [execOp,Ms,hk.gY]
       exact E0 r ht Mr qS mU hv vP RN
      ·cases he
     ·cases he
    ·cases he
   ·cases hc
  ·cases hc
 | lookup t m k ok=>
  cases ok <;> simp only at hc <;> try (cases hc;done)
  split at hc
  ·rename_i kt et m' k' ht h1 h2
   split at hc
   ·rename_i i Mr hi
    split at hc
    ·rename_i z hz
     obtain⟨zd,Mj,rfl⟩:=map_some hc
     have hm:=bo h1 hr
     have hk:=bo h2 hr
     simp only [aG]at he
     split at he
     ·rename_i o key ho Hw
      rw [ho]at hm;rw [Hw]at hk
      obtain⟨Ms,hD,qS⟩:=hm.zr
      split at he
      ·rename_i cs mU
       split at he
       ·rename_i d' lV
        cases he
        simp only [execOp,Ms,hk.gY]
        exact CD r ht Mr hi hz Mj qS mU lV
       ·cases he
      ·cases he
     ·cases he
    ·cases hc
   ·cases hc
  ·cases hc
 | _=>cases hc
theorem rE {o:Oper} {z:List D} {k n:Nat} {ps:List (Nat×X)} {tm:Tm} {act:Act} {d:D} {s':St} (hc:vB P o=some (.dc z k n ps)) (r:Rel M s w) (hr:iL M s tm act.tmps) (he:aG (.o4 z k n ps) tm s=some (d,s')) :
 bZ P M s w (execOp act.eval o) d s':=by
 obtain⟨dst,op,type,pos,after,guard⟩:=o
 unfold vB at hc
 simp only at hc
 cases op with
 | buildSlice t n' parts=>
  simp only at hc
  split at hc
  ·rename_i e hu
   split at hc
   ·rename_i i z ps h1 h2 h3
    split at hc
    ·rename_i iX
     cases hc
     simp only [aG]at he
     split at he
     ·rename_i rows im
      cases he
      obtain⟨vs,T,g1,g2,g3,g4⟩:=uB r hr hu h1 h2 iX.1 iX.2 h3 im
      obtain⟨M',f1,f2,f3⟩:=EZ r T g1 (by rw [g3,g2]) iX.1
      refine⟨_,_,_, .inl ?_,f2,f1,f3⟩
      simp only [Array.toArray_toList]at g4
      simp only [execOp,Sem.run_bind,g4,Result.andThen_ok,Sem.run_pure]
      rw [g2]
     ·cases he
    ·cases hc
   ·cases hc
  ·cases hc
 | _=>
  exfalso
  revert hc
  try simp only
  repeat' split
  all_goals (first | (intro h;cases h;done) | (intro h;obtain⟨_,_,h⟩:=map_some h;cases h;done) | contradiction | (simp;done) | (intro h;simp_all;done))
end
end Go.Abs

/-! Code -/

namespace Go.Abs
structure fc where
 M:Map
 s:St
 w:World
 laid:Laid M s w
 TV : ∀ b o v,M.G b o=some v→b<w.heap.size
def Holds (B:fc) (nt:Nat) (tm:Tm) (s:St) (act:Act) (w:World):Prop:=
 ∃ M,Ext B.M B.s B.w M s w∧Rel M s w∧iL M s tm act.tmps∧act.tmps.size=nt∧act.defers = []
def lj (B:fc) (nt:Nat) (Q:Exit→Tm→St→Prop):Exit→Act→World→Prop:=fun e act w=>∃ tm s,Q e tm s∧Holds B nt tm s act w
def dr (P:Program) (f:FuncId) (args:List D) (s:St) (Q:D→St→Prop):Prop:=
 ∀ (M:Map) (w:World) (eD:Array Value),Rel M s w→Laid M s w→eD.size=args.length→(∀ (i:Nat) (d:D) (v:Value),args[i]? = some d→eD[i]? = some v→RD M s d v)→
  Calls P f eD w fun e w'=>∃ M' d v s',e = .returned v∧Q d s'∧Ext M s w M' s' w'∧Rel M' s' w'∧RD M' s' d v
theorem dr.mono {P:Program} {f:FuncId} {args:List D} {s:St} {Q Q':D→St→Prop} (h:dr P f args s Q) (hq : ∀ d s',Q d s'→Q' d s'):dr P f args s Q':=
 fun M w eD r hd hl ha=>(h M w eD r hd hl ha).mono fun _ _ ⟨M',d,v,s',h1,h2,h3⟩=>⟨M',d,v,s',h1,hq _ _ h2,h3⟩
def guarded (g:Option (Nat×Bool)) (tm:Tm) (A B:Prop):Prop:=
 match g with
 | none=>A
 | some (t,want)=>
  match tm.get t with
  | .bool b=>(b=want→A)∧(b=(!want)→B)
  | .tuple _=>B
  | _=>False
def fB (P:Program):List AI→(Tm→St→Prop)→Tm→St→Prop
 | [],K,tm,s=>K tm s
 | .op dst g o::r,K,tm,s=>
  guarded g tm (match aG o tm s with | some (d,s')=>fB P r K (tm.put dst d) s' | none=>False) (fB P r K (tm.put dst (.tuple [])) s)
 | .call dst g f xs::r,K,tm,s=>
  guarded g tm (dr P f (xs.map (·.ev tm)) s fun d s'=>fB P r K (tm.put dst d) s') (fB P r K (tm.put dst (.tuple [])) s)
 | .nil dst g neg x::r,K,tm,s=>
  guarded g tm (match x.ev tm with
   | .slice _ _ rows=>∀ b:Bool,(rows≠ []→b=false)→fB P r K (tm.put dst (.bool (if neg then !b else b))) s
   | _=>False) (fB P r K (tm.put dst (.tuple [])) s)
 | .fM dst g t xs::r,K,tm,s=>
  guarded g tm (match tm.get t with
   | .eW f jK=>enters P f=true∧dr P f (xs.map (·.ev tm)++jK) s fun d s'=>fB P r K (tm.put dst d) s'
   | _=>False) (fB P r K (tm.put dst (.tuple [])) s)
section
variable {P:Program}
theorem s5 {f:FuncId} (h:enters P f=true) (args:Array Value) (w:World):(callFunc f args).run P w = .ok (.enter f args) w:=by
 unfold enters at h
 split at h
 ·rename_i fn hf
  simp only [Bool.and_eq_true,Bool.not_eq_true']at h
  obtain⟨h1,h2⟩:=h
  have h3:fn.body.isNone=false:=by cases hb:fn.body <;> simp_all
  simp only [callFunc,Sem.run_bind,run_program,Result.andThen_ok,hf,h2,h3]
  simp
 ·cases h
theorem qu (ρ:Operand→Value) (dst:Option Tmp) (f:FuncId) (args:Array Operand) (jX:Array TypeId) (ty:TypeId) (pos:String) (after:Array Edge) (g:Option (Nat×Bool))
 (hρ:ρ (.func f) = .func (.func f) #[] #[]) (h:enters P f=true) (w:World) :
 (execOp ρ ⟨dst, .call ⟨.value (.func f),args,jX⟩,ty,pos,after,g⟩).run P w = .ok (.enter f (args.map ρ)) w:=by
 simp [execOp,resolve,hρ,Deferred.ofValue,invoke,s5 h]
theorem s6 (ρ:Operand→Value) (dst:Option Tmp) (x:Operand) (f:FuncId) (jK:Array Value) (args:Array Operand) (jX:Array TypeId) (ty:TypeId) (pos:String) (after:Array Edge) (g:Option (Nat×Bool))
 (hρ:ρ x = .func (.func f) #[] jK) (h:enters P f=true) (w:World) :
 (execOp ρ ⟨dst, .call ⟨.value x,args,jX⟩,ty,pos,after,g⟩).run P w = .ok (.enter f (args.map ρ++jK)) w:=by
 simp [execOp,resolve,hρ,Deferred.ofValue,invoke,s5 h]
theorem pT {M:Map} {s:St} {tm:Tm} {act:Act} (hr:iL M s tm act.tmps) : ∀ {l:List Operand} {xs:List X},qR l=some xs→
 xs.length=l.length∧∀ (i:Nat) (d:D) (v:Value),(xs.map (·.ev tm))[i]? = some d→(l.map act.eval)[i]? = some v→RD M s d v
 | [],xs,h=>by cases h;exact⟨rfl,by simp⟩
 | x::l,xs,h=>by
  unfold qR at h
  split at h
  ·rename_i x' r' h1 h2
   cases h
   obtain⟨g1,g2⟩:=pT hr h2
   refine⟨by simp [g1],fun i d v e1 e2=> ?_⟩
   cases i with
   | zero=>simp at e1 e2;subst e1;subst e2;exact bo h1 hr
   | succ i=>exact g2 i d v (by simpa using e1) (by simpa using e2)
  ·cases h
theorem xN {M:Map} {s:St} {tm:Tm} {act:Act} {args:Array Operand} {xs:List X} {jK:List D} {vs:Array Value} (kx:qR args.toList=some xs) (ht:iL M s tm act.tmps) (hlen:jK.length=vs.size)
 (vS : ∀ (i:Nat) (d:D) (v:Value),jK[i]? = some d→vs[i]? = some v→RD M s d v) :
 (args.map act.eval++vs).size=(xs.map (·.ev tm)++jK).length∧∀ (i:Nat) (d:D) (v:Value),(xs.map (·.ev tm)++jK)[i]? = some d→(args.map act.eval++vs)[i]? = some v→RD M s d v:=by
 obtain⟨c1,c2⟩:=pT ht kx
 refine⟨by simp [c1,hlen],fun i d v e1 e2=> ?_⟩
 rcases Nat.lt_or_ge i args.size with uC | uC
 ·rw [List.getElem?_append_left (by simp [c1];exact uC)]at e1
  rw [Array.getElem?_append_left (by simp;exact uC)]at e2
  exact c2 i d v e1 (by simpa using e2)
 ·rw [List.getElem?_append_right (by simp [c1];exact uC)]at e1
  rw [Array.getElem?_append_right (by simp;exact uC)]at e2
  simp only [List.length_map,c1,Array.size_map,Array.length_toList]at e1 e2
  exact vS _ d v e1 e2
theorem sj {M:Map} {s:St} {w:World} {o:Oper} {neg:Bool} {x:X} {tm:Tm} {act:Act} (hc:wT P o=some (neg,x)) (hr:iL M s tm act.tmps) {g:Tag} {z:Nat} {rows:List (List D)} (hx:x.ev tm = .slice g z rows) :
 ∃ b:Bool,(rows≠ []→b=false)∧(execOp act.eval o).run P w = .ok (.value (.bool (if neg then !b else b))) w:=by
 obtain⟨dst,op,type,pos,after,guard⟩:=o
 unfold wT at hc
 split at hc
 ·rename_i op t y yt heq
  simp only at heq
  subst heq
  have fin : ∀ e,P.underlying t=some (.slice e)→cX y=some x→op=(if neg then .neq else .eql)→∃ b:Bool,(rows≠ []→b=false)∧
   (execOp act.eval ⟨dst, .binOp op t y (.const (.slice none 0 0)) yt,type,pos,after,guard⟩).run P w = .ok (.value (.bool (if neg then !b else b))) w:=by
   intro e ht hy jd
   have hv:=bo hy hr
   rw [hx]at hv
   have key : ∀ (a:Option Addr) (n c:Nat),act.eval y = .slice a n c→(execOp act.eval ⟨dst, .binOp op t y (.const (.slice none 0 0)) yt,type,pos,after,guard⟩).run P w = .ok (.value (.bool (if neg then !a.isNone else a.isNone))) w:=by
    intro a n c od
    have hg:=jW (P:=P) (w:=w) (op:=op) (t:=t) (x:=y) (y:= .const (.slice none 0 0)) (a:= .slice a n c) (b:= .slice none 0 0) ⟨by simp,by simp⟩
    have he:(Op.equal t (.slice a n c) (.slice none 0 0)).run P w = .ok a.isNone w:=by
     have : ∀ d,(Op.equalIn (d+1) t (.slice a n c) (.slice none 0 0)).run P w = .ok a.isNone w:=by
      intro d
      cases a <;> simp [Op.equalIn,run_underlying ht]
     exact this 9999
    have RP:act.eval (.const (.slice none 0 0)) = .slice none 0 0:=rfl
    simp only [execOp,od,RP]
    rw [jd]at hg ⊢
    cases neg
    ·simp only [Bool.false_eq_true,if_false]at hg ⊢
     simp [hg,binOp,he]
    ·simp only [if_true]at hg ⊢
     simp [hg,binOp,he]
   rcases hv.fG with ⟨h0,od,_⟩ | ⟨_,_,a,cap,od⟩ | ⟨b,q,cap,od,_⟩
   ·exact⟨true,fun h=>(h h0).elim,key none 0 0 od⟩
   ·exact⟨false,fun _=>rfl,key _ _ _ od⟩
   ·exact⟨false,fun _=>rfl,key _ _ _ od⟩
  split at hc
  ·cases hc
   exact fin _ ‹_› ‹_› rfl
  ·cases hc
   exact fin _ ‹_› ‹_› rfl
  ·cases hc
 ·cases hc
variable {B:fc} {nt:Nat}
theorem Holds.put {tm:Tm} {s:St} {act:Act} {w:World} {M':Map} {s':St} {w':World} {M:Map} (e:Ext B.M B.s B.w M s w) (ht:iL M s tm act.tmps) (hn:act.tmps.size=nt) (hd:act.defers = [])
 {dst:Option Nat} (lL : ∀ t,dst=some t→t<nt) {d:D} {v:Value} (e':Ext M s w M' s' w') (r':Rel M' s' w') (hv:RD M' s' d v):Holds B nt (tm.put dst d) s' (act.put dst v) w':=by
 refine⟨M',e.trans e',r',(ht.mono e'.le).put (fun t h=>by rw [hn];exact lL t h) hv, ?_, ?_⟩
 ·cases dst <;> simp [Act.put,hn]
 ·cases dst <;> simp [Act.put,hd]
theorem qX {ops:Array Oper} {o:Oper} {ai:AI} (h:cI P nt ops o=some ai) : ∀ t,o.dst=some t→t<nt:=by
 intro t ht
 unfold cI at h
 split at h
 ·cases h
 ·split at h
  ·rename_i hD;rw [ht]at hD;simpa [JA]using hD
  ·cases h
theorem gl {ops:Array Oper} {o:Oper} {g:Option (Nat×Bool)} (hg:o7 ops o.guard=some g) {M:Map} {s:St} {tm:Tm} {act:Act} (hr:iL M s tm act.tmps) {A C:Prop} (h:guarded g tm A C) :
 (Region.wanted o (yielded ops act.tmps)=true∧A)∨(Region.wanted o (yielded ops act.tmps)=false∧C):=by
 unfold o7 at hg
 split at hg
 ·rename_i hn
  cases hg
  exact .inl ⟨by simp [Region.wanted,hn],h⟩
 ·rename_i j want hn
  split at hg
  ·rename_i t ht
   cases hg
   have JS:=hr t
   unfold guarded at h
   simp only at h
   split at h
   ·rename_i b hb
    rw [hb]at JS
    have hv:=JS.jO
    have Pq:act.tmps[t]? = some (.bool b):=by
     cases hc:act.tmps[t]? with
     | none=>simp [Array.getD_eq_getD_getElem?,hc,Go.undef]at hv
     | some v=>simp [Array.getD_eq_getD_getElem?,hc]at hv;rw [hv]
    have hy:yielded ops act.tmps j=some b:=by simp [yielded,ht,Pq]
    have hw:Region.wanted o (yielded ops act.tmps)=(some b==some want):=by simp [Region.wanted,hn,hy]
    by_cases Mt:b=want
    ·exact .inl ⟨by rw [hw,Mt];simp,h.1 Mt⟩
    ·refine .inr ⟨by rw [hw];simp [Mt],h.2 ?_⟩
     cases b <;> cases want <;> simp_all
   ·rename_i ds vQ
    rw [vQ]at JS
    obtain⟨vs,hv,_⟩:=JS.xG
    refine .inr ⟨?_,h⟩
    have hy:yielded ops act.tmps j=none:=by
     unfold yielded
     rw [ht]
     cases hc:act.tmps[t]? with
     | none=>simp [hc]
     | some v=>simp [Array.getD_eq_getD_getElem?,hc]at hv;simp [hc,hv]
    simp [Region.wanted,hn,hy]
   ·exact h.elim
  ·cases hg
theorem s7 {ops:Array Oper} {Q:Exit→Tm→St→Prop} : ∀ (l:List Nat) (ol:List Oper) (is:List AI),l.map (ops[·]?)=ol.map some→mb P nt ops ol=some is→
 ∀ (tm:Tm) (s:St) (act:Act) (w:World),fB P is (Q .normal) tm s→Holds B nt tm s act w→wpOps P ops (lj B nt Q) l act w
 | [],[],is,_,hc,tm,s,act,w,h,hh=>by cases hc;exact⟨tm,s,h,hh⟩
 | [],_::_,_,hl,_,_,_,_,_,_,_=>by simp at hl
 | _::_,[],_,hl,_,_,_,_,_,_,_=>by simp at hl
 | i::l,o::ol,is,hl,hc,tm,s,act,w,h,hh=>by
  simp only [List.map_cons,List.cons.injEq]at hl
  obtain⟨hi,hl⟩:=hl
  unfold mb at hc
  split at hc
  ·rename_i ai E6 h1 h2
   cases hc
   obtain⟨M,e,r,ht,hn,hd⟩:=hh
   have lL:=qX h1
   have ih:=fun tm s act w=>s7 (Q:=Q) l ol E6 hl h2 tm s act w
   have skip : ∀ (x:Prop),fB P E6 (Q .normal) (tm.put o.dst (.tuple [])) s→wpOps P ops (lj B nt Q) l (act.put o.dst Go.undef) w:=fun _ hk=>
    ih _ _ _ _ hk (Holds.put e ht hn hd lL (Ext.refl M s w) r .undef)
   simp only [wpOps,hi]
   unfold cI at h1
   split at h1
   ·cases h1
   ·rename_i g hg
    split at h1
    ·unfold nz at h1
     split at h1
     ·-- a call
      rename_i f args jX jd
      split at h1
      ·rename_i rF
       obtain⟨xs,kx,rfl⟩:=map_some h1
       unfold fB at h
       rcases gl hg ht h with ⟨hw,hA⟩ | ⟨hw,hB⟩
       ·simp only [hw,if_true]
        left
        have hex:(execOp act.eval o).run P w = .ok (.enter f (args.map act.eval)) w:=by
         obtain⟨dst,op,type,pos,after,guard⟩:=o
         simp only at jd
         subst jd
         exact qu act.eval dst f args jX type pos after guard rfl rF w
        obtain⟨c1,c2⟩:=pT ht kx
        unfold Oper.wp
        rw [hex,Oper.upon_enter]
        refine(hA M w (args.map act.eval) r (B.laid.ext e) (by simp [c1]) (fun i d v e1 e2=>c2 i d v e1 (by simpa using e2))).mono ?_
        rintro en w' ⟨M',d,v,s',rfl,hk,e',r',hv⟩
        exact ih _ _ _ _ hk (Holds.put e ht hn hd lL e' r' hv)
       ·simp only [hw]
        exact skip True hB
      ·cases h1
     ·-- what a slot holds is called
      rename_i t args jX jd
      obtain⟨xs,kx,rfl⟩:=map_some h1
      unfold fB at h
      rcases gl hg ht h with ⟨hw,hA⟩ | ⟨hw,hB⟩
      ·simp only [hw,if_true]
       left
       split at hA
       ·rename_i f jK zG
        obtain⟨rF,hA⟩:=hA
        have E7:=ht t
        rw [zG]at E7
        obtain⟨vs,kM,hlen,vS⟩:=E7.BM
        have hex:(execOp act.eval o).run P w = .ok (.enter f (args.map act.eval++vs)) w:=by
         obtain⟨dst,op,type,pos,after,guard⟩:=o
         simp only at jd
         subst jd
         exact s6 act.eval dst (.tmp t) f vs args jX type pos after guard kM rF w
        unfold Oper.wp
        rw [hex,Oper.upon_enter]
        have cc:=xN kx ht hlen vS
        refine(hA M w (args.map act.eval++vs) r (B.laid.ext e) cc.1 cc.2).mono ?_
        rintro en w' ⟨M',d,v,s',rfl,hk,e',r',hv⟩
        exact ih _ _ _ _ hk (Holds.put e ht hn hd lL e' r' hv)
       ·exact hA.elim
      ·simp only [hw]
       exact skip True hB
     ·split at h1
      ·-- a slice held against nil
       rename_i neg x zH
       cases h1
       unfold fB at h
       rcases gl hg ht h with ⟨hw,hA⟩ | ⟨hw,hB⟩
       ·simp only [hw,if_true]
        left
        split at hA
        ·rename_i g' z rows hx
         obtain⟨b,hb,hex⟩:=sj (w:=w) zH ht hx
         unfold Oper.wp
         rw [hex,Oper.upon_value]
         exact ih _ _ _ _ (hA b hb) (Holds.put e ht hn hd lL (Ext.refl M s w) r (.bool _))
        ·exact hA.elim
       ·simp only [hw]
        exact skip True hB
      ·-- any other operation
       have fin : ∀ ao,ai = .op o.dst g ao→(∀ d s',aG ao tm s=some (d,s')→bZ P M s w (execOp act.eval o) d s')→
        (if Region.wanted o (yielded ops act.tmps)=true then o.wp P act w (wpOps P ops (lj B nt Q) l) (lj B nt Q)∨(o.asks P act w∧LetsOut (lj B nt Q))else wpOps P ops (lj B nt Q) l (act.put o.dst Go.undef) w):=by
        intro ao pU Mv
        subst pU
        unfold fB at h
        rcases gl hg ht h with ⟨hw,hA⟩ | ⟨hw,hB⟩
        ·simp only [hw,if_true]
         left
         split at hA
         ·rename_i d s' lW
          obtain⟨v,w',M',cM,r',hv,e'⟩:=Mv d s' lW
          unfold Oper.wp
          rcases cM with cM | ⟨cM,rfl⟩
          ·rw [cM,Oper.upon_value]
           exact ih _ _ _ _ hA (Holds.put e ht hn hd lL e' r' hv)
          ·rw [cM,Oper.upon_skip]
           exact ih _ _ _ _ hA (Holds.put e ht hn hd lL e' r' hv)
         ·exact hA.elim
        ·simp only [hw]
         exact skip True hB
       split at h1
       ·rename_i z k n ps jY
        cases h1
        refine fin _ rfl (fun d s' lW=> ?_)
        split at lW
        ·exact rE jY r ht lW
        ·exact nB jY r ht lW
       ·rename_i ao jY
        cases h1
        exact fin _ rfl (fun d s' lW=>nB jY r ht lW)
       ·cases h1
    ·cases h1
  ·cases hc
end
end Go.Abs

/-! Flow -/

namespace Go.Abs
def Turned (P:Program) (nt:Nat):AC→Code→Prop
 | .skip,c=>c = .skip
 | .run is,c=>∃ id ops,c = .region id ops false∧mb P nt ops ops.toList=some is
 | .par is iD,c=>∃ id ops,c = .region id ops true∧mb P nt ops ops.toList=some is∧P.follows .mixedOrders=true∧∃ pt,zl is (ops.toList.map jm) pt iD=true
 | .seq a b,c=>∃ x y,c = .seq x y∧cC P nt x=some a∧cC P nt y=some b
 | .cond x a b,c=>∃ o p q,c = .cond o p q∧cX o=some x∧cC P nt p=some a∧cC P nt q=some b
 | .block id a,c=>∃ x,c = .block id x∧cC P nt x=some a
 | .loop a,c=>∃ x,c = .loop x∧cC P nt x=some a
 | .exit id,c=>c = .exit id
 | .scope a,c=>∃ x,c = .scope x∧cC P nt x=some a
 | .label l,c=>c = .label l
 | .goto l,c=>c = .goto l
 | .ret,c=>c = .ret
theorem iN {P:Program} {nt:Nat} {c:Code} {ac:AC} (h:cC P nt c=some ac):Turned P nt ac c:=by
 cases c with
 | skip=>cases h;rfl
 | region id ops draw=>
  cases draw
  ·obtain⟨is,h1,rfl⟩:=map_some (x:=mb P nt ops ops.toList) (f:=AC.run) (by simpa [cC]using h)
   exact⟨id,ops,rfl,h1⟩
  ·simp only [cC]at h
   split at h
   ·rename_i hm
    obtain⟨is,h1,h2⟩:=Option.bind_eq_some_iff.1 h
    unfold JB at h2
    split at h2
    ·rename_i hp
     cases h2
     exact⟨id,ops,rfl,h1,hm,_,hp⟩
    ·cases h2
   ·cases h
 | seq a b=>
  simp only [cC]at h
  split at h
  ·rename_i a' b' h1 h2;cases h;exact⟨a,b,rfl,h1,h2⟩
  ·cases h
 | cond x a b=>
  simp only [cC]at h
  split at h
  ·rename_i x' a' b' h1 h2 h3;cases h;exact⟨x,a,b,rfl,h1,h2,h3⟩
  ·cases h
 | block id a=>
  obtain⟨a',h1,rfl⟩:=map_some (x:=cC P nt a) (f:=AC.block id) (by simpa [cC]using h)
  exact⟨a,rfl,h1⟩
 | loop a=>
  obtain⟨a',h1,rfl⟩:=map_some (x:=cC P nt a) (f:=AC.loop) (by simpa [cC]using h)
  exact⟨a,rfl,h1⟩
 | rangeFunc f p a b=>simp [cC]at h
 | exit id=>cases h;rfl
 | scope a=>
  obtain⟨a',h1,rfl⟩:=map_some (x:=cC P nt a) (f:=AC.scope) (by simpa [cC]using h)
  exact⟨a,rfl,h1⟩
 | label l=>cases h;rfl
 | goto l=>cases h;rfl
 | ret=>cases h;rfl
 | refuse w=>simp [cC]at h
def Sem (P:Program) (B:fc) (nt:Nat) (ac:AC) (Q:Exit→Tm→St→Prop) (tm:Tm) (s:St):Prop:=
 ∀ c,cC P nt c=some ac→∀ act w,Holds B nt tm s act w→c.wp P (lj B nt Q) act w
def mf (next:Tm→St→Prop) (Q:Exit→Tm→St→Prop):Exit→Tm→St→Prop
 | .normal,tm,s=>next tm s
 | e,tm,s=>Q e tm s
def kO (id:Nat) (Q:Exit→Tm→St→Prop):Exit→Tm→St→Prop
 | .exit i,tm,s=>if i=id then Q .normal tm s else Q (.exit i) tm s
 | e,tm,s=>Q e tm s
section
variable {P:Program} {B:fc} {nt:Nat} {Q:Exit→Tm→St→Prop} {tm:Tm} {s:St}
theorem Sem.mono {ac:AC} {Q':Exit→Tm→St→Prop} (h:Sem P B nt ac Q tm s) (hq : ∀ e tm s,Q e tm s→Q' e tm s):Sem P B nt ac Q' tm s:=
 fun c hc act w hh=>wp_mono (h c hc act w hh) fun _ _ _ ⟨tm,s,h1,h2⟩=>⟨tm,s,hq _ _ _ h1,h2⟩
theorem Sem.skip (h:Q .normal tm s):Sem P B nt .skip Q tm s:=by
 intro c hc act w hh
 cases iN hc
 exact wp_skip ⟨tm,s,h,hh⟩
theorem Sem.label {l:Nat} (h:Q .normal tm s):Sem P B nt (.label l) Q tm s:=by
 intro c hc act w hh
 cases iN hc
 exact wp_label ⟨tm,s,h,hh⟩
theorem Sem.exit {id:Nat} (h:Q (.exit id) tm s):Sem P B nt (.exit id) Q tm s:=by
 intro c hc act w hh
 cases iN hc
 exact wp_exit ⟨tm,s,h,hh⟩
theorem Sem.goto {l:Nat} (h:Q (.goto l) tm s):Sem P B nt (.goto l) Q tm s:=by
 intro c hc act w hh
 cases iN hc
 exact wp_goto ⟨tm,s,h,hh⟩
theorem Sem.ret (h:Q .ret tm s):Sem P B nt .ret Q tm s:=by
 intro c hc act w hh
 cases iN hc
 exact wp_ret ⟨tm,s,h,hh⟩
theorem s8 (ops:Array Oper):(List.range ops.size).map (ops[·]?)=ops.toList.map some:=by
 apply List.ext_getElem?
 intro i
 by_cases h:i<ops.size
 ·simp [h]
 ·simp [h]
theorem Sem.run {is:List AI} (h:fB P is (Q .normal) tm s):Sem P B nt (.run is) Q tm s:=by
 intro c hc act w hh
 obtain⟨id,ops,rfl,hi⟩:=iN hc
 exact wp_region (s7 (Q:=Q) (List.range ops.size) ops.toList is (s8 ops) hi tm s act w h hh)
theorem Sem.seq {a b:AC} (h:Sem P B nt a (mf (Sem P B nt b Q) Q) tm s):Sem P B nt (.seq a b) Q tm s:=by
 intro c hc act w hh
 obtain⟨x,y,rfl,h1,h2⟩:=iN hc
 refine wp_seq (wp_mono (h x h1 act w hh) fun e act w hp=> ?_)
 obtain⟨bg,s',hq,iO⟩:=hp
 cases e with
 | normal=>exact hq y h2 act w iO
 | exit id=>exact⟨bg,s',hq,iO⟩
 | goto l=>exact⟨bg,s',hq,iO⟩
 | ret=>exact⟨bg,s',hq,iO⟩
 | panic ch=>exact⟨bg,s',hq,iO⟩
 | outgrown=>exact⟨bg,s',hq,iO⟩
theorem Sem.cond {x:X} {a b:AC} {t:Bool} (hx:x.ev tm = .bool t) (h1:t=true→Sem P B nt a Q tm s) (h2:t=false→Sem P B nt b Q tm s):Sem P B nt (.cond x a b) Q tm s:=by
 intro c hc act w hh
 obtain⟨o,p,q,rfl,g1,g2,g3⟩:=iN hc
 have iO:=hh
 obtain⟨M,e,r,ht,hn,hd⟩:=hh
 have hv:=bo g1 ht
 rw [hx]at hv
 exact wp_cond_split hv.jO (fun h=>h1 h p g2 act w iO) (fun h=>h2 h q g3 act w iO)
theorem Sem.block {id:Nat} {a:AC} (h:Sem P B nt a (kO id Q) tm s):Sem P B nt (.block id a) Q tm s:=by
 intro c hc act w hh
 obtain⟨x,rfl,h1⟩:=iN hc
 refine wp_block (wp_mono (h x h1 act w hh) fun e act w hp=> ?_)
 obtain⟨bg,s',hq,iO⟩:=hp
 cases e with
 | exit i=>
  simp only [kO]at hq
  simp only [Exit.inBlock]
  split at hq
  ·rename_i h;rw [if_pos h];exact⟨bg,s',hq,iO⟩
  ·rename_i h;rw [if_neg h];exact⟨bg,s',hq,iO⟩
 | normal=>exact⟨bg,s',hq,iO⟩
 | goto l=>exact⟨bg,s',hq,iO⟩
 | ret=>exact⟨bg,s',hq,iO⟩
 | panic ch=>exact⟨bg,s',hq,iO⟩
 | outgrown=>exact⟨bg,s',hq,iO⟩
def rG (P:Program) (c:Code) (Q:Exit→Act→World→Prop) (a:Act) (w:World):Prop:=
 ∀ (b:Frame) (k:List Item) (cs:List Frame),∃ e a' w',Q e a' w'∧Arrives P (lone (b.at a (.code c:: .inLoop c::k)) cs w) b k cs e a' w'
theorem rG.wp {c:Code} {Q:Exit→Act→World→Prop} {a:Act} {w:World} (h:rG P c Q a w):(Code.loop c).wp P Q a w:=fun b k cs=>
 let ⟨e,a',w',hq,ki⟩:=h b k cs
 ⟨e,a',w',hq, .of_steps (.one step_loop) ki⟩
theorem rG.once {c:Code} {Q:Exit→Act→World→Prop} {a:Act} {w:World} (h:c.wp P (Exit.then (rG P c Q) Q) a w):rG P c Q a w:=by
 intro b k cs
 obtain⟨e,a₁,w₁,hq,ki⟩:=h b (.inLoop c::k) cs
 cases e with
 | normal=>
  obtain⟨e₂,a₂,w₂,TW,Pr⟩:=hq b k cs
  exact⟨e₂,a₂,w₂,TW, .of_steps (Steps.trans ki (.one step_inLoop)) Pr⟩
 | exit id=>exact⟨_,a₁,w₁,hq, .pass (x:= .inLoop c) rfl (fun _ _=> .inl (by simp)) ki⟩
 | goto l=>exact⟨_,a₁,w₁,hq, .pass (x:= .inLoop c) rfl (fun _ _=> .inl (by simp)) ki⟩
 | ret=>exact⟨_,a₁,w₁,hq, .pass (x:= .inLoop c) rfl (fun _ _=> .inl (by simp)) ki⟩
 | panic ch=>exact⟨_,a₁,w₁,hq, .pass (x:= .inLoop c) rfl (fun _ _=> .inl (by simp)) ki⟩
 | outgrown=>exact⟨_,a₁,w₁,hq, .pass (x:= .inLoop c) rfl (fun _ _=> .inl (by simp)) ki⟩
def bp (P:Program) (B:fc) (nt:Nat) (ac:AC) (Q:Exit→Tm→St→Prop) (tm:Tm) (s:St):Prop:=
 ∀ c,cC P nt c=some ac→∀ act w,Holds B nt tm s act w→rG P c (lj B nt Q) act w
theorem Sem.loop {a:AC} (h:bp P B nt a Q tm s):Sem P B nt (.loop a) Q tm s:=by
 intro c hc act w hh
 obtain⟨x,rfl,h1⟩:=iN hc
 exact(h x h1 act w hh).wp
theorem bp.once {a:AC} (h:Sem P B nt a (mf (bp P B nt a Q) Q) tm s):bp P B nt a Q tm s:=by
 intro c hc act w hh
 refine rG.once (wp_mono (h c hc act w hh) fun e act w hp=> ?_)
 obtain⟨bg,s',hq,iO⟩:=hp
 cases e with
 | normal=>exact hq c hc act w iO
 | exit id=>exact⟨bg,s',hq,iO⟩
 | goto l=>exact⟨bg,s',hq,iO⟩
 | ret=>exact⟨bg,s',hq,iO⟩
 | panic ch=>exact⟨bg,s',hq,iO⟩
 | outgrown=>exact⟨bg,s',hq,iO⟩
def vT (P:Program) (c r:Code) (Q:Exit→Act→World→Prop) (a:Act) (w:World):Prop:=
 ∀ (b:Frame) (k:List Item) (cs:List Frame),∃ e a' w',Q e a' w'∧Arrives P (lone (b.at a (.code r:: .inScope c::k)) cs w) b k cs e a' w'
def aat (P:Program) (c:Code) (Q:Exit→Act→World→Prop):Exit→Act→World→Prop
 | .goto l,a,w=>∃ rest,findLabel c l=some rest∧vT P c rest Q a w
 | e,a,w=>Q e a w
theorem vT.wp {c:Code} {Q:Exit→Act→World→Prop} {a:Act} {w:World} (h:vT P c c Q a w):(Code.scope c).wp P Q a w:=fun b k cs=>
 let ⟨e,a',w',hq,ki⟩:=h b k cs
 ⟨e,a',w',hq, .of_steps (.one step_scope) ki⟩
def CG:AC→Nat→Option AC
 | .seq a b,l=>
  match CG a l with
  | some r=>some (.seq r b)
  | none=>CG b l
 | .label l',l=>if l'==l then some .skip else none
 | _,_=>none
def CH (P:Program) (B:fc) (nt:Nat) (ac r:AC) (Q:Exit→Tm→St→Prop) (tm:Tm) (s:St):Prop:=
 ∀ c rest,cC P nt c=some ac→cC P nt rest=some r→∀ act w,Holds B nt tm s act w→vT P c rest (lj B nt Q) act w
def CI (P:Program) (B:fc) (nt:Nat) (ac:AC) (Q:Exit→Tm→St→Prop):Exit→Tm→St→Prop
 | .goto l,tm,s=>∃ r,CG ac l=some r∧CH P B nt ac r Q tm s
 | e,tm,s=>Q e tm s
theorem Sem.scope {a:AC} (h:CH P B nt a a Q tm s):Sem P B nt (.scope a) Q tm s:=by
 intro c hc act w hh
 obtain⟨x,rfl,h1⟩:=iN hc
 exact(h x x h1 h1 act w hh).wp
def Tag.fg (m:Nat):Tag→Tag
 | .tok t y=>if t<m then .tok t y else .shared
 | g=>g
mutual
def D.fg (n m:Nat):D→D
 | .ptr o off=>if o<n then .ptr o off else .junk
 | .cL row off=> .cL (D.fh n m row) off
 | .slice g z rows=> .slice (g.fg m) z (D.gF n m rows)
 | .agg cs=> .agg (D.fh n m cs)
 | .tuple ds=> .tuple (D.fh n m ds)
 | .junk=> .junk
 | .int k x=> .int k x
 | .bool b=> .bool b
 | .str l=> .str l
 | .dR=> .dR
 | .val v=> .val v
 | .dT T o=>if o<n then .dT T o else .junk
 | .eW f cs=> .eW f (D.fh n m cs)
 | .eU o=>if o<n then .eU o else .junk
def D.fh (n m:Nat):List D→List D
 | []=> []
 | d::r=>D.fg n m d::D.fh n m r
def D.gF (n m:Nat):List (List D)→List (List D)
 | []=> []
 | d::r=>D.fh n m d::D.gF n m r
end
theorem jZ (n m:Nat) : ∀ l,D.fh n m l=l.map (D.fg n m)
 | []=>by simp [D.fh]
 | d::r=>by simp [D.fh,jZ n m r]
theorem E8 (n m:Nat) : ∀ l,D.gF n m l=l.map (D.fh n m)
 | []=>by simp [D.gF]
 | d::r=>by simp [D.gF,E8 n m r]
def St.cut (s:St) (n m:Nat):St:=⟨(s.au.take n).map (D.fh n m),s.av.take m⟩
def Tm.fg (n m:Nat) (tm:Tm):Tm:=tm.map fun p=>(p.1,p.2.fg n m)
def Tm.keep (ks:List Nat) (tm:Tm):Tm:=tm.filter fun p=>ks.contains p.1
theorem lM (s:St) (n m:Nat):(s.cut n m).au.length=min n s.au.length:=by simp [St.cut]
theorem fw.fg {M:Map} {g:Tag} {z len cap:Nat} {base:Option (Nat×Nat)} (n m:Nat) (h:fw M s g z len base cap):fw M (s.cut n m) (g.fg m) z len base cap:=by
 cases g with
 | full=>exact h
 | shared=>exact h
 | tok t y=>
  simp only [Tag.fg]
  split
  ·rename_i ht
   obtain⟨h1,h2⟩:=h
   refine⟨by simp [St.cut];omega,fun k hk=>h2 k ?_⟩
   simpa [St.cut,List.getElem?_take_of_lt ht]using hk
  ·trivial
theorem RD.fg {M:Map} {d:D} {v:Value} (n m:Nat) (h:RD M s d v):RD M (s.cut n m) (d.fg n m) v:=by
 induction h with
 | junk v=>simp only [D.fg];exact .junk v
 | int k x=>simp only [D.fg];exact .int k x
 | bool b=>simp only [D.fg];exact .bool b
 | str l=>simp only [D.fg];exact .str l
 | dR=>simp only [D.fg];exact .dR
 | val v hv=>simp only [D.fg];exact .val v hv
 | dT T o v h ht hv=>
  simp only [D.fg]
  split
  ·exact .dT T o v (by rw [lM];omega) ht hv
  ·exact .junk _
 | eU o h hm=>
  simp only [D.fg]
  split
  ·exact .eU o (by rw [lM];omega) hm
  ·exact .junk _
 | eW f ds vs hl _ ih=>
  simp only [D.fg,jZ]
  refine .eW f _ vs (by simpa using hl) (fun i d v e1 e2=> ?_)
  simp only [List.getElem?_map,Option.map_eq_some_iff]at e1
  obtain⟨d',e1,rfl⟩:=e1
  exact ih i d' v e1 e2
 | ptr o off h hm=>
  simp only [D.fg]
  split
  ·exact .ptr o off (by rw [lM];omega) hm
  ·exact .junk _
 | cL row off b k h1 h2 ih=>
  simp only [D.fg,jZ]
  refine .cL _ off b k (fun i d e=> ?_) (fun i d u e eu=> ?_)
  ·simp only [List.getElem?_map,Option.map_eq_some_iff]at e
   obtain⟨d',e,rfl⟩:=e
   exact h1 i d' e
  ·simp only [List.getElem?_map,Option.map_eq_some_iff]at e
   obtain⟨d',e,rfl⟩:=e
   exact ih i d' u e eu
 | gb g z cap hc ht=>simp only [D.fg,D.gF];exact .gb _ z cap hc (ht.fg n m)
 | jL z a cap=>simp only [D.fg,D.gF,Tag.fg];exact .jL z a cap
 | slice g z rows b k cap hl hs h1 h2 ht ih=>
  simp only [D.fg,E8]
  have hlen:(rows.map (D.fh n m)).length=rows.length:=by simp
  have key:=RD.slice (M:=M) (s:=s.cut n m) (g.fg m) z (rows.map (D.fh n m)) b k cap (by rw [hlen];exact hl) (fun row hr=>by
   obtain⟨kh,h',rfl⟩:=List.mem_map.1 hr
   rw [jZ,List.length_map];exact hs kh h')
   (fun i row j d e1 e2=>by
    simp only [List.getElem?_map,Option.map_eq_some_iff]at e1
    obtain⟨kh,e1,rfl⟩:=e1
    rw [jZ]at e2
    simp only [List.getElem?_map,Option.map_eq_some_iff]at e2
    obtain⟨d',e2,rfl⟩:=e2
    exact h1 i kh j d' e1 e2)
   (fun i row j d u e1 e2 eu=>by
    simp only [List.getElem?_map,Option.map_eq_some_iff]at e1
    obtain⟨kh,e1,rfl⟩:=e1
    rw [jZ]at e2
    simp only [List.getElem?_map,Option.map_eq_some_iff]at e2
    obtain⟨d',e2,rfl⟩:=e2
    exact ih i kh j d' u e1 e2 eu)
   (by rw [hlen];exact ht.fg n m)
  rw [hlen]at key
  exact key
 | agg cells vs hl h1 _ ih=>
  simp only [D.fg,jZ]
  refine .agg _ vs (by simpa using hl) h1 (fun i d v e1 e2=> ?_)
  simp only [List.getElem?_map,Option.map_eq_some_iff]at e1
  obtain⟨d',e1,rfl⟩:=e1
  exact ih i d' v e1 e2
 | tuple ds vs hl _ ih=>
  simp only [D.fg,jZ]
  refine .tuple _ vs (by simpa using hl) (fun i d v e1 e2=> ?_)
  simp only [List.getElem?_map,Option.map_eq_some_iff]at e1
  obtain⟨d',e1,rfl⟩:=e1
  exact ih i d' v e1 e2
theorem w5 {t k n m:Nat} (h:(s.cut n m).av[t]? = some (some k)):s.av[t]? = some (some k):=by
 simp only [St.cut,List.getElem?_take]at h
 split at h
 ·exact h
 ·cases h
theorem pd {t n m:Nat} (h:(s.cut n m).live t):s.live t:=by
 obtain⟨k,hk⟩:=h
 exact⟨k,w5 hk⟩
theorem Rel.cut {M:Map} {w:World} (n m:Nat) (r:Rel M s w):Rel M (s.cut n m) w:=by
 have hD : ∀ o,o<(s.cut n m).au.length→o<s.au.length:=fun o h=>by rw [lM]at h;omega
 refine⟨r.comm,fun o ds e=> ?_,fun o ho=>r.hZ o (hD o ho),fun o o' h h'=>r.inj o o' (hD o h) (hD o' h'),fun t k e=>r.tok t k (w5 e),
  fun t b c z o hl e ho=>r.dI t b c z o (pd hl) e (hD o ho),fun t t' b c z c' z' h h' e e'=>r.eA t t' b c z c' z' (pd h) (pd h') e e'⟩
 simp only [St.cut,List.getElem?_map,Option.map_eq_some_iff,List.getElem?_take]at e
 obtain⟨kr,e,rfl⟩:=e
 split at e
 ·obtain⟨vs,T,h1,h2,h3,h4⟩:=r.obj o kr e
  refine⟨vs,T,h1,by rw [jZ];simpa using h2,h3,fun i d v e1 e2=> ?_⟩
  rw [jZ]at e1
  simp only [List.getElem?_map,Option.map_eq_some_iff]at e1
  obtain⟨d',e1,rfl⟩:=e1
  exact(h4 i d' v e1 e2).fg n m
 ·cases e
theorem Ext.cut {M0 M:Map} {s0:St} {w0 w:World} {n m:Nat} (e:Ext M0 s0 w0 M s w) (hn:s0.au.length≤n) (hm:s0.av.length≤m):Ext M0 s0 w0 M (s.cut n m) w:=by
 have hD : ∀ o,o<(s.cut n m).au.length→o<s.au.length:=fun o h=>by rw [lM]at h;omega
 refine⟨⟨e.le.G,by rw [lM];have:=e.le.n;omega,e.le.loc,by simp [St.cut];have:=e.le.t;omega,fun t k h1 h2=>e.le.tk t k h1 (w5 h2)⟩,e.kept,fun o h1 h2=>e.l8 o h1 (hD o h2),fun t b c z h=>e.l9 t b c z (pd h),e.n8,e.size,e.os,e.tape,e.output⟩
end
end Go.Abs

/-! Call -/

namespace Go.Abs
def ky:Nat→List D→Tm
 | _,[]=> []
 | n,d::r=>(n,d)::ky (n+1) r
def az:List (Nat×Option (Bool×Nat))→Tm→St→Option (List D)
 | [],_,_=>some []
 | (t,none)::r,tm,s=>match az r tm s with | some l=>some (tm.get t::l) | none=>none
 | (t,some (agg,size))::r,tm,s=>
  match tm.get t with
  | .ptr o off=>
   match s.au[o]? with
   | some cs=>match part cs off agg size,az r tm s with | some d,some l=>some (d::l) | _,_=>none
   | none=>none
  | _=>none
def aB:List D→D
 | [d]=>d
 | l=> .tuple l
def RQ (B:fc) (res:List (Nat×Option (Bool×Nat))) (Q:D→St→Prop):Exit→Tm→St→Prop
 | .normal,tm,s | .ret,tm,s=>∃ l,az res tm s=some l∧∃ n m,B.s.au.length≤n∧B.s.av.length≤m∧Q ((aB l).fg n m) (s.cut n m)
 | _,_,_=>False
section
variable {P:Program} {M:Map} {s:St} {w:World}
theorem xO : ∀ (l:List D) (n t:Nat),(ky n l).get t=if n≤t then(l[t - n]?).getD .junk else .junk
 | [],n,t=>by simp [ky,Tm.get]
 | d::r,n,t=>by
  simp only [ky,Tm.get,xO r (n+1) t]
  by_cases h:n=t
  ·subst h;simp
  ·rw [if_neg h]
   by_cases h2:n+1≤t
   ·rw [if_pos h2,if_pos (by omega),show t - n=(t - (n+1))+1 by omega];simp
   ·rw [if_neg h2,if_neg (by omega)]
def s9 (tmps:Array Value):ResultVar→Go.Sem Value
 | .tmp t=>pure (tmps.getD t Go.undef)
 | .cell a t=>do loadVar t (← asAddr (tmps.getD a Go.undef))
theorem u6 (r:Rel M s w) {tm:Tm} {tmps:Array Value} (ht:iL M s tm tmps) : ∀ {rs:List ResultVar} {res:List (Nat×Option (Bool×Nat))} {l:List D},uU P rs=some res→az res tm s=some l→
 ∃ vs:List Value,(rs.mapM (s9 tmps)).run P w = .ok vs w∧vs.length=l.length∧
  ∀ (i:Nat) (d:D) (v:Value),l[i]? = some d→vs[i]? = some v→RD M s d v
 | [],res,l,hc,hl=>by cases hc;cases hl;exact⟨[],rfl,rfl,by simp⟩
 | .tmp t::rs,res,l,hc,hl=>by
  obtain⟨RR,h1,rfl⟩:=map_some (by simpa [uU]using hc)
  simp only [az]at hl
  split at hl
  ·rename_i l' ld
   cases hl
   obtain⟨vs,g1,g2,g3⟩:=u6 r ht h1 ld
   refine⟨tmps.getD t Go.undef::vs, ?_,by simp [g2],fun i d v e1 e2=> ?_⟩
   ·rw [List.mapM_cons]
    simp only [s9,Go.Sem.run_bind,Go.Sem.run_pure,Result.andThen_ok,g1]
   ·cases i with
    | zero=>simp only [List.getElem?_cons_zero,Option.some.injEq]at e1 e2;subst e1;subst e2;exact ht t
    | succ i=>exact g3 i d v (by simpa using e1) (by simpa using e2)
  ·cases hl
 | .cell a t::rs,res,l,hc,hl=>by
  simp only [uU]at hc
  split at hc
  ·rename_i g i RR h1 h2 h3
   cases hc
   simp only [az]at hl
   split at hl
   ·rename_i o off ho
    split at hl
    ·rename_i cs mU
     split at hl
     ·rename_i d l' hd ld
      cases hl
      obtain⟨vs,g1,g2,g3⟩:=u6 r ht h3 ld
      have hv:=ht a
      rw [ho]at hv
      have hk:=hv.sT
      obtain⟨hv,_⟩:=hv.na
      have Ps : ∃ v,(loadVar t ⟨M.mu o,off,none⟩).run P w = .ok v w∧RD M s d v:=by
       obtain⟨dV,T,hh,dE,⟨jN,_⟩,uZ⟩:=r.obj o cs mU
       replace hh:=hh.cells hk
       let n:=if g then i.size else 1
       have ib:off+n≤dV.size:=by
        rcases nO hd with ⟨rfl,hq,_⟩ | ⟨rfl,hq⟩
        ·simp [n];omega
        ·have:=(List.getElem?_eq_some_iff.1 hq).1;simp [n];omega
       have hlen:((dV.toList.drop off).take n).length=n:=by simp;omega
       have hJ : ∀ (j:Nat) (u:Value),((dV.toList.drop off).take n)[j]? = some u→dV[off+j]? = some u:=by
        intro j u h
        rw [List.getElem?_take]at h
        split at h
        ·rw [List.getElem?_drop]at h;simpa using h
        ·cases h
       refine⟨_,uV (w:=w) P h2 h1 (M.mu o) off ((dV.toList.drop off).take n) hlen (fun j u h=>by rw [gR hh];exact hJ j u h), ?_⟩
       exact oO hd _ hlen (fun _ u hu=>jN u (Array.mem_toList_iff.1 (List.mem_of_mem_drop (List.mem_of_mem_take hu)))) (fun j d u e1 e2=>uZ _ d u e1 (hJ j u e2))
      obtain⟨v,TX,TY⟩:=Ps
      refine⟨v::vs, ?_,by simp [g2],fun i d' v' e1 e2=> ?_⟩
      ·rw [List.mapM_cons]
       have jN:(s9 tmps (.cell a t)).run P w = .ok v w:=by
        simp only [s9,Go.Sem.run_bind,hv,asAddr,Go.Sem.run_pure,Result.andThen_ok,TX]
       simp only [Go.Sem.run_bind,jN,Result.andThen_ok,g1,Go.Sem.run_pure]
      ·cases i with
       | zero=>simp only [List.getElem?_cons_zero,Option.some.injEq]at e1 e2;subst e1;subst e2;exact TY
       | succ i=>exact g3 i d' v' (by simpa using e1) (by simpa using e2)
     ·cases hl
    ·cases hl
   ·cases hl
  ·cases hc
theorem yE (r:Rel M s w) {tm:Tm} {tmps:Array Value} (ht:iL M s tm tmps) {fn:Func} {res:List (Nat×Option (Bool×Nat))} {l:List D} (hc:uU P fn.results.toList=some res) (hl:az res tm s=some l) :
 ∃ v,(results fn tmps).run P w = .ok v w∧RD M s (aB l) v:=by
 obtain⟨vs,g1,g2,g3⟩:=u6 (P:=P) r ht hc hl
 have cM:(results fn tmps).run P w = .ok (if h:vs.toArray.size=1 then vs.toArray[0]else .tuple vs.toArray) w:=by
  have e:results fn tmps=(do let vs ← fn.results.mapM (s9 tmps);pure (if h:vs.size=1 then vs[0]else .tuple vs)):=by
   unfold results
   rfl
  rw [e,Array.mapM_eq_mapM_toList]
  simp only [Go.Sem.run_bind,Go.Sem.run_map,g1,Result.andThen_ok,Go.Sem.run_pure]
 refine⟨_,cM, ?_⟩
 clear cM g1 hl
 match l,vs,g2,g3 with
 | [],[],_,_=>exact .tuple [] #[] rfl (by simp)
 | [d],[v],_,g3=>exact g3 0 d v rfl rfl
 | d::d'::l,v::v'::vs,h,g3=>
  have : ¬ ((v::v'::vs).toArray.size=1):=by simp
  rw [dif_neg this]
  exact .tuple _ _ (by simpa using h.symm) (fun i d v e1 e2=>g3 i d v e1 (by simpa using e2))
theorem dr.intro {f:FuncId} {fn:Func} {af:AF} {args:List D} {Q:D→St→Prop} (hf:P.funcs[f]? = some fn) (hc:cF P fn=some af) (hl:args.length≤af.ntmps)
 (h : ∀ B:fc,B.s=s→Sem P B af.ntmps af.body (RQ B af.results Q) (ky 0 args) s):dr P f args s Q:=by
 intro M w eD r iu dE ha
 unfold cF at hc
 split at hc
 ·rename_i c CJ
  split at hc
  ·rename_i b res h1 h2
   cases hc
   simp only at h hl
   refine calls_of_wp hf CJ ?_
   have hs:=h ⟨M,s,w,iu,fun b o v e=>r.wU e⟩ rfl c h1 {tmps:=eD++Array.replicate (fn.ntmps - eD.size) Go.undef,defers:= []} w
    ⟨M,Ext.refl M s w,r,fun t=>by
     rw [xO]
     simp only [Nat.zero_le,if_true,Nat.sub_zero]
     cases hd:args[t]? with
     | none=>exact .junk _
     | some d=>
      have hD:=(List.getElem?_eq_some_iff.1 hd).1
      have hv:eD[t]? = some eD[t]:=Array.getElem?_eq_getElem (by omega)
      have:(eD++Array.replicate (fn.ntmps - eD.size) Go.undef).getD t Go.undef=eD[t]:=by
       rw [Array.getD_eq_getD_getElem?,Array.getElem?_append_left (by omega),hv];rfl
      rw [this]
      exact ha t d _ hd hv,by simp;omega,rfl⟩
   refine wp_mono hs fun e act w' hp=> ?_
   obtain⟨tm,s',hq,M',RS,r',ht,_,T1⟩:=hp
   have fin:(∃ l,az res tm s'=some l∧∃ n m,s.au.length≤n∧s.av.length≤m∧Q ((aB l).fg n m) (s'.cut n m))→act.defers = []∧∃ v,(results fn act.tmps).run P w' = .ok v w'∧
    ∃ M' d v' s',Ending.returned v = .returned v'∧Q d s'∧Ext M s w M' s' w'∧Rel M' s' w'∧RD M' s' d v':=by
    rintro⟨l,hl,n,m,hn,hm,hQ⟩
    obtain⟨v,cM,lx⟩:=yE (P:=P) r' ht h2 hl
    exact⟨T1,v,cM,M',_,v,_,rfl,hQ,RS.cut hn hm,r'.cut n m,lx.fg n m⟩
   cases e with
   | normal=>exact fin hq
   | ret=>exact fin hq
   | exit id=>exact hq.elim
   | goto l=>exact hq.elim
   | panic ch=>exact hq.elim
   | outgrown=>exact hq.elim
  ·cases hc
 ·cases hc
end
end Go.Abs

/-! Frame -/

namespace Go.Abs
def Tag.ok (m:Nat):Tag→Bool
 | .tok t _=>decide (t<m)
 | _=>true
def Tag.cJ (ts:List Nat):Tag→Tag
 | .tok t y=>match ts[t]? with | some t'=> .tok t' y | none=> .shared
 | g=>g
mutual
def D.ok (n m:Nat):D→Bool
 | .ptr o _=>decide (o<n)
 | .cL row _=>D.bI n m row
 | .slice g _ rows=>g.ok m && D.gG n m rows
 | .agg cs=>D.bI n m cs
 | .tuple ds=>D.bI n m ds
 | .dT _ o=>decide (o<n)
 | .eW _ cs=>D.bI n m cs
 | .eU o=>decide (o<n)
 | _=>true
def D.bI (n m:Nat):List D→Bool
 | []=>true
 | d::r=>D.ok n m d && D.bI n m r
def D.gG (n m:Nat):List (List D)→Bool
 | []=>true
 | d::r=>D.bI n m d && D.gG n m r
end
mutual
def D.cJ (os ts:List Nat):D→D
 | .ptr o off=>match os[o]? with | some o'=> .ptr o' off | none=> .junk
 | .cL row off=> .cL (D.e7 os ts row) off
 | .slice g z rows=> .slice (g.cJ ts) z (D.oe os ts rows)
 | .agg cs=> .agg (D.e7 os ts cs)
 | .tuple ds=> .tuple (D.e7 os ts ds)
 | .junk=> .junk
 | .int k x=> .int k x
 | .bool b=> .bool b
 | .str l=> .str l
 | .dR=> .dR
 | .val v=> .val v
 | .dT T o=>match os[o]? with | some o'=> .dT T o' | none=> .junk
 | .eW f cs=> .eW f (D.e7 os ts cs)
 | .eU o=>match os[o]? with | some o'=> .eU o' | none=> .junk
def D.e7 (os ts:List Nat):List D→List D
 | []=> []
 | d::r=>D.cJ os ts d::D.e7 os ts r
def D.oe (os ts:List Nat):List (List D)→List (List D)
 | []=> []
 | d::r=>D.e7 os ts d::D.oe os ts r
end
theorem ej (os ts:List Nat) : ∀ l,D.e7 os ts l=l.map (D.cJ os ts)
 | []=>by simp [D.e7]
 | d::r=>by simp [D.e7,ej os ts r]
theorem tW (os ts:List Nat) : ∀ l,D.oe os ts l=l.map (D.e7 os ts)
 | []=>by simp [D.oe]
 | d::r=>by simp [D.oe,tW os ts r]
theorem zI (n m:Nat) : ∀ l,D.bI n m l=l.all (D.ok n m)
 | []=>by simp [D.bI]
 | d::r=>by simp [D.bI,zI n m r]
theorem zJ (n m:Nat) : ∀ l,D.gG n m l=l.all (D.bI n m)
 | []=>by simp [D.gG]
 | d::r=>by simp [D.gG,zJ n m r]
theorem pe {n m:Nat} {l:List D} (h:D.bI n m l=true) {i:Nat} {d:D} (e:l[i]? = some d):D.ok n m d=true:=by
 rw [zI]at h;exact List.all_eq_true.1 h d (List.mem_of_getElem? e)
theorem KS {n m:Nat} {l:List (List D)} (h:D.gG n m l=true) {i:Nat} {d:List D} (e:l[i]? = some d):D.bI n m d=true:=by
 rw [zJ]at h;exact List.all_eq_true.1 h d (List.mem_of_getElem? e)
section
variable {M M0:Map} {s s0:St} {os ts:List Nat}
theorem fw.yV (gE : ∀ (i:Nat) t,ts[i]? = some t→M0.be i=M.be t) (ht : ∀ (i t:Nat),ts[i]? = some t→s0.av[i]? = s.av[t]?) (hlen:s0.av.length=ts.length) {g:Tag} {z len cap:Nat} {base:Option (Nat×Nat)} (xP:g.ok ts.length=true) (h:fw M s (g.cJ ts) z len base cap):fw M0 s0 g z len base cap:=by
 cases g with
 | full=>exact h
 | shared=>exact h
 | tok t y=>
  have hD:t<ts.length:=by simpa [Tag.ok]using xP
  have e:ts[t]? = some ts[t]:=List.getElem?_eq_getElem hD
  simp only [Tag.cJ,e]at h
  obtain⟨h1,h2⟩:=h
  refine⟨by omega,fun n hn=> ?_⟩
  rw [ht t _ e]at hn
  rw [gE t _ e]
  exact h2 n hn
theorem RD.yV (hG:M0.G=M.G) (ta : ∀ (i:Nat) o,os[i]? = some o→M0.loc i=M.loc o) (ly:s0.au.length=os.length)
 (gE : ∀ (i:Nat) t,ts[i]? = some t→M0.be i=M.be t) (ht : ∀ (i t:Nat),ts[i]? = some t→s0.av[i]? = s.av[t]?) (hlen:s0.av.length=ts.length) {d:D} {v:Value} (h:RD M s d v) :
 ∀ d0:D,d0.cJ os ts=d→d0.ok os.length ts.length=true→RD M0 s0 d0 v:=by
 have lU : ∀ (i:Nat) o,os[i]? = some o→M0.mu i=M.mu o:=fun i o h=>congrArg Prod.fst (ta i o h)
 have tag:=fun {g z len cap base}=>@fw.yV M M0 s s0 ts gE ht hlen g z len cap base
 induction h with
 | junk v=>
  intro d0 e ok
  cases d0 <;> simp only [D.cJ]at e <;> try (cases e;done)
  ·exact .junk v
  ·rename_i o off
   have hD:o<os.length:=by simpa [D.ok]using ok
   rw [List.getElem?_eq_getElem hD]at e;cases e
  ·rename_i T o
   have hD:o<os.length:=by simpa [D.ok]using ok
   rw [List.getElem?_eq_getElem hD]at e;cases e
  ·rename_i o
   have hD:o<os.length:=by simpa [D.ok]using ok
   rw [List.getElem?_eq_getElem hD]at e;cases e
 | val v hv=>intro d0 e ok;cases d0 <;> simp only [D.cJ]at e <;> first | (cases e;exact .val _ hv) | (split at e <;> cases e) | cases e
 | dT T o v ho ht hv=>
  intro d0 e ok
  cases d0 <;> simp only [D.cJ]at e <;> first | (split at e <;> cases e;done) | skip
  all_goals try (cases e;done)
  rename_i T0 o0
  have hD:o0<os.length:=by simpa [D.ok]using ok
  rw [List.getElem?_eq_getElem hD]at e
  cases e
  have hl:=ta o0 _ (List.getElem?_eq_getElem hD)
  exact .dT _ o0 v (by omega) ((congrArg (fun x=>x.2.ty?) hl).trans ht) (by rw [lU o0 _ (List.getElem?_eq_getElem hD)];exact hv)
 | int k x=>intro d0 e ok;cases d0 <;> simp only [D.cJ]at e <;> first | (cases e;exact .int _ _) | (split at e <;> cases e) | cases e
 | bool b=>intro d0 e ok;cases d0 <;> simp only [D.cJ]at e <;> first | (cases e;exact .bool _) | (split at e <;> cases e) | cases e
 | str l=>intro d0 e ok;cases d0 <;> simp only [D.cJ]at e <;> first | (cases e;exact .str _) | (split at e <;> cases e) | cases e
 | dR=>intro d0 e ok;cases d0 <;> simp only [D.cJ]at e <;> first | (cases e;exact .dR) | (split at e <;> cases e) | cases e
 | eU o ho hm=>
  intro d0 e ok
  cases d0 <;> simp only [D.cJ]at e <;> first | (cases e;done) | skip
  all_goals try (split at e <;> cases e;done)
  rename_i o0
  have hD:o0<os.length:=by simpa [D.ok]using ok
  rw [List.getElem?_eq_getElem hD]at e
  cases e
  rw [← lU o0 _ (List.getElem?_eq_getElem hD)]
  exact RD.eU (s:=s0) o0 (by omega) ((congrArg Prod.snd (ta o0 _ (List.getElem?_eq_getElem hD))).trans hm)
 | eW f ds vs hl _ ih=>
  intro d0 e ok
  cases d0 <;> simp only [D.cJ]at e <;> first | (split at e <;> cases e;done) | skip
  all_goals try (cases e;done)
  rename_i f0 Fa
  simp only [D.eW.injEq]at e
  obtain⟨rfl,rfl⟩:=e
  simp only [D.ok]at ok
  rw [ej]at hl ih
  refine .eW _ Fa vs (by simpa using hl) (fun i d v e1 e2=>ih i _ v (by rw [List.getElem?_map,e1];rfl) e2 d rfl (pe ok e1))
 | ptr o off ho hm=>
  intro d0 e ok
  cases d0 <;> simp only [D.cJ]at e <;> first | (cases e;done) | skip
  all_goals try (split at e <;> cases e;done)
  rename_i o0 My
  have hD:o0<os.length:=by simpa [D.ok]using ok
  rw [List.getElem?_eq_getElem hD]at e
  cases e
  rw [← lU o0 _ (List.getElem?_eq_getElem hD)]
  exact RD.ptr (s:=s0) o0 _ (by omega) (by rw [show M0.ob o0=_ from congrArg Prod.snd (ta o0 _ (List.getElem?_eq_getElem hD))];exact hm)
 | cL row off b k h1 h2 ih=>
  intro d0 e ok
  cases d0 <;> simp only [D.cJ]at e <;> first | (split at e <;> cases e;done) | skip
  all_goals try (cases e;done)
  rename_i RT My
  simp only [D.cL.injEq]at e
  obtain⟨rfl,rfl⟩:=e
  simp only [D.ok]at ok
  rw [ej]at h1 ih
  refine .cL RT My b k (fun i d e=> ?_) (fun i d u e eu=> ?_)
  ·rw [hG];exact h1 i _ (by rw [List.getElem?_map,e];rfl)
  ·rw [hG]at eu;exact ih i _ u (by rw [List.getElem?_map,e];rfl) eu d rfl (pe ok e)
 | gb g z cap hc lf=>
  intro d0 e ok
  cases d0 <;> simp only [D.cJ]at e <;> first | (split at e <;> cases e;done) | skip
  all_goals try (cases e;done)
  rename_i g0 z0 oR
  simp only [D.slice.injEq]at e
  obtain⟨rfl,rfl,e⟩:=e
  have:oR = []:=by cases oR <;> simp [D.oe]at e;rfl
  subst this
  simp only [D.ok,Bool.and_eq_true]at ok
  exact .gb g0 z0 cap hc (tag ok.1 lf)
 | jL z a cap=>
  intro d0 e ok
  cases d0 <;> simp only [D.cJ]at e <;> first | (split at e <;> cases e;done) | skip
  all_goals try (cases e;done)
  rename_i g0 z0 oR
  simp only [D.slice.injEq]at e
  obtain⟨hg,rfl,e⟩:=e
  have:oR = []:=by cases oR <;> simp [D.oe]at e;rfl
  subst this
  simp only [D.ok,Bool.and_eq_true]at ok
  have:g0 = .shared:=by
   cases g0 with
   | tok t y=>
    have ht:t<ts.length:=by simpa [Tag.ok]using ok.1
    simp [Tag.cJ,ht]at hg
   | shared=>rfl
   | _=>simp [Tag.cJ]at hg
  subst this
  exact .jL _ a cap
 | slice g z rows b k cap hl hs h1 h2 lf ih=>
  intro d0 e ok
  cases d0 <;> simp only [D.cJ]at e <;> first | (split at e <;> cases e;done) | skip
  all_goals try (cases e;done)
  rename_i g0 z0 oR
  simp only [D.slice.injEq]at e
  obtain⟨rfl,rfl,rfl⟩:=e
  simp only [D.ok,Bool.and_eq_true]at ok
  rw [tW]at hl hs h1 ih lf
  simp only [tW,List.length_map]at hl lf ⊢
  have cW : ∀ (i:Nat) (row:List D),oR[i]? = some row→(oR.map (D.e7 os ts))[i]? = some (D.e7 os ts row):=fun i row e=>by rw [List.getElem?_map,e];rfl
  have pP : ∀ (row:List D) (j:Nat) (d:D),row[j]? = some d→(D.e7 os ts row)[j]? = some (D.cJ os ts d):=fun row j d e=>by rw [ej,List.getElem?_map,e];rfl
  refine .slice g0 z0 oR b k cap hl (fun row hr=> ?_) (fun i row j d e1 e2=> ?_) (fun i row j d u e1 e2 eu=> ?_) (tag ok.1 lf)
  ·have:=hs (D.e7 os ts row) (List.mem_map.2 ⟨row,hr,rfl⟩)
   rwa [ej,List.length_map]at this
  ·rw [hG];exact h1 i _ j _ (cW i row e1) (pP row j d e2)
  ·rw [hG]at eu;exact ih i _ j _ u (cW i row e1) (pP row j d e2) eu d rfl (pe (KS ok.2 e1) e2)
 | agg cells vs hl h1 _ ih=>
  intro d0 e ok
  cases d0 <;> simp only [D.cJ]at e <;> first | (split at e <;> cases e;done) | skip
  all_goals try (cases e;done)
  rename_i Fa
  simp only [D.agg.injEq]at e
  subst e
  simp only [D.ok]at ok
  rw [ej]at hl ih
  refine .agg Fa vs (by simpa using hl) h1 (fun i d v e1 e2=>ih i _ v (by rw [List.getElem?_map,e1];rfl) e2 d rfl (pe ok e1))
 | tuple ds vs hl _ ih=>
  intro d0 e ok
  cases d0 <;> simp only [D.cJ]at e <;> first | (split at e <;> cases e;done) | skip
  all_goals try (cases e;done)
  rename_i Fa
  simp only [D.tuple.injEq]at e
  subst e
  simp only [D.ok]at ok
  rw [ej]at hl ih
  refine .tuple Fa vs (by simpa using hl) (fun i d v e1 e2=>ih i _ v (by rw [List.getElem?_map,e1];rfl) e2 d rfl (pe ok e1))
theorem RD.cJ (hG:M0.G=M.G) (ta : ∀ i,i<s0.au.length→∃ o,os[i]? = some o∧o<s.au.length∧M.loc o=M0.loc i)
 (gE : ∀ i,i<s0.av.length→∃ t,ts[i]? = some t∧t<s.av.length∧s.av[t]? = s0.av[i]? ∧M.be t=M0.be i) {d:D} {v:Value} (h:RD M0 s0 d v):RD M s (d.cJ os ts) v:=by
 have tag : ∀ {g:Tag} {z len cap:Nat} {base:Option (Nat×Nat)},fw M0 s0 g z len base cap→fw M s (g.cJ ts) z len base cap:=by
  intro g z len cap base h
  cases g with
  | full=>exact h
  | shared=>exact h
  | tok t y=>
   obtain⟨h1,h2⟩:=h
   obtain⟨t',e,hD,T2,hb⟩:=gE t h1
   simp only [Tag.cJ,e]
   refine⟨hD,fun n hn=> ?_⟩
   rw [hb]
   exact h2 n (T2 ▸ hn)
 induction h with
 | junk v=>simp only [D.cJ];exact .junk v
 | int k x=>simp only [D.cJ];exact .int k x
 | bool b=>simp only [D.cJ];exact .bool b
 | str l=>simp only [D.cJ];exact .str l
 | dR=>simp only [D.cJ];exact .dR
 | ptr o off ho hk=>
  obtain⟨o',e,hD,hm⟩:=ta o ho
  simp only [D.cJ,e]
  have hb:M.ob o'=M0.ob o:=congrArg Prod.snd hm
  have hm:M.mu o'=M0.mu o:=congrArg Prod.fst hm
  rw [← hm]
  exact .ptr o' off hD (by rw [hb];exact hk)
 | eU o ho hk=>
  obtain⟨o',e,hD,hm⟩:=ta o ho
  simp only [D.cJ,e]
  have hb:M.ob o'=M0.ob o:=congrArg Prod.snd hm
  have hm:M.mu o'=M0.mu o:=congrArg Prod.fst hm
  rw [← hm]
  exact .eU o' hD (by rw [hb];exact hk)
 | eW f ds vs hl _ ih=>
  simp only [D.cJ,ej]
  refine .eW f _ vs (by simpa using hl) (fun i d v e1 e2=> ?_)
  simp only [List.getElem?_map,Option.map_eq_some_iff]at e1
  obtain⟨d',e1,rfl⟩:=e1
  exact ih i d' v e1 e2
 | val v hv=>simp only [D.cJ];exact .val v hv
 | dT T o v ho ht hv=>
  obtain⟨o',e,hD,hm⟩:=ta o ho
  simp only [D.cJ,e]
  have h1:M.mu o'=M0.mu o:=congrArg Prod.fst hm
  have h2:M.ty o'=M0.ty o:=congrArg (fun x=>x.2.ty?) hm
  exact .dT T o' v hD (by rw [h2];exact ht) (by rw [h1];exact hv)
 | cL row off b k h1 h2 ih=>
  simp only [D.cJ,ej]
  refine .cL _ off b k (fun i d e=> ?_) (fun i d u e eu=> ?_)
  ·simp only [List.getElem?_map,Option.map_eq_some_iff]at e
   obtain⟨d',e,rfl⟩:=e
   rw [← hG];exact h1 i d' e
  ·simp only [List.getElem?_map,Option.map_eq_some_iff]at e
   obtain⟨d',e,rfl⟩:=e
   rw [← hG]at eu;exact ih i d' u e eu
 | gb g z cap hc ht=>simp only [D.cJ,D.oe];exact .gb _ z cap hc (tag ht)
 | jL z a cap=>simp only [D.cJ,D.oe,Tag.cJ];exact .jL z a cap
 | slice g z rows b k cap hl hs h1 h2 ht ih=>
  simp only [D.cJ,tW]
  have hlen:(rows.map (D.e7 os ts)).length=rows.length:=by simp
  have key:=RD.slice (M:=M) (s:=s) (g.cJ ts) z (rows.map (D.e7 os ts)) b k cap (by rw [hlen];exact hl) (fun row hr=>by
   obtain⟨kh,h',rfl⟩:=List.mem_map.1 hr
   rw [ej,List.length_map];exact hs kh h')
   (fun i row j d e1 e2=>by
    simp only [List.getElem?_map,Option.map_eq_some_iff]at e1
    obtain⟨kh,e1,rfl⟩:=e1
    rw [ej]at e2
    simp only [List.getElem?_map,Option.map_eq_some_iff]at e2
    obtain⟨d',e2,rfl⟩:=e2
    rw [← hG];exact h1 i kh j d' e1 e2)
   (fun i row j d u e1 e2 eu=>by
    simp only [List.getElem?_map,Option.map_eq_some_iff]at e1
    obtain⟨kh,e1,rfl⟩:=e1
    rw [ej]at e2
    simp only [List.getElem?_map,Option.map_eq_some_iff]at e2
    obtain⟨d',e2,rfl⟩:=e2
    rw [← hG]at eu;exact ih i kh j d' u e1 e2 eu)
   (by rw [hlen];exact tag ht)
  rw [hlen]at key
  exact key
 | agg cells vs hl h1 _ ih=>
  simp only [D.cJ,ej]
  refine .agg _ vs (by simpa using hl) h1 (fun i d v e1 e2=> ?_)
  simp only [List.getElem?_map,Option.map_eq_some_iff]at e1
  obtain⟨d',e1,rfl⟩:=e1
  exact ih i d' v e1 e2
 | tuple ds vs hl _ ih=>
  simp only [D.cJ,ej]
  refine .tuple _ vs (by simpa using hl) (fun i d v e1 e2=> ?_)
  simp only [List.getElem?_map,Option.map_eq_some_iff]at e1
  obtain⟨d',e1,rfl⟩:=e1
  exact ih i d' v e1 e2
def ij {α:Type} : List Nat→List α→List α→List α
 | [],new,l=>l++new
 | _::_,[],l=>l
 | o::os,x::xs,l=>ij os xs (l.set o x)
def iG (os:List Nat) (n k:Nat):List Nat:=os++(List.range k).map (n + ·)
theorem qv {α:Type} : ∀ (os:List Nat) (xs l:List α),os.length≤xs.length→(ij os xs l).length=l.length+(xs.length - os.length)
 | [],xs,l,_=>by simp [ij]
 | o::os,[],l,h=>by simp at h
 | o::os,x::xs,l,h=>by
  simp only [ij]
  rw [qv os xs _ (by simpa using h)]
  simp
theorem u7 {α:Type} : ∀ (os:List Nat) (xs l:List α),os.length≤xs.length→os.Nodup→(∀ o∈os,o<l.length)→
 (∀ (i:Nat) (o:Nat),os[i]? = some o→(ij os xs l)[o]? = xs[i]?)∧(∀ o,o<l.length→o∉os→(ij os xs l)[o]? = l[o]?)∧
 (∀ k,(ij os xs l)[l.length+k]? = xs[os.length+k]?)
 | [],xs,l,_,_,_=>by
  refine⟨by simp,fun o ho _=>by simp only [ij];rw [List.getElem?_append_left ho],fun k=>by simp only [ij];rw [List.getElem?_append_right (by omega)];simp⟩
 | o::os,[],l,h,_,_=>by simp at h
 | o::os,x::xs,l,h,hn,hD=>by
  simp only [List.nodup_cons]at hn
  have uD : ∀ q∈os,q<(l.set o x).length:=fun q hq=>by simpa using hD q (by simp [hq])
  obtain⟨h1,h2,h3⟩:=u7 os xs (l.set o x) (by simpa using h) hn.2 uD
  have ho:o<l.length:=hD o (by simp)
  simp only [ij]
  refine⟨fun i q e=> ?_,fun q hq QT=> ?_,fun k=> ?_⟩
  ·cases i with
   | zero=>
    simp only [List.getElem?_cons_zero,Option.some.injEq]at e
    subst e
    rw [h2 o (by simpa using ho) hn.1]
    simp [ho]
   | succ i=>simpa using h1 i q (by simpa using e)
  ·have JT:q≠o:=fun e=>QT (by simp [e])
   rw [h2 q (by simpa using hq) (fun h=>QT (by simp [h])),List.getElem?_set_ne (Ne.symm JT)]
  ·have:=h3 k
   simp only [List.length_set]at this
   rw [this]
   simp only [List.length_cons]
   rw [show os.length+1+k=(os.length+k)+1 by omega];simp
theorem uE (os:List Nat) (n k i:Nat):(iG os n k)[i]? = if i<os.length then os[i]? else if i<os.length+k then some (n+(i - os.length))else none:=by
 unfold iG
 split
 ·rename_i h;rw [List.getElem?_append_left h]
 ·rename_i h
  rw [List.getElem?_append_right (by omega)]
  split
  ·rename_i h2
   rw [List.getElem?_map,List.getElem?_range (by omega)];rfl
  ·rename_i h2
   rw [List.getElem?_eq_none]
   simp;omega
def posOf:List Nat→Nat→Option Nat
 | [],_=>none
 | x::r,o=>if x=o then some 0 else(posOf r o).map (· + 1)
theorem fx : ∀ {l:List Nat} {o i:Nat},posOf l o=some i→l[i]? = some o
 | x::r,o,i,h=>by
  simp only [posOf]at h
  split at h
  ·rename_i e;cases h;simp [e]
  ·cases hp:posOf r o with
   | none=>rw [hp]at h;cases h
   | some j=>rw [hp]at h;cases h;simpa using fx hp
theorem iQ : ∀ {l:List Nat} {o i:Nat},l.Nodup→l[i]? = some o→posOf l o=some i
 | x::r,o,i,hn,h=>by
  simp only [List.nodup_cons]at hn
  simp only [posOf]
  cases i with
  | zero=>simp at h;simp [h]
  | succ i=>
   simp at h
   have:x≠o:=fun e=>hn.1 (by rw [e];exact List.mem_of_getElem? h)
   rw [if_neg this,iQ hn.2 h];rfl
end
end Go.Abs

/-! Frame2 -/

namespace Go.Abs
theorem sk {l:List Nat} {n k:Nat} (h:l.Nodup) (hl : ∀ o∈l,o<n):(iG l n k).Nodup:=by
 unfold iG
 rw [List.nodup_append]
 refine⟨h, ?_,fun a ha b hb=> ?_⟩
 ·rw [List.nodup_iff_pairwise_ne,List.pairwise_map]
  exact List.Pairwise.imp (fun h=>by omega) (List.nodup_iff_pairwise_ne.1 List.nodup_range)
 ·obtain⟨c,hc,rfl⟩:=List.mem_map.1 hb
  have:=hl a ha
  omega
def gp (M:Map) (os ts:List Nat):Map:=⟨M.G,fun i=>M.loc (os.getD i 0),fun i=>M.be (ts.getD i 0)⟩
def qY (M M0:Map) (os ts:List Nat):Map:=
 ⟨M0.G,fun o=>match posOf os o with | some i=>M0.loc i | none=>M.loc o,fun t=>match posOf ts t with | some i=>M0.be i | none=>M.be t⟩
section
variable {P:Program} {M:Map} {s s0:St} {w:World} {os ts:List Nat}
theorem tX {l:List Nat} {i o:Nat} (h:l[i]? = some o):l.getD i 0=o:=by simp [List.getD,h]
theorem Rel.sub (r:Rel M s w) (xQ:os.Nodup) (BT:ts.Nodup) (ly : ∀ o∈os,o<s.au.length)
 (ho:s0.au.length=os.length) (Hx : ∀ (i o:Nat) (ds:List D),os[i]? = some o→s0.au[i]? = some ds→s.au[o]? = some (D.e7 os ts ds)∧D.bI os.length ts.length ds=true)
 (ht:s0.av.length=ts.length) (oa : ∀ (i t:Nat),ts[i]? = some t→s0.av[i]? = s.av[t]?):Rel (gp M os ts) s0 w:=by
 have nth : ∀ i,i<s0.au.length→∃ o,os[i]? = some o∧o<s.au.length:=fun i hi=>⟨os[i],List.getElem?_eq_getElem (by omega),ly _ (List.getElem_mem _)⟩
 have loc : ∀ (i:Nat) o,os[i]? = some o→(gp M os ts).loc i=M.loc o:=fun i o h=>by simp only [gp,tX h]
 have mu : ∀ (i:Nat) o,os[i]? = some o→(gp M os ts).mu i=M.mu o:=fun i o h=>congrArg Prod.fst (loc i o h)
 have be : ∀ (i:Nat) t,ts[i]? = some t→(gp M os ts).be i=M.be t:=fun i t h=>by simp only [gp,tX h]
 have JU : ∀ t,s0.live t→∃ t',ts[t]? = some t'∧s.live t':=fun t ⟨n,hn⟩=>by
  have hD:=(List.getElem?_eq_some_iff.1 hn).1
  have e:ts[t]? = some ts[t]:=List.getElem?_eq_getElem (by omega)
  exact⟨_,e,n,by rw [← oa t _ e];exact hn⟩
 refine⟨r.comm,fun i ds e=> ?_,fun i hi off=> ?_,fun i i' hi fU e=> ?_,fun t n e=> ?_,fun t b c z i hl e hi=> ?_,fun t t' b c z c' z' h h' e e'=> ?_⟩
 ·obtain⟨o,h1,_⟩:=nth i (List.getElem?_eq_some_iff.1 e).1
  obtain⟨h2,h3⟩:=Hx i o ds h1 e
  obtain⟨vs,T,g1,g2,g3,g4⟩:=r.obj o _ h2
  refine⟨vs,T,by rw [mu i o h1,show(gp M os ts).ob i=M.ob o from congrArg Prod.snd (loc i o h1)];exact g1,by rw [ej]at g2;simpa using g2,⟨g3.1,by rw [show(gp M os ts).ty i=M.ty o from congrArg (fun x=>x.2.ty?) (loc i o h1)];exact g3.2⟩,fun j d v e1 e2=> ?_⟩
  exact RD.yV (M:=M) (M0:=gp M os ts) (s:=s) rfl loc ho be oa ht (g4 j (d.cJ os ts) v (by rw [ej,List.getElem?_map,e1];rfl) e2) d rfl (pe h3 e1)
 ·obtain⟨o,h1,h2⟩:=nth i hi
  rw [mu i o h1];exact r.hZ o h2 off
 ·obtain⟨o,h1,h2⟩:=nth i hi
  obtain⟨o',mV,qZ⟩:=nth i' fU
  rw [mu i o h1,mu i' o' mV]at e
  have:=r.inj o o' h2 qZ e
  subst this
  have a:=iQ xQ h1
  have b:=iQ xQ mV
  rw [a]at b;cases b;rfl
 ·obtain⟨t',h1,h2⟩:=JU t ⟨n,e⟩
  rw [be t t' h1]
  exact r.tok t' n (by rw [← oa t t' h1];exact e)
 ·obtain⟨t',h1,h2⟩:=JU t hl
  obtain⟨o,h3,h4⟩:=nth i hi
  rw [be t t' h1]at e
  rw [mu i o h3]
  exact r.dI t' b c z o h2 e h4
 ·obtain⟨q,h1,h2⟩:=JU t h
  obtain⟨q',mV,qZ⟩:=JU t' h'
  rw [be t q h1]at e
  rw [be t' q' mV]at e'
  have:=r.eA q q' b c z c' z' h2 qZ e e'
  subst this
  have a:=iQ BT h1
  have b:=iQ BT mV
  rw [a]at b;cases b;rfl
end
def St.back (s:St) (os ts:List Nat) (s':St):St:=
 ⟨ij os (s'.au.map (D.e7 (iG os s.au.length (s'.au.length - os.length)) (iG ts s.av.length (s'.av.length - ts.length)))) s.au,ij ts s'.av s.av⟩
def D.back (s:St) (os ts:List Nat) (s':St) (d:D):D:=
 d.cJ (iG os s.au.length (s'.au.length - os.length)) (iG ts s.av.length (s'.av.length - ts.length))
theorem dr.frame {P:Program} {f:FuncId} {CK args:List D} {s s0:St} {Q0 Q:D→St→Prop} (os ts:List Nat) (h:dr P f CK s0 Q0) (xQ:os.Nodup) (BT:ts.Nodup) (ly : ∀ o∈os,o<s.au.length) (EJ : ∀ t∈ts,t<s.av.length)
 (ho:s0.au.length=os.length) (Hx : ∀ (i o:Nat) (ds:List D),os[i]? = some o→s0.au[i]? = some ds→s.au[o]? = some (D.e7 os ts ds)∧D.bI os.length ts.length ds=true)
 (ht:s0.av.length=ts.length) (oa : ∀ (i t:Nat),ts[i]? = some t→s0.av[i]? = s.av[t]?)
 (yW:args=D.e7 os ts CK) (xP:D.bI os.length ts.length CK=true) (k : ∀ d s',Q0 d s'→Q (d.back s os ts s') (s.back os ts s')):dr P f args s Q:=by
 intro M w eD r iu dE ha
 have r0:=r.sub xQ BT ly ho Hx ht oa
 have loc : ∀ (i:Nat) o,os[i]? = some o→(gp M os ts).loc i=M.loc o:=fun i o h=>by simp only [gp,tX h]
 have mu : ∀ (i:Nat) o,os[i]? = some o→(gp M os ts).mu i=M.mu o:=fun i o h=>congrArg Prod.fst (loc i o h)
 have be : ∀ (i:Nat) t,ts[i]? = some t→(gp M os ts).be i=M.be t:=fun i t h=>by simp only [gp,tX h]
 subst yW
 have Mz:Laid (gp M os ts) s0 w:=by
  intro g cs hg
  obtain⟨h1,h2,h3⟩:=iu g cs hg
  refine⟨h1,fun o hD=> ?_,fun t c z hl hb=> ?_⟩
  ·obtain⟨o',jI⟩ : ∃ o',os[o]? = some o':=⟨_,List.getElem?_eq_getElem (by omega)⟩
   rw [mu o o' jI]
   exact h2 o' (ly o' (List.mem_of_getElem? jI))
  ·obtain⟨n,hn⟩:=hl
   have hD:=(List.getElem?_eq_some_iff.1 hn).1
   obtain⟨t',Fb⟩ : ∃ t',ts[t]? = some t':=⟨_,List.getElem?_eq_getElem (by omega)⟩
   rw [be t t' Fb]at hb
   exact h3 t' c z ⟨n,by rw [← oa t t' Fb];exact hn⟩ hb
 have hc:=h (gp M os ts) w eD r0 Mz (by rw [dE,ej,List.length_map]) (fun i d v e1 e2=>
  RD.yV (M:=M) (M0:=gp M os ts) (s:=s) rfl loc ho be oa ht (ha i (d.cJ os ts) v (by rw [ej,List.getElem?_map,e1];rfl) e2) d rfl (pe xP e1))
 refine hc.mono ?_
 rintro en w' ⟨pV,d,v,s',rfl,hq,e,r',hv⟩
 have zD:=e.le.n
 have vD:=e.le.t
 generalize CM:iG os s.au.length (s'.au.length - os.length)=iB
 generalize CN:iG ts s.av.length (s'.av.length - ts.length)=kQ
 have nd:iB.Nodup:=by rw [← CM];exact sk xQ ly
 have QU:kQ.Nodup:=by rw [← CN];exact sk BT EJ
 have CO : ∀ i,iB[i]? = if i<os.length then os[i]? else if i<s'.au.length then some (s.au.length+(i - os.length))else none:=fun i=>by
  rw [← CM,uE];split
  ·rfl
  ·rw [show os.length+(s'.au.length - os.length)=s'.au.length by omega]
 have CP : ∀ i,kQ[i]? = if i<ts.length then ts[i]? else if i<s'.av.length then some (s.av.length+(i - ts.length))else none:=fun i=>by
  rw [← CN,uE];split
  ·rfl
  ·rw [show ts.length+(s'.av.length - ts.length)=s'.av.length by omega]
 have T4:s.back os ts s' = ⟨ij os (s'.au.map (D.e7 iB kQ)) s.au,ij ts s'.av s.av⟩:=by simp only [St.back,CM,CN]
 have T5:d.back s os ts s'=d.cJ iB kQ:=by simp only [D.back,CM,CN]
 have mT:=k d s' hq
 rw [T4,T5]at mT
 obtain⟨p1,p2,p3⟩:=u7 os (s'.au.map (D.e7 iB kQ)) s.au (by simp;omega) xQ ly
 obtain⟨q1,q2,q3⟩:=u7 ts s'.av s.av (by omega) BT EJ
 have zK:=qv os (s'.au.map (D.e7 iB kQ)) s.au (by simp;omega)
 have zL:=qv ts s'.av s.av (by omega)
 simp only [List.length_map]at zK
 generalize BO:(⟨ij os (s'.au.map (D.e7 iB kQ)) s.au,ij ts s'.av s.av⟩:St)=s2 at mT
 have so:s2.au=ij os (s'.au.map (D.e7 iB kQ)) s.au:=by rw [← BO]
 have st:s2.av=ij ts s'.av s.av:=by rw [← BO]
 -- the framed objects
 have fo : ∀ (i o:Nat),iB[i]? = some o→o<s2.au.length∧s2.au[o]? = (s'.au[i]?).map (D.e7 iB kQ)∧i<s'.au.length∧(i<os.length→o<s.au.length∧os[i]? = some o)∧(os.length≤i→s.au.length≤o):=by
  intro i o hi
  rw [CO]at hi
  split at hi
  ·rename_i h1
   have hD:=ly o (List.mem_of_getElem? hi)
   refine⟨by rw [so,zK];omega,by rw [so,p1 i o hi,List.getElem?_map],by omega,fun _=>⟨hD,hi⟩,fun h=>by omega⟩
  ·split at hi
   ·rename_i h1 h2
    cases hi
    refine⟨by rw [so,zK];omega, ?_,h2,fun h=>by omega,fun _=>by omega⟩
    rw [so,p3,List.getElem?_map,show os.length+(i - os.length)=i by omega]
   ·cases hi
 have ft : ∀ (i t:Nat),kQ[i]? = some t→t<s2.av.length∧s2.av[t]? = s'.av[i]? ∧i<s'.av.length∧(i<ts.length→t<s.av.length∧ts[i]? = some t)∧(ts.length≤i→s.av.length≤t):=by
  intro i t hi
  rw [CP]at hi
  split at hi
  ·rename_i h1
   have hD:=EJ t (List.mem_of_getElem? hi)
   refine⟨by rw [st,zL];omega,by rw [st,q1 i t hi],by omega,fun _=>⟨hD,hi⟩,fun h=>by omega⟩
  ·split at hi
   ·rename_i h1 h2
    cases hi
    refine⟨by rw [st,zL];omega, ?_,h2,fun h=>by omega,fun _=>by omega⟩
    rw [st,q3,show ts.length+(i - ts.length)=i by omega]
   ·cases hi
 -- all others
 have uo : ∀ o,o<s2.au.length→posOf iB o=none→o<s.au.length∧o∉os∧s2.au[o]? = s.au[o]? :=by
  intro o hD hp
  have kR : ∀ i,iB[i]? ≠some o:=fun i hi=>by rw [iQ nd hi]at hp;cases hp
  have h1:o<s.au.length:=by
   rcases Nat.lt_or_ge o s.au.length with h | h
   ·exact h
   ·exfalso
    rw [so,zK]at hD
    refine kR (os.length+(o - s.au.length)) ?_
    rw [CO,if_neg (by omega),if_pos (by omega)]
    congr 1;omega
  have h2:o∉os:=fun hm=>by
   obtain⟨i,hi⟩:=List.mem_iff_getElem?.1 hm
   have mg:=(List.getElem?_eq_some_iff.1 hi).1
   exact kR i (by rw [CO,if_pos mg];exact hi)
  exact⟨h1,h2,by rw [so,p2 o h1 h2]⟩
 have ut : ∀ t,t<s2.av.length→posOf kQ t=none→t<s.av.length∧t∉ts∧s2.av[t]? = s.av[t]? :=by
  intro t hD hp
  have kR : ∀ i,kQ[i]? ≠some t:=fun i hi=>by rw [iQ QU hi]at hp;cases hp
  have h1:t<s.av.length:=by
   rcases Nat.lt_or_ge t s.av.length with h | h
   ·exact h
   ·exfalso
    rw [st,zL]at hD
    refine kR (ts.length+(t - s.av.length)) ?_
    rw [CP,if_neg (by omega),if_pos (by omega)]
    congr 1;omega
  have h2:t∉ts:=fun hm=>by
   obtain⟨i,hi⟩:=List.mem_iff_getElem?.1 hm
   have mg:=(List.getElem?_eq_some_iff.1 hi).1
   exact kR i (by rw [CP,if_pos mg];exact hi)
  exact⟨h1,h2,by rw [st,q2 t h1 h2]⟩
 generalize Fe:qY M pV iB kQ=M2
 have mG:pV.G=M2.G:=by rw [← Fe];rfl
 have lo : ∀ (i o:Nat),iB[i]? = some o→M2.loc o=pV.loc i:=fun i o hi=>by rw [← Fe];simp only [qY,iQ nd hi]
 have JV : ∀ o,posOf iB o=none→M2.loc o=M.loc o:=fun o hp=>by rw [← Fe];simp only [qY,hp]
 have mo : ∀ (i o:Nat),iB[i]? = some o→M2.mu o=pV.mu i:=fun i o hi=>congrArg Prod.fst (lo i o hi)
 have zM : ∀ o,posOf iB o=none→M2.mu o=M.mu o:=fun o hp=>congrArg Prod.fst (JV o hp)
 have mt : ∀ (i t:Nat),kQ[i]? = some t→M2.be t=pV.be i:=fun i t hi=>by rw [← Fe];simp only [qY,iQ QU hi]
 have zN : ∀ t,posOf kQ t=none→M2.be t=M.be t:=fun t hp=>by rw [← Fe];simp only [qY,hp]
 have le:Le M s M2 s2:=by
  refine⟨fun b o v hg=>by rw [← mG];exact e.le.G b o v hg,by rw [so,zK];omega,fun o hD=> ?_,by rw [st,zL];omega,fun t n' hD qV=> ?_⟩
  ·cases hp:posOf iB o with
   | none=>exact JV o hp
   | some i=>
    have hi:=fx hp
    rw [lo i o hi]
    obtain⟨_,_,_,h1,h2⟩:=fo i o hi
    have mg:i<os.length:=by
     rcases Nat.lt_or_ge i os.length with h | h
     ·exact h
     ·have:=h2 h;omega
    rw [e.le.loc i (by omega),loc i o (h1 mg).2]
  ·cases hp:posOf kQ t with
   | none=>
    obtain⟨_,_,h3⟩:=ut t (by rw [st,zL];omega) hp
    rw [h3]at qV
    exact⟨n',qV,Nat.le_refl _,fun _=>zN t hp⟩
   | some i=>
    have hi:=fx hp
    obtain⟨_,g1,_,h1,h2⟩:=ft i t hi
    have mg:i<ts.length:=by
     rcases Nat.lt_or_ge i ts.length with h | h
     ·exact h
     ·have:=h2 h;omega
    rw [g1]at qV
    obtain⟨n,h3,h4,h5⟩:=e.le.tk i n' (by omega) qV
    refine⟨n,by rw [← oa i t (h1 mg).2];exact h3,h4,fun eq=> ?_⟩
    rw [mt i t hi,h5 eq,be i t (h1 mg).2]
 have MA : ∀ {d:D} {v:Value},RD pV s' d v→RD M2 s2 (d.cJ iB kQ) v:=fun hd=>RD.cJ mG
  (fun i hi=>by
   obtain⟨o,ho⟩ : ∃ o,iB[i]? = some o:=by
    rw [CO];split
    ·rename_i h1;exact⟨_,List.getElem?_eq_getElem h1⟩
    ·exact⟨_,rfl⟩
   exact⟨o,ho,(fo i o ho).1,lo i o ho⟩)
  (fun i hi=>by
   obtain⟨t,ht⟩ : ∃ t,kQ[i]? = some t:=by
    rw [CP];split
    ·rename_i h1;exact⟨_,List.getElem?_eq_getElem h1⟩
    ·exact⟨_,rfl⟩
   exact⟨t,ht,(ft i t ht).1,(ft i t ht).2.1,mt i t ht⟩) hd
 -- blocks that the callee did not know
 have yX : ∀ i,s0.live i→∃ t,ts[i]? = some t∧s.live t:=fun i ⟨n,hn⟩=>by
  have hD:=(List.getElem?_eq_some_iff.1 hn).1
  have e1:ts[i]? = some ts[i]:=List.getElem?_eq_getElem (by omega)
  exact⟨_,e1,n,by rw [← oa i _ e1];exact hn⟩
 have CQ : ∀ b,b<w.heap.size→(∀ (i o:Nat),os[i]? = some o→M.mu o≠b)→(∀ (i t:Nat) c z,ts[i]? = some t→s.live t→M.be t≠some (b,c,z))→
  w'.heap[b]? = w.heap[b]? ∧∀ off,pV.G b off=M.G b off:=by
  intro b hb h1 h2
  refine⟨e.kept b hb (fun i hi=> ?_) (fun i c z hl=> ?_),fun off=> ?_⟩
  ·have e1:os[i]? = some os[i]:=List.getElem?_eq_getElem (by omega)
   rw [mu i _ e1];exact h1 i _ e1
  ·obtain⟨t,e1,hD⟩:=yX i hl
   rw [be i t e1];exact h2 i t c z e1 hD
  ·apply Classical.byContradiction
   intro dQ
   rcases e.n8 b off dQ with h3 | ⟨i,c,z,hl,h3⟩
   ·omega
   ·obtain⟨t,e1,hD⟩:=yX i hl
    rw [be i t e1]at h3
    exact h2 i t c z e1 hD h3
 have JW : ∀ o,o<s.au.length→o∉os→w'.heap[M.mu o]? = w.heap[M.mu o]? ∧∀ off,pV.G (M.mu o) off=M.G (M.mu o) off:=fun o hD kR=>
  CQ _ (r.mc hD) (fun i o' h1 h2=>kR (by rw [← r.inj o' o (ly o' (List.mem_of_getElem? h1)) hD h2];exact List.mem_of_getElem? h1))
   (fun i t c z _ hl h2=>r.dI t _ c z o hl h2 hD rfl)
 have Pu : ∀ t b c z,s.live t→t∉ts→M.be t=some (b,c,z)→w'.heap[b]? = w.heap[b]? ∧∀ off,pV.G b off=M.G b off:=fun t b c z hl kR hb=>
  CQ b (r.oN hl hb) (fun i o h1=>r.dI t b c z o hl hb (ly o (List.mem_of_getElem? h1)))
   (fun i t' c' z' h1 ld h2=>kR (by rw [r.eA t t' b c z c' z' hl ld hb h2];exact List.mem_of_getElem? h1))
 have lv : ∀ t,s2.live t→(∃ i,kQ[i]? = some t∧s'.live i)∨(posOf kQ t=none∧s.live t∧t∉ts):=by
  rintro t ⟨n,hn⟩
  cases hp:posOf kQ t with
  | none=>
   obtain⟨h1,h2,h3⟩:=ut t (List.getElem?_eq_some_iff.1 hn).1 hp
   exact .inr ⟨rfl,⟨n,by rw [← h3];exact hn⟩,h2⟩
  | some i=>
   have hi:=fx hp
   exact .inl ⟨i,hi,n,by rw [← (ft i t hi).2.1];exact hn⟩
 -- where a framed object lies
 have JX : ∀ (i o:Nat),iB[i]? = some o→(o<s.au.length∧o∈os∧pV.mu i=M.mu o)∨w.heap.size≤pV.mu i:=by
  intro i o hi
  obtain⟨_,_,h1,h2,h3⟩:=fo i o hi
  rcases Nat.lt_or_ge i os.length with h | h
  ·refine .inl ⟨(h2 h).1,List.mem_of_getElem? (h2 h).2, ?_⟩
   rw [e.le.mu i (by omega),mu i o (h2 h).2]
  ·exact .inr (e.l8 i (by omega) h1)
 have JY : ∀ (i t b c z:Nat),kQ[i]? = some t→s'.live i→pV.be i=some (b,c,z)→(s.live t∧t∈ts∧∃ c' z',M.be t=some (b,c',z'))∨w.heap.size≤b:=by
  intro i t b c z hi hl hb
  rcases e.l9 i b c z hl hb with ⟨h1,c',z',h2⟩ | h1
  ·obtain⟨t',e1,hD⟩:=yX i h1
   have mg:=(List.getElem?_eq_some_iff.1 e1).1
   obtain⟨_,_,_,h3,_⟩:=ft i t hi
   have:=(h3 mg).2
   rw [e1]at this;cases this
   rw [be i _ e1]at h2
   exact .inl ⟨hD,List.mem_of_getElem? e1,c',z',h2⟩
  ·exact .inr h1
 refine⟨M2,d.cJ iB kQ,v,s2,rfl,mT, ?_, ?_,MA hv⟩
 ·-- Ext
  refine⟨le,fun b hb h1 h2=> ?_,fun o h1 h2=> ?_,fun t b c z hl hb=> ?_,fun b off dQ=> ?_,e.size,e.os,e.tape,e.output⟩
  ·exact(CQ b hb (fun i o h3=>h1 o (ly o (List.mem_of_getElem? h3))) (fun i t c z _ hl=>h2 t c z hl)).1
  ·cases hp:posOf iB o with
   | none=>have:=(uo o h2 hp).1;omega
   | some i=>
    have hi:=fx hp
    rw [mo i o hi]
    rcases JX i o hi with ⟨h3,_⟩ | h3
    ·omega
    ·exact h3
  ·rcases lv t hl with ⟨i,hi,ld⟩ | ⟨hp,ld,_⟩
   ·rw [mt i t hi]at hb
    rcases JY i t b c z hi ld hb with ⟨h1,_,h2⟩ | h1
    ·exact .inl ⟨h1,h2⟩
    ·exact .inr h1
   ·rw [zN t hp]at hb
    exact .inl ⟨ld,c,z,hb⟩
  ·rw [← mG]at dQ
   rcases e.n8 b off dQ with h1 | ⟨i,c,z,hl,hb⟩
   ·exact .inl h1
   ·obtain⟨t,e1,hD⟩:=yX i hl
    rw [be i t e1]at hb
    exact .inr ⟨t,c,z,hD,hb⟩
 ·-- Rel
  refine⟨fun b o v hg=>r'.comm b o v (by rw [mG];exact hg),fun o ds vQ=> ?_,fun o hD off=> ?_,fun o o' hD uD heq=> ?_,fun t n hn=> ?_,fun t b c z o hl hb hD=> ?_,fun t t' b c z c' z' hl ld hb pW=> ?_⟩
  ·cases hp:posOf iB o with
   | some i=>
    have hi:=fx hp
    obtain⟨_,g1,_⟩:=fo i o hi
    rw [g1]at vQ
    obtain⟨kr,h1,rfl⟩:=Option.map_eq_some_iff.1 vQ
    obtain⟨vs,T,h2,h3,h4,h5⟩:=r'.obj i kr h1
    refine⟨vs,T,by rw [mo i o hi,show M2.ob o=pV.ob i from congrArg Prod.snd (lo i o hi)];exact h2,by rw [ej];simpa using h3,⟨h4.1,by rw [show M2.ty o=pV.ty i from congrArg (fun x=>x.2.ty?) (lo i o hi)];exact h4.2⟩,fun j d v e1 e2=> ?_⟩
    rw [ej]at e1
    simp only [List.getElem?_map,Option.map_eq_some_iff]at e1
    obtain⟨d',e1,rfl⟩:=e1
    exact MA (h5 j d' v e1 e2)
   | none=>
    obtain⟨h1,h2,h3⟩:=uo o (List.getElem?_eq_some_iff.1 vQ).1 hp
    rw [h3]at vQ
    obtain⟨vs,T,g1,g2,g3,g4⟩:=r.obj o ds vQ
    exact⟨vs,T,by rw [zM o hp,(JW o h1 h2).1,show M2.ob o=M.ob o from congrArg Prod.snd (JV o hp)];exact g1,g2,⟨g3.1,by rw [show M2.ty o=M.ty o from congrArg (fun x=>x.2.ty?) (JV o hp)];exact g3.2⟩,fun j d v e1 e2=>(g4 j d v e1 e2).mono le⟩
  ·cases hp:posOf iB o with
   | some i=>
    have hi:=fx hp
    rw [mo i o hi, ← mG];exact r'.hZ i (fo i o hi).2.2.1 off
   | none=>
    obtain⟨h1,h2,h3⟩:=uo o hD hp
    rw [zM o hp, ← mG,(JW o h1 h2).2 off];exact r.hZ o h1 off
  ·cases hp:posOf iB o with
   | some i=>
    have hi:=fx hp
    rw [mo i o hi]at heq
    cases kz:posOf iB o' with
    | some i'=>
     have fU:=fx kz
     rw [mo i' o' fU]at heq
     have:=r'.inj i i' (fo i o hi).2.2.1 (fo i' o' fU).2.2.1 heq
     subst this
     rw [hi]at fU;cases fU;rfl
    | none=>
     obtain⟨h1,h2,_⟩:=uo o' uD kz
     rw [zM o' kz]at heq
     rcases JX i o hi with ⟨h3,h4,h5⟩ | h3
     ·rw [h5]at heq
      have:=r.inj o o' h3 h1 heq
      subst this;exact(h2 h4).elim
     ·have:=r.mc h1;omega
   | none=>
    obtain⟨h1,h2,_⟩:=uo o hD hp
    rw [zM o hp]at heq
    cases kz:posOf iB o' with
    | some i'=>
     have fU:=fx kz
     rw [mo i' o' fU]at heq
     rcases JX i' o' fU with ⟨h3,h4,h5⟩ | h3
     ·rw [h5]at heq
      have:=r.inj o o' h1 h3 heq
      subst this;exact(h2 h4).elim
     ·have:=r.mc h1;omega
    | none=>
     obtain⟨mV,_,_⟩:=uo o' uD kz
     rw [zM o' kz]at heq
     exact r.inj o o' h1 mV heq
  ·rcases lv t ⟨n,hn⟩with ⟨i,hi,hl⟩ | ⟨hp,hl,kR⟩
   ·rw [mt i t hi, ← mG]
    exact r'.tok i n (by rw [← (ft i t hi).2.1];exact hn)
   ·obtain⟨_,_,h3⟩:=ut t (List.getElem?_eq_some_iff.1 hn).1 hp
    rw [h3]at hn
    rw [zN t hp]
    rcases r.tok t n hn with h4 | ⟨b,cap,size,vs,T,g1,g2,g3,g4,g5⟩
    ·exact .inl h4
    ·obtain⟨k1,k2⟩:=Pu t b cap size hl kR g1
     exact .inr ⟨b,cap,size,vs,T,g1,by rw [k1];exact g2,g3,g4,fun off ho=>by rw [← mG,k2 off];exact g5.1 off ho,g5.2⟩
  ·rcases lv t hl with ⟨i,hi,ld⟩ | ⟨hp,ld,kR⟩
   ·rw [mt i t hi]at hb
    cases zO:posOf iB o with
    | some j=>
     have hj:=fx zO
     rw [mo j o hj]
     exact r'.dI i b c z j ld hb (fo j o hj).2.2.1
    | none=>
     obtain⟨h1,h2,_⟩:=uo o hD zO
     rw [zM o zO]
     rcases JY i t b c z hi ld hb with ⟨h3,_,c',z',h4⟩ | h3
     ·exact r.dI t b c' z' o h3 h4 h1
     ·have:=r.mc h1;omega
   ·rw [zN t hp]at hb
    cases zO:posOf iB o with
    | some j=>
     have hj:=fx zO
     rw [mo j o hj]
     rcases JX j o hj with ⟨h3,_,h5⟩ | h3
     ·rw [h5];exact r.dI t b c z o ld hb h3
     ·have:=r.oN ld hb;omega
    | none=>
     obtain⟨h1,_,_⟩:=uo o hD zO
     rw [zM o zO];exact r.dI t b c z o ld hb h1
  ·rcases lv t hl with ⟨i,hi,sm⟩ | ⟨hp,hD,kR⟩
   ·rw [mt i t hi]at hb
    rcases lv t' ld with ⟨i',fU,Hz⟩ | ⟨kz,uD,JZ⟩
    ·rw [mt i' t' fU]at pW
     have:=r'.eA i i' b c z c' z' sm Hz hb pW
     subst this
     rw [hi]at fU;cases fU;rfl
    ·rw [zN t' kz]at pW
     rcases JY i t b c z hi sm hb with ⟨h3,h4,c2,z2,h5⟩ | h3
     ·have:=r.eA t t' b c2 z2 c' z' h3 uD h5 pW
      subst this;exact(JZ h4).elim
     ·have:=r.oN uD pW;omega
   ·rw [zN t hp]at hb
    rcases lv t' ld with ⟨i',fU,Hz⟩ | ⟨kz,uD,JZ⟩
    ·rw [mt i' t' fU]at pW
     rcases JY i' t' b c' z' fU Hz pW with ⟨h3,h4,c2,z2,h5⟩ | h3
     ·have:=r.eA t t' b c z c2 z2 hD h3 hb h5
      subst this;exact(kR h4).elim
     ·have:=r.oN hD hb;omega
    ·rw [zN t' kz]at pW
     exact r.eA t t' b c z c' z' hD uD hb pW
end Go.Abs

/-! Walk -/

namespace Go.Abs
def Wk (d d':D):Prop:=∀ (M:Map) (s:St) (v:Value),RD M s d v→RD M s d' v
inductive jq:List D→List D→Prop where
 | nil:jq [] []
 | cons {d d':D} {l l':List D} (h:Wk d d') (t:jq l l'):jq (d::l) (d'::l')
inductive fH:List (List D)→List (List D)→Prop where
 | nil:fH [] []
 | cons {r r':List D} {l l':List (List D)} (h:jq r r') (t:fH l l'):fH (r::l) (r'::l')
theorem Wk.refl (d:D):Wk d d:=fun _ _ _ h=>h
theorem Wk.trans {a b c:D} (h:Wk a b) (k:Wk b c):Wk a c:=fun M s v r=>k M s v (h M s v r)
theorem Wk.junk (d:D):Wk d .junk:=fun _ _ v _=> .junk v
theorem jq.refl : ∀ l,jq l l
 | []=> .nil
 | d::l=> .cons (Wk.refl d) (jq.refl l)
theorem fH.refl : ∀ l,fH l l
 | []=> .nil
 | d::l=> .cons (jq.refl d) (fH.refl l)
theorem jq.len {l l':List D} (h:jq l l'):l.length=l'.length:=by
 induction h with
 | nil=>rfl
 | cons _ _ ih=>simp [ih]
theorem fH.len {l l':List (List D)} (h:fH l l'):l.length=l'.length:=by
 induction h with
 | nil=>rfl
 | cons _ _ ih=>simp [ih]
theorem jq.get {l l':List D} (h:jq l l') : ∀ {i:Nat} {d':D},l'[i]? = some d'→∃ d,l[i]? = some d∧Wk d d':=by
 induction h with
 | nil=>intro i d' e;simp at e
 | cons hd _ ih=>
  intro i d' e
  cases i with
  | zero=>simp at e;subst e;exact⟨_,rfl,hd⟩
  | succ i=>simp at e;simpa using ih e
theorem fH.get {l l':List (List D)} (h:fH l l') : ∀ {i:Nat} {d':List D},l'[i]? = some d'→∃ d,l[i]? = some d∧jq d d':=by
 induction h with
 | nil=>intro i d' e;simp at e
 | cons hd _ ih=>
  intro i d' e
  cases i with
  | zero=>simp at e;subst e;exact⟨_,rfl,hd⟩
  | succ i=>simp at e;simpa using ih e
theorem fH.append {a a' b b':List (List D)} (h:fH a a') (k:fH b b'):fH (a++b) (a'++b'):=by
 induction h with
 | nil=>exact k
 | cons hd _ ih=>exact .cons hd ih
theorem Wk.agg {l l':List D} (h:jq l l'):Wk (.agg l) (.agg l'):=by
 intro M s v r
 cases r with
 | agg _ vs hl h1 hr=>
  refine .agg _ vs (by rw [← hl,h.len]) h1 fun i d' u e e2=> ?_
  obtain⟨d,e1,hw⟩:=h.get e
  exact hw M s u (hr i d u e1 e2)
theorem Wk.tuple {l l':List D} (h:jq l l'):Wk (.tuple l) (.tuple l'):=by
 intro M s v r
 cases r with
 | tuple _ vs hl hr=>
  refine .tuple _ vs (by rw [← hl,h.len]) fun i d' u e e2=> ?_
  obtain⟨d,e1,hw⟩:=h.get e
  exact hw M s u (hr i d u e1 e2)
theorem Wk.rows {g:Tag} {z:Nat} {l l':List (List D)} (h:fH l l'):Wk (.slice g z l) (.slice g z l'):=by
 intro M s v r
 cases r with
 | gb _ _ cap hc ht=>cases h;exact .gb _ _ _ hc ht
 | jL _ a cap=>cases h;exact .jL _ a cap
 | slice _ _ _ b k cap hl hs h1 h2 ht=>
  rw [h.len]
  refine .slice g z l' b k cap (by rw [← h.len];exact hl) (fun row hm=> ?_) (fun i row j d e e2=> ?_) (fun i row j d u e e2 eu=> ?_) (by rw [← h.len];exact ht)
  ·obtain⟨i,hi,he⟩:=List.mem_iff_getElem.1 hm
   obtain⟨r0,g1,g2⟩:=h.get (i:=i) (by rw [List.getElem?_eq_getElem hi,he])
   rw [← g2.len];exact hs r0 (List.mem_of_getElem? g1)
  ·obtain⟨r0,g1,g2⟩:=h.get e
   obtain⟨d0,g3,_⟩:=g2.get e2
   exact h1 i r0 j d0 g1 g3
  ·obtain⟨r0,g1,g2⟩:=h.get e
   obtain⟨d0,g3,g4⟩:=g2.get e2
   exact g4 M s u (h2 i r0 j d0 u g1 g3 eu)
theorem Wk.shared (g:Tag) (z:Nat) (l:List (List D)):Wk (.slice g z l) (.slice .shared z l):=by
 intro M s v r
 cases r with
 | gb _ _ cap hc ht=>exact .gb _ _ _ hc trivial
 | jL _ a cap=>exact .jL _ a cap
 | slice _ _ _ b k cap hl hs h1 h2 ht=>exact .slice _ _ _ b k cap hl hs h1 h2 trivial
theorem Wk.slice {g:Tag} {z:Nat} {l l':List (List D)} (h:fH l l'):Wk (.slice g z l) (.slice .shared z l'):=(Wk.shared g z l).trans (Wk.rows h)
theorem Wk.nil (g:Tag) (z z':Nat):Wk (.slice g z []) (.slice .shared z' []):=by
 intro M s v r
 cases r with
 | gb _ _ cap hc ht=>exact .gb _ _ _ hc trivial
 | jL _ a cap=>exact .jL _ a cap
 | slice _ _ _ b k cap hl hs h1 h2 ht=>exact .slice _ _ [] b k cap hl (by simp) (by simp) (by simp) trivial
theorem Wk.RU (z z':Nat):Wk (.slice .full z []) (.slice .full z' []):=by
 intro M s v r
 cases r with
 | gb _ _ cap hc ht=>exact .gb _ _ _ hc ht
 | slice _ _ _ b k cap hl hs h1 h2 ht=>exact .slice _ _ [] b k cap hl (by simp) (by simp) (by simp) ht
theorem Rel.zP {M:Map} {s:St} {w:World} {au:List (List D)} (r:Rel M s w) (h:fH s.au au):Rel M ⟨au,s.av⟩ w∧Le M s M ⟨au,s.av⟩:=by
 have le:Le M s M ⟨au,s.av⟩:=⟨fun _ _ _ h=>h,Nat.le_of_eq h.len,fun _ _=>rfl,Nat.le_refl _,fun t n' _ e=>⟨n',e,Nat.le_refl _,fun _=>rfl⟩⟩
 have hl:=h.len
 refine⟨⟨r.comm,fun o ds e=> ?_,fun o ho=>r.hZ o (by rw [hl];exact ho),fun o o' ho jI=>r.inj o o' (by rw [hl];exact ho) (by rw [hl];exact jI),r.tok,
  fun t b c z o hv e ho=>r.dI t b c z o hv e (by rw [hl];exact ho),r.eA⟩,le⟩
 obtain⟨QV,g1,g2⟩:=h.get e
 obtain⟨vs,T,h1,h2,h3,h4⟩:=r.obj o QV g1
 refine⟨vs,T,h1,by rw [h2,g2.len],h3,fun i d v e1 e2=> ?_⟩
 obtain⟨d0,k1,k2⟩:=g2.get e1
 exact(k2 _ _ _ (h4 i d0 v k1 e2)).mono le
theorem Rel.blank {M:Map} {s:St} {w:World} (r:Rel M s w) :
 Rel (M.c6 s.av.length none) {s with av:=s.av++ [some 0]} w∧Le M s (M.c6 s.av.length none) {s with av:=s.av++ [some 0]}:=by
 have fl : ∀ t,St.live {s with av:=s.av++ [some 0]} t→s.live t∨t=s.av.length:=by
  rintro t ⟨k,hk⟩
  rcases Nat.lt_or_ge t s.av.length with h | h
  ·rw [List.getElem?_append_left h]at hk;exact .inl ⟨k,hk⟩
  ·have:=(List.getElem?_eq_some_iff.1 hk).1
   simp at this;exact .inr (by omega)
 have hD : ∀ t,s.live t→t<s.av.length:=fun t ⟨k,hk⟩=>(List.getElem?_eq_some_iff.1 hk).1
 have hold : ∀ t,t<s.av.length→(M.c6 s.av.length none).be t=M.be t:=fun t h=>by simp [Map.c6];omega
 have cU:(M.c6 s.av.length none).be s.av.length=none:=by simp [Map.c6]
 have le:Le M s (M.c6 s.av.length none) {s with av:=s.av++ [some 0]}:=
  ⟨fun _ _ _ h=>h,Nat.le_refl _,fun _ _=>rfl,by simp,fun t k h e=>by
   rw [List.getElem?_append_left h]at e
   exact⟨k,e,Nat.le_refl _,fun _=>hold t h⟩⟩
 refine⟨⟨r.comm,fun o ds e=> ?_,r.hZ,r.inj,fun t k e=> ?_,fun t b' c z o hl e jI=> ?_,fun t t' b' c z c' z' h h' e e'=> ?_⟩,le⟩
 ·obtain⟨dV,T',h3,h4,h5,h6⟩:=r.obj o ds e
  exact⟨dV,T',h3,h4,h5,fun i d v e1 e2=>(h6 i d v e1 e2).mono le⟩
 ·rcases Nat.lt_or_ge t s.av.length with h | h
  ·rw [List.getElem?_append_left h]at e
   rw [hold t h];exact r.tok t k e
  ·have:=(List.getElem?_eq_some_iff.1 e).1
   simp at this
   have:t=s.av.length:=by omega
   subst this
   simp at e;subst e
   exact .inl ⟨cU,rfl⟩
 ·rcases fl t hl with h | h
  ·rw [hold t (hD t h)]at e;exact r.dI t b' c z o h e jI
  ·subst h;rw [cU]at e;cases e
 ·rcases fl t h with h | h <;> rcases fl t' h' with h' | h'
  ·rw [hold t (hD t h)]at e;rw [hold t' (hD t' h')]at e';exact r.eA t t' b' c z c' z' h h' e e'
  ·subst h';rw [cU]at e';cases e'
  ·subst h;rw [cU]at e;cases e
  ·omega
theorem RD.own {M:Map} {s:St} {z z':Nat} {v:Value} (h:RD M s (.slice .full z []) v):RD (M.c6 s.av.length none) {s with av:=s.av++ [some 0]} (.slice (.tok s.av.length) z' []) v:=by
 have key : ∀ base:Option (Nat×Nat),fw (M.c6 s.av.length none) {s with av:=s.av++ [some 0]} (.tok s.av.length) z' 0 base 0:=by
  intro base
  refine⟨by simp,fun n e=> ?_⟩
  simp at e
  subst e
  exact⟨Nat.le_refl _,fun _=> .inl ⟨by simp [Map.c6],rfl,fun h=>by cases h⟩⟩
 cases h with
 | gb _ _ cap hc ht=>subst hc;exact .gb _ _ _ rfl (key none)
 | slice _ _ _ b k cap hl hs h1 h2 ht=>
  have:cap=0:=ht
  subst this
  exact .slice _ _ [] b k 0 (Nat.le_refl _) (by simp) (by simp) (by simp) (key _)
section
variable {P:Program} {B:fc} {nt:Nat} {Q:Exit→Tm→St→Prop} {tm:Tm} {s:St}
theorem xR {M0 M:Map} {s0 s:St} {w0 w:World} (e:Ext M0 s0 w0 M s w) (le:Le M s (M.c6 s.av.length none) {s with av:=s.av++ [some 0]}) :
 Ext M0 s0 w0 (M.c6 s.av.length none) {s with av:=s.av++ [some 0]} w:=by
 refine e.trans ⟨le,fun _ _ _ _=>rfl,fun o h1 h2=>absurd h2 (Nat.not_lt.2 h1),fun t b c z hl eq=> ?_,fun _ _ h=>(h rfl).elim,Nat.le_refl _,rfl,rfl,rfl⟩
 obtain⟨k,hk⟩:=hl
 rcases Nat.lt_or_ge t s.av.length with h | h
 ·refine .inl ⟨⟨k,by rw [List.getElem?_append_left h]at hk;exact hk⟩,c,z, ?_⟩
  have:(M.c6 s.av.length none).be t=M.be t:=by simp [Map.c6];omega
  rw [← this];exact eq
 ·have:=(List.getElem?_eq_some_iff.1 hk).1
  simp at this
  have:t=s.av.length:=by omega
  subst this
  simp [Map.c6]at eq
end
def aI (P:Program) (f:Nat) (args:List D) (s:St) (d:D) (s':St):Prop:=dr P f args s fun x y=>x=d∧y=s'
def ni (n m:Nat) (res:List (Nat×Option (Bool×Nat))) (d:D) (s':St):Exit→Tm→St→Prop
 | .normal,tm,s | .ret,tm,s=>∃ l,az res tm s=some l∧Wk ((aB l).fg n m) d∧fH (s.cut n m).au s'.au∧(s.cut n m).av=s'.av
 | _,_,_=>False
theorem dr.zP {P:Program} {f:FuncId} {args vU:List D} {s:St} {Q:D→St→Prop} (ha:jq args vU) (h:dr P f vU s Q):dr P f args s Q:=
 fun M w eD r iu hl hr=>h M w eD r iu (by rw [hl,ha.len]) fun i d v e1 e2=>by
  obtain⟨d0,g1,g2⟩:=ha.get e1
  exact g2 _ _ _ (hr i d0 v g1 e2)
theorem dr.J0 {P:Program} {f:FuncId} {args:List D} {s:St} {Q Q':D→St→Prop} (h:dr P f args s Q) (hq : ∀ d s1,Q d s1→∃ d' s',Wk d d'∧fH s1.au s'.au∧s1.av=s'.av∧Q' d' s'):dr P f args s Q':=
 fun M w eD r iu hl ha=>(h M w eD r iu hl ha).mono fun _ _ ⟨M',d,v,s1,h1,h2,h3,h4,h5⟩=>by
  obtain⟨d',s',g1,g2,g3,g4⟩:=hq d s1 h2
  obtain⟨r',le⟩:=h4.zP g2
  have hs:(⟨s'.au,s1.av⟩:St)=s':=by rw [g3]
  rw [hs]at r' le
  refine⟨M',d',v,s',h1,g4,h3.trans ⟨le,fun _ _ _ _=>rfl,fun o h1 h2=> ?_,fun t b c z hl e=> .inl ⟨by obtain⟨n,hn⟩:=hl;exact⟨n,by rw [g3];exact hn⟩,c,z,e⟩,fun _ _ h=>(h rfl).elim,Nat.le_refl _,rfl,rfl,rfl⟩,r',(g1 _ _ _ h5).mono le⟩
  rw [← g2.len]at h2
  exact absurd h2 (Nat.not_lt.2 h1)
theorem aI.intro {P:Program} {f:FuncId} {af:AF} {args:List D} {s:St} {d:D} {s':St} (h0 : ∃ fn,P.funcs[f]? = some fn∧cF P fn=some af) (hl:args.length≤af.ntmps)
 (h : ∀ B:fc,B.s=s→Sem P B af.ntmps af.body (ni s.au.length s.av.length af.results d s') (ky 0 args) s):aI P f args s d s':=by
 obtain⟨fn,hf,hc⟩:=h0
 refine dr.J0 (dr.intro (Q:=fun d1 s1=>Wk d1 d∧fH s1.au s'.au∧s1.av=s'.av) hf hc hl fun B hB=>(h B hB).mono fun e tm s1 hr=> ?_) fun d1 s1 ⟨h1,h2,h3⟩=>⟨d,s',h1,h2,h3,rfl,rfl⟩
 subst hB
 cases e with
 | normal=>obtain⟨l,h1,h2,h3,h4⟩:=hr;exact⟨l,h1,_,_,Nat.le_refl _,Nat.le_refl _,h2,h3,h4⟩
 | ret=>obtain⟨l,h1,h2,h3,h4⟩:=hr;exact⟨l,h1,_,_,Nat.le_refl _,Nat.le_refl _,h2,h3,h4⟩
 | exit id=>exact hr.elim
 | goto l=>exact hr.elim
 | panic ch=>exact hr.elim
 | outgrown=>exact hr.elim
theorem aI.use {P:Program} {f:FuncId} {args:List D} {s:St} {d:D} {s':St} {Q:D→St→Prop} (h:aI P f args s d s') (hq:Q d s'):dr P f args s Q:=
 dr.mono h fun x y ⟨h1,h2⟩=>by subst h1;subst h2;exact hq
mutual
theorem nj (os ts:List Nat) : ∀ d,D.ok 0 0 d=true→D.cJ os ts d=d
 | .junk,_=>by simp [D.cJ]
 | .int k n,_=>by simp [D.cJ]
 | .bool b,_=>by simp [D.cJ]
 | .str l,_=>by simp [D.cJ]
 | .dR,_=>by simp [D.cJ]
 | .val v,_=>by simp [D.cJ]
 | .dT T o,h=>by simp [D.ok]at h
 | .eU o,h=>by simp [D.ok]at h
 | .eW f cs,h=>by
  simp only [D.ok]at h
  simp only [D.cJ,e8 os ts cs h]
 | .ptr o f,h=>by simp [D.ok]at h
 | .cL r f,h=>by
  simp only [D.ok]at h
  simp only [D.cJ,e8 os ts r h]
 | .slice g z rows,h=>by
  simp only [D.ok,Bool.and_eq_true]at h
  simp only [D.cJ,jJ os ts rows h.2]
  cases g with
  | tok t y=>simp [Tag.ok]at h
  | full=>rfl
  | shared=>rfl
 | .agg cs,h=>by
  simp only [D.ok]at h
  simp only [D.cJ,e8 os ts cs h]
 | .tuple cs,h=>by
  simp only [D.ok]at h
  simp only [D.cJ,e8 os ts cs h]
theorem e8 (os ts:List Nat) : ∀ l,D.bI 0 0 l=true→D.e7 os ts l=l
 | [],_=>by simp [D.e7]
 | d::r,h=>by
  simp only [D.bI,Bool.and_eq_true]at h
  simp only [D.e7,nj os ts d h.1,e8 os ts r h.2]
theorem jJ (os ts:List Nat) : ∀ l,D.gG 0 0 l=true→D.oe os ts l=l
 | [],_=>by simp [D.oe]
 | d::r,h=>by
  simp only [D.gG,Bool.and_eq_true]at h
  simp only [D.oe,e8 os ts d h.1,jJ os ts r h.2]
end
mutual
theorem w7 {n m n' m':Nat} (hn:n≤n') (hm:m≤m') : ∀ d,D.ok n m d=true→D.ok n' m' d=true
 | .junk,_=>rfl
 | .int k n,_=>rfl
 | .bool b,_=>rfl
 | .str l,_=>rfl
 | .dR,_=>rfl
 | .val v,_=>rfl
 | .dT T o,h=>by simp [D.ok]at h ⊢;omega
 | .eU o,h=>by simp [D.ok]at h ⊢;omega
 | .eW f cs,h=>by
  simp only [D.ok]at h ⊢
  exact gA hn hm cs h
 | .ptr o f,h=>by simp only [D.ok,decide_eq_true_eq]at h ⊢;omega
 | .cL r f,h=>by
  simp only [D.ok]at h ⊢
  exact gA hn hm r h
 | .slice g z rows,h=>by
  simp only [D.ok,Bool.and_eq_true]at h ⊢
  refine⟨?_,lN hn hm rows h.2⟩
  cases g with
  | tok t y=>simp only [Tag.ok,decide_eq_true_eq]at h ⊢;omega
  | full=>rfl
  | shared=>rfl
 | .agg cs,h=>by
  simp only [D.ok]at h ⊢
  exact gA hn hm cs h
 | .tuple cs,h=>by
  simp only [D.ok]at h ⊢
  exact gA hn hm cs h
theorem gA {n m n' m':Nat} (hn:n≤n') (hm:m≤m') : ∀ l,D.bI n m l=true→D.bI n' m' l=true
 | [],_=>rfl
 | d::r,h=>by
  simp only [D.bI,Bool.and_eq_true]at h ⊢
  exact⟨w7 hn hm d h.1,gA hn hm r h.2⟩
theorem lN {n m n' m':Nat} (hn:n≤n') (hm:m≤m') : ∀ l,D.gG n m l=true→D.gG n' m' l=true
 | [],_=>rfl
 | d::r,h=>by
  simp only [D.gG,Bool.and_eq_true]at h ⊢
  exact⟨gA hn hm d h.1,lN hn hm r h.2⟩
end
def S0:St:=⟨[],[]⟩
section
variable {P:Program} {f:Nat}
theorem aI.pure {args:List D} {d:D} (h:aI P f args S0 d S0) (ha:D.bI 0 0 args=true) (hd:D.ok 0 0 d=true) (s:St):aI P f args s d s:=by
 refine dr.frame [] [] h List.nodup_nil List.nodup_nil (by simp) (by simp) rfl (by simp) rfl (by simp) (by rw [e8 _ _ _ ha]) ha ?_
 rintro _ _ ⟨rfl,rfl⟩
 refine⟨nj _ _ _ hd, ?_⟩
 simp [St.back,ij,S0]
theorem aI.HA {args row kh:List D} {d:D} (h:aI P f (.ptr 0 0::args) ⟨[row],[]⟩ d ⟨[kh],[]⟩) (ha:D.bI 0 0 args=true) (hr:D.bI 0 0 row=true) (ES:D.bI 0 0 kh=true) (hd:D.ok 0 0 d=true)
 {s:St} {o:Nat} (ho:s.au[o]? = some row):aI P f (.ptr o 0::args) s d ⟨s.au.set o kh,s.av⟩:=by
 refine dr.frame [o] [] h (by simp) List.nodup_nil (by simpa using (List.getElem?_eq_some_iff.1 ho).1) (by simp) rfl (fun i o' ds e1 e2=> ?_) rfl (by simp) (by simp [D.e7,D.cJ,e8 _ _ _ ha])
  (by simp [D.bI,D.ok,gA (Nat.zero_le 1) (Nat.le_refl 0) _ ha]) ?_
 ·cases i with
  | zero=>simp at e1 e2;subst e1;subst e2;exact⟨by rw [e8 _ _ _ hr];exact ho,gA (Nat.zero_le 1) (Nat.le_refl 0) _ hr⟩
  | succ i=>simp at e1
 ·rintro _ _ ⟨rfl,rfl⟩
  refine⟨nj _ _ _ hd, ?_⟩
  simp [St.back,ij,e8 _ _ _ ES]
end
end Go.Abs
