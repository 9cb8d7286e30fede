/-
  What is proved here: part 0 of the road to the claim (Globs, Abs, Lang, Rel, Sound, Sound2, Sound3, Sound4, Sound5, Sound6, Sound7, SoundM, Sound8, Code, Flow, Call, Frame, Frame2, Walk).
  No conditions.
-/
import GoSem.Core.Value
import Derived.Orders
import Derived.Calls
import Derived.Below
import Derived.Laws.AppendOwn
import Derived.Deep.AppendSrc
import Derived.Laws.StructEq
import Derived.Laws.Slices
import Derived.Laws.Strings
import Derived.Laws.IdiomStrings
import Derived.Laws.BytesString
import Derived.MapKept
import Derived.Scope

set_option linter.unusedSimpArgs false
set_option linter.unusedVariables false

/-! Globs -/

namespace Go.Abs
def Yv:Nat→Option (Array Value):=fun _=>none
def pj:TypeId:=1000000
end Go.Abs

/-! Abs -/

namespace Go.Abs
inductive Tag where
 | full
 | shared
 | tok (t:Nat) (byte:Bool:=false) -- 'byte': its row's block bears the bytes' type
inductive D where
 | junk
 | int (k:IntKind) (n:Int)
 | bool (b:Bool)
 | str (s:List UInt8)
 | fB
 | ptr (o off:Nat)
 | dU (row:List D) (off:Nat)
 | slice (g:Tag) (size:Nat) (rows:List (List D))
 | agg (cells:List D)
 | tuple (vs:List D)
 | val (v:Value)
 | fT (T:TypeId) (o:Nat)
 | gP (f:Nat) (nu:List D) -- a function value with what it captured
 | gM (o:Nat) -- a map, kept as an object: keys and values by turns
instance:Inhabited D:=⟨.junk⟩
inductive Ob where
 | any
 | ty (T:TypeId)
 | map
structure Map where
 G:Nat→Nat→Option Value
 loc:Nat→Nat×Ob
 be:Nat→Option (Nat×Nat×Nat)
def Map.mu (M:Map) (o:Nat):Nat:=(M.loc o).1
def Ob.ty? : Ob→Option TypeId
 | .ty T=>some T
 | _=>none
def Map.ob (M:Map) (o:Nat):Ob:=(M.loc o).2
def Map.ty (M:Map) (o:Nat):Option TypeId:=(M.loc o).2.ty?
structure St where
 aG:List (List D)
 aH:List (Option Nat)
def zs (z:Nat):Nat:=if z=0 then 1 else z
def bz (byte:Bool) (size:Nat):Nat:=match byte with | true=>0 | false=>size
def iL (M:Map) (s:St) (g:Tag) (size len:Nat) (base:Option (Nat×Nat)) (cap:Nat):Prop:=
 match g with
 | .full=>cap=len
 | .shared=>True
 | .tok t y=>t<s.aH.length∧∀ n,s.aH[t]? = some (some n)→len≤n∧
  (len=n→(M.be t=none∧cap=0∧(y=true→base=none))∨∃ b,base=some (b,0)∧M.be t=some (b,cap,bz y size))
inductive RD (M:Map) (s:St):D→Value→Prop where
 | junk (v:Value):RD M s .junk v
 | int (k:IntKind) (n:Int):RD M s (.int k n) (.int k n)
 | bool (b:Bool):RD M s (.bool b) (.bool b)
 | str (l:List UInt8):RD M s (.str l) (.string ⟨⟨l⟩⟩)
 | fB:RD M s .fB (.pointer none)
 | ptr (o off:Nat) (h:o<s.aG.length) (hm:M.ob o≠ .map):RD M s (.ptr o off) (.pointer (some ⟨M.mu o,off,none⟩))
 | dU (row:List D) (off b k:Nat) (h1 : ∀ (i:Nat) (d:D),row[i]? = some d→∃ u,M.G b (k+i)=some u)
  (h2 : ∀ (i:Nat) (d:D) (u:Value),row[i]? = some d→M.G b (k+i)=some u→RD M s d u) :
  RD M s (.dU row off) (.pointer (some ⟨b,k+off,none⟩))
 | jM (g:Tag) (size cap:Nat) (hc:cap=0) (ht:iL M s g size 0 none cap):RD M s (.slice g size []) (.slice none 0 cap)
 | nw (size:Nat) (a:Addr) (cap:Nat):RD M s (.slice .shared size []) (.slice (some a) 0 cap)
 | slice (g:Tag) (size:Nat) (rows:List (List D)) (b k cap:Nat) (hl:rows.length≤cap)
  (hs : ∀ row∈rows,row.length=size)
  (h1 : ∀ (i:Nat) (row:List D) (j:Nat) (d:D),rows[i]? = some row→row[j]? = some d→∃ u,M.G b (k+(i*size+j))=some u)
  (h2 : ∀ (i:Nat) (row:List D) (j:Nat) (d:D) (u:Value),rows[i]? = some row→row[j]? = some d→M.G b (k+(i*size+j))=some u→RD M s d u)
  (ht:iL M s g size rows.length (some (b,k)) cap) :
  RD M s (.slice g size rows) (.slice (some ⟨b,k,none⟩) rows.length cap)
 | agg (cells:List D) (vs:Array Value) (hl:cells.length=vs.size) (h1 : ∀ v∈vs,v.oneCell'=true)
  (h : ∀ (i:Nat) (d:D) (v:Value),cells[i]? = some d→vs[i]? = some v→RD M s d v):RD M s (.agg cells) (.agg vs)
 | tuple (ds:List D) (vs:Array Value) (hl:ds.length=vs.size)
  (h : ∀ (i:Nat) (d:D) (v:Value),ds[i]? = some d→vs[i]? = some v→RD M s d v):RD M s (.tuple ds) (.tuple vs)
 | val (v:Value) (h:v.oneCell'=true):RD M s (.val v) v
 | fT (T:TypeId) (o:Nat) (v:Value) (h:o<s.aG.length) (ht:M.ty o=some T) (hv:v = .pointer none∨v = .pointer (some ⟨M.mu o,0,none⟩)):RD M s (.fT T o) v
 | gP (f:Nat) (ds:List D) (vs:Array Value) (hl:ds.length=vs.size)
  (h : ∀ (i:Nat) (d:D) (v:Value),ds[i]? = some d→vs[i]? = some v→RD M s d v):RD M s (.gP f ds) (.func (.func f) #[] vs)
 | gM (o:Nat) (h:o<s.aG.length) (hm:M.ob o = .map):RD M s (.gM o) (.map (some (M.mu o)))
structure Le (M:Map) (s:St) (M':Map) (s':St):Prop where
 G : ∀ b o v,M.G b o=some v→M'.G b o=some v
 n:s.aG.length≤s'.aG.length
 loc : ∀ o,o<s.aG.length→M'.loc o=M.loc o
 t:s.aH.length≤s'.aH.length
 tk : ∀ t n',t<s.aH.length→s'.aH[t]? = some (some n')→∃ n,s.aH[t]? = some (some n)∧n≤n'∧(n'=n→M'.be t=M.be t)
theorem Le.mu {M:Map} {s:St} {M':Map} {s':St} (h:Le M s M' s') : ∀ o,o<s.aG.length→M'.mu o=M.mu o:=fun o ho=>congrArg Prod.fst (h.loc o ho)
theorem Le.ob {M:Map} {s:St} {M':Map} {s':St} (h:Le M s M' s') : ∀ o,o<s.aG.length→M'.ob o=M.ob o:=fun o ho=>congrArg Prod.snd (h.loc o ho)
theorem Le.ty {M:Map} {s:St} {M':Map} {s':St} (h:Le M s M' s') : ∀ o,o<s.aG.length→M'.ty o=M.ty o:=fun o ho=>congrArg (fun x=>x.2.ty?) (h.loc o ho)
theorem Le.refl (M:Map) (s:St):Le M s M s:=⟨fun _ _ _ h=>h,Nat.le_refl _,fun _ _=>rfl,Nat.le_refl _,fun _ n _ h=>⟨n,h,Nat.le_refl _,fun _=>rfl⟩⟩
theorem Le.trans {M M' KF:Map} {s s' Ow:St} (h:Le M s M' s') (k:Le M' s' KF Ow):Le M s KF Ow:=
 ⟨fun b o v e=>k.G b o v (h.G b o v e),Nat.le_trans h.n k.n,fun o ho=>(k.loc o (Nat.lt_of_lt_of_le ho h.n)).trans (h.loc o ho),Nat.le_trans h.t k.t,
  fun t n'' ht e=>by
   obtain⟨n',e',l,b⟩:=k.tk t n'' (Nat.lt_of_lt_of_le ht h.t) e
   obtain⟨n,Ox,l',b'⟩:=h.tk t n' ht e'
   refine⟨n,Ox,Nat.le_trans l' l,fun eq=> ?_⟩
   have h1:n'=n:=by omega
   have h2:n''=n':=by omega
   rw [b h2,b' h1]⟩
theorem iL.mono {M M':Map} {s s':St} (h:Le M s M' s') {g:Tag} {size len cap:Nat} {base:Option (Nat×Nat)} (ht:iL M s g size len base cap) :
 iL M' s' g size len base cap:=by
 cases g with
 | full=>exact ht
 | shared=>trivial
 | tok t y=>
  obtain⟨hF,ht⟩:=ht
  refine⟨Nat.lt_of_lt_of_le hF h.t,fun n' e'=> ?_⟩
  obtain⟨n,e,l,b⟩:=h.tk t n' hF e'
  obtain⟨l',b'⟩:=ht n e
  refine⟨Nat.le_trans l' l,fun eq=> ?_⟩
  have h1:n'=n:=by omega
  have h2:len=n:=by omega
  rw [b h1]
  exact b' h2
theorem RD.mono {M M':Map} {s s':St} (h:Le M s M' s') {d:D} {v:Value} (r:RD M s d v):RD M' s' d v:=by
 induction r with
 | junk v=>exact .junk v
 | int k n=>exact .int k n
 | bool b=>exact .bool b
 | str l=>exact .str l
 | fB=>exact .fB
 | ptr o off ho hm=>rw [← h.mu o ho];exact .ptr o off (Nat.lt_of_lt_of_le ho h.n) (by rw [h.ob o ho];exact hm)
 | dU row off b k h1 h2 ih=>
  refine .dU row off b k (fun i d e=> ?_) (fun i d u e eu=> ?_)
  ·obtain⟨u,hu⟩:=h1 i d e;exact⟨u,h.G _ _ _ hu⟩
  ·obtain⟨u',hu⟩:=h1 i d e
   have:=h.G _ _ _ hu
   rw [eu]at this
   cases this
   exact ih i d u e hu
 | jM g size cap hc ht=>exact .jM g size cap hc (ht.mono h)
 | nw size a cap=>exact .nw size a cap
 | slice g size rows b k cap hl hs h1 h2 ht ih=>
  refine .slice g size rows b k cap hl hs (fun i row j d e e2=> ?_) (fun i row j d u e e2 eu=> ?_) (ht.mono h)
  ·obtain⟨u,hu⟩:=h1 i row j d e e2;exact⟨u,h.G _ _ _ hu⟩
  ·obtain⟨u',hu⟩:=h1 i row j d e e2
   have:=h.G _ _ _ hu
   rw [eu]at this
   cases this
   exact ih i row j d u e e2 hu
 | agg cells vs hl h1 _ ih=>exact .agg cells vs hl h1 ih
 | tuple ds vs hl _ ih=>exact .tuple ds vs hl ih
 | val v hv=>exact .val v hv
 | fT T o v ho ht hv=>exact .fT T o v (Nat.lt_of_lt_of_le ho h.n) (by rw [h.ty o ho];exact ht) (by rw [h.mu o ho];exact hv)
 | gP f ds vs hl _ ih=>exact .gP f ds vs hl ih
 | gM o ho hm=>rw [← h.mu o ho];exact .gM o (Nat.lt_of_lt_of_le ho h.n) (by rw [h.ob o ho];exact hm)
def St.live (s:St) (t:Nat):Prop:=∃ n,s.aH[t]? = some (some n)
def ib:List MapEntry→List Value
 | []=> []
 | e::l=>e.key::e.val::ib l
def mD (x:Option Obj) (k:Ob) (vs:Array Value) (T:TypeId):Prop:=
 match k with
 | .map=>∃ es ck,x=some (.map es ck)∧vs.toList=ib es.toList
 | _=>x=some (.cells vs T (0,0))
theorem mD.cells {x:Option Obj} {k:Ob} {vs:Array Value} {T:TypeId} (h:mD x k vs T) (hk:k≠ .map):x=some (.cells vs T (0,0)):=by
 cases k with
 | map=>exact absurd rfl hk
 | any=>exact h
 | ty _=>exact h
theorem mD.of {x:Option Obj} {k:Ob} {vs:Array Value} {T:TypeId} (h:x=some (.cells vs T (0,0))) (hk:k≠ .map):mD x k vs T:=by
 cases k with
 | map=>exact absurd rfl hk
 | any=>exact h
 | ty _=>exact h
theorem mD.some {x:Option Obj} {k:Ob} {vs:Array Value} {T:TypeId} (h:mD x k vs T) : ∃ o,x=some o:=by
 cases k with
 | map=>obtain⟨es,ck,h,_⟩:=h;exact⟨_,h⟩
 | any=>exact⟨_,h⟩
 | ty _=>exact⟨_,h⟩
theorem mD.lt {w:World} {b:Nat} {k:Ob} {vs:Array Value} {T:TypeId} (h:mD w.heap[b]? k vs T):b<w.heap.size:=by
 obtain⟨o,h⟩:=h.some
 exact(Array.getElem?_eq_some_iff.1 h).1
structure Rel (M:Map) (s:St) (w:World):Prop where
 comm : ∀ b o v,M.G b o=some v→w.cell? ⟨b,o,none⟩=some v∧v.oneCell'=true
 obj : ∀ (o:Nat) (ds:List D),s.aG[o]? = some ds→∃ (vs:Array Value) (T:TypeId),mD w.heap[M.mu o]? (M.ob o) vs T∧vs.size=ds.length∧
  ((∀ v∈vs,v.oneCell'=true)∧∀ T',M.ty o=some T'→T'=T)∧∀ (i:Nat) (d:D) (v:Value),ds[i]? = some d→vs[i]? = some v→RD M s d v
 k7 : ∀ o,o<s.aG.length→∀ off,M.G (M.mu o) off=none
 inj : ∀ o o',o<s.aG.length→o'<s.aG.length→M.mu o=M.mu o'→o=o'
 tok : ∀ t n,s.aH[t]? = some (some n)→(M.be t=none∧n=0)∨∃ (b cap z:Nat) (vs:Array Value) (T:TypeId),M.be t=some (b,cap,z)∧
  w.heap[b]? = some (.cells vs T (0,0))∧vs.size=cap*zs z∧n≤cap∧(∀ off,n*zs z≤off→M.G b off=none)∧(z=0→T=pj)
 fL : ∀ t b c z o,s.live t→M.be t=some (b,c,z)→o<s.aG.length→M.mu o≠b
 gq : ∀ t t' b c z c' z',s.live t→s.live t'→M.be t=some (b,c,z)→M.be t'=some (b,c',z')→t=t'
structure Ext (M:Map) (s:St) (w:World) (M':Map) (s':St) (w':World):Prop where
 le:Le M s M' s'
 kept : ∀ b,b<w.heap.size→(∀ o,o<s.aG.length→M.mu o≠b)→(∀ t c z,s.live t→M.be t≠some (b,c,z))→w'.heap[b]? = w.heap[b]?
 qB : ∀ o,s.aG.length≤o→o<s'.aG.length→w.heap.size≤M'.mu o
 qC : ∀ t b c z,s'.live t→M'.be t=some (b,c,z)→(s.live t∧∃ c' z',M.be t=some (b,c',z'))∨w.heap.size≤b
 sZ : ∀ b o,M'.G b o≠M.G b o→w.heap.size≤b∨∃ t c z,s.live t∧M.be t=some (b,c,z)
 size:w.heap.size≤w'.heap.size
 os:w'.os=w.os
 tape:w'.tape=w.tape
 output:w'.output=w.output
theorem Ext.refl (M:Map) (s:St) (w:World):Ext M s w M s w:=
 ⟨Le.refl M s,fun _ _ _ _=>rfl,fun o h h'=>by omega,fun t b c z h e=> .inl ⟨h,c,z,e⟩,fun _ _ h=>(h rfl).elim,Nat.le_refl _,rfl,rfl,rfl⟩
theorem Ext.trans {M M' KF:Map} {s s' Ow:St} {w w' w'':World} (h:Ext M s w M' s' w') (k:Ext M' s' w' KF Ow w''):Ext M s w KF Ow w'':=by
 refine⟨h.le.trans k.le,fun b hb ho ht=> ?_,fun o h1 h2=> ?_,fun t b c z h1 e=> ?_,fun b o fE=> ?_,Nat.le_trans h.size k.size,
  k.os.trans h.os,k.tape.trans h.tape,k.output.trans h.output⟩
 ·rw [k.kept b (Nat.lt_of_lt_of_le hb h.size) (fun o hF e=> ?_) (fun t c z hF e=> ?_),h.kept b hb ho ht]
  ·rcases Nat.lt_or_ge o s.aG.length with h1 | h1
   ·exact ho o h1 ((h.le.mu o h1).symm.trans e)
   ·have:=h.qB o h1 hF;omega
  ·rcases h.qC t b c z hF e with ⟨h1,c',z',e'⟩ | h1
   ·exact ht t c' z' h1 e'
   ·omega
 ·rcases Nat.lt_or_ge o s'.aG.length with h3 | h3
  ·rw [k.le.mu o h3];exact h.qB o h1 h3
  ·exact Nat.le_trans h.size (k.qB o h3 h2)
 ·rcases k.qC t b c z h1 e with ⟨h2,c',z',e'⟩ | h2
  ·exact h.qC t b c' z' h2 e'
  ·exact .inr (Nat.le_trans h.size h2)
 ·by_cases e:M'.G b o=M.G b o
  ·have:KF.G b o≠M'.G b o:=fun e'=>fE (e'.trans e)
   rcases k.sZ b o this with h1 | ⟨t,c,z,h1,h2⟩
   ·exact .inl (Nat.le_trans h.size h1)
   ·rcases h.qC t b c z h1 h2 with ⟨h3,c',z',e'⟩ | h3
    ·exact .inr ⟨t,c',z',h3,e'⟩
    ·exact .inl h3
  ·exact h.sZ b o e
def Laid (M:Map) (s:St) (w:World):Prop:=∀ g cs,Yv g=some cs→
 (∃ T fr,w.heap[g]? = some (.cells cs T fr))∧(∀ o,o<s.aG.length→M.mu o≠g)∧∀ t c z,s.live t→M.be t≠some (g,c,z)
theorem Laid.ext {M M':Map} {s s':St} {w w':World} (h:Laid M s w) (e:Ext M s w M' s' w'):Laid M' s' w':=by
 intro g cs hg
 obtain⟨⟨T,fr,h1⟩,h2,h3⟩:=h g cs hg
 have hF:g<w.heap.size:=(Array.getElem?_eq_some_iff.1 h1).1
 refine⟨⟨T,fr,by rw [e.kept g hF h2 h3];exact h1⟩,fun o ho=> ?_,fun t c z hl hb=> ?_⟩
 ·rcases Nat.lt_or_ge o s.aG.length with h4 | h4
  ·rw [e.le.mu o h4];exact h2 o h4
  ·have:=e.qB o h4 ho;omega
 ·rcases e.qC t g c z hl hb with ⟨h4,c',z',h5⟩ | h4
  ·exact h3 t c' z' h4 h5
  ·omega
end Go.Abs

/-! Lang -/

namespace Go.Abs
abbrev Tm:=List (Nat×D)
def Tm.get:Tm→Nat→D
 | [],_=> .junk
 | (k,d)::r,t=>if k=t then d else Tm.get r t
def Tm.set:Tm→Nat→D→Tm
 | [],t,d=> [(t,d)]
 | (k,e)::r,t,d=>if k=t then(k,d)::r else(k,e)::Tm.set r t d
def Tm.put (tm:Tm) (dst:Option Nat) (d:D):Tm:=
 match dst with
 | some t=>tm.set t d
 | none=>tm
inductive X where
 | s (t:Nat)
 | k (d:D)
def X.ev (tm:Tm):X→D
 | .s t=>tm.get t
 | .k d=>d
inductive AO where
 | mv (x:X)
 | pick (c a b:X)
 | alloc (zero:List D)
 | box (x:X)
 | build (zero:List D) (parts:List (Nat×Nat×X))
 | cG (zero:List D) (size n:Nat) (parts:List (Nat×X))
 | uB (zero:List D) (size n:Nat) (parts:List (Nat×X))
 | zI (x:X)
 | load (x:X) (agg:Bool) (size:Nat)
 | store (p x:X) (size:Nat)
 | dv (x:X)
 | bin (op:BinOp) (x y:X)
 | ze (neg:Bool) (x y:X)
 | eqs (neg:Bool) (ks:List Nat) (x y:X) -- the fields' kinds: 0 an integer, 1 a bool, 2 a text
 | Fq (neg:Bool) (x y:X)
 | un (op:UnOp) (x:X)
 | conv (k:IntKind) (x:X)
 | CK (x:X)
 | xq (x:X)
 | HC (size:Nat) (x:X) (lo hi:Option X)
 | ye (x:X) (lo hi:Option X)
 | aq (x:X) (off:Nat)
 | rz (x:X) (off:Nat) (agg:Bool) (size:Nat)
 | bA (x i:X) (size:Nat)
 | oK (x i:X)
 | ext (x:X) (i:Nat)
 | len (x:X)
 | lB (x:X)
 | app (size bytes:Nat) (x y:X)
 | mm (isMax:Bool) (x y:X)
 | sC (zero:List D) (T:TypeId) -- a new object whose first cell is to hold its own address
 | zJ (x:X) (T:TypeId)
 | zK (x y:X) -- bytes behind others
 | apps (x y:X) -- a text's bytes behind others
 | tP (f:Nat) (xs:List X) -- a function value
 | tQ
 | yf (m k v:X) -- a text's slice in a map
 | vH (m k:X) (zero:D)
inductive AI where
 | jg (dst:Option Nat) (g:Option (Nat×Bool)) (t:Nat) (xs:List X) -- what a slot holds is called
 | nil (dst:Option Nat) (g:Option (Nat×Bool)) (neg:Bool) (x:X) -- is a slice nil? (of an empty one nothing is known)
 | op (dst:Option Nat) (g:Option (Nat×Bool)) (o:AO)
 | call (dst:Option Nat) (g:Option (Nat×Bool)) (f:Nat) (xs:List X)
inductive AC where
 | skip
 | run (is:List AI)
 | par (is:List AI) (lC:List (Nat×Nat))
 | seq (a b:AC)
 | cond (x:X) (a b:AC)
 | block (id:Nat) (a:AC)
 | loop (a:AC)
 | exit (id:Nat)
 | scope (a:AC)
 | label (l:Nat)
 | goto (l:Nat)
 | ret
structure AF where
 ntmps:Nat
 results:List (Nat×Option (Bool×Nat)) -- a slot; or a slot that holds the address, whether an aggregate, how many cells
 body:AC
inductive AK where
 | pure
 | load
 | alloc
 | core
 deriving DecidableEq
def AO.kind:AO→AK
 | .alloc _=> .core
 | .box _=> .core
 | .uB .. => .core
 | .zI _=> .core
 | .store .. => .core
 | .app .. => .core
 | .sC .. => .core
 | .zJ .. => .core
 | .zK .. => .core
 | .apps .. => .core
 | .tQ=> .core
 | .yf .. => .core
 | .vH .. => .load
 | .load .. => .load
 | _=> .pure
def AI.kind:AI→AK
 | .op (some _) none (.alloc _)=> .alloc
 | .op _ _ o=>o.kind
 | _=> .core
def AI.dst:AI→Option Nat
 | .op d _ _=>d
 | .call d _ _ _=>d
 | .nil d _ _ _=>d
 | .jg d _ _ _=>d
def X.reads:X→List Nat
 | .s t=> [t]
 | .k _=> []
def nN:List X→List Nat
 | []=> []
 | x::r=>x.reads++nN r
def zL:Option X→List Nat
 | none=> []
 | some x=>x.reads
def AO.reads:AO→List Nat
 | .mv x=>x.reads
 | .pick c a b=>c.reads++(a.reads++b.reads)
 | .alloc _=> []
 | .box x=>x.reads
 | .build _ ps=>nN (ps.map (·.2.2))
 | .cG _ _ _ ps=>nN (ps.map (·.2))
 | .uB _ _ _ ps=>nN (ps.map (·.2))
 | .zI x=>x.reads
 | .load x _ _=>x.reads
 | .store p x _=>p.reads++x.reads
 | .dv x=>x.reads
 | .bin _ x y=>x.reads++y.reads
 | .ze _ x y=>x.reads++y.reads
 | .eqs _ _ x y=>x.reads++y.reads
 | .Fq _ x y=>x.reads++y.reads
 | .un _ x=>x.reads
 | .conv _ x=>x.reads
 | .CK x=>x.reads
 | .xq x=>x.reads
 | .HC _ x lo hi=>x.reads++(zL lo++zL hi)
 | .ye x lo hi=>x.reads++(zL lo++zL hi)
 | .aq x _=>x.reads
 | .rz x _ _ _=>x.reads
 | .bA x i _=>x.reads++i.reads
 | .oK x i=>x.reads++i.reads
 | .ext x _=>x.reads
 | .len x=>x.reads
 | .lB x=>x.reads
 | .app _ _ x y=>x.reads++y.reads
 | .mm _ x y=>x.reads++y.reads
 | .sC _ _=> []
 | .zJ x _=>x.reads
 | .zK x y=>x.reads++y.reads
 | .apps x y=>x.reads++y.reads
 | .tP _ xs=>nN xs
 | .tQ=> []
 | .yf m k v=>m.reads++(k.reads++v.reads)
 | .vH m k _=>m.reads++k.reads
def uC:Option (Nat×Bool)→List Nat
 | none=> []
 | some (t,_)=> [t]
def AI.reads:AI→List Nat
 | .op _ g o=>uC g++o.reads
 | .call _ g _ xs=>uC g++nN xs
 | .nil _ g _ x=>uC g++x.reads
 | .jg _ g t xs=>uC g++(t::nN xs)
def CN (d:Option Nat) (l:List Nat):Bool:=
 match d with
 | none=>true
 | some t=> !l.contains t
def AI.apart (a q:AI):Bool:=
 CN a.dst q.reads && CN q.dst a.reads && (match a.dst,q.dst with | some x,some y=>x != y | _,_=>true)
def gT (l:List (List Nat)) (i:Nat):List Nat:=l.getD i []
def jh (is:List AI) (i:Nat):AK:=
 match is[i]? with
 | some a=>a.kind
 | none=> .core
def kW (is:List AI) (i j:Nat):Bool:=
 match is[i]?,is[j]? with
 | some a,some b=>a.apart b
 | _,_=>false
def gE:AK→Bool
 | .core=>true
 | .alloc=>true
 | _=>false
def jt (is:List AI) (l:List Nat):Nat:=(l.filter fun i=>gE (jh is i)).length
def kO (is:List AI) (pq:List Nat):List Nat→Bool
 | []=>true
 | a::r=>(!(jh is a == .alloc && pq.contains a) || r.all pq.contains) && kO is pq r
def oL (is:List AI) (pt:List (List Nat)) (pre:List Nat) (q b:Nat):Bool:=
 match jh is q with
 | .core=>pre.all (gT pt q).contains
 | .alloc=>pre.all fun a=>kW is a q
 | .pure=>(pre.all fun a=>(gT pt q).contains a || kW is a q) && kO is (gT pt q) pre
 | .load=>(pre.all fun a=>(gT pt q).contains a || kW is a q) && kO is (gT pt q) pre &&
  decide (jt is (pre.filter fun a=> !(gT pt q).contains a)≤b)
def tB (is:List AI) (af pt:List (List Nat)):List Nat→List (Nat×Nat)→Bool
 | _,[]=>true
 | pre,(q,b)::r=>oL is pt pre q b && !pre.contains q && ((gT af q).all fun j=>j != q && !(r.map (·.1)).contains j) && tB is af pt (q::pre) r
def xr (af pt:List (List Nat)):Nat→Bool
 | 0=>true
 | i+1=>((gT pt i).all fun j=>(gT af i).contains j || (gT af i).any fun k=>(gT pt k).contains j) && xr af pt i
def HD (is:List AI) (af pt:List (List Nat)) (lC:List (Nat×Nat)):Bool:=
 xr af pt is.length && tB is af pt [] lC && (List.range is.length).all (lC.map (·.1)).contains && lC.all (fun p=>decide (p.1<is.length)) &&
  (List.range is.length).all fun i=>(gT af i).all fun j=>decide (j<is.length)
def mJ (o:Oper):List Nat:=(o.after.toList.filter (Region.binds .any)).map (·.on)
def HE:List (List Nat)→List (List Nat)→List (List Nat)
 | done,[]=>done
 | done,es::r=>HE (done++ [(es.flatMap fun k=>gT done k).foldl (fun l j=>if l.contains j then l else l++ [j]) es]) r
def UT (is:List AI) (pt:List (List Nat)):List Nat→List Nat→List Nat→List Nat
 | [],rest,out=>out++((rest.filter fun j=>jh is j == .alloc)++rest.filter fun j=> !(jh is j == .alloc))
 | c::cs,rest,out=>
  let RM:=rest.filter fun j=>(gT pt c).contains j
  UT is pt cs (rest.filter fun j=> !(RM.contains j) && j != c) (out++((RM.filter fun j=>jh is j == .alloc)++(RM.filter fun j=> !(jh is j == .alloc))++ [c]))
def UU (is:List AI) (pt:List (List Nat)):List Nat→List Nat→List (Nat×Nat)
 | _,[]=> []
 | pre,q::r=>(q,if jh is q == .load then jt is (pre.filter fun a=> !(gT pt q).contains a)else 0)::UU is pt (q::pre) r
def Oz (is:List AI) (af:List (List Nat)):List (Nat×Nat):=
 let pt:=HE [] af
 let all:=List.range is.length
 UU is pt [] (UT is pt (all.filter fun i=>jh is i == .core) all [])
def D.row:D→Option (List D)
 | .agg cs=>some cs
 | .junk=>none
 | .tuple _=>none
 | d=>some [d]
def part (cs:List D) (off:Nat) (agg:Bool) (size:Nat):Option D:=
 match agg with
 | true=>if off+size≤cs.length then some (.agg ((cs.drop off).take size))else none
 | false=>cs[off]?
def jJ (cs:List D) (off:Nat) (r:List D):List D:=cs.take off++r++cs.drop (off+r.length)
def qD (cells:List D):List (Nat×Nat×D)→Option (List D)
 | []=>some cells
 | (off,size,d)::rest=>
  match d.row with
  | none=>none
  | some r=>if r.length=size∧off+size≤cells.length then qD (jJ cells off r) rest else none
def iR (zero:List D):Nat→List (List D)
 | 0=> []
 | n+1=>zero::iR zero n
def jN (size:Nat) (rows:List (List D)):List (Nat×D)→Option (List (List D))
 | []=>some rows
 | (i,d)::rest=>
  match d.row with
  | none=>none
  | some r=>if r.length=size∧i<rows.length then jN size (rows.set i r) rest else none
def bytesLess:List UInt8→List UInt8→Bool:=Op.bytesLess
def bc:Nat:=1099511627776
def gb (op:BinOp) (k:IntKind) (a b:Int):Option D:=
 match op with
 | .add=>some (.int k (k.wrap (a+b)))
 | .sub=>some (.int k (k.wrap (a - b)))
 | .mul=>some (.int k (k.wrap (a*b)))
 | .quo=>if b=0 then none else some (.int k (k.wrap (a.tdiv b)))
 | .rem=>if b=0 then none else some (.int k (a.tmod b))
 | .eql=>some (.bool (a==b))
 | .neq=>some (.bool (a != b))
 | .lss=>some (.bool (decide (a<b)))
 | .leq=>some (.bool (decide (a≤b)))
 | .gtr=>some (.bool (decide (a > b)))
 | .geq=>some (.bool (decide (a≥b)))
 | _=>none
def nO (op:BinOp) (a b:List UInt8):Option D:=
 match op with
 | .add=>if a.length+b.length≤bc then some (.str (a++b))else none
 | .eql=>some (.bool (a==b))
 | .neq=>some (.bool (!(a==b)))
 | .lss=>some (.bool (bytesLess a b))
 | _=>none
def wH (op:BinOp) (x y:D):Option D:=
 match x,y with
 | .int k a, .int k' b=>if k=k' then gb op k a b else none
 | .str a, .str b=>nO op a b
 | _,_=>none
def mK:Nat→D→D→Option Bool
 | 0, .int k a, .int k' b=>if k=k' then some (a==b)else none
 | 1, .bool a, .bool b=>some (a==b)
 | 2, .str a, .str b=>some (a==b)
 | _,_,_=>none
def kX:List Nat→List D→List D→Option Bool
 | [],[],[]=>some true
 | k::ks,x::xs,y::ys=>
  match mK k x y with
  | none=>none
  | some true=>kX ks xs ys
  | some false=>some false
 | _,_,_=>none
def HF (op:UnOp) (x:D):Option D:=
 match op,x with
 | .neg, .int k n=>some (.int k (k.wrap (0 - n)))
 | .not, .bool b=>some (.bool (!b))
 | _,_=>none
def Fs:List D→Option UInt8
 | [.int .u8 n]=>some (UInt8.ofNat n.toNat)
 | _=>none
def n7:List (List D)→Option (List UInt8)
 | []=>some []
 | r::rs=>
  match Fs r,n7 rs with
  | some b,some bs=>some (b::bs)
  | _,_=>none
def Tag.cut (g:Tag) (whole:Bool):Tag:=
 match g with
 | .full=>if whole then .full else .shared
 | g=>g
def zM (lo:Option D):Option Int:=
 match lo with
 | none=>some 0
 | some (.int _ n)=>some n
 | _=>none
def zN (hi:Option D) (len:Nat):Option Int:=
 match hi with
 | none=>some len
 | some (.int _ n)=>some n
 | _=>none
def gy (size bytes:Nat) (x y:D) (s:St):Option (D×St):=
 match x,y with
 | .slice g z rows, .slice _ z' new=>
  if(rows = []∨z=size)∧(new = []∨z'=size)∧(rows.length+new.length)*(bytes+1)≤bc then
   match new with
   | []=>some (.slice g z rows,s)
   | _::_=>
    match g with
    | .full=>some (.slice (.tok s.aH.length) size (rows++new),{s with aH:=s.aH++ [some (rows.length+new.length)]})
    | .shared=>none
    | .tok _ true=>none
    | .tok t false=>if z=size∧s.aH[t]? = some (some rows.length)then some (.slice (.tok t) size (rows++new),{s with aH:=s.aH.set t (some (rows.length+new.length))})else none
  else none
 | _,_=>none
def zO (x y:D) (s:St):Option (D×St):=
 match x,y with
 | .slice g z rows, .slice _ z' new=>
  if(rows = []∨z=1)∧(new = []∨z'=1)∧(rows.length+new.length)*2≤bc then
   match new with
   | []=>some (.slice g z rows,s)
   | _::_=>
    match g with
    | .full=>some (.slice (.tok s.aH.length true) 1 (rows++new),{s with aH:=s.aH++ [some (rows.length+new.length)]})
    | .shared=>none
    | .tok t y=>if z=1∧s.aH[t]? = some (some rows.length)then some (.slice (.tok t y) 1 (rows++new),{s with aH:=s.aH.set t (some (rows.length+new.length))})else none
  else none
 | _,_=>none
def yg (key:List UInt8) (zero:D):List D→Option D
 | []=>some zero
 | .str k::d::r=>if k==key then some d else yg key zero r
 | _=>none
def wI (key:List UInt8) (v:D):List D→Option (List D)
 | []=>some [.str key,v]
 | .str k::d::r=>if k==key then some (.str k::v::r)else match wI key v r with | some r'=>some (.str k::d::r') | none=>none
 | _=>none
def aV (o:AO) (tm:Tm) (s:St):Option (D×St):=
 match o with
 | .mv x=>some (x.ev tm,s)
 | .pick c a b=>
  match c.ev tm with
  | .bool t=>some (if t then a.ev tm else b.ev tm,s)
  | _=>none
 | .alloc zero=>some (.ptr s.aG.length 0,{s with aG:=s.aG++ [zero]})
 | .box x=>
  match (x.ev tm).row with
  | some r=>some (.ptr s.aG.length 0,{s with aG:=s.aG++ [r]})
  | none=>none
 | .build zero parts=>
  match qD zero (parts.map fun p=>(p.1,p.2.1,p.2.2.ev tm))with
  | some cs=>some (.agg cs,s)
  | none=>none
 | .cG zero size n parts=>
  match jN size (iR zero n) (parts.map fun p=>(p.1,p.2.ev tm))with
  | some rows=>some (.slice .full size rows,s)
  | none=>none
 | .uB zero size n parts=>
  match jN size (iR zero n) (parts.map fun p=>(p.1,p.2.ev tm))with
  | some rows=>some (.slice (.tok s.aH.length) size rows,{s with aH:=s.aH++ [some rows.length]})
  | none=>none
 | .zI x=>
  match x.ev tm with
  | .slice (.tok t _) z rows=>if rows≠ []∧s.aH[t]? = some (some rows.length)then some (.slice .shared z rows,{s with aH:=s.aH.set t none})else none
  | _=>none
 | .load x agg size=>
  match x.ev tm with
  | .ptr o off=>
   match s.aG[o]? with
   | some cs=>match part cs off agg size with | some d=>some (d,s) | none=>none
   | none=>none
  | .dU row off=>match part row off agg size with | some d=>some (d,s) | none=>none
  | _=>none
 | .store p x size=>
  match p.ev tm,(x.ev tm).row with
  | .ptr o off,some r=>
   match s.aG[o]? with
   | some cs=>if r.length=size∧off+size≤cs.length then some (.tuple [],{s with aG:=s.aG.set o (jJ cs off r)})else none
   | none=>none
  | _,_=>none
 | .dv x=>
  match x.ev tm with
  | .ptr o off=>some (.ptr o off,s)
  | .dU row off=>some (.dU row off,s)
  | _=>none
 | .bin op x y=>match wH op (x.ev tm) (y.ev tm)with | some d=>some (d,s) | none=>none
 | .ze neg x y=>
  match x.ev tm,y.ev tm with
  | .bool a, .bool b=>some (.bool (if neg then !(a==b)else a==b),s)
  | _,_=>none
 | .eqs neg ks x y=>
  match x.ev tm,y.ev tm with
  | .agg a, .agg b=>match kX ks a b with | some e=>some (.bool (if neg then !e else e),s) | none=>none
  | _,_=>none
 | .Fq neg x y=>
  match x.ev tm,y.ev tm with
  | .fB, .fB=>some (.bool (!neg),s)
  | .ptr _ _, .fB=>some (.bool neg,s)
  | .dU _ _, .fB=>some (.bool neg,s)
  | _,_=>none
 | .un op x=>match HF op (x.ev tm)with | some d=>some (d,s) | none=>none
 | .conv k x=>match x.ev tm with | .int _ n=>some (.int k (k.wrap n),s) | _=>none
 | .CK x=>
  match x.ev tm with
  | .slice _ _ rows=>match n7 rows with | some b=>some (.str b,s) | none=>none
  | _=>none
 | .xq x=>
  match x.ev tm with
  | .str l=>some (.slice .shared 1 (l.map fun c=> [.int .u8 c.toNat]),s)
  | _=>none
 | .HC size x lo hi=>
  match x.ev tm with
  | .slice g z rows=>
   match zM (lo.map (·.ev tm)),zN (hi.map (·.ev tm)) rows.length with
   | some l,some h=>
    if(rows = []∨z=size)∧0≤l∧l≤h∧h≤rows.length then
     some (.slice (if l=0 then g.cut (h=rows.length)else .shared) z ((rows.take h.toNat).drop l.toNat),s)else none
   | _,_=>none
  | _=>none
 | .ye x lo hi=>
  match x.ev tm with
  | .str t=>
   match zM (lo.map (·.ev tm)),zN (hi.map (·.ev tm)) t.length with
   | some l,some h=>if 0≤l∧l≤h∧h≤t.length then some (.str ((t.take h.toNat).drop l.toNat),s)else none
   | _,_=>none
  | _=>none
 | .aq x off=>
  match x.ev tm with
  | .ptr o k=>some (.ptr o (k+off),s)
  | .dU row k=>some (.dU row (k+off),s)
  | _=>none
 | .rz x off agg size=>
  match x.ev tm with
  | .agg cs=>match part cs off agg size with | some d=>some (d,s) | none=>none
  | _=>none
 | .bA x i size=>
  match x.ev tm,i.ev tm with
  | .slice _ z rows, .int _ n=>
   if 0≤n∧z=size then
    match rows[n.toNat]? with
    | some row=>some (.dU row 0,s)
    | none=>none
   else none
  | _,_=>none
 | .oK x i=>
  match x.ev tm,i.ev tm with
  | .str t, .int _ n=>
   if 0≤n then
    match t[n.toNat]? with
    | some c=>some (.int .u8 c.toNat,s)
    | none=>none
   else none
  | _,_=>none
 | .ext x i=>
  match x.ev tm with
  | .tuple ds=>match ds[i]? with | some d=>some (d,s) | none=>none
  | _=>none
 | .lB x=>
  match x.ev tm with
  | .str t=>some (.int .i64 t.length,s)
  | _=>none
 | .len x=>
  match x.ev tm with
  | .slice _ _ rows=>some (.int .i64 rows.length,s)
  | _=>none
 | .app size bytes x y=>gy size bytes (x.ev tm) (y.ev tm) s
 | .mm isMax x y=>
  match x.ev tm,y.ev tm with
  | .int k a, .int k' b=>if k=k' then some (.int k (if isMax then(if b > a then b else a)else(if b<a then b else a)),s)else none
  | _,_=>none
 | .sC zero T=>
  match zero with
  | .fB::r=>some (.ptr s.aG.length 0,{s with aG:=s.aG++ [.fT T s.aG.length::r]})
  | _=>none
 | .zJ x T=>
  match (x.ev tm).row with
  | some (.fB::r)=>some (.ptr s.aG.length 0,{s with aG:=s.aG++ [.fT T s.aG.length::r]})
  | _=>none
 | .zK x y=>zO (x.ev tm) (y.ev tm) s
 | .apps x y=>
  match y.ev tm with
  | .str l=>zO (x.ev tm) (.slice .shared 1 (l.map fun c=> [.int .u8 c.toNat])) s
  | _=>none
 | .tP f xs=>some (.gP f (xs.map (·.ev tm)),s)
 | .tQ=>some (.gM s.aG.length,{s with aG:=s.aG++ [[]]})
 | .yf m k v=>
  match m.ev tm,k.ev tm,v.ev tm with
  | .gM o, .str key, .slice g z rows=>
   match s.aG[o]? with
   | some cs=>match wI key (.slice g z rows) cs with | some jy=>some (.tuple [],{s with aG:=s.aG.set o jy}) | none=>none
   | none=>none
  | _,_,_=>none
 | .vH m k zero=>
  match m.ev tm,k.ev tm with
  | .gM o, .str key=>
   match s.aG[o]? with
   | some cs=>match yg key zero cs with | some d=>some (d,s) | none=>none
   | none=>none
  | _,_=>none
def RN (b:ByteArray):List UInt8:=b.data.toList
def rD:Value→Option D
 | .int k n=>some (.int k n)
 | .bool b=>some (.bool b)
 | .string b=>some (.str (RN b))
 | .pointer none=>some .fB
 | .slice none 0 0=>some (.slice .full 0 [])
 | .nilIface=>some (.val .nilIface)
 | _=>none
def ny:List Value→Option (List D)
 | []=>some []
 | v::r=>match rD v,ny r with | some d,some ds=>some (d::ds) | _,_=>none
def B6:Value→Option D
 | .slice none 0 0=>some (.val (.slice none 0 0))
 | v=>rD v
def vI:List Value→Option (List D)
 | []=>some []
 | v::r=>match B6 v,vI r with | some d,some ds=>some (d::ds) | _,_=>none
def Lp:Value→Option D
 | .agg cs=>(ny cs.toList).map .agg
 | .tuple ⟨[]⟩=>some (.tuple [])
 | v=>rD v
def cX:Operand→Option X
 | .tmp t=>some (.s t)
 | .const v=>(Lp v).map .k
 | .func f=>some (.k (.gP f []))
 | _=>none
def xu:List Operand→Option (List X)
 | []=>some []
 | x::r=>match cX x,xu r with | some d,some ds=>some (d::ds) | _,_=>none
def UW:Option Operand→Option (Option X)
 | none=>some none
 | some x=>(cX x).map some
section
variable (P:Program)
def sD (t:TypeId):Option Bool:=
 match P.underlying t with
 | some (.struct _) | some (.array _ _)=>some true
 | some _=>some false
 | none=>none
def zeroOf (t:TypeId):Option (List D):=
 match P.info? t with
 | some i=>match i.zero with | some z=>if z.cells.size=i.size then ny z.cells.toList else none | none=>none
 | none=>none
def l6 (t:TypeId) (f:Nat):Option (Nat×Nat×Bool):=
 match P.underlying t with
 | some (.struct fs)=>
  match fs[f]? with
  | some fd=>match P.info? fd.type,sD P fd.type with
   | some i,some a=>if i.size=0 then none else some (fd.offset,i.size,a)
   | _,_=>none
  | none=>none
 | _=>none
def OA (t u:TypeId):Bool:=
 match P.underlying u with
 | some (.pointer e)=>e==t
 | _=>false
def Yx (t:TypeId):Bool:=
 match P.underlying t with
 | some (.struct fs)=>
  match fs[0]? with
  | some f=>OA P t f.type
  | none=>false
 | _=>false
def Lq (t:TypeId):Bool:=
 match P.underlying t with
 | some (.struct fs)=>
  match fs[0]? with
  | some f=>OA P t f.type || Yx P f.type
  | none=>false
 | _=>false
def Lr (self:Bool) (l:List Value):Option (List D):=if self then vI l else ny l
def yh (t:TypeId):Option (List D):=
 match P.info? t with
 | some i=>match i.zero with | some z=>if z.cells.size=i.size then Lr (Lq P t) z.cells.toList else none | none=>none
 | none=>none
def zP (t:TypeId):List (Nat×Operand)→Option (List (Nat×Nat×X))
 | []=>some []
 | (i,x)::r=>match l6 P t i,cX x,zP t r with
  | some (off,size,_),some x',some r'=>some ((off,size,x')::r')
  | _,_,_=>none
def HG:List (Nat×Operand)→Option (List (Nat×X))
 | []=>some []
 | (i,x)::r=>match cX x,HG r with
  | some x',some r'=>some ((i,x')::r')
  | _,_=>none
def j9 (t:TypeId):Option Nat:=
 match P.underlying t with
 | some (.int _)=>some 0
 | some .bool=>some 1
 | some .string=>some 2
 | _=>none
def Bc:Nat→List Field→Option (List Nat)
 | _,[]=>some []
 | n,f::fs=>
  if f.offset=n∧f.name≠ "_" then
   match j9 P f.type,Bc (n+1) fs with
   | some k,some ks=>some (k::ks)
   | _,_=>none
  else none
def pQ (t:TypeId):Option (List Nat):=
 match P.underlying t with
 | some (.struct fs)=>if P.eqGuardType P.depth t=false∧P.stoodInHeld t=false then Bc P 0 fs.toList else none
 | _=>none
def CO (o:Oper):Option AO:=
 match o.op with
 | .move x | .assign x=>(cX x).map .mv
 | .pick c a b=>match cX c,cX a,cX b with | some c,some a,some b=>some (.pick c a b) | _,_,_=>none
 | .alloc t=>if Lq P t then(yh P t).map (.sC · t)else(zeroOf P t).map .alloc
 | .box t x=>if Lq P t then(cX x).map (.zJ · t)else(cX x).map .box
 | .build t parts=>
  match P.underlying t,yh P t,zP P t parts.toList with
  | some (.struct fs),some z,some ps=>if fs.toList.all fun f=>(P.info? f.type).isSome then some (.build z ps)else none
  | _,_,_=>none
 | .buildSlice t n parts=>
  match P.underlying t with
  | some (.slice e)=>
   match P.info? e,zeroOf P e,HG parts.toList with
   | some i,some z,some ps=>if 0<i.size∧n*i.size≤65536 then some (.cG z i.size n ps)else none
   | _,_,_=>none
  | _=>none
 | .load t x=>
  match cX x,sD P t,P.info? t with
  | some x,some a,some i=>some (.load x a i.size)
  | _,_,_=>none
 | .store t a x=>
  match cX a,cX x,P.info? t with
  | some a,some x,some i=>some (.store a x i.size)
  | _,_,_=>none
 | .nilCheck x=>(cX x).map .dv
 | .binOp op t x y _=>
  match cX x,cX y with
  | some x,some y=>
   match P.underlying t,op with
   | some (.int _),_=>some (.bin op x y)
   | some .string,_=>some (.bin op x y)
   | some .bool, .eql=>some (.ze false x y)
   | some .bool, .neq=>some (.ze true x y)
   | some (.pointer _), .eql=>some (.Fq false x y)
   | some (.pointer _), .neq=>some (.Fq true x y)
   | some (.struct _), .eql=>(pQ P t).map (.eqs false · x y)
   | some (.struct _), .neq=>(pQ P t).map (.eqs true · x y)
   | _,_=>none
  | _,_=>none
 | .unOp op _ x=>(cX x).map (.un op)
 | .convert src dst x=>
  match cX x,P.underlying src,P.underlying dst with
  | some x,some (.int _),some (.int k)=>some (.conv k x)
  | some x,some (.slice e),some .string=>match P.underlying e with | some (.int .u8)=>some (.CK x) | _=>none
  | some x,some (.slice e),some (.slice _)=>match P.underlying e with | some (.int .u8)=>if src=dst then some (.zI x)else none | _=>none
  | some x,some .string,some (.slice e)=>match P.underlying e,P.info? e with | some (.int .u8),some i=>if i.size=1 then some (.xq x)else none | _,_=>none
  | _,_,_=>none
 | .slice t x lo hi none=>
  match cX x,UW lo,UW hi,P.underlying t with
  | some x,some lo,some hi,some .string=>some (.ye x lo hi)
  | some x,some lo,some hi,some (.slice e)=>match P.info? e with | some i=>some (.HC i.size x lo hi) | none=>none
  | _,_,_,_=>none
 | .fieldAddr t x f=>match cX x,l6 P t f with | some x,some (off,_,_)=>some (.aq x off) | _,_=>none
 | .field t x f=>match cX x,l6 P t f with | some x,some (off,size,a)=>some (.rz x off a size) | _,_=>none
 | .indexAddr t x i=>
  match cX x,cX i,P.underlying t with
  | some x,some i,some (.slice e)=>match P.info? e with | some j=>if 0<j.size then some (.bA x i j.size)else none | none=>none
  | _,_,_=>none
 | .index t x i=>match cX x,cX i,P.underlying t with | some x,some i,some .string=>some (.oK x i) | _,_,_=>none
 | .extract x i=>(cX x).map (.ext · i)
 | .call {callee:= .builtin .len,args,argTypes}=>
  match args.toList,argTypes.toList with
  | [x],[t]=>match P.underlying t with
   | some .string=>(cX x).map .lB
   | some (.slice _)=>(cX x).map .len
   | _=>none
  | _,_=>none
 | .call {callee:= .builtin .append,args,argTypes}=>
  match args.toList,argTypes.toList with
  | [x,y],[t,u]=>match P.underlying t,P.underlying u,cX x,cX y with
   | some (.slice e),some (.slice _),some x,some y=>match P.info? e,zeroOf P e with
    | some i,some _=>if 0<i.size then some (if e=pj∧i.size=1∧i.bytes=1 then .zK x y else .app i.size i.bytes x y)else none
    | _,_=>none
   | some (.slice e),some .string,some x,some y=>match P.info? e,zeroOf P e with
    | some i,some _=>if e=pj∧i.size=1∧i.bytes=1 then some (.apps x y)else none
    | _,_=>none
   | _,_,_,_=>none
  | _,_=>none
 | .call {callee:= .builtin .max,args, ..}=>
  match args.toList with
  | [x,y]=>match cX x,cX y with | some x,some y=>some (.mm true x y) | _,_=>none
  | _=>none
 | .call {callee:= .builtin .min,args, ..}=>
  match args.toList with
  | [x,y]=>match cX x,cX y with | some x,some y=>some (.mm false x y) | _,_=>none
  | _=>none
 | .makeFunc (.func f) first captured=>if first.size=0 then(xu captured.toList).map (.tP f)else none
 | .makeMap t none=>match P.underlying t with | some (.map _ _)=>some .tQ | _=>none
 | .mapUpdate t m k v=>
  match P.underlying t,cX m,cX k,cX v with
  | some (.map kt _),some m,some k,some v=>match P.underlying kt with | some .string=>some (.yf m k v) | _=>none
  | _,_,_,_=>none
 | .lookup t m k false=>
  match P.underlying t,cX m,cX k with
  | some (.map kt e),some m,some k=>
   match P.underlying kt,P.info? e with
   | some .string,some i=>match i.zero with | some z=>(rD z).map (.vH m k) | none=>none
   | _,_=>none
  | _,_,_=>none
 | _=>none
def uD (ops:Array Oper):Option (Nat×Bool)→Option (Option (Nat×Bool))
 | none=>some none
 | some (j,b)=>
  match (ops[j]?).bind (·.dst)with
  | some t=>some (some (t,b))
  | none=>none
def enters (f:FuncId):Bool:=
 match P.funcs[f]? with
 | some fn=>fn.body.isSome && !(fn.name == "runtime.NumGoroutine")
 | none=>false
def frozenIn (ops:Array Oper) (dst:Option Nat):Bool:=
 ops.toList.any fun o=>match o.op,dst with
  | .convert s d (.tmp t),some t'=>t==t' && s==d
  | _,_=>false
def Ea (o:Oper):Option (Bool×X):=
 match o.op with
 | .binOp op t x (.const (.slice none 0 0)) _=>
  match P.underlying t,op,cX x with
  | some (.slice _), .eql,some x=>some (false,x)
  | some (.slice _), .neq,some x=>some (true,x)
  | _,_,_=>none
 | _=>none
def UX (nt:Nat) (dst:Option Nat):Bool:=
 match dst with
 | some d=>decide (d<nt)
 | none=>true
def sa (ops:Array Oper) (o:Oper) (g:Option (Nat×Bool)):Option AI:=
 match o.op with
 | .call {callee:= .value (.func f),args, ..}=>if enters P f then(xu args.toList).map (.call o.dst g f)else none
 | .call {callee:= .value (.tmp t),args, ..}=>(xu args.toList).map (.jg o.dst g t)
 | _=>
  match Ea P o with
  | some (neg,x)=>some (.nil o.dst g neg x)
  | none=>
   match CO P o with
   | some (.cG z k n ps)=>some (.op o.dst g (if frozenIn ops o.dst then .uB z k n ps else .cG z k n ps))
   | some ao=>some (.op o.dst g ao)
   | none=>none
def cI (nt:Nat) (ops:Array Oper) (o:Oper):Option AI:=
 match uD ops o.guard with
 | none=>none
 | some g=>if UX nt o.dst=true then sa P ops o g else none
def qE (nt:Nat) (ops:Array Oper):List Oper→Option (List AI)
 | []=>some []
 | o::r=>match cI P nt ops o,qE nt ops r with | some i,some is=>some (i::is) | _,_=>none
def UY (is:List AI) (af:List (List Nat)):Option AC:=
 if HD is af (HE [] af) (Oz is af)then some (.par is (Oz is af))else none
def cC (nt:Nat):Code→Option AC
 | .skip=>some .skip
 | .region _ ops false=>(qE P nt ops ops.toList).map .run
 | .region _ ops true=>if P.follows .mixedOrders then(qE P nt ops ops.toList).bind (UY · (ops.toList.map mJ))else none
 | .seq a b=>match cC nt a,cC nt b with | some a,some b=>some (.seq a b) | _,_=>none
 | .cond x a b=>match cX x,cC nt a,cC nt b with | some x,some a,some b=>some (.cond x a b) | _,_,_=>none
 | .block id a=>(cC nt a).map (.block id)
 | .loop a=>(cC nt a).map .loop
 | .exit id=>some (.exit id)
 | .scope a=>(cC nt a).map .scope
 | .label l=>some (.label l)
 | .goto l=>some (.goto l)
 | .ret=>some .ret
 | _=>none
def B7:List ResultVar→Option (List (Nat×Option (Bool×Nat)))
 | []=>some []
 | .tmp t::r=>(B7 r).map ((t,none):: ·)
 | .cell a t::r=>match sD P t,P.info? t,B7 r with
  | some g,some i,some r'=>some ((a,some (g,i.size))::r')
  | _,_,_=>none
def cF (fn:Func):Option AF:=
 match fn.body with
 | some c=>match cC P fn.ntmps c,B7 P fn.results.toList with
  | some b,some r=>some ⟨fn.ntmps,r,b⟩
  | _,_=>none
 | none=>none
end
end Go.Abs

/-! Rel -/

namespace Go.Abs
theorem kP {w:World} {b:Nat} {vs:Array Value} {T:TypeId} {fr:Nat×Nat} (h:w.heap[b]? = some (.cells vs T fr)) (o:Nat):w.cell? ⟨b,o,none⟩=vs[o]? :=by
 simp [World.cell?,h]
theorem lK {w:World} {b:Nat} {o:Obj} (h:w.heap[b]? = some o):b<w.heap.size:=(Array.getElem?_eq_some_iff.1 h).1
section
variable {M:Map} {s:St} {w:World}
theorem Rel.Eb (r:Rel M s w) {b o:Nat} {v:Value} (h:M.G b o=some v):b<w.heap.size:=World.block_lt_of_cell? w _ (r.comm b o v h).1
theorem Rel.UZ (r:Rel M s w) {b:Nat} (h:w.heap.size≤b) (o:Nat):M.G b o=none:=by
 cases e:M.G b o with
 | none=>rfl
 | some v=>have:=r.Eb e;omega
theorem Rel.qF (r:Rel M s w) {o:Nat} (h:o<s.aG.length):M.mu o<w.heap.size:=by
 obtain⟨vs,T,hh,_⟩:=r.obj o _ (List.getElem?_eq_getElem h)
 exact hh.lt
theorem Rel.tR (r:Rel M s w) {t b c z:Nat} (h:s.live t) (e:M.be t=some (b,c,z)):b<w.heap.size:=by
 obtain⟨n,hn⟩:=h
 rcases r.tok t n hn with ⟨h1,_⟩ | ⟨b',cap,size,vs,T,h1,h2,_⟩
 ·rw [e]at h1;cases h1
 ·rw [e]at h1;cases h1;exact lK h2
theorem Rel.of_heap (r:Rel M s w) {w':World} (h:w'.heap=w.heap):Rel M s w':=by
 refine⟨fun b o v e=> ?_,fun o ds e=> ?_,r.k7,r.inj,fun t n e=> ?_,r.fL,r.gq⟩
 ·obtain⟨h1,h2⟩:=r.comm b o v e
  refine⟨?_,h2⟩
  rw [← h1];simp [World.cell?,h]
 ·rw [h];exact r.obj o ds e
 ·rw [h];exact r.tok t n e
theorem Ext.of_heap {w':World} (h:w'.heap=w.heap) (h1:w'.os=w.os) (h2:w'.tape=w.tape) (h3:w'.output=w.output):Ext M s w M s w':=
 ⟨Le.refl M s,fun _ _ _ _=>by rw [h],fun o h h'=>by omega,fun t b c z h e=> .inl ⟨h,c,z,e⟩,fun _ _ h=>(h rfl).elim,by rw [h];exact Nat.le_refl _,h1,h2,h3⟩
def Map.er (M:Map) (n b:Nat) (x:Ob:= .any):Map:= {M with loc:=fun o=>if o=n then(b,x)else M.loc o}
theorem uE (s:St) (b:Nat) (ds:List D) (x:Ob:= .any):Le M s (M.er s.aG.length b x) {s with aG:=s.aG++ [ds]}:=
 ⟨fun _ _ _ h=>h,by simp,fun o ho=>by simp [Map.er];omega,Nat.le_refl _,fun t n _ h=>⟨n,h,Nat.le_refl _,fun _=>rfl⟩⟩
theorem Rel.OB (r:Rel M s w) (ds:List D) (ob:Obj) (vs:Array Value) (T:TypeId) (x:Ob) (xv:mD (some ob) x vs T) (hx : ∀ T',x.ty? = some T'→T'=T) (hl:vs.size=ds.length) (h1 : ∀ v∈vs,v.oneCell'=true)
 (h2 : ∀ (i:Nat) (d:D) (v:Value),ds[i]? = some d→vs[i]? = some v→RD (M.er s.aG.length w.heap.size x) {s with aG:=s.aG++ [ds]} d v) :
 Rel (M.er s.aG.length w.heap.size x) {s with aG:=s.aG++ [ds]} (w.alloc ob)∧
 Ext M s w (M.er s.aG.length w.heap.size x) {s with aG:=s.aG++ [ds]} (w.alloc ob):=by
 have le:=uE (M:=M) s w.heap.size ds x
 have qs : ∀ o,o<s.aG.length→(M.er s.aG.length w.heap.size x).mu o=M.mu o:=le.mu
 have ey:(M.er s.aG.length w.heap.size x).mu s.aG.length=w.heap.size:=by simp [Map.er,Map.mu]
 have acq:(M.er s.aG.length w.heap.size x).ty s.aG.length=x.ty? :=by simp [Map.er,Map.ty]
 have acr:(M.er s.aG.length w.heap.size x).ob s.aG.length=x:=by simp [Map.er,Map.ob]
 refine⟨⟨fun b o v e=> ?_,fun o om e=> ?_,fun o ho off=> ?_,fun o o' ho np e=> ?_,fun t n e=> ?_,fun t b c z o hl e ho=> ?_,fun t t' b c z c' z' h h' e e'=>r.gq t t' b c z c' z' h h' e e'⟩, ?_⟩
 ·obtain⟨h3,h4⟩:=r.comm b o v e
  refine⟨?_,h4⟩
  rw [World.cell?_alloc_lt]
  ·exact h3
  ·exact r.Eb e
 ·rcases Nat.lt_or_ge o s.aG.length with ho | ho
  ·rw [List.getElem?_append_left ho]at e
   obtain⟨fW,T',h3,h4,h5,h6⟩:=r.obj o om e
   refine⟨fW,T', ?_,h4,⟨h5.1,by rw [le.ty o ho];exact h5.2⟩,fun i d v e1 e2=>(h6 i d v e1 e2).mono le⟩
   rw [qs o ho,le.ob o ho,heap_alloc_old w _ _ h3.lt];exact h3
  ·rw [List.getElem?_append_right ho]at e
   have:o=s.aG.length:=by
    have:=(List.getElem?_eq_some_iff.1 e).1
    simp at this;omega
   subst this
   simp at e;subst e
   refine⟨vs,T, ?_,hl,⟨h1,by rw [acq];exact hx⟩,fun i d v e1 e2=>h2 i d v e1 e2⟩
   rw [ey,acr,heap_alloc_new];exact xv
 ·simp at ho
  rcases Nat.lt_or_ge o s.aG.length with h3 | h3
  ·rw [qs o h3];exact r.k7 o h3 off
  ·have:o=s.aG.length:=by omega
   subst this
   rw [ey];exact r.UZ (Nat.le_refl _) off
 ·simp at ho np
  rcases Nat.lt_or_ge o s.aG.length with h3 | h3 <;> rcases Nat.lt_or_ge o' s.aG.length with h4 | h4
  ·rw [qs o h3,qs o' h4]at e;exact r.inj o o' h3 h4 e
  ·have:o'=s.aG.length:=by omega
   subst this
   rw [qs o h3,ey]at e
   have:=r.qF h3;omega
  ·have:o=s.aG.length:=by omega
   subst this
   rw [qs o' h4,ey]at e
   have:=r.qF h4;omega
  ·omega
 ·rcases r.tok t n e with h3 | ⟨b,cap,size,fW,T',h3,h4,h5⟩
  ·exact .inl h3
  ·exact .inr ⟨b,cap,size,fW,T',h3,by rw [heap_alloc_old w _ _ (lK h4)];exact h4,h5⟩
 ·simp at ho
  rcases Nat.lt_or_ge o s.aG.length with h3 | h3
  ·rw [qs o h3];exact r.fL t b c z o hl e h3
  ·have:o=s.aG.length:=by omega
   subst this
   rw [ey]
   have:=r.tR hl e;omega
 ·refine⟨le,fun b hb _ _=>heap_alloc_old w _ b hb,fun o h3 h4=> ?_,fun t b c z h e=> .inl ⟨h,c,z,e⟩,fun _ _ h=>(h rfl).elim,by simp,rfl,rfl,rfl⟩
  simp at h4
  have:o=s.aG.length:=by omega
  subst this
  rw [ey];exact Nat.le_refl _
theorem Rel.HH (r:Rel M s w) (ds:List D) (vs:Array Value) (T:TypeId) (x:Ob) (hk:x≠ .map) (hx : ∀ T',x.ty? = some T'→T'=T) (hl:vs.size=ds.length) (h1 : ∀ v∈vs,v.oneCell'=true)
 (h2 : ∀ (i:Nat) (d:D) (v:Value),ds[i]? = some d→vs[i]? = some v→RD (M.er s.aG.length w.heap.size x) {s with aG:=s.aG++ [ds]} d v) :
 Rel (M.er s.aG.length w.heap.size x) {s with aG:=s.aG++ [ds]} (w.alloc (.cells vs T))∧
 Ext M s w (M.er s.aG.length w.heap.size x) {s with aG:=s.aG++ [ds]} (w.alloc (.cells vs T)):=
 r.OB ds _ vs T x (mD.of rfl hk) hx hl h1 h2
theorem Rel.er (r:Rel M s w) (ds:List D) (vs:Array Value) (T:TypeId) (hl:vs.size=ds.length) (h1 : ∀ v∈vs,v.oneCell'=true)
 (h2 : ∀ (i:Nat) (d:D) (v:Value),ds[i]? = some d→vs[i]? = some v→RD M s d v) :
 Rel (M.er s.aG.length w.heap.size) {s with aG:=s.aG++ [ds]} (w.alloc (.cells vs T))∧
 Ext M s w (M.er s.aG.length w.heap.size) {s with aG:=s.aG++ [ds]} (w.alloc (.cells vs T)):=
 r.HH ds vs T .any (by simp) (fun _ h=>by cases h) hl h1 fun i d v e1 e2=>(h2 i d v e1 e2).mono (uE s w.heap.size ds)
theorem vJ (cs:List D) (off:Nat) (r:List D) (h:off+r.length≤cs.length) (i:Nat) :
 (jJ cs off r)[i]? = if i<off then cs[i]? else if i<off+r.length then r[i - off]? else cs[i]? :=by
 unfold jJ
 have hl:(cs.take off).length=off:=by simp;omega
 split
 ·rename_i h1
  rw [List.append_assoc,List.getElem?_append_left (by omega),List.getElem?_take_of_lt h1]
 ·rename_i h1
  rw [List.append_assoc,List.getElem?_append_right (by omega),hl]
  split
  ·rename_i h2
   rw [List.getElem?_append_left (by omega)]
  ·rename_i h2
   rw [List.getElem?_append_right (by omega),List.getElem?_drop]
   congr 1;omega
theorem zf (cs:List D) (off:Nat) (r:List D) (h:off+r.length≤cs.length):(jJ cs off r).length=cs.length:=by
 unfold jJ;simp;omega
theorem Rel.afC (P:Program) (r:Rel M s w) {o off:Nat} {cs:List D} (he:s.aG[o]? = some cs) (hk:M.ob o≠ .map) (row:List D) (us:List Value) (hu:us.length=row.length) (kb:off+row.length≤cs.length)
 (h1 : ∀ u∈us,u.oneCell'=true) (h2 : ∀ (i:Nat) (d:D) (v:Value),row[i]? = some d→us[i]? = some v→RD M s d v) :
 ∃ w',(storeCells (⟨M.mu o,off,none⟩:Addr) us).run P w = .ok () w'∧Rel M {s with aG:=s.aG.set o (jJ cs off row)} w'∧Ext M s w M {s with aG:=s.aG.set o (jJ cs off row)} w':=by
 obtain⟨vs,T,hh,hs,⟨lD,U0⟩,pR⟩:=r.obj o cs he
 replace hh:=hh.cells hk
 have ho:o<s.aG.length:=(List.getElem?_eq_some_iff.1 he).1
 have BF:=run_storeCells_at P (M.mu o) off T us 0 vs w hh (by omega) h1
 simp only [Nat.add_zero]at BF
 have le:Le M s M {s with aG:=s.aG.set o (jJ cs off row)}:=
  ⟨fun _ _ _ h=>h,by simp,fun _ _=>rfl,Nat.le_refl _,fun t n _ h=>⟨n,h,Nat.le_refl _,fun _=>rfl⟩⟩
 generalize ey:(vs.toList.take off++us++vs.toList.drop (off+us.length)).toArray=vK at BF
 have RO:vK.size=vs.size:=by rw [← ey];simp;omega
 have hP : ∀ i,vK[i]? = if i<off then vs[i]? else if i<off+row.length then us[i - off]? else vs[i]? :=by
  intro i
  rw [← ey]
  simp only [List.getElem?_toArray]
  have hl:(vs.toList.take off).length=off:=by simp;omega
  split
  ·rename_i h3
   rw [List.append_assoc,List.getElem?_append_left (by omega),List.getElem?_take_of_lt h3];simp
  ·rename_i h3
   rw [List.append_assoc,List.getElem?_append_right (by omega),hl]
   split
   ·rename_i h4
    rw [List.getElem?_append_left (by omega)]
   ·rename_i h4
    rw [List.getElem?_append_right (by omega),List.getElem?_drop]
    rw [show off+us.length+(i - off - us.length)=i by omega];simp
 have lL : ∀ b,b≠M.mu o→(w.setRow (M.mu o) vK).heap[b]? = w.heap[b]? :=fun b hb=>setRow_other w (M.mu o) b _ hb
 refine⟨_,BF,⟨fun b q v e=> ?_,fun o' ds e=> ?_,fun q hq wJ=>r.k7 q (by simpa using hq) wJ,fun q q' hq rA e=>r.inj q q' (by simpa using hq) (by simpa using rA) e,fun t n e=> ?_,
  fun t b c z q hl e hq=>r.fL t b c z q hl e (by simpa using hq),fun t t' b c z c' z' h h' e e'=>r.gq t t' b c z c' z' h h' e e'⟩, ?_⟩
 ·obtain⟨h3,h4⟩:=r.comm b q v e
  refine⟨?_,h4⟩
  have hb:b≠M.mu o:=fun eq=>by subst eq;rw [r.k7 o ho q]at e;cases e
  rw [← h3]
  simp [World.cell?,lL b hb]
 ·rw [List.getElem?_set]at e
  split at e
  ·rename_i heq
   subst heq
   simp at e
   obtain⟨_,rfl⟩:=e
   refine⟨vK,T,mD.of (setRow_heap w (M.mu o) vs vK T (0,0) hh) hk,by rw [RO,hs,zf cs off row kb],⟨fun v hv=> ?_,U0⟩,fun i d v e1 e2=> ?_⟩
   ·rw [← ey]at hv
    simp at hv
    rcases hv with hv | hv | hv
    ·exact lD v (Array.mem_toList_iff.1 (List.mem_of_mem_take hv))
    ·exact h1 v hv
    ·exact lD v (Array.mem_toList_iff.1 (List.mem_of_mem_drop hv))
   ·rw [vJ cs off row kb]at e1
    rw [hP]at e2
    split at e1
    ·rename_i h3;simp only [h3,if_true]at e2;exact(pR i d v e1 e2).mono le
    ·rename_i h3
     simp only [h3,if_false]at e2
     split at e1
     ·rename_i h4;simp only [h4,if_true]at e2;exact(h2 _ d v e1 e2).mono le
     ·rename_i h4;simp only [h4,if_false]at e2;exact(pR i d v e1 e2).mono le
  ·rename_i fE
   obtain⟨fW,T',h3,h4,h5,h6⟩:=r.obj o' ds e
   have np:o'<s.aG.length:=(List.getElem?_eq_some_iff.1 e).1
   refine⟨fW,T', ?_,h4,h5,fun i d v e1 e2=>(h6 i d v e1 e2).mono le⟩
   rw [lL _ (fun eq=>fE (r.inj o o' ho np eq.symm))];exact h3
 ·rcases r.tok t n e with h3 | ⟨b,cap,size,fW,T',h3,h4,h5⟩
  ·exact .inl h3
  ·refine .inr ⟨b,cap,size,fW,T',h3, ?_,h5⟩
   rw [lL b (fun eq=>r.fL t b cap size o ⟨n,e⟩ h3 ho eq.symm)];exact h4
 ·refine⟨le,fun b hb h3 _=>lL b (fun eq=>h3 o ho eq.symm),fun q h3 h4=> ?_,fun t b c z h e=> .inl ⟨h,c,z,e⟩,fun _ _ h=>(h rfl).elim,by simp,rfl,rfl,rfl⟩
  simp at h4;omega
def Map.fP (M:Map) (b n:Nat) (vs:Array Value):Map:= {M with G:=fun b' o=>if b'=b then(if o<n then vs[o]? else none)else M.G b' o}
theorem OC (r:Rel M s w) (n:Nat) (vs:Array Value):Le M s (M.fP w.heap.size n vs) s:=
 ⟨fun b o v h=>by
  have hb:b≠w.heap.size:=fun e=>by have:=r.Eb h;omega
  simp [Map.fP,hb,h],Nat.le_refl _,fun _ _=>rfl,Nat.le_refl _,fun t n _ h=>⟨n,h,Nat.le_refl _,fun _=>rfl⟩⟩
theorem Rel.fP (r:Rel M s w) (n:Nat) (vs:Array Value) (T:TypeId) (fr:Nat×Nat) (h1 : ∀ v∈vs,v.oneCell'=true) :
 Rel (M.fP w.heap.size n vs) s (w.alloc (.cells vs T fr))∧Ext M s w (M.fP w.heap.size n vs) s (w.alloc (.cells vs T fr)):=by
 have le:=OC r n vs
 have hold : ∀ b,b<w.heap.size→∀ o,(M.fP w.heap.size n vs).G b o=M.G b o:=fun b hb o=>by
  have:b≠w.heap.size:=by omega
  simp [Map.fP,this]
 refine⟨⟨fun b o v e=> ?_,fun o ds e=> ?_,fun o ho off=> ?_,r.inj,fun t k e=> ?_,r.fL,r.gq⟩, ?_⟩
 ·by_cases hb:b=w.heap.size
  ·subst hb
   simp [Map.fP]at e
   obtain⟨_,e⟩:=e
   refine⟨by rw [kP (heap_alloc_new w _)];exact e,h1 v (Array.mem_of_getElem? e)⟩
  ·simp [Map.fP,hb]at e
   obtain⟨h3,h4⟩:=r.comm b o v e
   refine⟨?_,h4⟩
   rw [World.cell?_alloc_lt]
   ·exact h3
   ·exact r.Eb e
 ·obtain⟨fW,T',h3,h4,h5,h6⟩:=r.obj o ds e
  exact⟨fW,T',by show mD (w.alloc _).heap[M.mu o]? (M.ob o) _ _;rw [heap_alloc_old w _ _ h3.lt];exact h3,h4,h5,fun i d v e1 e2=>(h6 i d v e1 e2).mono le⟩
 ·rw [hold]
  ·exact r.k7 o ho off
  ·exact r.qF ho
 ·rcases r.tok t k e with h3 | ⟨b,cap,size,fW,T',h3,h4,h5,h6,h7⟩
  ·exact .inl h3
  ·exact .inr ⟨b,cap,size,fW,T',h3,by rw [heap_alloc_old w _ _ (lK h4)];exact h4,h5,h6,fun off ho=>by rw [hold b (lK h4)];exact h7.1 off ho,h7.2⟩
 ·refine⟨le,fun b hb _ _=>heap_alloc_old w _ b hb,fun o h3 h4=>by omega,fun t b c z h e=> .inl ⟨h,c,z,e⟩,fun b o h=> ?_,by simp,rfl,rfl,rfl⟩
  rcases Nat.lt_or_ge b w.heap.size with hb | hb
  ·exact(h (hold b hb o)).elim
  ·exact .inl hb
def Map.ff (M:Map) (t:Nat) (x:Option (Nat×Nat×Nat)):Map:= {M with be:=fun t'=>if t'=t then x else M.be t'}
theorem Rel.U1 (r:Rel M s w) (n b cap size:Nat) (vs:Array Value) (T:TypeId) (hb:w.heap[b]? = some (.cells vs T (0,0))) (e9:vs.size=cap*zs size) (hn:n≤cap) (hy:size=0→T=pj)
 (hG : ∀ off,n*zs size≤off→M.G b off=none) (ho : ∀ o,o<s.aG.length→M.mu o≠b) (ht : ∀ t c z,s.live t→M.be t≠some (b,c,z)) :
 Rel (M.ff s.aH.length (some (b,cap,size))) {s with aH:=s.aH++ [some n]} w∧Le M s (M.ff s.aH.length (some (b,cap,size))) {s with aH:=s.aH++ [some n]}:=by
 have iz : ∀ t,St.live {s with aH:=s.aH++ [some n]} t→s.live t∨t=s.aH.length:=by
  rintro t ⟨k,hk⟩
  rcases Nat.lt_or_ge t s.aH.length with h | h
  ·rw [List.getElem?_append_left h]at hk;exact .inl ⟨k,hk⟩
  ·have:=(List.getElem?_eq_some_iff.1 hk).1
   simp at this;exact .inr (by omega)
 have hF : ∀ t,s.live t→t<s.aH.length:=fun t ⟨k,hk⟩=>(List.getElem?_eq_some_iff.1 hk).1
 have hold : ∀ t,t<s.aH.length→(M.ff s.aH.length (some (b,cap,size))).be t=M.be t:=fun t h=>by simp [Map.ff];omega
 have ey:(M.ff s.aH.length (some (b,cap,size))).be s.aH.length=some (b,cap,size):=by simp [Map.ff]
 have le:Le M s (M.ff s.aH.length (some (b,cap,size))) {s with aH:=s.aH++ [some n]}:=
  ⟨fun _ _ _ h=>h,Nat.le_refl _,fun _ _=>rfl,by simp,fun t k h e=>by
   rw [List.getElem?_append_left h]at e
   exact⟨k,e,Nat.le_refl _,fun _=>hold t h⟩⟩
 refine⟨⟨r.comm,fun o ds e=> ?_,r.k7,r.inj,fun t k e=> ?_,fun t b' c z o hl e np=> ?_,fun t t' b' c z c' z' h h' e e'=> ?_⟩,le⟩
 ·obtain⟨fW,T',h3,h4,h5,h6⟩:=r.obj o ds e
  exact⟨fW,T',h3,h4,h5,fun i d v e1 e2=>(h6 i d v e1 e2).mono le⟩
 ·rcases Nat.lt_or_ge t s.aH.length with h | h
  ·rw [List.getElem?_append_left h]at e
   rw [hold t h];exact r.tok t k e
  ·have:=(List.getElem?_eq_some_iff.1 e).1
   simp at this
   have:t=s.aH.length:=by omega
   subst this
   simp at e;subst e
   exact .inr ⟨b,cap,size,vs,T,ey,hb,e9,hn,hG,hy⟩
 ·rcases iz t hl with h | h
  ·rw [hold t (hF t h)]at e;exact r.fL t b' c z o h e np
  ·subst h;rw [ey]at e;cases e;exact ho o np
 ·rcases iz t h with h | h <;> rcases iz t' h' with h' | h'
  ·rw [hold t (hF t h)]at e;rw [hold t' (hF t' h')]at e';exact r.gq t t' b' c z c' z' h h' e e'
  ·subst h';rw [ey]at e';cases e';rw [hold t (hF t h)]at e;exact(ht t c z h e).elim
  ·subst h;rw [ey]at e;cases e;rw [hold t' (hF t' h')]at e';exact(ht t' c' z' h' e').elim
  ·omega
theorem Rel.acs (r:Rel M s w) (t n n' b cap size:Nat) (vs:Array Value) (T:TypeId) (CQ:s.aH[t]? = some (some n)) (hnn:n<n') (hb:w.heap[b]? = some (.cells vs T (0,0))) (e9:vs.size=cap*zs size) (hn:n'≤cap) (hy:size=0→T=pj)
 (hG : ∀ off,n'*zs size≤off→M.G b off=none) (ho : ∀ o,o<s.aG.length→M.mu o≠b) (ht : ∀ t c z,s.live t→M.be t≠some (b,c,z)) :
 Rel (M.ff t (some (b,cap,size))) {s with aH:=s.aH.set t (some n')} w∧Le M s (M.ff t (some (b,cap,size))) {s with aH:=s.aH.set t (some n')}:=by
 have OD:t<s.aH.length:=(List.getElem?_eq_some_iff.1 CQ).1
 have iz : ∀ q,St.live {s with aH:=s.aH.set t (some n')} q→s.live q:=by
  rintro q ⟨k,hk⟩
  rw [List.getElem?_set]at hk
  split at hk
  ·rename_i h;subst h;exact⟨n,CQ⟩
  ·exact⟨k,hk⟩
 have hold : ∀ q,q≠t→(M.ff t (some (b,cap,size))).be q=M.be q:=fun q h=>by simp [Map.ff,h]
 have ey:(M.ff t (some (b,cap,size))).be t=some (b,cap,size):=by simp [Map.ff]
 have le:Le M s (M.ff t (some (b,cap,size))) {s with aH:=s.aH.set t (some n')}:=
  ⟨fun _ _ _ h=>h,Nat.le_refl _,fun _ _=>rfl,by simp,fun q k h e=>by
   rw [List.getElem?_set]at e
   split at e
   ·rename_i h2;subst h2
    simp at e;subst e
    exact⟨n,CQ,by omega,fun h=>by omega⟩
   ·rename_i h2
    exact⟨k,e,Nat.le_refl _,fun _=>hold q (fun h=>h2 h.symm)⟩⟩
 refine⟨⟨r.comm,fun o ds e=> ?_,r.k7,r.inj,fun q k e=> ?_,fun q b' c z o hl e np=> ?_,fun q q' b' c z c' z' h h' e e'=> ?_⟩,le⟩
 ·obtain⟨fW,T',h3,h4,h5,h6⟩:=r.obj o ds e
  exact⟨fW,T',h3,h4,h5,fun i d v e1 e2=>(h6 i d v e1 e2).mono le⟩
 ·rw [List.getElem?_set]at e
  split at e
  ·rename_i h2;subst h2
   simp at e;subst e
   exact .inr ⟨b,cap,size,vs,T,ey,hb,e9,hn,hG,hy⟩
  ·rename_i h2
   rw [hold q (fun h=>h2 h.symm)];exact r.tok q k e
 ·by_cases h:q=t
  ·subst h;rw [ey]at e;cases e;exact ho o np
  ·rw [hold q h]at e;exact r.fL q b' c z o (iz q hl) e np
 ·by_cases h1:q=t <;> by_cases h2:q'=t
  ·omega
  ·subst h1;rw [ey]at e;cases e;rw [hold q' h2]at e';exact(ht q' c' z' (iz q' h') e').elim
  ·subst h2;rw [ey]at e';cases e';rw [hold q h1]at e;exact(ht q c z (iz q h) e).elim
  ·rw [hold q h1]at e;rw [hold q' h2]at e';exact r.gq q q' b' c z c' z' (iz q h) (iz q' h') e e'
def Map.fix (M:Map) (b lo:Nat) (us:List Value):Map:=
 {M with G:=fun b' o=>if b'=b∧lo≤o∧o<lo+us.length then us[o - lo]? else M.G b' o}
theorem Rel.acu (r:Rel M s w) (t n m b cap z size:Nat) (us:List Value) (hz:zs z=size) (CQ:s.aH[t]? = some (some n)) (kC:M.be t=some (b,cap,z)) (BG:us.length=m*size) (gv:n+m≤cap) (hm:0<m)
 (h1 : ∀ u∈us,u.oneCell'=true) (vs:Array Value) (T:TypeId) (hh:w.heap[b]? = some (.cells vs T (0,0))) (e9:vs.size=cap*size) (hy:z=0→T=pj) :
 Rel (M.fix b (n*size) us) {s with aH:=s.aH.set t (some (n+m))} (w.setRow b (vs.toList.take (n*size)++us++vs.toList.drop (n*size+us.length)).toArray)∧
 Ext M s w (M.fix b (n*size) us) {s with aH:=s.aH.set t (some (n+m))} (w.setRow b (vs.toList.take (n*size)++us++vs.toList.drop (n*size+us.length)).toArray):=by
 have OD:t<s.aH.length:=(List.getElem?_eq_some_iff.1 CQ).1
 have xw:s.live t:=⟨n,CQ⟩
 have Ls : ∀ off,n*size≤off→M.G b off=none:=by
  rcases r.tok t n CQ with ⟨h3,_⟩ | ⟨b',HI,yi,fW,T',h3,h4,h5,h6,h7⟩
  ·rw [kC]at h3;cases h3
  ·rw [kC]at h3;cases h3;rw [← hz];exact h7.1
 have kb:n*size+us.length≤vs.size:=by rw [BG,e9, ← Nat.add_mul];exact Nat.mul_le_mul_right _ gv
 have iz : ∀ q,St.live {s with aH:=s.aH.set t (some (n+m))} q→s.live q:=by
  rintro q ⟨k,hk⟩
  rw [List.getElem?_set]at hk
  split at hk
  ·rename_i h;subst h;exact xw
  ·exact⟨k,hk⟩
 generalize ey:(vs.toList.take (n*size)++us++vs.toList.drop (n*size+us.length)).toArray=vK
 have RO:vK.size=vs.size:=by rw [← ey];simp;omega
 have hP : ∀ i,vK[i]? = if i<n*size then vs[i]? else if i<n*size+us.length then us[i - n*size]? else vs[i]? :=by
  intro i
  rw [← ey]
  simp only [List.getElem?_toArray]
  have hl:(vs.toList.take (n*size)).length=n*size:=by simp;omega
  split
  ·rename_i h3
   rw [List.append_assoc,List.getElem?_append_left (by omega),List.getElem?_take_of_lt h3];simp
  ·rename_i h3
   rw [List.append_assoc,List.getElem?_append_right (by omega),hl]
   split
   ·rename_i h4
    rw [List.getElem?_append_left (by omega)]
   ·rename_i h4
    rw [List.getElem?_append_right (by omega),List.getElem?_drop]
    rw [show n*size+us.length+(i - n*size - us.length)=i by omega];simp
 have fa:(w.setRow b vK).heap[b]? = some (.cells vK T (0,0)):=setRow_heap w b vs vK T (0,0) hh
 have lL : ∀ q,q≠b→(w.setRow b vK).heap[q]? = w.heap[q]? :=fun q hq=>setRow_other w b q _ hq
 have le:Le M s (M.fix b (n*size) us) {s with aH:=s.aH.set t (some (n+m))}:=by
  refine⟨fun b' o v h=> ?_,Nat.le_refl _,fun _ _=>rfl,by simp,fun q k h e=> ?_⟩
  ·show(if b'=b∧n*size≤o∧o<n*size+us.length then us[o - n*size]? else M.G b' o)=some v
   rw [if_neg]
   ·exact h
   ·rintro⟨rfl,h3,_⟩;rw [Ls o h3]at h;cases h
  ·rw [List.getElem?_set]at e
   split at e
   ·rename_i h2;subst h2
    simp at e;subst e
    exact⟨n,CQ,by omega,fun h=>by omega⟩
   ·exact⟨k,e,Nat.le_refl _,fun _=>rfl⟩
 have sE : ∀ b' o,b'≠b→(M.fix b (n*size) us).G b' o=M.G b' o:=fun b' o h=>by simp [Map.fix,h]
 refine⟨⟨fun b' o v e=> ?_,fun o ds e=> ?_,fun o ho off=> ?_,r.inj,fun q k e=> ?_,fun q b' c z o hl e np=>r.fL q b' c z o (iz q hl) e np,
  fun q q' b' c z c' z' h h' e e'=>r.gq q q' b' c z c' z' (iz q h) (iz q' h') e e'⟩, ?_⟩
 ·by_cases hb:b'=b
  ·subst hb
   rw [kP fa,hP]
   have e':(if b'=b'∧n*size≤o∧o<n*size+us.length then us[o - n*size]? else M.G b' o)=some v:=e
   by_cases h3:n*size≤o
   ·by_cases h4:o<n*size+us.length
    ·rw [if_pos ⟨rfl,h3,h4⟩]at e'
     rw [if_neg (by omega),if_pos h4]
     exact⟨e',h1 v (List.mem_of_getElem? e')⟩
    ·rw [if_neg (fun h=>h4 h.2.2),Ls o h3]at e';cases e'
   ·rw [if_neg (fun h=>h3 h.2.1)]at e'
    obtain⟨h5,h6⟩:=r.comm b' o v e'
    rw [kP hh]at h5
    rw [if_pos (by omega)]
    exact⟨h5,h6⟩
  ·rw [sE b' o hb]at e
   obtain⟨h5,h6⟩:=r.comm b' o v e
   refine⟨?_,h6⟩
   rw [← h5]
   simp [World.cell?,lL b' hb]
 ·obtain⟨fW,T',h3,h4,h5,h6⟩:=r.obj o ds e
  have ho:o<s.aG.length:=(List.getElem?_eq_some_iff.1 e).1
  refine⟨fW,T', ?_,h4,h5,fun i d v e1 e2=>(h6 i d v e1 e2).mono le⟩
  show mD (w.setRow b vK).heap[M.mu o]? (M.ob o) _ _
  rw [lL _ (r.fL t b cap z o xw kC ho)];exact h3
 ·show(M.fix b (n*size) us).G (M.mu o) off=none
  rw [sE _ _ (r.fL t b cap z o xw kC ho)];exact r.k7 o ho off
 ·rw [List.getElem?_set]at e
  split at e
  ·rename_i h2;subst h2
   simp at e;subst e
   refine .inr ⟨b,cap,z,vK,T,kC,fa,by rw [RO,e9,hz],gv,fun off ho=> ?_,hy⟩
   rw [hz]at ho
   show(if b=b∧n*size≤off∧off<n*size+us.length then us[off - n*size]? else M.G b off)=none
   rw [Nat.add_mul]at ho
   rw [if_neg (by rintro⟨_,_,h⟩;omega)]
   exact Ls off (by omega)
  ·rename_i h2
   rcases r.tok q k e with h3 | ⟨b',HI,yi,fW,T',h3,h4,h5,h6,h7⟩
   ·exact .inl h3
   ·have fE:b'≠b:=fun h=>h2 (r.gq t q b cap z HI yi xw ⟨k,e⟩ kC (by rw [h3,h]))
    exact .inr ⟨b',HI,yi,fW,T',h3,by rw [lL b' fE];exact h4,h5,h6,fun off ho=>by rw [sE b' off fE];exact h7.1 off ho,h7.2⟩
 ·refine⟨le,fun q _ _ h4=>lL q (fun h=>h4 t cap z xw (by rw [kC,h])),fun o h3 h4=>by simp at h4;omega,fun q b' c z h e=> .inl ⟨iz q h,c,z,e⟩,fun b' o h=> ?_,by simp,rfl,rfl,rfl⟩
  by_cases hb:b'=b
  ·exact .inr ⟨t,cap,z,xw,by rw [kC,hb]⟩
  ·exact(h (sE b' o hb)).elim
theorem Rel.freeze (r:Rel M s w) {b:Nat} (off n:Nat) (ho : ∀ o,o<s.aG.length→M.mu o≠b) (ht : ∀ t c z,s.live t→M.be t≠some (b,c,z)) :
 Rel M s (w.freeze ⟨b,off,none⟩ n)∧(∀ q,q≠b→(w.freeze ⟨b,off,none⟩ n).heap[q]? = w.heap[q]?)∧(w.freeze ⟨b,off,none⟩ n).heap.size=w.heap.size∧
 (w.freeze ⟨b,off,none⟩ n).os=w.os∧(w.freeze ⟨b,off,none⟩ n).tape=w.tape∧(w.freeze ⟨b,off,none⟩ n).output=w.output:=by
 by_cases hn:n=0
 ·simp [World.freeze,hn,r]
 ·have hh : ∀ q,q≠b→(w.freeze ⟨b,off,none⟩ n).heap[q]? = w.heap[q]? :=fun q hq=>by
   simp [World.freeze,hn,Array.getElem?_modify,Ne.symm hq]
  have vL : ∀ q o,(w.freeze ⟨b,off,none⟩ n).cell? ⟨q,o,none⟩=w.cell? ⟨q,o,none⟩:=by
   intro q o
   by_cases hq:q=b
   ·subst hq
    unfold World.cell?
    simp only [World.freeze,hn,if_false,Array.getElem?_modify,if_true]
    cases h:w.heap[q]? with
    | none=>rfl
    | some x=>cases x <;> rfl
   ·simp [World.cell?,hh q hq]
  refine⟨⟨fun q o v e=> ?_,fun o ds e=> ?_,r.k7,r.inj,fun t k e=> ?_,r.fL,r.gq⟩,hh,by simp [World.freeze,hn],by simp [World.freeze,hn],by simp [World.freeze,hn],by simp [World.freeze,hn]⟩
  ·rw [vL];exact r.comm q o v e
  ·rw [hh _ (ho o (List.getElem?_eq_some_iff.1 e).1)];exact r.obj o ds e
  ·rcases r.tok t k e with h3 | ⟨b',cap,size,vs,T,h3,h4,h5⟩
   ·exact .inl h3
   ·refine .inr ⟨b',cap,size,vs,T,h3, ?_,h5⟩
    rw [hh]
    ·exact h4
    ·rintro rfl;exact ht t cap size ⟨k,e⟩ h3
theorem Rel.acv (r:Rel M s w) (t:Nat):Rel M {s with aH:=s.aH.set t none} w∧Le M s M {s with aH:=s.aH.set t none}:=by
 have iz : ∀ q,St.live {s with aH:=s.aH.set t none} q→s.live q:=by
  rintro q ⟨k,hk⟩
  rw [List.getElem?_set]at hk
  split at hk
  ·split at hk <;> simp at hk
  ·exact⟨k,hk⟩
 have s4 : ∀ (q k:Nat),(s.aH.set t none)[q]? = some (some k)→s.aH[q]? = some (some k):=by
  intro q k e
  rw [List.getElem?_set]at e
  split at e
  ·split at e <;> simp at e
  ·exact e
 have le:Le M s M {s with aH:=s.aH.set t none}:=
  ⟨fun _ _ _ h=>h,Nat.le_refl _,fun _ _=>rfl,by simp,fun q k _ e=>⟨k,s4 q k e,Nat.le_refl _,fun _=>rfl⟩⟩
 refine⟨⟨r.comm,fun o ds e=> ?_,r.k7,r.inj,fun q k e=>r.tok q k (s4 q k e),fun q b' c z o hl e np=>r.fL q b' c z o (iz q hl) e np,
  fun q q' b' c z c' z' h h' e e'=>r.gq q q' b' c z c' z' (iz q h) (iz q' h') e e'⟩,le⟩
 obtain⟨fW,T',h3,h4,h5,h6⟩:=r.obj o ds e
 exact⟨fW,T',h3,h4,h5,fun i d v e1 e2=>(h6 i d v e1 e2).mono le⟩
end
end Go.Abs

/-! Sound -/

namespace Go.Abs
section
variable {M:Map} {s:St} {w:World}
theorem RD.jO {k:IntKind} {n:Int} {v:Value} (h:RD M s (.int k n) v):v = .int k n:=by cases h;rfl
theorem RD.nz {b:Bool} {v:Value} (h:RD M s (.bool b) v):v = .bool b:=by cases h;rfl
theorem RD.kY {l:List UInt8} {v:Value} (h:RD M s (.str l) v):v = .string ⟨⟨l⟩⟩:=by cases h;rfl
theorem RD.rF {v:Value} (h:RD M s .fB v):v = .pointer none:=by cases h;rfl
theorem RD.rG {o off:Nat} {v:Value} (h:RD M s (.ptr o off) v):v = .pointer (some ⟨M.mu o,off,none⟩)∧o<s.aG.length:=by
 cases h with | ptr _ _ h hm=>exact⟨rfl,h⟩
theorem RD.zQ {o off:Nat} {v:Value} (h:RD M s (.ptr o off) v):M.ob o≠ .map:=by cases h with | ptr _ _ h hm=>exact hm
theorem RD.HJ {o:Nat} {v:Value} (h:RD M s (.gM o) v):v = .map (some (M.mu o))∧o<s.aG.length∧M.ob o = .map:=by cases h with | gM _ h hm=>exact⟨rfl,h,hm⟩
theorem RD.KH {f:Nat} {ds:List D} {v:Value} (h:RD M s (.gP f ds) v) : ∃ vs:Array Value,v = .func (.func f) #[] vs∧ds.length=vs.size∧
 ∀ (i:Nat) (d:D) (v:Value),ds[i]? = some d→vs[i]? = some v→RD M s d v:=by
 cases h with | gP _ _ vs h1 h2=>exact⟨vs,rfl,h1,h2⟩
theorem RD.yj {row:List D} {off:Nat} {v:Value} (h:RD M s (.dU row off) v) : ∃ b k,v = .pointer (some ⟨b,k+off,none⟩)∧
 (∀ (i:Nat) (d:D),row[i]? = some d→∃ u,M.G b (k+i)=some u)∧(∀ (i:Nat) (d:D) (u:Value),row[i]? = some d→M.G b (k+i)=some u→RD M s d u):=by
 cases h with | dU _ _ b k h1 h2=>exact⟨b,k,rfl,h1,h2⟩
theorem RD.Ec {ds:List D} {v:Value} (h:RD M s (.agg ds) v) : ∃ vs:Array Value,v = .agg vs∧ds.length=vs.size∧(∀ v∈vs,v.oneCell'=true)∧
 ∀ (i:Nat) (d:D) (v:Value),ds[i]? = some d→vs[i]? = some v→RD M s d v:=by
 cases h with | agg _ vs h1 h2 h3=>exact⟨vs,rfl,h1,h2,h3⟩
theorem RD.Ft {ds:List D} {v:Value} (h:RD M s (.tuple ds) v) : ∃ vs:Array Value,v = .tuple vs∧ds.length=vs.size∧
 ∀ (i:Nat) (d:D) (v:Value),ds[i]? = some d→vs[i]? = some v→RD M s d v:=by
 cases h with | tuple _ vs h1 h2=>exact⟨vs,rfl,h1,h2⟩
theorem RD.undef:RD M s (.tuple []) Go.undef:= .tuple [] #[] rfl (fun i d v h=>by simp at h)
theorem RD.iW {g:Tag} {z:Nat} {rows:List (List D)} {v:Value} (h:RD M s (.slice g z rows) v) :
 (rows = []∧v = .slice none 0 0∧iL M s g z 0 none 0)∨(rows = []∧g = .shared∧∃ a cap,v = .slice (some a) 0 cap)∨
 ∃ b k cap,v = .slice (some ⟨b,k,none⟩) rows.length cap∧rows.length≤cap∧(∀ row∈rows,row.length=z)∧
  (∀ (i:Nat) (row:List D) (j:Nat) (d:D),rows[i]? = some row→row[j]? = some d→∃ u,M.G b (k+(i*z+j))=some u)∧
  (∀ (i:Nat) (row:List D) (j:Nat) (d:D) (u:Value),rows[i]? = some row→row[j]? = some d→M.G b (k+(i*z+j))=some u→RD M s d u)∧
  iL M s g z rows.length (some (b,k)) cap:=by
 cases h with
 | jM _ _ cap hc ht=>subst hc;exact .inl ⟨rfl,rfl,ht⟩
 | nw _ a cap=>exact .inr (.inl ⟨rfl,rfl,a,cap,rfl⟩)
 | slice _ _ _ b k cap hl hs h1 h2 ht=>exact .inr (.inr ⟨b,k,cap,rfl,hl,hs,h1,h2,ht⟩)
theorem RD.row {d:D} {v:Value} (h:RD M s d v) {r:List D} (hr:d.row=some r):v.cells.size=r.length∧(∀ u∈v.cells,u.oneCell'=true)∧
 ∀ (i:Nat) (d':D) (u:Value),r[i]? = some d'→v.cells[i]? = some u→RD M s d' u:=by
 have one : ∀ (x:Value),x.oneCell'=true→x.cells = #[x]:=by intro x hx;cases x <;> first | rfl | (simp [Value.oneCell']at hx)
 have go : ∀ (x:Value),x.oneCell'=true→RD M s d x→d.row=some [d]→x.cells.size=r.length∧(∀ u∈x.cells,u.oneCell'=true)∧
  ∀ (i:Nat) (d':D) (u:Value),r[i]? = some d'→x.cells[i]? = some u→RD M s d' u:=by
  intro x hx hd h1
  rw [h1]at hr;cases hr
  rw [one x hx]
  refine⟨rfl,by simp [hx],fun i d' u e1 e2=> ?_⟩
  cases i with
  | zero=>simp at e1 e2;subst e1;subst e2;exact hd
  | succ i=>simp at e1
 cases h with
 | junk v=>cases hr
 | int k n=>exact go _ rfl (.int k n) rfl
 | bool b=>exact go _ rfl (.bool b) rfl
 | str l=>exact go _ rfl (.str l) rfl
 | fB=>exact go _ rfl .fB rfl
 | val v hv=>exact go _ hv (.val v hv) rfl
 | fT T o v h ht hv=>exact go _ (by rcases hv with rfl | rfl <;> rfl) (.fT T o v h ht hv) rfl
 | ptr o off h hm=>exact go _ rfl (.ptr o off h hm) rfl
 | gP f ds vs hl h=>exact go _ rfl (.gP f ds vs hl h) rfl
 | gM o h hm=>exact go _ rfl (.gM o h hm) rfl
 | dU row off b k h1 h2=>exact go _ rfl (.dU row off b k h1 h2) rfl
 | jM g z cap hc ht=>exact go _ rfl (.jM g z cap hc ht) rfl
 | nw z a cap=>exact go _ rfl (.nw z a cap) rfl
 | slice g z rows b k cap hl hs h1 h2 ht=>exact go _ rfl (.slice g z rows b k cap hl hs h1 h2 ht) rfl
 | agg cells vs hl h1 h2=>cases hr;exact⟨hl.symm,h1,h2⟩
 | tuple ds vs hl h1=>cases hr
theorem qb {v:Value} {d:D} (h:rD v=some d):RD M s d v∧v.oneCell'=true:=by
 unfold rD at h
 split at h <;> first | (cases h;done) | skip
 ·cases h;exact⟨.int _ _,rfl⟩
 ·cases h;exact⟨.bool _,rfl⟩
 ·cases h;exact⟨.str _,rfl⟩
 ·cases h;exact⟨.fB,rfl⟩
 ·cases h;exact⟨.jM _ _ 0 rfl rfl,rfl⟩
 ·cases h;exact⟨.val _ rfl,rfl⟩
theorem kZ : ∀ {vs:List Value} {ds:List D},ny vs=some ds→ds.length=vs.length∧(∀ v∈vs,v.oneCell'=true)∧
 ∀ (i:Nat) (d:D) (v:Value),ds[i]? = some d→vs[i]? = some v→RD M s d v
 | [],ds,h=>by cases h;exact⟨rfl,by simp,by simp⟩
 | v::r,ds,h=>by
  unfold ny at h
  split at h
  ·rename_i d om h1 h2
   cases h
   obtain⟨a,b⟩:=qb (M:=M) (s:=s) h1
   obtain⟨i1,i2,i3⟩:=kZ h2
   refine⟨by simp [i1],fun u hu=> ?_,fun i d' u e1 e2=> ?_⟩
   ·rcases List.mem_cons.1 hu with rfl | hu
    ·exact b
    ·exact i2 u hu
   ·cases i with
    | zero=>simp at e1 e2;subst e1;subst e2;exact a
    | succ i=>simp at e1 e2;exact i3 i d' u e1 e2
  ·cases h
theorem Ed {v:Value} {d:D} (h:B6 v=some d):RD M s d v∧v.oneCell'=true:=by
 unfold B6 at h
 split at h
 ·cases h;exact⟨.val _ rfl,rfl⟩
 ·exact qb h
theorem vM : ∀ {vs:List Value} {ds:List D},vI vs=some ds→ds.length=vs.length∧(∀ v∈vs,v.oneCell'=true)∧
 ∀ (i:Nat) (d:D) (v:Value),ds[i]? = some d→vs[i]? = some v→RD M s d v
 | [],ds,h=>by cases h;exact⟨rfl,by simp,by simp⟩
 | v::r,ds,h=>by
  unfold vI at h
  split at h
  ·rename_i d om h1 h2
   cases h
   obtain⟨g1,g2⟩:=Ed (M:=M) (s:=s) h1
   obtain⟨k1,k2,k3⟩:=vM h2
   refine⟨by simp [k1],fun u hu=> ?_,fun i d' u e1 e2=> ?_⟩
   ·rcases List.mem_cons.1 hu with rfl | hu
    ·exact g2
    ·exact k2 u hu
   ·cases i with
    | zero=>simp at e1 e2;subst e1;subst e2;exact g1
    | succ i=>exact k3 i d' u (by simpa using e1) (by simpa using e2)
  ·cases h
theorem BH {b:Bool} {vs:List Value} {ds:List D} (h:Lr b vs=some ds):ds.length=vs.length∧(∀ v∈vs,v.oneCell'=true)∧
 ∀ (i:Nat) (d:D) (v:Value),ds[i]? = some d→vs[i]? = some v→RD M s d v:=by
 unfold Lr at h
 split at h
 ·exact vM h
 ·exact kZ h
theorem Lt {v:Value} {d:D} (h:Lp v=some d):RD M s d v:=by
 unfold Lp at h
 split at h
 ·rename_i cs
  cases hc:ny cs.toList with
  | none=>rw [hc]at h;cases h
  | some ds=>
   rw [hc]at h;cases h
   obtain⟨h1,h2,h3⟩:=kZ (M:=M) (s:=s) hc
   exact .agg ds cs (by simpa using h1) (fun v hv=>h2 v (by simpa using hv)) (fun i d v e1 e2=>h3 i d v e1 (by simpa using e2))
 ·cases h;exact .undef
 ·exact(qb h).1
def lM (M:Map) (s:St) (tm:Tm) (tmps:Array Value):Prop:=∀ t,RD M s (tm.get t) (tmps.getD t Go.undef)
theorem lM.mono {M':Map} {s':St} {tm:Tm} {tmps:Array Value} (h:lM M s tm tmps) (le:Le M s M' s'):lM M' s' tm tmps:=fun t=>(h t).mono le
theorem cH {x:Operand} {y:X} (h:cX x=some y) {tm:Tm} {act:Act} (hr:lM M s tm act.tmps):RD M s (y.ev tm) (act.eval x):=by
 unfold cX at h
 split at h
 ·cases h;exact hr _
 ·rename_i v
  cases hv:Lp v with
  | none=>rw [hv]at h;cases h
  | some d=>rw [hv]at h;cases h;exact Lt hv
 ·cases h;exact .gP _ [] #[] rfl (by simp)
 ·cases h
theorem Tm.Bd (tm:Tm) (t:Nat) (d:D) (u:Nat):(tm.set t d).get u=if u=t then d else tm.get u:=by
 induction tm with
 | nil=>
  simp only [Tm.set,Tm.get]
  by_cases h:t=u
  ·simp [h]
  ·rw [if_neg h,if_neg (fun e=>h e.symm)]
 | cons p r ih=>
  obtain⟨k,e⟩:=p
  simp only [Tm.set]
  split
  ·rename_i h
   subst h
   simp only [Tm.get]
   by_cases h:k=u
   ·simp [h]
   ·rw [if_neg h,if_neg (fun e=>h e.symm),if_neg h]
  ·rename_i h
   simp only [Tm.get,ih]
   by_cases h1:k=u
   ·subst h1;simp [h]
   ·simp [h1]
theorem lM.put {tm:Tm} {act:Act} (h:lM M s tm act.tmps) {dst:Option Nat} (hd : ∀ t,dst=some t→t<act.tmps.size) {d:D} {v:Value} (hv:RD M s d v) :
 lM M s (tm.put dst d) (act.put dst v).tmps:=by
 intro u
 cases dst with
 | none=>exact h u
 | some t=>
  simp only [Tm.put,Act.put,Tm.Bd]
  have ht:=hd t rfl
  by_cases hu:u=t
  ·subst hu
   simp [ht];exact hv
  ·rw [if_neg hu]
   have:=h u
   simpa [Array.getElem?_setIfInBounds_ne (fun e=>hu e.symm)]using this
theorem im (P:Program) {t:TypeId} {i:TypeInfo} (h:P.info? t=some i) (w:World):(typeInfo t).run P w = .ok i w:=by
 simp [typeInfo,h]
theorem rH (b o n:Nat):Addr.add ⟨b,o,none⟩ n = ⟨b,o+n,none⟩:=Addr.add_lit b o n
theorem B8 (P:Program) {t:TypeId} {i:TypeInfo} {agg:Bool} (hi:P.info? t=some i) (ha:sD P t=some agg) (b k:Nat) (us:List Value)
 (hl:us.length=if agg then i.size else 1) (h : ∀ (j:Nat) (u:Value),us[j]? = some u→w.cell? ⟨b,k+j,none⟩=some u) :
 (loadVar t ⟨b,k,none⟩).run P w = .ok (if agg then .agg us.toArray else us.getD 0 Go.undef) w:=by
 have zR:(isAgg t).run P w = .ok agg w:=by
  unfold sD at ha
  unfold isAgg
  cases hu:P.underlying t with
  | none=>rw [hu]at ha;cases ha
  | some d=>
   rw [hu]at ha
   simp only [Sem.run_bind,run_underlying hu,Result.andThen_ok]
   cases d <;> simp_all
 cases agg with
 | true=>
  simp only [if_true]at hl ⊢
  have hc:=run_loadCells_list (P:=P) w ⟨b,k,none⟩ us (fun j v e=>by rw [rH];exact h j v e)
  simp [loadVar,zR,sizeOf,im P hi, ← hl,hc]
 | false=>
  simp only [Bool.false_eq_true,if_false]at hl ⊢
  match us,hl with
  | [u],_=>
   have:=h 0 u rfl
   simp only [Nat.add_zero]at this
   simp [loadVar,zR,this]
theorem sG {cs:List D} {off:Nat} {agg:Bool} {size:Nat} {d:D} (h:part cs off agg size=some d) :
 (agg=true∧off+size≤cs.length∧d = .agg ((cs.drop off).take size))∨(agg=false∧cs[off]? = some d):=by
 unfold part at h
 split at h
 ·split at h
  ·cases h;exact .inl ⟨rfl, ‹_›,rfl⟩
  ·cases h
 ·exact .inr ⟨rfl,h⟩
theorem tT {cs:List D} {off size:Nat} {agg:Bool} {d:D} (h:part cs off agg size=some d) (us:List Value) (hl:us.length=if agg then size else 1)
 (lD:agg=true→∀ u∈us,u.oneCell'=true)
 (hr : ∀ (j:Nat) (d:D) (u:Value),cs[off+j]? = some d→us[j]? = some u→RD M s d u):RD M s d (if agg then .agg us.toArray else us.getD 0 Go.undef):=by
 rcases sG h with ⟨rfl,h1,rfl⟩ | ⟨rfl,h1⟩
 ·simp only [if_true]at hl ⊢
  refine .agg _ _ (by simp [hl];omega) (fun v hv=>lD rfl v (by simpa using hv)) (fun i d v e1 e2=> ?_)
  rw [List.getElem?_take]at e1
  split at e1
  ·rw [List.getElem?_drop]at e1
   exact hr i d v e1 (by simpa using e2)
  ·cases e1
 ·simp only [Bool.false_eq_true,if_false]at hl ⊢
  match us,hl with
  | [u],_=>exact hr 0 d u (by simpa using h1) rfl
end
end Go.Abs

/-! Sound2 -/

namespace Go.Abs
def dK (P:Program) (M:Map) (s:St) (w:World) (x:Sem Next) (d:D) (s':St):Prop:=
 ∃ v w' M',(x.run P w = .ok (.value v) w'∨(x.run P w = .ok .skip w'∧v=Go.undef))∧Rel M' s' w'∧RD M' s' d v∧Ext M s w M' s' w'
section
variable {P:Program} {M:Map} {s:St} {w:World}
theorem dK.pure {x:Sem Next} {d:D} {v:Value} (r:Rel M s w) (h:x.run P w = .ok (.value v) w) (hd:RD M s d v):dK P M s w x d s:=
 ⟨v,w,M, .inl h,r,hd,Ext.refl M s w⟩
theorem Lu (r:Rel M s w) {t:TypeId} {z:List D} (hz:zeroOf P t=some z) :
 dK P M s w (do pure (.value (← Instr.alloc t true (.tuple #[])))) (.ptr s.aG.length 0) {s with aG:=s.aG++ [z]}:=by
 unfold zeroOf at hz
 split at hz
 ·rename_i i hi
  split at hz
  ·rename_i v hv
   split at hz
   ·rename_i e9
    obtain⟨h1,h2,h3⟩:=kZ (M:=M) (s:=s) hz
    obtain⟨r',e'⟩:=r.er z v.cells t (by rw [h1];simp) (fun u hu=>h2 u (by simpa using hu)) (fun i d u e1 e2=>h3 i d u e1 (by simpa using e2))
    refine⟨_,_,_, .inl ?_,r', .ptr _ _ (by simp) (by simp [Map.er,Map.ob]),e'⟩
    simp [Instr.alloc,zeroValue,im P hi,hv,newVar,newRow,Map.er,Map.mu]
   ·cases hz
  ·cases hz
 ·cases hz
theorem JT (r:Rel M s w) {t:TypeId} {z:List D} (hz:yh P t=some (.fB::z)) :
 dK P M s w (do pure (.value (← Instr.alloc t true (.tuple #[])))) (.ptr s.aG.length 0) {s with aG:=s.aG++ [.fT t s.aG.length::z]}:=by
 unfold yh at hz
 split at hz
 ·rename_i i hi
  split at hz
  ·rename_i v hv
   split at hz
   ·rename_i e9
    obtain⟨h1,h2,h3⟩:=BH (M:=M) (s:=s) hz
    obtain⟨r',e'⟩:=r.HH (.fT t s.aG.length::z) v.cells t (.ty t) (by simp) (fun _ h=>by cases h;rfl) (by simp at h1 ⊢;omega) (fun u hu=>h2 u (by simpa using hu)) (fun i d u e1 e2=>by
     cases i with
     | zero=>
      simp at e1;subst e1
      have:=(h3 0 .fB u rfl (by simpa using e2)).rF
      exact .fT t _ u (by simp) (by simp [Map.er,Map.ty,Ob.ty?]) (.inl this)
     | succ i=>exact(h3 (i+1) d u (by simpa using e1) (by simpa using e2)).mono (uE s w.heap.size _ _))
    refine⟨_,_,_, .inl ?_,r', .ptr _ _ (by simp) (by simp [Map.er,Map.ob]),e'⟩
    simp [Instr.alloc,zeroValue,im P hi,hv,newVar,newRow,Map.er,Map.mu]
   ·cases hz
  ·cases hz
 ·cases hz
theorem RP (r:Rel M s w) {t:TypeId} {d:D} {v:Value} {row:List D} (hd:RD M s d v) (hr:d.row=some row) :
 dK P M s w (do pure (.value (← Instr.box t v))) (.ptr s.aG.length 0) {s with aG:=s.aG++ [row]}:=by
 obtain⟨h1,h2,h3⟩:=hd.row hr
 obtain⟨r',e'⟩:=r.er row v.cells t h1 h2 h3
 refine⟨_,_,_, .inl ?_,r', .ptr _ _ (by simp) (by simp [Map.er,Map.ob]),e'⟩
 simp [Instr.box,newVar,newRow,Map.er,Map.mu]
theorem OE (r:Rel M s w) {t:TypeId} {d:D} {v:Value} {row:List D} (hd:RD M s d v) (hr:d.row=some (.fB::row)) :
 dK P M s w (do pure (.value (← Instr.box t v))) (.ptr s.aG.length 0) {s with aG:=s.aG++ [.fT t s.aG.length::row]}:=by
 obtain⟨h1,h2,h3⟩:=hd.row hr
 obtain⟨r',e'⟩:=r.HH (.fT t s.aG.length::row) v.cells t (.ty t) (by simp) (fun _ h=>by cases h;rfl) (by simp at h1 ⊢;omega) h2 (fun i d u e1 e2=>by
  cases i with
  | zero=>
   simp at e1;subst e1
   have:=(h3 0 .fB u rfl e2).rF
   exact .fT t _ u (by simp) (by simp [Map.er,Map.ty,Ob.ty?]) (.inl this)
  | succ i=>exact(h3 (i+1) d u (by simpa using e1) e2).mono (uE s w.heap.size _ _))
 refine⟨_,_,_, .inl ?_,r', .ptr _ _ (by simp) (by simp [Map.er,Map.ob]),e'⟩
 simp [Instr.box,newVar,newRow,Map.er,Map.mu]
theorem Gv (r:Rel M s w) {t:TypeId} {i:TypeInfo} {agg:Bool} (hi:P.info? t=some i) (ha:sD P t=some agg) {o off:Nat} {cs:List D} {d:D}
 (ho:s.aG[o]? = some cs) (hk:M.ob o≠ .map) (hp:part cs off agg i.size=some d) :
 dK P M s w (do pure (.value (← Instr.loadAt t (.pointer (some ⟨M.mu o,off,none⟩))))) d s:=by
 obtain⟨vs,T,hh,e9,⟨lD,_⟩,pR⟩:=r.obj o cs ho
 replace hh:=hh.cells hk
 let n:=if agg then i.size else 1
 have kb:off+n≤vs.size:=by
  rcases sG hp with ⟨rfl,h1,_⟩ | ⟨rfl,h1⟩
  ·simp [n];omega
  ·have:=(List.getElem?_eq_some_iff.1 h1).1;simp [n];omega
 have hlen:((vs.toList.drop off).take n).length=n:=by simp;omega
 have hP : ∀ (j:Nat) (u:Value),((vs.toList.drop off).take n)[j]? = some u→vs[off+j]? = some u:=by
  intro j u h
  rw [List.getElem?_take]at h
  split at h
  ·rw [List.getElem?_drop]at h;simpa using h
  ·cases h
 have dS:=B8 (w:=w) P hi ha (M.mu o) off ((vs.toList.drop off).take n) hlen (fun j u h=>by rw [kP hh];exact hP j u h)
 refine dK.pure (v:=if agg then .agg ((vs.toList.drop off).take n).toArray else((vs.toList.drop off).take n).getD 0 Go.undef) r (by simp [Instr.loadAt,Instr.sureAddr,dS]) ?_
 refine tT hp _ hlen (fun _ u hu=>lD u ?_) (fun j d u e1 e2=>pR _ d u e1 (hP j u e2))
 exact Array.mem_toList_iff.1 (List.mem_of_mem_drop (List.mem_of_mem_take hu))
theorem yk {b:Nat} : ∀ (n k:Nat),(∀ j,j<n→∃ u,M.G b (k+j)=some u)→∃ us:List Value,us.length=n∧∀ (j:Nat) (u:Value),us[j]? = some u→M.G b (k+j)=some u
 | 0,_,_=>⟨[],rfl,fun j u h=>by simp at h⟩
 | n+1,k,h=>by
  obtain⟨u0,h0⟩:=h 0 (by omega)
  obtain⟨us,h1,h2⟩:=yk n (k+1) (fun j hj=>by obtain⟨u,hu⟩:=h (j+1) (by omega);exact⟨u,by rw [show k+1+j=k+(j+1) by omega];exact hu⟩)
  refine⟨u0::us,by simp [h1],fun j u hj=> ?_⟩
  cases j with
  | zero=>simp at hj;subst hj;exact h0
  | succ j=>simp at hj;have:=h2 j u hj;rw [show k+(j+1)=k+1+j by omega];exact this
theorem Gw (r:Rel M s w) {t:TypeId} {i:TypeInfo} {agg:Bool} (hi:P.info? t=some i) (ha:sD P t=some agg) {row:List D} {off b k:Nat} {d:D}
 (h1 : ∀ (i:Nat) (d:D),row[i]? = some d→∃ u,M.G b (k+i)=some u) (h2 : ∀ (i:Nat) (d:D) (u:Value),row[i]? = some d→M.G b (k+i)=some u→RD M s d u)
 (hp:part row off agg i.size=some d) :
 dK P M s w (do pure (.value (← Instr.loadAt t (.pointer (some ⟨b,k+off,none⟩))))) d s:=by
 let n:=if agg then i.size else 1
 have kb:off+n≤row.length:=by
  rcases sG hp with ⟨rfl,h1,_⟩ | ⟨rfl,h1⟩
  ·simp [n];omega
  ·have:=(List.getElem?_eq_some_iff.1 h1).1;simp [n];omega
 obtain⟨us,hl,BG⟩:=yk (M:=M) (b:=b) n (k+off) (fun j hj=>by
  obtain⟨d,hd⟩ : ∃ d,row[off+j]? = some d:=⟨_,List.getElem?_eq_getElem (by omega)⟩
  obtain⟨u,hu⟩:=h1 _ d hd
  exact⟨u,by rw [show k+off+j=k+(off+j) by omega];exact hu⟩)
 have dS:=B8 (w:=w) P hi ha b (k+off) us hl (fun j u h=>(r.comm _ _ _ (BG j u h)).1)
 refine dK.pure (v:=if agg then .agg us.toArray else us.getD 0 Go.undef) r (by simp [Instr.loadAt,Instr.sureAddr,dS]) ?_
 refine tT hp us hl (fun _ u hu=> ?_) (fun j d u e1 e2=>h2 _ d u e1 (by rw [show k+(off+j)=k+off+j by omega];exact BG j u e2))
 obtain⟨j,hj⟩:=List.mem_iff_getElem?.1 hu
 exact(r.comm _ _ _ (BG j u hj)).2
theorem Lv (r:Rel M s w) {t:TypeId} {i:TypeInfo} (hi:P.info? t=some i) {o off:Nat} {cs row:List D} {d:D} {v:Value} (ho:s.aG[o]? = some cs) (hk:M.ob o≠ .map)
 (hd:RD M s d v) (hr:d.row=some row) (hl:row.length=i.size) (kb:off+i.size≤cs.length) :
 dK P M s w (do Instr.storeAt t (.pointer (some ⟨M.mu o,off,none⟩)) v;pure .skip) (.tuple []) {s with aG:=s.aG.set o (jJ cs off row)}:=by
 obtain⟨h1,h2,h3⟩:=hd.row hr
 obtain⟨w',dS,r',e'⟩:=r.afC P ho hk row v.cells.toList (by simpa using h1) (by rw [hl];exact kb) (fun u hu=>h2 u (by simpa using hu)) (fun i d u e1 e2=>h3 i d u e1 (by simpa using e2))
 refine⟨Go.undef,w',M, .inr ⟨?_,rfl⟩,r', .undef,e'⟩
 have e9:v.cells.size=i.size:=by omega
 simp [Instr.storeAt,Instr.sureAddr,storeVar,sizeOf,im P hi,e9,dS]
theorem CR (r:Rel M s w) {d:D} {a:Addr} (hd:RD M s d (.pointer (some a))) :
 dK P M s w (pure (.value (.pointer (some a)))) d s:=dK.pure r rfl hd
theorem Fu {t:TypeId} {f off size:Nat} {agg:Bool} (h:l6 P t f=some (off,size,agg)) (b k:Nat) :
 (Instr.fieldAt t (.pointer (some ⟨b,k,none⟩)) f).run P w = .ok (.pointer (some ⟨b,k+off,none⟩)) w:=by
 unfold l6 at h
 split at h
 ·rename_i fs hu
  split at h
  ·rename_i fd hf
   split at h
   ·rename_i i a hi ha
    split at h
    ·cases h
    ·rename_i fE
     cases h
     simp [Instr.fieldAt,run_underlying hu,hf,Instr.sureAddr,fieldPlace,sizeOf,im P hi,fE,rH]
   ·cases h
  ·cases h
 ·cases h
theorem OF {t:TypeId} {f off size:Nat} {agg:Bool} (h:l6 P t f=some (off,size,agg)) (vs:Array Value) (us:List Value) (hl:us.length=if agg then size else 1)
 (hg : ∀ j,j<us.length→vs[off+j]? = us[j]?) :
 (Instr.field t (.agg vs) f).run P w = .ok (if agg then .agg us.toArray else us.getD 0 Go.undef) w:=by
 unfold l6 at h
 split at h
 ·rename_i fs hu
  split at h
  ·rename_i fd hf
   split at h
   ·rename_i i a hi ha
    split at h
    ·cases h
    ·rename_i fE
     cases h
     have zR:(isAgg fd.type).run P w = .ok agg w:=by
      unfold sD at ha
      unfold isAgg
      cases hu:P.underlying fd.type with
      | none=>rw [hu]at ha;cases ha
      | some d=>
       rw [hu]at ha
       simp only [Sem.run_bind,run_underlying hu,Result.andThen_ok]
       cases d <;> simp_all
     cases agg with
     | true=>
      simp only [if_true]at hl ⊢
      have:vs.extract fd.offset (fd.offset+i.size)=us.toArray:=by
       apply Array.ext_getElem?
       intro j
       rw [Array.getElem?_extract]
       by_cases hj:j<us.length
       ·rw [← hl,if_pos (by
         have h1:=hg j hj
         rw [List.getElem?_eq_getElem hj]at h1
         have:=(Array.getElem?_eq_some_iff.1 h1).1
         have h2:=hg (us.length - 1) (by omega)
         rw [List.getElem?_eq_getElem (by omega)]at h2
         have:=(Array.getElem?_eq_some_iff.1 h2).1
         omega),hg j hj]
        simp
       ·have hn:us.toArray[j]? = none:=by simp;omega
        rw [hn,if_neg (by omega)]
      simp [Instr.field,run_underlying hu,hf,asAgg,Go.part,zR,sizeOf,im P hi,this]
     | false=>
      simp only [Bool.false_eq_true,if_false]at hl ⊢
      match us,hl with
      | [u],_=>
       have:=hg 0 (by simp)
       simp at this
       simp [Instr.field,run_underlying hu,hf,asAgg,Go.part,zR,this]
   ·cases h
  ·cases h
 ·cases h
end
end Go.Abs

/-! Sound3 -/

namespace Go.Abs
section
variable {P:Program} {M:Map} {s:St} {w:World}
theorem Lw {op : BinOp} {t : TypeId} {k : IntKind} {a b : Int} {d : D} (h : gb op k a b = some d) :
   ∃ v, (binOp op t (.int k a) (.int k b)).run P w = .ok v w ∧ RD M s d v := by
 cases op <;> simp only [gb] at h <;> first
   | (cases h; done)
   | (split at h
      · cases h
      · cases h
        exact ⟨_, by simp [binOp, Op.intDiv, *], .int _ _⟩)
   | (cases h; exact ⟨_, by simp [binOp, Op.intArith], .int _ _⟩)
   | (cases h; exact ⟨_, by simp [binOp, Op.intCmp], .bool _⟩)
theorem Ly {op:BinOp} {t:TypeId} {a b:List UInt8} {d:D} (h:nO op a b=some d) :
 ∃ v,(binOp op t (.string ⟨⟨a⟩⟩) (.string ⟨⟨b⟩⟩)).run P w = .ok v w∧RD M s d v:=by
 have sz : ∀ l:List UInt8,(⟨⟨l⟩⟩:ByteArray).size=l.length:=fun _=>rfl
 cases op <;> simp only [nO]at h <;> first
  | (cases h;done)
  | skip
 case add=>
  split at h
  ·rename_i hl
   cases h
   refine⟨.string ⟨⟨a++b⟩⟩, ?_, .str _⟩
   have h1 : ¬ ((((⟨⟨a⟩⟩:ByteArray).size+(⟨⟨b⟩⟩:ByteArray).size:Nat):Int) > IntKind.i64.max):=by
    rw [sz,sz,IntKind.max_i64];simp only [bc]at hl;omega
   simp only [binOp,Op.stringOp,h1,if_false]
   simp only [Sem.run_pure]
   congr 2
  ·cases h
 case eql=>cases h;exact⟨_,by simp [binOp,Op.stringOp], .bool _⟩
 case neq=>cases h;exact⟨_,by simp [binOp,Op.stringOp], .bool _⟩
 case lss=>cases h;exact⟨_,by simp [binOp,Op.stringOp,bytesLess], .bool _⟩
theorem nP {op:BinOp} {t:TypeId} {x y:Operand} {a b:Value} (h:(∀ vs,a≠ .agg vs)∧a≠ .nilIface):(eqGuard op t x y a b).run P w = .ok () w:=by
 obtain⟨h1,h2⟩:=h
 cases a <;> first
  | exact(h2 rfl).elim
  | exact(h1 _ rfl).elim
  | (cases op <;> simp [eqGuard])
theorem RQ (r:Rel M s w) {op:BinOp} {t:TypeId} {x y:Operand} {dx dy d:D} {a b:Value} (ha:RD M s dx a) (hb:RD M s dy b) (h:wH op dx dy=some d) :
 dK P M s w (do pure (.value (← (do eqGuard op t x y a b;binOp op t a b)))) d s:=by
 unfold wH at h
 split at h
 ·rename_i k n k' m
  split at h
  ·rename_i hk;subst hk
   rw [ha.jO,hb.jO]
   obtain⟨v,hv,hd⟩:=Lw (P:=P) (M:=M) (s:=s) (w:=w) (t:=t) h
   exact dK.pure r (by simp [nP (P:=P) (w:=w) (op:=op) (t:=t) (x:=x) (y:=y) (a:= .int k n) (b:= .int k m) ⟨by simp,by simp⟩,hv]) hd
  ·cases h
 ·rename_i l m
  rw [ha.kY,hb.kY]
  obtain⟨v,hv,hd⟩:=Ly (P:=P) (M:=M) (s:=s) (w:=w) (t:=t) h
  exact dK.pure r (by simp [nP (P:=P) (w:=w) (op:=op) (t:=t) (x:=x) (y:=y) (a:= .string ⟨⟨l⟩⟩) (b:= .string ⟨⟨m⟩⟩) ⟨by simp,by simp⟩,hv]) hd
 ·cases h
theorem RR (r:Rel M s w) {neg:Bool} {t:TypeId} {x y:Operand} {p q:Bool} (ht:P.underlying t=some .bool) :
 dK P M s w (do pure (.value (← (do eqGuard (if neg then .neq else .eql) t x y (.bool p) (.bool q);binOp (if neg then .neq else .eql) t (.bool p) (.bool q))))) (.bool (if neg then !(p==q)else p==q)) s:=by
 refine dK.pure (v:= .bool (if neg then !(p==q)else p==q)) r ?_ (.bool _)
 have hg:=nP (P:=P) (w:=w) (op:=if neg then .neq else .eql) (t:=t) (x:=x) (y:=y) (a:= .bool p) (b:= .bool q) ⟨by simp,by simp⟩
 have he:(Op.equal t (.bool p) (.bool q)).run P w = .ok (p==q) w:=by
  exact run_equalIn_bool w 9999 t p q ht
 cases neg
 ·simp only [Bool.false_eq_true,if_false]at hg ⊢
  simp [hg,binOp,he]
 ·simp only [if_true]at hg ⊢
  simp [hg,binOp,he]
theorem JV (n:Nat) {t e:TypeId} {a:Option Addr} (ht:P.underlying t=some (.pointer e)):(Op.equalIn (n+1) t (.pointer a) (.pointer none)).run P w = .ok a.isNone w:=by
 cases a <;> simp [Op.equalIn,run_underlying ht]
theorem B9 (r:Rel M s w) {neg:Bool} {t e:TypeId} {x y:Operand} {a:Option Addr} (ht:P.underlying t=some (.pointer e)) :
 dK P M s w (do pure (.value (← (do eqGuard (if neg then .neq else .eql) t x y (.pointer a) (.pointer none);binOp (if neg then .neq else .eql) t (.pointer a) (.pointer none))))) (.bool (if neg then !a.isNone else a.isNone)) s:=by
 refine dK.pure (v:= .bool (if neg then !a.isNone else a.isNone)) r ?_ (.bool _)
 have hg:=nP (P:=P) (w:=w) (op:=if neg then .neq else .eql) (t:=t) (x:=x) (y:=y) (a:= .pointer a) (b:= .pointer none) ⟨by simp,by simp⟩
 have he:(Op.equal t (.pointer a) (.pointer none)).run P w = .ok a.isNone w:=by
  exact JV 9999 ht
 cases neg
 ·simp only [Bool.false_eq_true,if_false]at hg ⊢
  simp [hg,binOp,he]
 ·simp only [if_true]at hg ⊢
  simp [hg,binOp,he]
theorem Lz (n:Nat) {t:TypeId} {k:Nat} (hk:j9 P t=some k) {x y:D} {v u:Value} (rv:RD M s x v) (ru:RD M s y u) {b:Bool} (h:mK k x y=some b) :
 (Op.equalIn (n+1) t v u).run P w = .ok b w:=by
 unfold j9 at hk
 split at hk <;> first | (cases hk;done) | skip
 ·rename_i kk hu
  cases hk
  cases x <;> cases y <;> simp [mK]at h
  obtain⟨rfl,rfl⟩:=h
  rw [rv.jO,ru.jO]
  exact run_equalIn_int w n t _ _ _ _ hu
 ·rename_i hu
  cases hk
  cases x <;> cases y <;> simp [mK]at h
  subst h
  rw [rv.nz,ru.nz]
  exact run_equalIn_bool w n t _ _ hu
 ·rename_i hu
  cases hk
  cases x <;> cases y <;> simp [mK]at h
  subst h
  rw [rv.kY,ru.kY]
  rw [run_equalIn_string w n t _ _ hu]
  simp
theorem zS (n:Nat) : ∀ (fs:List Field) (off:Nat) (ks:List Nat) (xs ys:List D) (vs us:Array Value) (e:Bool),
 Bc P off fs=some ks→(∀ (i:Nat) (d:D) (v:Value),xs[i]? = some d→vs[off+i]? = some v→RD M s d v)→(∀ i,i<xs.length→(vs[off+i]?).isSome)→
 (∀ (i:Nat) (d:D) (v:Value),ys[i]? = some d→us[off+i]? = some v→RD M s d v)→(∀ i,i<ys.length→(us[off+i]?).isSome)→
 kX ks xs ys=some e→(Op.eqFields (n+1) vs us fs).run P w = .ok e w
 | [],off,ks,xs,ys,vs,us,e,hk,_,_,_,_,h=>by
  cases hk
  cases xs <;> cases ys <;> simp [kX]at h
  subst h;rfl
 | f::fs,off,ks,xs,ys,vs,us,e,hk,h1,h2,h3,h4,h=>by
  unfold Bc at hk
  split at hk
  ·rename_i hf
   obtain⟨ho,LA⟩:=hf
   split at hk
   ·rename_i k ks' uF bl
    cases hk
    match xs,ys with
    | [],[]=>cases h
    | [],_::_=>cases h
    | _::_,[]=>cases h
    | x::xs,y::ys=>
     obtain⟨v,hv⟩:=Option.isSome_iff_exists.1 (h2 0 (by simp))
     obtain⟨u,hu⟩:=Option.isSome_iff_exists.1 (h4 0 (by simp))
     simp only [Nat.add_zero]at hv hu
     have rv:=h1 0 x v rfl hv
     have ru:=h3 0 y u rfl hu
     have zR:(isAgg f.type).run P w = .ok false w:=by
      unfold isAgg
      unfold j9 at uF
      cases hu:P.underlying f.type with
      | none=>rw [hu]at uF;simp at uF
      | some d=>simp only [Sem.run_bind,run_underlying hu,Result.andThen_ok];rw [hu]at uF;cases d <;> simp_all
     have pv:(Go.part f.type vs f.offset).run P w = .ok v w:=by simp [Go.part,zR,ho,hv]
     have pu:(Go.part f.type us f.offset).run P w = .ok u w:=by simp [Go.part,zR,ho,hu]
     cases hc:mK k x y with
     | none=>simp [kX,hc]at h
     | some b=>
      have hb:=Lz (w:=w) n uF rv ru hc
      simp only [kX,hc]at h
      simp only [Op.eqFields,if_pos LA,Sem.run_bind,pv,pu,hb,Result.andThen_ok,Sem.run_ite,Sem.run_pure]
      cases b with
      | false=>cases h;rfl
      | true=>
       have:=zS n fs (off+1) ks' xs ys vs us e bl
        (fun i d v e1 e2=>h1 (i+1) d v (by simpa using e1) (by rw [show off+(i+1)=off+1+i by omega];exact e2))
        (fun i hi=>by have:=h2 (i+1) (by simpa using hi);rwa [show off+(i+1)=off+1+i by omega]at this)
        (fun i d v e1 e2=>h3 (i+1) d v (by simpa using e1) (by rw [show off+(i+1)=off+1+i by omega];exact e2))
        (fun i hi=>by have:=h4 (i+1) (by simpa using hi);rwa [show off+(i+1)=off+1+i by omega]at this) h
       simp [this]
   ·cases hk
  ·cases hk
theorem RT (r:Rel M s w) {neg:Bool} {t:TypeId} {x y:Operand} {ks:List Nat} {xs ys:List D} {a b:Value} {e:Bool} (ht:pQ P t=some ks) (ha:RD M s (.agg xs) a) (hb:RD M s (.agg ys) b) (he:kX ks xs ys=some e) :
 dK P M s w (do pure (.value (← (do eqGuard (if neg then .neq else .eql) t x y a b;binOp (if neg then .neq else .eql) t a b)))) (.bool (if neg then !e else e)) s:=by
 obtain⟨vs,rfl,hl,_,h1⟩:=ha.Ec
 obtain⟨us,rfl,nQ,_,h2⟩:=hb.Ec
 unfold pQ at ht
 split at ht
 ·rename_i fs hu
  split at ht
  ·rename_i hg
   obtain⟨Yz,hg2⟩:=hg
   have hf:P.fieldsOf t=fs:=by simp [Program.fieldsOf,hu]
   have dS:(Op.equalIn 10000 t (.agg vs) (.agg us)).run P w = .ok e w:=by
    rw [run_equalIn_struct w 9999 t vs us (by rw [hf];exact hu) hg2,hf]
    exact zS 9998 fs.toList 0 ks xs ys vs us e ht (fun i d v e1 e2=>h1 i d v e1 (by simpa using e2)) (fun i hi=>by simp;omega)
     (fun i d v e1 e2=>h2 i d v e1 (by simpa using e2)) (fun i hi=>by simp;omega) he
   have Fv:=run_eqGuard_agg (P:=P) w (if neg then .neq else .eql) t x y vs us Yz
   refine dK.pure (v:= .bool (if neg then !e else e)) r ?_ (.bool _)
   cases neg
   ·simp only [Bool.false_eq_true,if_false]at Fv ⊢
    simp only [Sem.run_bind,Fv,Result.andThen_ok,run_eql_struct,dS,Sem.run_pure]
   ·simp only [if_true]at Fv ⊢
    simp only [Sem.run_bind,Fv,Result.andThen_ok,run_neq_struct,dS,Sem.run_pure]
  ·cases ht
 ·cases ht
end
end Go.Abs

/-! Sound4 -/

namespace Go.Abs
section
variable {P:Program} {M:Map} {s:St} {w:World}
theorem Be (l:List UInt8):(⟨⟨l⟩⟩:ByteArray).size=l.length:=rfl
theorem extract_mk (l:List UInt8) (a b:Nat):(⟨⟨l⟩⟩:ByteArray).extract a b = ⟨⟨(l.take b).drop a⟩⟩:=by
 apply ByteArray.ext
 rw [ByteArray.data_extract]
 apply Array.ext'
 simp [List.drop_take]
theorem getElem?_mk (l:List UInt8) (n:Nat):(⟨⟨l⟩⟩:ByteArray)[n]? = l[n]? :=by
 by_cases h:n<l.length
 ·rw [getElem?_pos (⟨⟨l⟩⟩:ByteArray) n h,List.getElem?_eq_getElem h];rfl
 ·rw [List.getElem?_eq_none (by omega)]
  rw [getElem?_neg (c:=(⟨⟨l⟩⟩:ByteArray)) (i:=n)]
  show ¬ n<(⟨⟨l⟩⟩:ByteArray).size
  rw [Be];omega
theorem OH (r:Rel M s w) {t:TypeId} {l:List UInt8} {k:IntKind} {n:Int} {c:UInt8} (ht:P.underlying t=some .string) (h0:0≤n) (hc:l[n.toNat]? = some c) :
 dK P M s w (do pure (.value (← Instr.index t (.string ⟨⟨l⟩⟩) (.int k n)))) (.int .u8 c.toNat) s:=by
 refine dK.pure (v:= .int .u8 c.toNat) r ?_ (.int _ _)
 simp [Instr.index,asIntOf,run_underlying ht,h0,getElem?_mk,hc]
theorem HK (r:Rel M s w) {t ty:TypeId} {l:List UInt8} (ht:P.underlying t=some .string) :
 dK P M s w (do pure (.value (← Builtin.len_ #[t] ty #[.string ⟨⟨l⟩⟩]))) (.int .i64 l.length) s:=by
 refine dK.pure (v:= .int .i64 l.length) r ?_ (.int _ _)
 simp [Builtin.len_,run_underlying ht,goInt,Be]
theorem rI (r:Rel M s w) {t ty e:TypeId} {a:Option Addr} {n c:Nat} (ht:P.underlying t=some (.slice e)) :
 dK P M s w (do pure (.value (← Builtin.len_ #[t] ty #[.slice a n c]))) (.int .i64 n) s:=by
 refine dK.pure (v:= .int .i64 n) r ?_ (.int _ _)
 simp [Builtin.len_,run_underlying ht,goInt]
theorem LB (r:Rel M s w) {t e:TypeId} {i:TypeInfo} {g:Tag} {rows:List (List D)} {row:List D} {v:Value} {k:IntKind} {n:Int} (ht:P.underlying t=some (.slice e)) (hi:P.info? e=some i)
 (hd:RD M s (.slice g i.size rows) v) (h0:0≤n) (hr:rows[n.toNat]? = some row) :
 dK P M s w (do pure (.value (← Instr.indexAt t v (.int k n)))) (.dU row 0) s:=by
 have hF:=(List.getElem?_eq_some_iff.1 hr).1
 rcases hd.iW with ⟨rfl,_,_⟩ | ⟨rfl,_,_⟩ | ⟨b,q,cap,rfl,hl,hs,h1,h2,_⟩
 ·simp at hr
 ·simp at hr
 ·refine dK.pure (v:= .pointer (some ⟨b,q+n.toNat*i.size+0,none⟩)) r ?_ ?_
  ·have:n<(rows.length:Int):=by omega
   simp [Instr.indexAt,asIntOf,run_underlying ht,h0,this,sizeOf,im P hi,rH]
  ·refine .dU row 0 b (q+n.toNat*i.size) (fun j d hj=> ?_) (fun j d u hj hu=> ?_)
   ·obtain⟨u,hu⟩:=h1 n.toNat row j d hr hj
    exact⟨u,by rw [Nat.add_assoc];exact hu⟩
   ·exact h2 n.toNat row j d u hr hj (by rw [← Nat.add_assoc];exact hu)
def U2 (lv:Option Value) (l:Int):Prop:=(lv=none∧l=0)∨∃ k,lv=some (.int k l)
def U3 (hv:Option Value) (len:Nat) (h:Int):Prop:=(hv=none∧h=len)∨∃ k,hv=some (.int k h)
theorem tU {isSlice:Bool} {lv hv:Option Value} {len cap:Nat} {l h:Int} (h1:U2 lv l) (h2:U3 hv len h) (a:0≤l) (b:l≤h) (c:h≤len) (d:len≤cap) :
 (Instr.sliceBounds isSlice len cap lv hv none).run P w = .ok (l.toNat,h.toNat,cap) w:=by
 have h0:0≤h:=by omega
 have hc:h≤cap:=by omega
 rcases h1 with ⟨rfl,rfl⟩ | ⟨k,rfl⟩ <;> rcases h2 with ⟨rfl,rfl⟩ | ⟨k',rfl⟩
 ·simp [Instr.sliceBounds]
 ·simp [Instr.sliceBounds,run_sliceBound w _ _ _ _ h0 hc]
 ·simp [Instr.sliceBounds,run_sliceBound w _ _ _ _ a b]
 ·have e:(h.toNat:Int)=h:=Int.toNat_of_nonneg h0
  simp [Instr.sliceBounds,run_sliceBound w _ _ _ _ h0 hc,run_sliceBound w _ _ _ _ a (show l≤(h.toNat:Int) by omega)]
theorem OI (r:Rel M s w) {t:TypeId} {lv hv:Option Value} {x:List UInt8} {l h:Int} (ht:P.underlying t=some .string) (h1:U2 lv l) (h2:U3 hv x.length h) (a:0≤l) (b:l≤h) (c:h≤x.length) :
 dK P M s w (do pure (.value (← Instr.sliceAt t (.string ⟨⟨x⟩⟩) lv hv none))) (.str ((x.take h.toNat).drop l.toNat)) s:=by
 have hb:=tU (P:=P) (w:=w) (isSlice:=false) (cap:=x.length) h1 h2 a b c (Nat.le_refl _)
 refine dK.pure (v:= .string ⟨⟨(x.take h.toNat).drop l.toNat⟩⟩) r ?_ (.str _)
 simp [Instr.sliceAt,run_underlying ht,Instr.slice,Be,hb,extract_mk]
theorem iL.cut {g:Tag} {z len RU cap:Nat} {base:Option (Nat×Nat)} (h:iL M s g z len base cap) (hl:RU≤len) (whole:Bool) (hw:whole=true→RU=len):iL M s (g.cut whole) z RU base cap:=by
 cases g with
 | full=>
  cases whole with
  | true=>rw [hw rfl];exact h
  | false=>trivial
 | shared=>trivial
 | tok t y=>
  obtain⟨x1,x2⟩:=h
  refine⟨x1,fun n hn=>⟨Nat.le_trans hl (x2 n hn).1,fun e=> ?_⟩⟩
  have:len=n:=by have:=(x2 n hn).1;omega
  exact(x2 n hn).2 this
theorem RV (r:Rel M s w) {t e:TypeId} {i:TypeInfo} {g:Tag} {z:Nat} {lv hv:Option Value} {rows:List (List D)} {v:Value} {l h:Int} (ht:P.underlying t=some (.slice e)) (OM:P.info? e=some i) (hz:rows = []∨z=i.size)
 (hd:RD M s (.slice g z rows) v) (h1:U2 lv l) (h2:U3 hv rows.length h) (a:0≤l) (b:l≤h) (c:h≤rows.length) :
 dK P M s w (do pure (.value (← Instr.sliceAt t v lv hv none))) (.slice (if l=0 then g.cut (h=rows.length)else .shared) z ((rows.take h.toNat).drop l.toNat)) s:=by
 have hlen:((rows.take h.toNat).drop l.toNat).length=h.toNat - l.toNat:=by simp;omega
 have tag : ∀ base cap,iL M s g z rows.length base cap→iL M s (if l=0 then g.cut (h=rows.length)else .shared) z ((rows.take h.toNat).drop l.toNat).length base cap:=by
  intro base cap oa
  split
  ·exact oa.cut (by omega) _ (fun hh=>by simp at hh;omega)
  ·trivial
 rcases hd.iW with ⟨rfl,rfl,oa⟩ | ⟨rfl,rfl,a',cap,rfl⟩ | ⟨b',q,cap,rfl,hl,hs,g1,g2,oa⟩
 ·have hb:=tU (P:=P) (w:=w) (isSlice:=true) (cap:=0) h1 h2 a b c (Nat.le_refl _)
  have KI:l=0:=by simp at c;omega
  have YA:h=0:=by simp at c;omega
  subst KI;subst YA
  refine dK.pure (v:= .slice none 0 0) r ?_ ?_
  ·simp at hb
   simp [Instr.sliceAt,run_underlying ht,Instr.slice,hb,sizeOf,im P OM]
  ·have:=tag _ _ oa
   simp only [Int.toNat_zero,List.take_nil,List.drop_nil,List.length_nil]at this ⊢
   exact .jM _ _ 0 rfl this
 ·have hb:=tU (P:=P) (w:=w) (isSlice:=true) (cap:=cap) h1 h2 a b c (Nat.zero_le _)
  have KI:l=0:=by simp at c;omega
  have YA:h=0:=by simp at c;omega
  subst KI;subst YA
  simp only [List.length_nil]at hb
  have dS : ∃ a2:Addr,(Instr.sliceAt t (.slice (some a') 0 cap) lv hv none).run P w = .ok (.slice (some a2) 0 cap) w:=by
   refine⟨if cap=(0:Int).toNat then a' else a'.add ((0:Int).toNat*i.size), ?_⟩
   simp only [Instr.sliceAt,Sem.run_bind,run_underlying ht,Result.andThen_ok,Instr.slice,hb,sizeOf,im P OM,Sem.run_pure]
   split <;> simp
  obtain⟨a2,dS⟩:=dS
  refine dK.pure (v:= .slice (some a2) 0 cap) r (by simp [dS]) ?_
  simp only [↓reduceIte,Int.toNat_zero,List.take_nil,List.drop_nil]
  have:Tag.cut .shared (decide ((0:Int)=(([] : List (List D)).length:Int))) = .shared:=rfl
  rw [this]
  exact .nw _ a2 cap
 ·have hb:=tU (P:=P) (w:=w) (isSlice:=true) (cap:=cap) h1 h2 a b c hl
  have dS:(Instr.sliceAt t (.slice (some ⟨b',q,none⟩) rows.length cap) lv hv none).run P w = .ok (.slice (some (if cap=l.toNat then⟨b',q,none⟩else⟨b',q+l.toNat*i.size,none⟩)) (h.toNat - l.toNat) (cap - l.toNat)) w:=by
   simp only [Instr.sliceAt,Sem.run_bind,run_underlying ht,Result.andThen_ok,Instr.slice,hb,sizeOf,im P OM,Sem.run_pure]
   split <;> simp [rH]
  by_cases KI:l=0
  ·subst KI
   have e:(if cap=(0:Int).toNat then(⟨b',q,none⟩:Addr)else⟨b',q+(0:Int).toNat*i.size,none⟩) = ⟨b',q,none⟩:=by simp
   rw [e]at dS
   refine dK.pure (v:= .slice (some ⟨b',q,none⟩) ((rows.take h.toNat).drop (0:Int).toNat).length cap) r (by simp [dS];omega) ?_
   refine .slice _ z _ b' q cap (by omega) (fun row hr=>hs row ?_) (fun i row j d e1 e2=> ?_) (fun i row j d u e1 e2 eu=> ?_) (tag _ _ oa)
   ·simp at hr;exact List.mem_of_mem_take hr
   ·simp [List.getElem?_take]at e1;exact g1 i row j d e1.2 e2
   ·simp [List.getElem?_take]at e1;exact g2 i row j d u e1.2 e2 eu
  ·rw [if_neg KI]
   by_cases s5:cap=l.toNat
   ·have:(rows.take h.toNat).drop l.toNat = []:=List.eq_nil_of_length_eq_zero (by omega)
    rw [this]
    rw [if_pos s5]at dS
    refine dK.pure (v:= .slice (some ⟨b',q,none⟩) ([] : List (List D)).length (cap - l.toNat)) r (by simp [dS];omega) ?_
    exact .slice _ z [] b' q _ (by simp) (by simp) (by simp) (by simp) trivial
   ·rw [if_neg s5]at dS
    refine dK.pure (v:= .slice (some ⟨b',q+l.toNat*i.size,none⟩) ((rows.take h.toNat).drop l.toNat).length (cap - l.toNat)) r (by simp [dS];omega) ?_
    have fa : ∀ (k:Nat) (row:List D),((rows.take h.toNat).drop l.toNat)[k]? = some row→rows[l.toNat+k]? = some row:=by
     intro k row e
     rw [List.getElem?_drop,List.getElem?_take]at e
     split at e
     ·exact e
     ·cases e
    have hzz : ∀ (k:Nat) (row:List D),((rows.take h.toNat).drop l.toNat)[k]? = some row→z=i.size:=by
     intro k row e
     rcases hz with rfl | hz
     ·simp at e
     ·exact hz
    refine .slice _ z _ b' _ _ (by omega) (fun row hr=>hs row (List.mem_of_mem_take (List.mem_of_mem_drop hr))) (fun k row j d e1 e2=> ?_) (fun k row j d u e1 e2 eu=> ?_) trivial
    ·obtain⟨u,hu⟩:=g1 _ row j d (fa k row e1) e2
     refine⟨u, ?_⟩
     rw [← hu, ← hzz k row e1]
     congr 1
     rw [Nat.add_mul];omega
    ·refine g2 _ row j d u (fa k row e1) e2 ?_
     rw [← eu, ← hzz k row e1]
     congr 1
     rw [Nat.add_mul];omega
theorem vN (off:Nat) : ∀ (l:List Value) (k:Nat) (cells:Array Value) (i:Nat),
 ((l.zipIdx k).foldl (fun cs p=>cs.setIfInBounds (off+p.2) p.1) cells).size=cells.size∧
 (off+k+l.length≤cells.size→((l.zipIdx k).foldl (fun cs p=>cs.setIfInBounds (off+p.2) p.1) cells)[i]? = if off+k≤i∧i<off+k+l.length then l[i - (off+k)]? else cells[i]?)
 | [],k,cells,i=>by simp;intro _ h1 h2;omega
 | v::l,k,cells,i=>by
  obtain⟨h1,h2⟩:=vN off l (k+1) (cells.setIfInBounds (off+k) v) i
  simp only [List.zipIdx_cons,List.foldl_cons]
  refine⟨by rw [h1];simp,fun kb=> ?_⟩
  simp only [List.length_cons]at kb
  rw [h2 (by simp;omega)]
  rw [Array.getElem?_setIfInBounds]
  by_cases hi:off+k=i
  ·subst hi
   rw [if_neg (by omega),if_pos rfl,if_pos (by omega),if_pos (by simp)]
   simp
  ·rw [if_neg hi]
   by_cases hr:off+(k+1)≤i∧i<off+(k+1)+l.length
   ·rw [if_pos hr,if_pos (by simp;omega)]
    rw [show i - (off+k)=(i - (off+(k+1)))+1 by omega]
    simp
   ·rw [if_neg hr,if_neg (by simp;omega)]
def sH (M:Map) (s:St) (ds:List D) (vs:Array Value):Prop:=vs.size=ds.length∧(∀ v∈vs,v.oneCell'=true)∧∀ (i:Nat) (d:D) (v:Value),ds[i]? = some d→vs[i]? = some v→RD M s d v
theorem sH.jJ {ds:List D} {vs:Array Value} (h:sH M s ds vs) {d:D} {v:Value} {row:List D} (hd:RD M s d v) (hr:d.row=some row) {off:Nat} (kb:off+row.length≤ds.length) :
 sH M s (jJ ds off row) (v.cells.zipIdx.foldl (fun cs (p:Value×Nat)=>cs.setIfInBounds (off+p.2) p.1) vs):=by
 obtain⟨h1,h2,h3⟩:=hd.row hr
 obtain⟨g1,g2,g3⟩:=h
 have e:v.cells.zipIdx.foldl (fun cs (p:Value×Nat)=>cs.setIfInBounds (off+p.2) p.1) vs=(v.cells.toList.zipIdx 0).foldl (fun cs p=>cs.setIfInBounds (off+p.2) p.1) vs:=by
  rw [← Array.foldl_toList];simp
 rw [e]
 have hl:v.cells.toList.length=row.length:=by simpa using h1
 have fs:=fun i=>vN off v.cells.toList 0 vs i
 have get : ∀ i,((v.cells.toList.zipIdx 0).foldl (fun cs p=>cs.setIfInBounds (off+p.2) p.1) vs)[i]? = if off≤i∧i<off+row.length then v.cells.toList[i - off]? else vs[i]? :=by
  intro i
  have:=(fs i).2 (by omega)
  rw [hl]at this
  simpa using this
 refine⟨by rw [(fs 0).1,g1,zf ds off row kb],fun u hu=> ?_,fun i d' u e1 e2=> ?_⟩
 ·obtain⟨i,hi⟩:=Array.mem_iff_getElem?.1 hu
  rw [get]at hi
  split at hi
  ·exact h2 u (Array.mem_toList_iff.1 (List.mem_of_getElem? hi))
  ·exact g2 u (Array.mem_of_getElem? hi)
 ·rw [vJ ds off row kb]at e1
  rw [get]at e2
  by_cases h5:off≤i
  ·by_cases h6:i<off+row.length
   ·rw [if_pos ⟨h5,h6⟩]at e2
    rw [if_neg (by omega),if_pos h6]at e1
    exact h3 _ d' u e1 (by simpa using e2)
   ·rw [if_neg (fun h=>h6 h.2)]at e2
    rw [if_neg (by omega),if_neg h6]at e1
    exact g3 i d' u e1 e2
  ·rw [if_neg (fun h=>h5 h.1)]at e2
   rw [if_pos (by omega)]at e1
   exact g3 i d' u e1 e2
theorem HL {place:Nat→Option (Nat×Nat)} : ∀ (vp:List (Nat×Value)) (dp:List (Nat×Nat×D)) (ds:List D) (vs:Array Value) (om:List D),sH M s ds vs→
 dp.length=vp.length→(∀ (j:Nat) (i:Nat) (v:Value) (off size:Nat) (d:D),vp[j]? = some (i,v)→dp[j]? = some (off,size,d)→place i=some (off,size)∧RD M s d v)→
 qD ds dp=some om→∃ fW,Instr.fill place vs vp=some fW∧sH M s om fW
 | [],[],ds,vs,om,h,_,_,e=>by cases e;exact⟨vs,rfl,h⟩
 | [],_::_,_,_,_,_,hl,_,_=>by simp at hl
 | _::_,[],_,_,_,_,hl,_,_=>by simp at hl
 | (i,v)::vp,(off,size,d)::dp,ds,vs,om,h,hl,hp,e=>by
  obtain⟨h1,h2⟩:=hp 0 i v off size d rfl rfl
  unfold qD at e
  split at e
  ·cases e
  ·rename_i row hr
   split at e
   ·rename_i hc
    obtain⟨c1,c2⟩:=hc
    have e9:=(h2.row hr).1
    obtain⟨fW,f1,f2⟩:=HL vp dp (jJ ds off row) _ om (h.jJ h2 hr (by omega)) (by simpa using hl)
     (fun j i v off size d e1 e2=>hp (j+1) i v off size d (by simpa using e1) (by simpa using e2)) e
    refine⟨fW, ?_,f2⟩
    unfold Instr.fill
    simp only [h1]
    rw [if_neg]
    ·exact f1
    ·simp;exact⟨by omega,by have:=h.1;omega⟩
   ·cases e
end
end Go.Abs

/-! Sound5 -/

namespace Go.Abs
section
variable {P:Program} {M:Map} {s:St} {w:World}
def mE (M:Map) (s:St) (size:Nat) (rows:List (List D)) (vs:Array Value):Prop:=
 rows.length*size≤vs.size∧(∀ row∈rows,row.length=size)∧(∀ v∈vs,v.oneCell'=true)∧
 ∀ (i:Nat) (row:List D) (j:Nat) (d:D) (v:Value),rows[i]? = some row→row[j]? = some d→vs[i*size+j]? = some v→RD M s d v
theorem zT {size:Nat} {rows:List (List D)} (hs : ∀ row∈rows,row.length=size) {i:Nat} {row:List D} {j:Nat} {d:D} (h1:rows[i]? = some row) (h2:row[j]? = some d):i*size+j<rows.length*size:=by
 have hi:=(List.getElem?_eq_some_iff.1 h1).1
 have hj:=(List.getElem?_eq_some_iff.1 h2).1
 have:=hs row (List.mem_of_getElem? h1)
 have:i*size+size≤rows.length*size:=by rw [← Nat.succ_mul];exact Nat.mul_le_mul_right _ hi
 omega
theorem mE.fixed {size:Nat} {rows:List (List D)} {vs:Array Value} (h:mE M s size rows vs) {M':Map} {s':St} (le:Le M s M' s') {b:Nat}
 (hG : ∀ o,o<rows.length*size→M'.G b o=vs[o]?) :
 (∀ (i:Nat) (row:List D) (j:Nat) (d:D),rows[i]? = some row→row[j]? = some d→∃ u,M'.G b (0+(i*size+j))=some u)∧
 (∀ (i:Nat) (row:List D) (j:Nat) (d:D) (u:Value),rows[i]? = some row→row[j]? = some d→M'.G b (0+(i*size+j))=some u→RD M' s' d u):=by
 obtain⟨h1,h2,h3,h4⟩:=h
 refine⟨fun i row j d e1 e2=> ?_,fun i row j d u e1 e2 eu=> ?_⟩
 ·have hF:=zT h2 e1 e2
  rw [Nat.zero_add,hG _ hF]
  exact⟨_,Array.getElem?_eq_getElem (by omega)⟩
 ·have hF:=zT h2 e1 e2
  rw [Nat.zero_add,hG _ hF]at eu
  exact(h4 i row j d u e1 e2 eu).mono le
theorem oo (z:List D) : ∀ n,(iR z n).length=n
 | 0=>rfl
 | n+1=>by simp [iR,oo z n]
theorem qG (z:List D) : ∀ n,∀ row∈iR z n,row=z
 | 0,_,h=>by cases h
 | n+1,row,h=>by
  rcases List.mem_cons.1 h with rfl | h
  ·rfl
  ·exact qG z n row h
theorem mE.zero {z:List D} {zs:Array Value} (h:sH M s z zs) (hp:0<z.length) (n:Nat):mE M s z.length (iR z n) ((Array.range (n*z.length)).map (zs[· % zs.size]!)):=by
 obtain⟨h1,h2,h3⟩:=h
 have get : ∀ q,q<n*z.length→((Array.range (n*z.length)).map (zs[· % zs.size]!))[q]? = zs[q % z.length]? :=by
  intro q hq
  have:q % z.length<zs.size:=by rw [h1];exact Nat.mod_lt _ hp
  simp only [Array.getElem?_map,Array.getElem?_range,hq,if_true,Option.map_some]
  rw [h1,getElem!_pos zs (q % z.length) this,Array.getElem?_eq_getElem this]
 refine⟨by simp [oo],fun row hr=>by rw [qG z n row hr],fun v hv=> ?_,fun i row j d v e1 e2 e3=> ?_⟩
 ·obtain⟨q,hq⟩:=Array.mem_iff_getElem?.1 hv
  have hF:q<n*z.length:=by have:=(Array.getElem?_eq_some_iff.1 hq).1;simpa using this
  rw [get q hF]at hq
  exact h2 v (Array.mem_of_getElem? hq)
 ·have fa:=qG z n row (List.mem_of_getElem? e1)
  subst fa
  have hF:=zT (size:=row.length) (fun r hr=>by rw [qG row n r hr]) e1 e2
  rw [oo]at hF
  rw [get _ hF]at e3
  have hj:=(List.getElem?_eq_some_iff.1 e2).1
  rw [Nat.mul_comm,Nat.mul_add_mod,Nat.mod_eq_of_lt hj]at e3
  exact h3 j d v e2 e3
theorem mE.set {size:Nat} {rows:List (List D)} {vs:Array Value} (h:mE M s size rows vs) {d:D} {v:Value} {row:List D} (hd:RD M s d v) (hr:d.row=some row) (hl:row.length=size) {i:Nat} (hi:i<rows.length) :
 mE M s size (rows.set i row) (v.cells.zipIdx.foldl (fun cs (p:Value×Nat)=>cs.setIfInBounds (i*size+p.2) p.1) vs):=by
 obtain⟨h1,h2,h3⟩:=hd.row hr
 obtain⟨g1,g2,g3,g4⟩:=h
 have e:v.cells.zipIdx.foldl (fun cs (p:Value×Nat)=>cs.setIfInBounds (i*size+p.2) p.1) vs=(v.cells.toList.zipIdx 0).foldl (fun cs p=>cs.setIfInBounds (i*size+p.2) p.1) vs:=by
  rw [← Array.foldl_toList];simp
 rw [e]
 have nR:v.cells.toList.length=size:=by simp [h1,hl]
 have kb:i*size+size≤vs.size:=by
  have:(i+1)*size≤rows.length*size:=Nat.mul_le_mul_right _ hi
  rw [Nat.succ_mul]at this;omega
 have fs:=fun q=>vN (i*size) v.cells.toList 0 vs q
 have get : ∀ q,((v.cells.toList.zipIdx 0).foldl (fun cs p=>cs.setIfInBounds (i*size+p.2) p.1) vs)[q]? = if i*size≤q∧q<i*size+size then v.cells.toList[q - i*size]? else vs[q]? :=by
  intro q
  have:=(fs q).2 (by omega)
  rw [nR]at this
  simpa using this
 refine⟨by rw [(fs 0).1];simpa using g1,fun r HN=> ?_,fun u hu=> ?_,fun i' lE j d' u e1 e2 e3=> ?_⟩
 ·rcases List.mem_or_eq_of_mem_set HN with h | rfl
  ·exact g2 r h
  ·exact hl
 ·obtain⟨q,hq⟩:=Array.mem_iff_getElem?.1 hu
  rw [get]at hq
  split at hq
  ·exact h2 u (Array.mem_toList_iff.1 (List.mem_of_getElem? hq))
  ·exact g3 u (Array.mem_of_getElem? hq)
 ·rw [List.getElem?_set]at e1
  rw [get]at e3
  split at e1
  ·rename_i heq;subst heq
   simp at e1
   obtain⟨_,rfl⟩:=e1
   have hj:=(List.getElem?_eq_some_iff.1 e2).1
   rw [if_pos (by omega)]at e3
   rw [show i*size+j - i*size=j by omega]at e3
   exact h3 j d' u e2 (by simpa using e3)
  ·rename_i fE
   have hj:=(List.getElem?_eq_some_iff.1 e2).1
   have KK:=g2 lE (List.mem_of_getElem? e1)
   rw [if_neg]at e3
   ·exact g4 i' lE j d' u e1 e2 e3
   ·rintro⟨a,b⟩
    rcases Nat.lt_or_gt_of_ne fE with h | h
    ·have:(i+1)*size≤i'*size:=Nat.mul_le_mul_right _ h
     rw [Nat.succ_mul]at this;omega
    ·have:(i'+1)*size≤i*size:=Nat.mul_le_mul_right _ h
     rw [Nat.succ_mul]at this;omega
theorem zU {size:Nat} : ∀ (vp:List (Nat×Value)) (dp:List (Nat×D)) (rows:List (List D)) (vs:Array Value) (lh:List (List D)),mE M s size rows vs→
 dp.length=vp.length→(∀ (j:Nat) (i:Nat) (v:Value) (i':Nat) (d:D),vp[j]? = some (i,v)→dp[j]? = some (i',d)→i'=i∧RD M s d v)→
 jN size rows dp=some lh→∃ fW,Instr.fill (fun i=>some (i*size,size)) vs vp=some fW∧mE M s size lh fW∧lh.length=rows.length∧fW.size=vs.size
 | [],[],rows,vs,lh,h,_,_,e=>by cases e;exact⟨vs,rfl,h,rfl,rfl⟩
 | [],_::_,_,_,_,_,hl,_,_=>by simp at hl
 | _::_,[],_,_,_,_,hl,_,_=>by simp at hl
 | (i,v)::vp,(i',d)::dp,rows,vs,lh,h,hl,hp,e=>by
  obtain⟨h1,h2⟩:=hp 0 i v i' d rfl rfl
  subst h1
  unfold jN at e
  split at e
  ·cases e
  ·rename_i row hr
   split at e
   ·rename_i hc
    obtain⟨c1,c2⟩:=hc
    have e9:=(h2.row hr).1
    have acw:=h.set h2 hr c1 c2
    obtain⟨fW,f1,f2,f3,f4⟩:=zU vp dp (rows.set i' row) _ lh acw (by simpa using hl)
     (fun j i v i' d e1 e2=>hp (j+1) i v i' d (by simpa using e1) (by simpa using e2)) e
    have kb:i'*size+size≤vs.size:=by
     have:(i'+1)*size≤rows.length*size:=Nat.mul_le_mul_right _ c2
     have:=h.1
     rw [Nat.succ_mul]at *;omega
    refine⟨fW, ?_,f2,by rw [f3];simp, ?_⟩
    ·unfold Instr.fill
     simp only
     rw [if_neg]
     ·exact f1
     ·simp;exact⟨by omega,by omega⟩
    ·rw [f4]
     have:=(vN (i'*size) v.cells.toList 0 vs 0).1
     rw [← this, ← Array.foldl_toList];simp
   ·cases e
theorem LC (r:Rel M s w) {size:Nat} {rows:List (List D)} {vs:Array Value} (T:TypeId) (h:mE M s size rows vs) :
 RD (M.fP w.heap.size vs.size vs) s (.slice .full size rows) (.slice (some ⟨w.heap.size,0,none⟩) rows.length rows.length)∧
 Rel (M.fP w.heap.size vs.size vs) s (w.alloc (.cells vs T))∧Ext M s w (M.fP w.heap.size vs.size vs) s (w.alloc (.cells vs T)):=by
 obtain⟨r',e'⟩:=r.fP vs.size vs T (0,0) h.2.2.1
 obtain⟨g1,g2⟩:=h.fixed e'.le (b:=w.heap.size) (fun o ho=>by
  have:o<vs.size:=Nat.lt_of_lt_of_le ho h.1
  simp [Map.fP,this])
 exact⟨.slice .full size rows w.heap.size 0 rows.length (Nat.le_refl _) h.2.1 g1 g2 rfl,r',e'⟩
theorem qj {t u ty e:TypeId} {i:TypeInfo} (ht:P.underlying t=some (.slice e)) (hi:P.info? e=some i) {base:Option Addr} {len cap:Nat} {y:Value} (hs:Src P i.size u y 0 [] w) (hc:len≤cap) :
 (Builtin.append_ #[t,u] ty #[.slice base len cap,y]).run P w = .ok (.slice base len cap) w:=by
 have lN:=hs.cells
 rcases hs.kind with ⟨e',hk⟩ | hk <;> cases base <;> simp [Builtin.append_,run_underlying ht,run_underlying hk,sizeOf,typeInfo,hi,hs.len,hc,lN,storeCells]
theorem Fw (r:Rel M s w) {u e':TypeId} (hu:P.underlying u=some (.slice e')) {g:Tag} {size:Nat} {rows:List (List D)} {y:Value} (hy:RD M s (.slice g size rows) y) :
 ∃ news:List Value,Src P size u y rows.length news w∧
  (∀ (i:Nat) (row:List D) (j:Nat) (d:D) (v:Value),rows[i]? = some row→row[j]? = some d→news[i*size+j]? = some v→RD M s d v)∧
  ∀ (b q n c:Nat),y = .slice (some ⟨b,q,none⟩) n c→∀ o,o<rows.length*size→M.G b (q+o)=news[o]? :=by
 rcases hy.iW with ⟨rfl,rfl,_⟩ | ⟨rfl,_,a,cap,rfl⟩ | ⟨b,q,cap,rfl,hl,hs,g1,g2,_⟩
 ·exact⟨[],Src.ofNil w hu 0,by simp,by simp⟩
 ·exact⟨[],Src.ofSlice w hu a 0 cap [] (by simp) (by simp) (by simp),by simp,by simp⟩
 ·obtain⟨us,hlen,BG⟩:=yk (M:=M) (b:=b) (rows.length*size) q (fun k hk=>by
   have hz:0<size:=by
    rcases Nat.eq_zero_or_pos size with h | h
    ·subst h;simp at hk
    ·exact h
   have hi:k / size<rows.length:=by rw [Nat.div_lt_iff_lt_mul hz];exact hk
   obtain⟨row,fa⟩ : ∃ row,rows[k / size]? = some row:=⟨_,List.getElem?_eq_getElem hi⟩
   have KK:=hs row (List.mem_of_getElem? fa)
   have hj:k % size<row.length:=by rw [KK];exact Nat.mod_lt _ hz
   obtain⟨u,hu⟩:=g1 _ row _ _ fa (List.getElem?_eq_getElem hj)
   refine⟨u, ?_⟩
   rw [← hu,Nat.mul_comm (k / size) size,Nat.div_add_mod])
  refine⟨us,Src.ofSlice w hu ⟨b,q,none⟩ rows.length cap us hlen (fun j u h=>by rw [rH];exact(r.comm _ _ _ (BG j u h)).1) (fun u hu=> ?_),fun i row j d v e1 e2 e3=>g2 i row j d v e1 e2 (BG _ v e3),
   fun b' q' n c heq o ho=>by
    cases heq
    rw [BG o _ (List.getElem?_eq_getElem (by omega)),List.getElem?_eq_getElem (by omega)]⟩
  obtain⟨j,hj⟩:=List.mem_iff_getElem?.1 hu
  exact(r.comm _ _ _ (BG j u hj)).2
theorem CW {size:Nat} {rows new:List (List D)} {pJ news:List Value} (KM : ∀ row∈rows,row.length=size) (KN : ∀ row∈new,row.length=size)
 (l1:pJ.length=rows.length*size) (l2:news.length=new.length*size) (o1 : ∀ u∈pJ,u.oneCell'=true) (o2 : ∀ u∈news,u.oneCell'=true)
 (h1 : ∀ (i:Nat) (row:List D) (j:Nat) (d:D) (v:Value),rows[i]? = some row→row[j]? = some d→pJ[i*size+j]? = some v→RD M s d v)
 (h2 : ∀ (i:Nat) (row:List D) (j:Nat) (d:D) (v:Value),new[i]? = some row→row[j]? = some d→news[i*size+j]? = some v→RD M s d v)
 (z:Array Value) (hz : ∀ v∈z,v.oneCell'=true):mE M s size (rows++new) ((pJ++news).toArray++z):=by
 have hs : ∀ row∈rows++new,row.length=size:=fun row h=>(List.mem_append.1 h).elim (KM row) (KN row)
 refine⟨by simp [l1,l2,Nat.add_mul],hs,fun v hv=> ?_,fun i row j d v e1 e2 e3=> ?_⟩
 ·simp at hv
  rcases hv with (h | h) | h
  ·exact o1 v h
  ·exact o2 v h
  ·exact hz v h
 ·have hF:=zT hs e1 e2
  rw [List.length_append,Nat.add_mul]at hF
  rw [Array.getElem?_append_left (by simp [l1,l2];omega),List.getElem?_toArray]at e3
  by_cases hi:i<rows.length
  ·rw [List.getElem?_append_left hi]at e1
   have:=zT KM e1 e2
   rw [List.getElem?_append_left (by omega)]at e3
   exact h1 i row j d v e1 e2 e3
  ·rw [List.getElem?_append_right (by omega)]at e1
   have eK:rows.length*size≤i*size:=Nat.mul_le_mul_right _ (by omega)
   rw [List.getElem?_append_right (by omega),l1]at e3
   refine h2 (i - rows.length) row j d v e1 e2 ?_
   rw [← e3]
   congr 1
   rw [Nat.sub_mul];omega
theorem Gx {z:Array Value} (h : ∀ v∈z,v.oneCell'=true) (n:Nat) : ∀ v∈Builtin.zeroCells z n,v.oneCell'=true:=by
 intro v hv
 unfold Builtin.zeroCells at hv
 obtain⟨q,hq,rfl⟩:=Array.mem_map.1 hv
 have hF:q<n*z.size:=by simpa using hq
 have hz:0<z.size:=by
  rcases Nat.eq_zero_or_pos z.size with h | h
  ·rw [h]at hF;simp at hF
  ·exact h
 have:=Nat.mod_lt q hz
 rw [getElem!_pos z (q % z.size) this]
 exact h _ (Array.getElem_mem this)
def Ef (eb:Bool) (size bytes:Nat) (x y:D) (s:St):Option (D×St):=
 match x,y with
 | .slice g z rows, .slice _ z' new=>
  if(rows = []∨z=size)∧(new = []∨z'=size)∧(rows.length+new.length)*(bytes+1)≤bc then
   match new with
   | []=>some (.slice g z rows,s)
   | _::_=>
    match g with
    | .full=>some (.slice (.tok s.aH.length eb) size (rows++new),{s with aH:=s.aH++ [some (rows.length+new.length)]})
    | .shared=>none
    | .tok t y=>if(y=true→eb=true)∧z=size∧s.aH[t]? = some (some rows.length)then some (.slice (.tok t y) size (rows++new),{s with aH:=s.aH.set t (some (rows.length+new.length))})else none
  else none
 | _,_=>none
theorem YB {size bytes:Nat} {x y d:D} {s s':St} (h:gy size bytes x y s=some (d,s')):Ef false size bytes x y s=some (d,s'):=by
 unfold gy at h
 unfold Ef
 split at h
 ·split at h
  ·rename_i hc
   simp only [hc,and_self,if_true]
   split at h
   ·exact h
   ·split at h
    ·exact h
    ·exact h
    ·cases h
    ·split at h
     ·rename_i hq
      simp only [hq,and_self,Bool.false_eq_true,false_imp_iff,if_true]
      exact h
     ·cases h
  ·cases h
 ·cases h
theorem ON {x y d:D} {s s':St} (h:zO x y s=some (d,s')):Ef true 1 1 x y s=some (d,s'):=by
 unfold zO at h
 unfold Ef
 split at h
 ·split at h
  ·rename_i hc
   simp only [hc,and_self,if_true]
   split at h
   ·exact h
   ·split at h
    ·exact h
    ·exact h
    ·split at h
     ·rename_i hq
      simp only [hq,and_self,imp_true_iff,if_true]
      exact h
     ·cases h
  ·cases h
 ·cases h
theorem U4 {b:Bool} {n:Nat} (h:b=true→n=1) (hn:0<n):zs (bz b n)=n:=by
 cases b
 ·show(if n=0 then 1 else n)=n
  rw [if_neg (by omega)]
 ·simp [zs,bz,h rfl]
theorem Ca (eb:Bool) (r:Rel M s w) {t u ty e:TypeId} {i:TypeInfo} {z:Value} (ht:P.underlying t=some (.slice e)) (hi:P.info? e=some i) (hz:i.zero=some z)
 (BI:z.cells.size=i.size) (HO : ∀ v∈z.cells,v.oneCell'=true) {dx dy d:D} {x y:Value} {s':St} (hx:RD M s dx x) (U5:eb=true→e=pj∧i.size=1) (zV:0<i.size) (he:Ef eb i.size i.bytes dx dy s=some (d,s'))
 (src : ∀ (g:Tag) (size:Nat) (rows:List (List D)),dy = .slice g size rows→(rows = []→Src P i.size u y 0 [] w)∧(rows≠ []→size=i.size→(∀ row∈rows,row.length=i.size)∧∃ news:List Value,Src P i.size u y rows.length news w∧
  (∀ (k:Nat) (row:List D) (j:Nat) (d:D) (v:Value),rows[k]? = some row→row[j]? = some d→news[k*i.size+j]? = some v→RD M s d v))) :
 ∃ v w' M',(Builtin.append_ #[t,u] ty #[x,y]).run P w = .ok v w'∧Rel M' s' w'∧RD M' s' d v∧Ext M s w M' s' w':=by
 unfold Ef at he
 split at he
 case h_2=>cases he
 rename_i g zx rows g' zy new
 split at he
 case isFalse=>cases he
 rename_i hc
 obtain⟨tC,U6,U7⟩:=hc
 cases new with
 | nil=>
  simp only at he
  cases he
  have OO:Src P i.size u y 0 [] w:=(src _ _ _ rfl).1 rfl
  rcases hx.iW with ⟨_,hv,_⟩ | ⟨_,_,a,cap,hv⟩ | ⟨b,q,cap,hv,hl,_⟩
  ·refine⟨x,w,M, ?_,r,hx,Ext.refl M s w⟩
   rw [hv]
   exact qj ht hi OO (Nat.le_refl _)
  ·refine⟨x,w,M, ?_,r,hx,Ext.refl M s w⟩
   rw [hv]
   exact qj ht hi OO (Nat.zero_le _)
  ·refine⟨x,w,M, ?_,r,hx,Ext.refl M s w⟩
   rw [hv]
   exact qj ht hi OO hl
 | cons n0 new=>
  have fE:(n0::new)≠ []:=by simp
  generalize ey:n0::new=iE at *
  have hzy:zy=i.size:=U6.resolve_left fE
  subst hzy
  obtain⟨OP,news,hs,U8⟩:=(src _ _ _ rfl).2 fE rfl
  have hm:0<iE.length:=List.length_pos_iff.2 fE
  have CX:(rows.length+iE.length)*i.bytes≤140737488355328:=by rw [Nat.mul_succ]at U7;simp only [bc]at U7;omega
  have apR:rows.length+iE.length≤1099511627776:=by rw [Nat.mul_succ]at U7;simp only [bc]at U7;omega
  -- what the first argument reads as
  obtain⟨base,cap,pJ,hxv,hle,oM,hod,U9,YD,hsx,hoG,oa⟩ : ∃ (base:Option Addr) (cap:Nat) (pJ:List Value),x = .slice base rows.length cap∧rows.length≤cap∧pJ.length=rows.length*i.size∧
   (Builtin.firstCells i.size rows.length (.slice base rows.length cap)).run P w.drew = .ok pJ.toArray w.drew∧(∀ u∈pJ,u.oneCell'=true)∧
   (∀ (k:Nat) (row:List D) (j:Nat) (d:D) (v:Value),rows[k]? = some row→row[j]? = some d→pJ[k*i.size+j]? = some v→RD M s d v)∧(∀ row∈rows,row.length=i.size)∧
   (∀ b q,base=some ⟨b,q,none⟩→∀ o,o<rows.length*i.size→M.G b (q+o)=pJ[o]?)∧
   ((base=none∧rows = []∧iL M s g zx 0 none cap)∨∃ b q,base=some ⟨b,q,none⟩∧iL M s g zx rows.length (some (b,q)) cap):=by
   rcases tC with h0 | h0
   ·subst h0
    rcases hx.iW with ⟨_,hv,oa⟩ | ⟨_,rfl,_⟩ | ⟨b,q,cap,hv,hl,_,_,_,oa⟩
    ·exact⟨none,0,[],hv,Nat.le_refl _,by simp,by simp [Builtin.firstCells],by simp,by simp,by simp,by simp, .inl ⟨rfl,rfl,oa⟩⟩
    ·exfalso;simp only [← ey]at he;cases he
    ·exact⟨some ⟨b,q,none⟩,cap,[],hv,hl,by simp,by simp [Builtin.firstCells,loadCells,loadCellsFrom],by simp,by simp,by simp,by simp, .inr ⟨b,q,rfl,oa⟩⟩
   ·subst h0
    obtain⟨pJ,KO,rB,kq⟩:=Fw r ht hx
    rcases hx.iW with ⟨h0,hv,oa⟩ | ⟨_,rfl,_⟩ | ⟨b,q,cap,hv,hl,oN,_,_,oa⟩
    ·subst h0
     refine⟨none,0,pJ,hv,Nat.le_refl _,KO.newsLen, ?_,KO.one,rB,by simp,by simp, .inl ⟨rfl,rfl,oa⟩⟩
     have:=KO.cellsD;rw [hv]at this;exact this
    ·exfalso;simp only [← ey]at he;cases he
    ·refine⟨some ⟨b,q,none⟩,cap,pJ,hv,hl,KO.newsLen, ?_,KO.one,rB,oN,fun b' q' heq o ho=> ?_, .inr ⟨b,q,rfl,oa⟩⟩
     ·have:=KO.cellsD;rw [hv]at this;exact this
     ·cases heq;exact kq b q _ cap hv o ho
  subst hxv
  -- the way that makes a new row
  have grow : ∀ (hg:cap<rows.length+iE.length),∃ (w':World) (M1:Map) (vs:Array Value) (oO:Nat),
   (Builtin.append_ #[t,u] ty #[.slice base rows.length cap,y]).run P w = .ok (.slice (some ⟨w.heap.size,0,none⟩) (rows.length+iE.length) oO) w'∧
   w'.heap[w.heap.size]? = some (.cells vs e (0,0))∧vs.size=oO*i.size∧rows.length+iE.length≤oO∧M1=M.fP w.heap.size ((rows.length+iE.length)*i.size) vs∧
   mE M s i.size (rows++iE) vs∧Rel M1 s w'∧Ext M s w M1 s w':=by
   intro hg
   have eK:=grownCap_ge w (rows.length+iE.length) cap e
   have dS:=run_append_grow_src (P:=P) w t u ty e i z ht hi hz base rows.length cap pJ hod y iE.length news hs hg (by omega) (growslice_fits hg CX)
   have fa:=CW (M:=M) (s:=s) hsx OP oM hs.newsLen U9 hs.one YD U8 (Builtin.zeroCells z.cells (grownCap w (rows.length+iE.length) cap e - (rows.length+iE.length))) (Gx HO _)
   obtain⟨r1,e1⟩:=(r.of_heap (w':=w.drew) rfl).fP ((rows.length+iE.length)*i.size) _ e (0,0) fa.2.2.1
   refine⟨_,_,_,_,dS,heap_alloc_new w.drew _, ?_,eK,rfl,fa,r1,(Ext.of_heap (M:=M) (s:=s) (w:=w) (w':=w.drew) rfl rfl rfl rfl).trans e1⟩
   simp only [Array.size_append,List.size_toArray,List.length_append,size_zeroCells,BI,oM,hs.newsLen, ← Nat.add_mul]
   congr 1;omega
  have hlen:(rows++iE).length=rows.length+iE.length:=by simp
  cases g with
  | shared=>simp only [← ey]at he;cases he
  | full=>
   have s5:cap=rows.length:=by
    rcases oa with ⟨_,h0,h1⟩ | ⟨_,_,_,h1⟩
    ·subst h0;exact h1
    ·exact h1
   obtain⟨w',M1,vs,oO,dS,hh,e9,hn,CY,fa,r1,e1⟩:=grow (by omega)
   simp only [← ey]at he
   simp only [ey]at he
   cases he
   have HP:zs (bz eb i.size)=i.size:=U4 (fun h=>(U5 h).2) zV
   have Va:bz eb i.size=0→e=pj:=fun h0=>by
    cases eb with
    | true=>exact(U5 rfl).1
    | false=>simp [bz]at h0;omega
   obtain⟨r2,l2⟩:=r1.U1 (rows.length+iE.length) w.heap.size oO (bz eb i.size) vs e hh (by rw [HP];exact e9) hn Va
    (fun off ho=>by rw [HP]at ho;rw [CY];simp [Map.fP];omega)
    (fun o ho=>by have:=r.qF ho;rw [CY];show M.mu o≠_;omega) (fun q c z' hl heq=>by
     have:M.be q=some (w.heap.size,c,z'):=by rw [CY]at heq;exact heq
     have:=r.tR hl this;omega)
   refine⟨_,w',_,dS,r2, ?_, ?_⟩
   ·obtain⟨f1,f2⟩:=fa.fixed (e1.le.trans l2) (b:=w.heap.size) (fun o ho=>by
     rw [CY,hlen]at *
     simp [Map.ff,Map.fP,ho])
    have key:=RD.slice (M:=M1.ff s.aH.length (some (w.heap.size,oO,bz eb i.size))) (s:= {s with aH:=s.aH++ [some (rows.length+iE.length)]}) (.tok s.aH.length eb) i.size (rows++iE) w.heap.size 0 oO (by rw [hlen];exact hn) fa.2.1 f1 f2
     ⟨by simp,fun n pS=>by
      simp at pS
      subst pS
      exact⟨by rw [hlen];exact Nat.le_refl _,fun _=> .inr ⟨_,rfl,by simp [Map.ff]⟩⟩⟩
    rw [hlen]at key
    exact key
   ·refine⟨e1.le.trans l2,e1.kept,e1.qB,fun q b c z' hl heq=> ?_,e1.sZ,e1.size,e1.os,e1.tape,e1.output⟩
    obtain⟨k,hk⟩:=hl
    rcases Nat.lt_or_ge q s.aH.length with h | h
    ·have HQ:M1.be q=some (b,c,z'):=by
      have:(M1.ff s.aH.length (some (w.heap.size,oO,bz eb i.size))).be q=M1.be q:=by simp [Map.ff];omega
      rw [this]at heq;exact heq
     simp only [List.getElem?_append_left h]at hk
     exact e1.qC q b c z' ⟨k,hk⟩ HQ
    ·have:=(List.getElem?_eq_some_iff.1 hk).1
     simp at this
     have:q=s.aH.length:=by omega
     subst this
     have:(M1.ff s.aH.length (some (w.heap.size,oO,bz eb i.size))).be s.aH.length=some (w.heap.size,oO,bz eb i.size):=by simp [Map.ff]
     rw [this]at heq;cases heq
     exact .inr (Nat.le_refl _)
  | tok q yb=>
   simp only [← ey]at he
   simp only [ey]at he
   split at he
   case isFalse=>cases he
   rename_i hq
   obtain⟨Va,hzx,hq⟩:=hq
   cases he
   have HP:zs (bz yb i.size)=i.size:=U4 (fun h=>(U5 (Va h)).2) zV
   have afE:bz yb i.size=0→e=pj:=fun h0=>by
    cases yb with
    | true=>exact(U5 (Va rfl)).1
    | false=>simp [bz]at h0;omega
   have LD : ∀ (hg:cap<rows.length+iE.length),∃ v w' M',(Builtin.append_ #[t,u] ty #[.slice base rows.length cap,y]).run P w = .ok v w'∧Rel M' {s with aH:=s.aH.set q (some (rows.length+iE.length))} w'∧
    RD M' {s with aH:=s.aH.set q (some (rows.length+iE.length))} (.slice (.tok q yb) i.size (rows++iE)) v∧Ext M s w M' {s with aH:=s.aH.set q (some (rows.length+iE.length))} w':=by
    intro hg
    obtain⟨w',M1,vs,oO,dS,hh,e9,hn,CY,fa,r1,e1⟩:=grow hg
    have OQ:q<s.aH.length:=(List.getElem?_eq_some_iff.1 hq).1
    obtain⟨r2,l2⟩:=r1.acs q rows.length (rows.length+iE.length) w.heap.size oO (bz yb i.size) vs e hq (by omega) hh (by rw [HP];exact e9) hn afE
     (fun off ho=>by rw [HP]at ho;rw [CY];simp [Map.fP];omega)
     (fun o ho=>by have:=r.qF ho;rw [CY];show M.mu o≠_;omega) (fun q c z' hl heq=>by
      have:M.be q=some (w.heap.size,c,z'):=by rw [CY]at heq;exact heq
      have:=r.tR hl this;omega)
    refine⟨_,w',_,dS,r2, ?_, ?_⟩
    ·obtain⟨f1,f2⟩:=fa.fixed (e1.le.trans l2) (b:=w.heap.size) (fun o ho=>by
      rw [CY,hlen]at *
      simp [Map.ff,Map.fP,ho])
     have key:=RD.slice (M:=M1.ff q (some (w.heap.size,oO,bz yb i.size))) (s:= {s with aH:=s.aH.set q (some (rows.length+iE.length))}) (.tok q yb) i.size (rows++iE) w.heap.size 0 oO (by rw [hlen];exact hn) fa.2.1 f1 f2
      ⟨by simp [OQ],fun n pS=>by
       simp [OQ]at pS
       subst pS
       exact⟨by rw [hlen];exact Nat.le_refl _,fun _=> .inr ⟨_,rfl,by simp [Map.ff]⟩⟩⟩
     rw [hlen]at key
     exact key
    ·refine⟨e1.le.trans l2,e1.kept,e1.qB,fun q' b c z' hl heq=> ?_,e1.sZ,e1.size,e1.os,e1.tape,e1.output⟩
     obtain⟨k,hk⟩:=hl
     by_cases h:q'=q
     ·subst h
      have:(M1.ff q' (some (w.heap.size,oO,bz yb i.size))).be q'=some (w.heap.size,oO,bz yb i.size):=by simp [Map.ff]
      rw [this]at heq;cases heq
      exact .inr (Nat.le_refl _)
     ·have HQ:M1.be q'=some (b,c,z'):=by
       have:(M1.ff q (some (w.heap.size,oO,bz yb i.size))).be q'=M1.be q':=by simp [Map.ff,h]
       rw [this]at heq;exact heq
      simp only [List.getElem?_set_ne (Ne.symm h)]at hk
      exact e1.qC q' b c z' ⟨k,hk⟩ HQ
   rcases oa with ⟨rfl,rfl,h1⟩ | ⟨b,k,rfl,h1⟩
   ·obtain⟨_,h2⟩:=h1
    obtain⟨_,h3⟩:=h2 _ hq
    rcases h3 rfl with ⟨_,h4⟩ | ⟨b,h4,_⟩
    ·exact LD (by simp;omega)
    ·cases h4
   ·obtain⟨_,h2⟩:=h1
    obtain⟨_,h3⟩:=h2 _ hq
    rcases h3 rfl with ⟨_,h4⟩ | ⟨b2,h4,kC⟩
    ·exact LD (by omega)
    cases h4
    subst hzx
    by_cases gv:rows.length+iE.length≤cap
    ·rcases r.tok q rows.length hq with ⟨h4,_⟩ | ⟨b',HI,yi,vs,T,h4,h5,h6,h7,h8⟩
     ·rw [kC]at h4;cases h4
     ·rw [kC]at h4;cases h4
      rw [HP]at h6
      obtain⟨r2,e2⟩:=r.acu q rows.length iE.length b cap (bz yb i.size) i.size news HP hq kC hs.newsLen gv hm hs.one vs T h5 h6 h8.2
      have kb:rows.length*i.size+news.length≤vs.size:=by rw [hs.newsLen,h6, ← Nat.add_mul];exact Nat.mul_le_mul_right _ gv
      have BF:=run_storeCells_at P b (rows.length*i.size) T news 0 vs w h5 (by simpa using kb) hs.one
      simp only [Nat.add_zero]at BF
      have dS:(Builtin.append_ #[t,u] ty #[.slice (some ⟨b,0,none⟩) rows.length cap,y]).run P w = .ok (.slice (some ⟨b,0,none⟩) (rows.length+iE.length) cap) (w.setRow b (vs.toList.take (rows.length*i.size)++news++vs.toList.drop (rows.length*i.size+news.length)).toArray):=by
       rcases hs.kind with ⟨Ox,hk⟩ | hk <;> simp [Builtin.append_,run_underlying ht,run_underlying hk,sizeOf,typeInfo,hi,hs.len,gv,hs.cells,Addr.add_lit,BF]
      refine⟨_,_,_,dS,r2, ?_,e2⟩
      have hG : ∀ o,o<(rows++iE).length*i.size→(M.fix b (rows.length*i.size) news).G b o=(pJ++news).toArray[o]? :=by
       intro o ho
       rw [hlen,Nat.add_mul]at ho
       rw [List.getElem?_toArray]
       by_cases h9:o<rows.length*i.size
       ·rw [List.getElem?_append_left (by omega)]
        have:(M.fix b (rows.length*i.size) news).G b o=M.G b o:=by simp [Map.fix];omega
        rw [this]
        have:=hoG b 0 rfl o h9
        rwa [Nat.zero_add]at this
       ·rw [List.getElem?_append_right (by omega),oM]
        have:(M.fix b (rows.length*i.size) news).G b o=news[o - rows.length*i.size]? :=by
         simp only [Map.fix];rw [if_pos ⟨trivial,by omega,by rw [hs.newsLen];omega⟩]
        rw [this]
      have fa:=CW (M:=M) (s:=s) hsx OP oM hs.newsLen U9 hs.one YD U8 #[] (by simp)
      rw [Array.append_empty]at fa
      obtain⟨f1,f2⟩:=fa.fixed e2.le (b:=b) hG
      have OQ:q<s.aH.length:=(List.getElem?_eq_some_iff.1 hq).1
      have key:=RD.slice (M:=M.fix b (rows.length*i.size) news) (s:= {s with aH:=s.aH.set q (some (rows.length+iE.length))}) (.tok q yb) i.size (rows++iE) b 0 cap (by rw [hlen];exact gv) fa.2.1 f1 f2
       ⟨by simp [OQ],fun n pS=>by
        simp [OQ]at pS
        subst pS
        exact⟨by rw [hlen];exact Nat.le_refl _,fun _=> .inr ⟨_,rfl,kC⟩⟩⟩
      rw [hlen]at key
      exact key
    ·exact LD (by omega)
theorem KP (r:Rel M s w) {u e':TypeId} {i:TypeInfo} (hu:P.underlying u=some (.slice e')) {y:Value} {dy:D} (hy:RD M s dy y) (g:Tag) (size:Nat) (rows:List (List D)) (YE:dy = .slice g size rows) :
 (rows = []→Src P i.size u y 0 [] w)∧(rows≠ []→size=i.size→(∀ row∈rows,row.length=i.size)∧∃ news:List Value,Src P i.size u y rows.length news w∧
  (∀ (k:Nat) (row:List D) (j:Nat) (d:D) (v:Value),rows[k]? = some row→row[j]? = some d→news[k*i.size+j]? = some v→RD M s d v)):=by
 subst YE
 refine⟨fun h0=> ?_,fun fE e9=> ?_⟩
 ·subst h0
  rcases hy.iW with ⟨_,rfl,_⟩ | ⟨_,_,a,cap,rfl⟩ | ⟨b,q,cap,rfl,_⟩
  ·exact Src.ofNil w hu 0
  ·exact Src.ofSlice w hu a 0 cap [] (by simp) (by simp) (by simp)
  ·exact Src.ofSlice w hu ⟨b,q,none⟩ 0 cap [] (by simp) (by simp) (by simp)
 ·subst e9
  obtain⟨news,h1,h2,_⟩:=Fw r hu hy
  refine⟨?_,news,h1,h2⟩
  rcases hy.iW with ⟨h0,_⟩ | ⟨h0,_⟩ | ⟨_,_,_,_,_,h,_⟩
  ·exact(fE h0).elim
  ·exact(fE h0).elim
  ·exact h
theorem OR (r:Rel M s w) {t u ty e e':TypeId} {i:TypeInfo} {z:Value} (ht:P.underlying t=some (.slice e)) (hu:P.underlying u=some (.slice e')) (hi:P.info? e=some i) (hz:i.zero=some z)
 (BI:z.cells.size=i.size) (HO : ∀ v∈z.cells,v.oneCell'=true) {dx dy d:D} {x y:Value} {s':St} (hx:RD M s dx x) (hy:RD M s dy y) (zV:0<i.size) (he:gy i.size i.bytes dx dy s=some (d,s')) :
 ∃ v w' M',(Builtin.append_ #[t,u] ty #[x,y]).run P w = .ok v w'∧Rel M' s' w'∧RD M' s' d v∧Ext M s w M' s' w':=
 Ca false r ht hi hz BI HO hx (fun h=>by cases h) zV (YB he) (KP r hu hy)
theorem LF (r:Rel M s w) {t u ty e':TypeId} {i:TypeInfo} {z:Value} (ht:P.underlying t=some (.slice pj)) (hu:P.underlying u=some (.slice e')) (hi:P.info? pj=some i) (hz:i.zero=some z) (h1:i.size=1) (h2:i.bytes=1)
 (BI:z.cells.size=i.size) (HO : ∀ v∈z.cells,v.oneCell'=true) {dx dy d:D} {x y:Value} {s':St} (hx:RD M s dx x) (hy:RD M s dy y) (he:zO dx dy s=some (d,s')) :
 ∃ v w' M',(Builtin.append_ #[t,u] ty #[x,y]).run P w = .ok v w'∧Rel M' s' w'∧RD M' s' d v∧Ext M s w M' s' w':=
 Ca true r ht hi hz BI HO hx (fun _=>⟨rfl,h1⟩) (by omega) (by rw [h1,h2];exact ON he) (KP r hu hy)
theorem LG (r:Rel M s w) {t u ty:TypeId} {i:TypeInfo} {z:Value} (ht:P.underlying t=some (.slice pj)) (hu:P.underlying u=some .string) (hi:P.info? pj=some i) (hz:i.zero=some z) (h1:i.size=1) (h2:i.bytes=1)
 (BI:z.cells.size=i.size) (HO : ∀ v∈z.cells,v.oneCell'=true) {dx d:D} {x:Value} {l:List UInt8} {s':St} (hx:RD M s dx x) (he:zO dx (.slice .shared 1 (l.map fun c=> [.int .u8 c.toNat])) s=some (d,s')) :
 ∃ v w' M',(Builtin.append_ #[t,u] ty #[x, .string ⟨⟨l⟩⟩]).run P w = .ok v w'∧Rel M' s' w'∧RD M' s' d v∧Ext M s w M' s' w':=by
 have hs:Src P i.size u (.string ⟨⟨l⟩⟩) l.length (l.map fun c=> .int .u8 c.toNat) w:=by
  rw [h1]
  exact Src.ofString w hu ⟨⟨l⟩⟩
 refine Ca true r ht hi hz BI HO hx (fun _=>⟨rfl,h1⟩) (by omega) (by rw [h1,h2];exact ON he) fun g size rows YE=> ?_
 cases YE
 refine⟨fun h0=> ?_,fun fE e9=> ?_⟩
 ·have:l = []:=by simpa using h0
  subst this
  exact hs
 ·refine⟨fun row hr=> ?_,_,by simpa using hs,fun k row j d v e1 e2 e3=> ?_⟩
  ·obtain⟨c,_,rfl⟩:=List.mem_map.1 hr
   rw [h1];rfl
  ·rw [List.getElem?_map,Option.map_eq_some_iff]at e1
   obtain⟨c,e1,rfl⟩:=e1
   cases j with
   | zero=>
    simp at e2
    subst e2
    simp [h1,e1]at e3
    subst e3
    exact .int _ _
   | succ j=>simp at e2
end
end Go.Abs

/-! Sound6 -/

namespace Go.Abs
section
variable {P:Program} {M:Map} {s:St} {w:World}
theorem map_some {α β:Type} {f:α→β} {x:Option α} {y:β} (h:x.map f=some y) : ∃ a,x=some a∧y=f a:=by
 cases x with
 | none=>cases h
 | some a=>cases h;exact⟨a,rfl,rfl⟩
theorem wK {t:TypeId} {z:List D} (h:zeroOf P t=some z) : ∃ i v,P.info? t=some i∧i.zero=some v∧v.cells.size=i.size∧ny v.cells.toList=some z:=by
 unfold zeroOf at h
 split at h
 ·rename_i i hi
  split at h
  ·rename_i v hv
   split at h
   ·exact⟨i,v,hi,hv, ‹_›,h⟩
   ·cases h
  ·cases h
 ·cases h
theorem uG {z:List D} {v:Value} (h:ny v.cells.toList=some z):sH M s z v.cells:=by
 obtain⟨h1,h2,h3⟩:=kZ (M:=M) (s:=s) h
 exact⟨by simpa using h1.symm,fun u hu=>h2 u (by simpa using hu),fun i d u e1 e2=>h3 i d u e1 (by simpa using e2)⟩
theorem LH {t:TypeId} {z:List D} (h:yh P t=some z) : ∃ i v,P.info? t=some i∧i.zero=some v∧v.cells.size=i.size∧sH M s z v.cells:=by
 unfold yh at h
 split at h
 ·rename_i i hi
  split at h
  ·rename_i v hv
   split at h
   ·refine⟨i,v,hi,hv, ‹_›, ?_⟩
    obtain⟨h1,h2,h3⟩:=BH (M:=M) (s:=s) h
    exact⟨by simpa using h1.symm,fun u hu=>h2 u (by simpa using hu),fun i d u e1 e2=>h3 i d u e1 (by simpa using e2)⟩
   ·cases h
  ·cases h
 ·cases h
theorem zW {t:TypeId} {tm:Tm} {act:Act} (hr:lM M s tm act.tmps) : ∀ {l:List (Nat×Operand)} {ps:List (Nat×Nat×X)},zP P t l=some ps→
 (ps.map fun p=>(p.1,p.2.1,p.2.2.ev tm)).length=(l.map fun p=>(p.1,act.eval p.2)).length∧
 ∀ (j:Nat) (i:Nat) (v:Value) (off size:Nat) (d:D),(l.map fun p=>(p.1,act.eval p.2))[j]? = some (i,v)→(ps.map fun p=>(p.1,p.2.1,p.2.2.ev tm))[j]? = some (off,size,d)→
  (∃ a,l6 P t i=some (off,size,a))∧RD M s d v
 | [],ps,h=>by cases h;exact⟨rfl,by simp⟩
 | (i0,x)::l,ps,h=>by
  unfold zP at h
  split at h
  ·rename_i off size a x' r' h1 h2 h3
   cases h
   obtain⟨g1,g2⟩:=zW hr h3
   refine⟨by simpa using g1,fun j i v wJ yi d e1 e2=> ?_⟩
   cases j with
   | zero=>
    simp at e1 e2
    obtain⟨rfl,rfl⟩:=e1
    obtain⟨rfl,rfl,rfl⟩:=e2
    exact⟨⟨a,h1⟩,cH h2 hr⟩
   | succ j=>exact g2 j i v wJ yi d (by simpa using e1) (by simpa using e2)
  ·cases h
theorem CZ {tm:Tm} {act:Act} (hr:lM M s tm act.tmps) : ∀ {l:List (Nat×Operand)} {ps:List (Nat×X)},HG l=some ps→
 (ps.map fun p=>(p.1,p.2.ev tm)).length=(l.map fun p=>(p.1,act.eval p.2)).length∧
 ∀ (j:Nat) (i:Nat) (v:Value) (i':Nat) (d:D),(l.map fun p=>(p.1,act.eval p.2))[j]? = some (i,v)→(ps.map fun p=>(p.1,p.2.ev tm))[j]? = some (i',d)→i'=i∧RD M s d v
 | [],ps,h=>by cases h;exact⟨rfl,by simp⟩
 | (i0,x)::l,ps,h=>by
  unfold HG at h
  split at h
  ·rename_i x' r' h1 h2
   cases h
   obtain⟨g1,g2⟩:=CZ hr h2
   refine⟨by simpa using g1,fun j i v i' d e1 e2=> ?_⟩
   cases j with
   | zero=>
    simp at e1 e2
    obtain⟨rfl,rfl⟩:=e1
    obtain⟨rfl,rfl⟩:=e2
    exact⟨rfl,cH h1 hr⟩
   | succ j=>exact g2 j i v i' d (by simpa using e1) (by simpa using e2)
  ·cases h
theorem C0 : ∀ (l:List Field),(∀ f∈l,(P.info? f.type).isSome)→
 ∃ ps:List (Nat×Nat),(l.mapM fun f=>do pure (f.offset, ← sizeOf f.type):Sem (List (Nat×Nat))).run P w = .ok ps w∧
  ∀ (j:Nat) (f:Field) (i:TypeInfo),l[j]? = some f→P.info? f.type=some i→ps[j]? = some (f.offset,i.size)
 | [],_=>⟨[],rfl,by simp⟩
 | f::l,h=>by
  obtain⟨i,hi⟩:=Option.isSome_iff_exists.1 (h f (by simp))
  obtain⟨ps,h1,h2⟩:=C0 l (fun g hg=>h g (by simp [hg]))
  refine⟨(f.offset,i.size)::ps, ?_,fun j g i' e1 e2=> ?_⟩
  ·rw [List.mapM_cons]
   simp only [Sem.run_bind,sizeOf,im P hi,Result.andThen_ok,Sem.run_pure]at h1 ⊢
   simp only [h1,Result.andThen_ok]
  ·cases j with
   | zero=>simp at e1;subst e1;rw [hi]at e2;cases e2;rfl
   | succ j=>exact h2 j g i' (by simpa using e1) e2
theorem LI (r:Rel M s w) {t:TypeId} {fs:Array Field} {z:List D} {l:List (Nat×Operand)} {ps:List (Nat×Nat×X)} {tm:Tm} {act:Act} {cs:List D} (hr:lM M s tm act.tmps)
 (ht:P.underlying t=some (.struct fs)) (uH:(fs.toList.all fun f=>(P.info? f.type).isSome)=true) (hz:yh P t=some z) (hp:zP P t l=some ps) (hf:qD z (ps.map fun p=>(p.1,p.2.1,p.2.2.ev tm))=some cs) :
 dK P M s w (do pure (.value (← Instr.build t (l.toArray.map fun(i,x)=>(i,act.eval x))))) (.agg cs) s:=by
 obtain⟨i,v,h1,h2,h3,hc⟩:=LH (M:=M) (s:=s) hz
 obtain⟨g1,g2⟩:=zW hr hp
 obtain⟨pl,p1,p2⟩:=C0 (P:=P) (w:=w) fs.toList (fun f hf'=>by simpa using List.all_eq_true.1 uH f hf')
 have WK:(fs.mapM fun f=>do pure (f.offset, ← sizeOf f.type):Sem (Array (Nat×Nat))).run P w = .ok pl.toArray w:=by
  rw [Array.mapM_eq_mapM_toList,Sem.run_map,p1];rfl
 obtain⟨vs,f1,f2⟩:=HL (place:=(pl.toArray[·]?)) (l.map fun p=>(p.1,act.eval p.2)) _ z v.cells cs hc g1 (fun j i v off size d e1 e2=>by
  obtain⟨⟨a,ha⟩,hd⟩:=g2 j i v off size d e1 e2
  refine⟨?_,hd⟩
  unfold l6 at ha
  rw [ht]at ha
  simp only at ha
  split at ha
  ·rename_i fd tD
   split at ha
   ·rename_i i' a' ik _
    split at ha
    ·cases ha
    ·cases ha
     simpa using p2 i fd i' (by simpa using tD) ik
   ·cases ha
  ·cases ha) hf
 refine dK.pure (v:= .agg vs) r ?_ (.agg _ _ f2.1.symm f2.2.1 f2.2.2)
 have oP:(l.toArray.map fun(i,x)=>(i,act.eval x)).toList=l.map fun p=>(p.1,act.eval p.2):=by simp
 unfold Instr.build
 simp only [Sem.run_bind,zeroValue,im P h1,h2,Result.andThen_ok,Sem.run_pure,run_underlying ht,WK,oP,f1]
theorem BJ (r:Rel M s w) {t e:TypeId} {i:TypeInfo} {z:List D} {n:Nat} {l:List (Nat×Operand)} {ps:List (Nat×X)} {tm:Tm} {act:Act} {rows:List (List D)} (hr:lM M s tm act.tmps)
 (ht:P.underlying t=some (.slice e)) (hi:P.info? e=some i) (hz:zeroOf P e=some z) (zV:0<i.size) (hn:n*i.size≤65536) (hp:HG l=some ps)
 (hf:jN i.size (iR z n) (ps.map fun p=>(p.1,p.2.ev tm))=some rows) :
 ∃ (vs:Array Value) (T:TypeId),mE M s i.size rows vs∧rows.length=n∧vs.size=n*i.size∧
  (Instr.buildSlice t n (l.toArray.map fun(i,x)=>(i,act.eval x))).run P w = .ok (.slice (some ⟨w.heap.size,0,none⟩) n n) (w.alloc (.cells vs T)):=by
 obtain⟨i',v,h1,h2,h3,h4⟩:=wK hz
 rw [hi]at h1;cases h1
 have hc:=uG (M:=M) (s:=s) h4
 have hzl:z.length=i.size:=by rw [← hc.1,h3]
 have OS:=mE.zero hc (by omega) n
 rw [hzl]at OS
 obtain⟨g1,g2⟩:=CZ hr hp
 obtain⟨vs,f1,f2,f3,f4⟩:=zU (l.map fun p=>(p.1,act.eval p.2)) _ _ _ rows OS g1 g2 hf
 have hzr:=oo z n
 refine⟨vs,e,f2,by rw [f3,hzr],by rw [f4];simp, ?_⟩
 have CX : ¬ (n*i.size > 2 ^ 24):=by omega
 have oP:(l.toArray.map fun(i,x)=>(i,act.eval x)).toList=l.map fun p=>(p.1,act.eval p.2):=by simp
 by_cases h0:n*i.size=0
 ·have lN:(Array.range (n*i.size)).map ((#[] : Array Value)[· % (#[] : Array Value).size]!)=(Array.range (n*i.size)).map (v.cells[· % v.cells.size]!):=by rw [h0];simp
  unfold Instr.buildSlice
  simp only [Sem.run_bind,run_underlying ht,Result.andThen_ok,sizeOf,im P hi,Sem.run_pure,if_neg CX,if_pos h0,lN,oP,f1,newRow,run_newObj]
  rfl
 ·unfold Instr.buildSlice
  simp only [Sem.run_bind,run_underlying ht,Result.andThen_ok,sizeOf,im P hi,Sem.run_pure,if_neg CX,if_neg h0,zeroValue,h2,oP,f1,newRow,run_newObj]
  rfl
end
end Go.Abs

/-! Sound7 -/

namespace Go.Abs
section
variable {P:Program} {M:Map} {s:St} {w:World}
theorem foldl_push (ns:List Int) : ∀ r:ByteArray,ns.foldl (fun r n=>r.push (UInt8.ofNat n.toNat)) r = ⟨r.data++(ns.map fun n=>UInt8.ofNat n.toNat).toArray⟩:=by
 induction ns with
 | nil=>intro r;simp
 | cons n ns ih=>intro r;simp only [List.foldl_cons];rw [ih];simp [ByteArray.push]
theorem uI : ∀ {rows:List (List D)} {l:List UInt8},n7 rows=some l→∃ ns:List Int,rows=ns.map (fun n=> [.int .u8 n])∧l=ns.map fun n=>UInt8.ofNat n.toNat
 | [],l,h=>by cases h;exact⟨[],rfl,rfl⟩
 | r::rs,l,h=>by
  unfold n7 at h
  split at h
  ·rename_i b bs h1 h2
   cases h
   obtain⟨ns,g1,g2⟩:=uI h2
   unfold Fs at h1
   split at h1
   ·rename_i n
    cases h1
    exact⟨n::ns,by rw [g1];rfl,by rw [g2];rfl⟩
   ·cases h1
  ·cases h
theorem LJ (r:Rel M s w) {src dst e:TypeId} {g:Tag} {z:Nat} {rows:List (List D)} {v:Value} {l:List UInt8} (hs:P.underlying src=some (.slice e)) (he:P.underlying e=some (.int .u8)) (hd:P.underlying dst=some .string)
 (hv:RD M s (.slice g z rows) v) (hb:n7 rows=some l):dK P M s w (do pure (.value (← convert src dst v))) (.str l) s:=by
 obtain⟨ns,rfl,rfl⟩:=uI hb
 refine dK.pure (v:= .string ⟨⟨ns.map fun n=>UInt8.ofNat n.toNat⟩⟩) r ?_ (.str _)
 rcases hv.iW with ⟨h0,rfl,_⟩ | ⟨h0,_,a,cap,rfl⟩ | ⟨b,q,cap,rfl,hl,e9,g1,g2,_⟩
 ·have:ns = []:=by simpa using h0
  subst this
  have:=run_convert_bytes_string w src dst e none 0 0 hs he hd
  simp only [Sem.run_bind,this,Conv.bytesToString,Sem.run_pure,Result.andThen_ok]
  rfl
 ·have:ns = []:=by simpa using h0
  subst this
  have h2:=run_convert_bytes_string w src dst e (some a) 0 cap hs he hd
  simp only [Sem.run_bind,h2,Conv.bytesToString,Sem.run_pure,Result.andThen_ok]
  rfl
 ·have lN:=run_loadCells_list (P:=P) w ⟨b,q,none⟩ (ns.map (Value.int .u8)) (fun j v hj=>by
   rw [rH]
   simp only [List.getElem?_map,Option.map_eq_some_iff]at hj
   obtain⟨n,hn,rfl⟩:=hj
   have fa:(ns.map (fun n=> [D.int .u8 n]))[j]? = some [.int .u8 n]:=by simp [hn]
   have hz:z=1:=by have:=e9 [.int .u8 n] (List.mem_of_getElem? fa);simpa using this.symm
   subst hz
   obtain⟨u,hu⟩:=g1 j _ 0 _ fa rfl
   have:=g2 j _ 0 _ u fa rfl hu
   rw [this.jO]at hu
   have:=(r.comm _ _ _ hu).1
   simpa using this)
  simp only [List.length_map]at lN ⊢
  have h1:=run_bytesToString (P:=P) w ⟨b,q,none⟩ ns.length cap ns lN
  have h2:=run_convert_bytes_string w src dst e (some ⟨b,q,none⟩) ns.length cap hs he hd
  simp only [Sem.run_bind,h2,h1,Sem.run_pure,Result.andThen_ok,foldl_push]
  congr 3
  simp [ByteArray.empty,ByteArray.emptyWithCapacity]
  rfl
theorem HR (r:Rel M s w) {src dst e:TypeId} {l:List UInt8} (hs:P.underlying src=some .string) (hd:P.underlying dst=some (.slice e)) (he:P.underlying e=some (.int .u8)) :
 dK P M s w (do pure (.value (← convert src dst (.string ⟨⟨l⟩⟩)))) (.slice .shared 1 (l.map fun c=> [.int .u8 c.toNat])) s:=by
 have dS:=run_bytes_of_string (P:=P) w src dst e ⟨⟨l⟩⟩ hs hd he
 generalize s5:grownCap w (ByteArray.size ⟨⟨l⟩⟩) 0 e=cap at dS
 have eK:l.length≤cap:=by rw [← s5];exact grownCap_ge w l.length 0 e
 have fa : ∀ j,j<l.length→(bytesRow ⟨⟨l⟩⟩ cap)[j]? = some (.int .u8 ((l[j]?.getD 0).toNat:Int)):=by
  intro j hj
  unfold bytesRow
  rw [Array.getElem?_append_left (by simpa using hj)]
  simp [hj]
 have e9:(bytesRow ⟨⟨l⟩⟩ cap).size=cap:=by simp [bytesRow,Be];omega
 have lD : ∀ v∈bytesRow ⟨⟨l⟩⟩ cap,v.oneCell'=true:=by
  intro v hv
  unfold bytesRow at hv
  simp at hv
  rcases hv with ⟨a,_,rfl⟩ | ⟨_,rfl⟩ <;> rfl
 have hR:mE M s 1 (l.map fun c=> [D.int .u8 c.toNat]) (bytesRow ⟨⟨l⟩⟩ cap):=by
  refine⟨by simp [e9];omega,by simp,lD,fun i row j d v e1 e2 e3=> ?_⟩
  simp only [List.getElem?_map,Option.map_eq_some_iff]at e1
  obtain⟨c,hc,rfl⟩:=e1
  cases j with
  | zero=>
   simp at e2;subst e2
   have hi:=(List.getElem?_eq_some_iff.1 hc).1
   rw [show i*1+0=i by omega,fa i hi,hc]at e3
   cases e3
   exact .int _ _
  | succ j=>simp at e2
 obtain⟨r1,e1⟩:=(r.of_heap (w':=w.drew) rfl).fP l.length (bytesRow ⟨⟨l⟩⟩ cap) e ((bytesRow ⟨⟨l⟩⟩ cap).size,(bytesRow ⟨⟨l⟩⟩ cap).size+1) lD
 obtain⟨f1,f2⟩:=hR.fixed e1.le (b:=w.heap.size) (fun o ho=>by simp at ho;simp [Map.fP,ho])
 refine⟨.slice (some ⟨w.heap.size,0,none⟩) l.length cap,_,_, .inl (by simp only [Sem.run_bind,dS,Result.andThen_ok,Sem.run_pure];rfl),r1, ?_,(Ext.of_heap (M:=M) (s:=s) (w:=w) (w':=w.drew) rfl rfl rfl rfl).trans e1⟩
 have key:=RD.slice (M:=M.fP w.heap.size l.length (bytesRow ⟨⟨l⟩⟩ cap)) (s:=s) .shared 1 (l.map fun c=> [D.int .u8 c.toNat]) w.heap.size 0 cap (by simpa using eK) hR.2.1 f1 f2 trivial
 simp only [List.length_map]at key
 exact key
theorem RX (r:Rel M s w) {t e:TypeId} {q z:Nat} {yb:Bool} {rows:List (List D)} {v:Value} (ht:P.underlying t=some (.slice e)) (he:P.underlying e=some (.int .u8)) (hv:RD M s (.slice (.tok q yb) z rows) v) (fE:rows≠ []) (hq:s.aH[q]? = some (some rows.length)) :
 dK P M s w (do pure (.value (← convert t t v))) (.slice .shared z rows) {s with aH:=s.aH.set q none}:=by
 rcases hv.iW with ⟨h0,_,_⟩ | ⟨h0,_,_⟩ | ⟨b,k,cap,rfl,hl,e9,g1,g2,oa⟩
 ·exact(fE h0).elim
 ·exact(fE h0).elim
 ·obtain⟨_,h2⟩:=oa
  obtain⟨_,h3⟩:=h2 _ hq
  rcases h3 rfl with ⟨_,h4,_⟩ | ⟨b2,h4,kC⟩
  ·subst h4
   exact(fE (List.eq_nil_of_length_eq_zero (Nat.le_zero.1 hl))).elim
  cases h4
  obtain⟨r1,l1⟩:=r.acv q
  rcases r.tok q rows.length hq with ⟨h4,_⟩ | ⟨b',HI,yi,vs,T,h4,h5,h6,h7,h8⟩
  ·rw [kC]at h4;cases h4
  ·rw [kC]at h4;cases h4
   have iz : ∀ p,St.live {s with aH:=s.aH.set q none} p→p≠q∧s.live p:=by
    rintro p ⟨n,hn⟩
    rw [List.getElem?_set]at hn
    split at hn
    ·simp at hn
    ·rename_i fE;exact⟨fun h=>fE h.symm,n,hn⟩
   obtain⟨r2,hh,oN,ho,uJ,Eg⟩:=r1.freeze (b:=b) vs.size 1 (fun o ho=>r.fL q b cap _ o ⟨_,hq⟩ kC ho)
    (fun p c y hp heq=>(iz p hp).1 (r.gq p q b c y cap _ (iz p hp).2 ⟨_,hq⟩ heq kC))
   have YF:w.shape? b=some (T,vs.size):=by simp [World.shape?,h5]
   refine⟨.slice (some ⟨b,0,none⟩) rows.length cap,_,M, .inl ?_,r2, ?_, ?_⟩
   ·simp [convert,run_underlying ht,run_underlying he,markStringish,YF]
   ·have h9:=(RD.slice (M:=M) (s:=s) .shared z rows b 0 cap hl e9 g1 g2 trivial).mono l1
    exact h9
   ·refine⟨l1,fun p _ _ h4=>hh p (fun e=>h4 q cap (bz yb z) ⟨_,hq⟩ (by rw [kC,e])),fun o h3 h4=> ?_,fun p b' c y hp heq=> .inl ⟨(iz p hp).2,c,y,heq⟩,fun _ _ h=>(h rfl).elim,by rw [oN];exact Nat.le_refl _,ho,uJ,Eg⟩
    simp at h4;omega
theorem OT (r:Rel M s w) {size:Nat} {rows:List (List D)} {vs:Array Value} (T:TypeId) (h:mE M s size rows vs) (e9:vs.size=rows.length*size) (zV:0<size) :
 ∃ M',RD M' {s with aH:=s.aH++ [some rows.length]} (.slice (.tok s.aH.length) size rows) (.slice (some ⟨w.heap.size,0,none⟩) rows.length rows.length)∧
 Rel M' {s with aH:=s.aH++ [some rows.length]} (w.alloc (.cells vs T))∧Ext M s w M' {s with aH:=s.aH++ [some rows.length]} (w.alloc (.cells vs T)):=by
 obtain⟨r1,e1⟩:=r.fP vs.size vs T (0,0) h.2.2.1
 have BI:zs size=size:=by show(if size=0 then 1 else size)=size;rw [if_neg (by omega)]
 obtain⟨r2,l2⟩:=r1.U1 rows.length w.heap.size rows.length size vs T (heap_alloc_new w _) (by rw [BI];exact e9) (Nat.le_refl _) (fun h=>by omega)
  (fun off ho=>by rw [BI]at ho;simp [Map.fP];omega) (fun o ho=>by have:=r.qF ho;show M.mu o≠_;omega)
  (fun q c z' hl heq=>by have:=r.tR hl (show M.be q=some (w.heap.size,c,z')from heq);omega)
 obtain⟨f1,f2⟩:=h.fixed (e1.le.trans l2) (b:=w.heap.size) (fun o ho=>by
  have:o<vs.size:=Nat.lt_of_lt_of_le ho h.1
  simp [Map.ff,Map.fP,this])
 refine⟨_, ?_,r2, ?_⟩
 ·exact .slice _ size rows w.heap.size 0 rows.length (Nat.le_refl _) h.2.1 f1 f2 ⟨by simp,fun n hn=>by
   simp at hn;subst hn
   exact⟨Nat.le_refl _,fun _=> .inr ⟨_,rfl,by simp [Map.ff,bz]⟩⟩⟩
 ·refine⟨e1.le.trans l2,e1.kept,e1.qB,fun q b c z' hl heq=> ?_,e1.sZ,e1.size,e1.os,e1.tape,e1.output⟩
  obtain⟨k,hk⟩:=hl
  rcases Nat.lt_or_ge q s.aH.length with h' | h'
  ·have HQ:M.be q=some (b,c,z'):=by
    have:((M.fP w.heap.size vs.size vs).ff s.aH.length (some (w.heap.size,rows.length,size))).be q=M.be q:=by simp [Map.ff,Map.fP];omega
    rw [this]at heq;exact heq
   simp only [List.getElem?_append_left h']at hk
   exact .inl ⟨⟨k,hk⟩,c,z',HQ⟩
  ·have:=(List.getElem?_eq_some_iff.1 hk).1
   simp at this
   have:q=s.aH.length:=by omega
   subst this
   have:((M.fP w.heap.size vs.size vs).ff s.aH.length (some (w.heap.size,rows.length,size))).be s.aH.length=some (w.heap.size,rows.length,size):=by simp [Map.ff]
   rw [this]at heq;cases heq
   exact .inr (Nat.le_refl _)
end
end Go.Abs

/-! SoundM -/

namespace Go.Abs
open Go.MapKept
section
variable {P:Program} {M:Map} {s:St} {w:World}
theorem vO : ∀ (a b:List MapEntry),ib (a++b)=ib a++ib b
 | [],b=>rfl
 | e::a,b=>by simp only [List.cons_append,ib,vO a b]
theorem Fx : ∀ (a:List MapEntry) (j:Nat) (e:MapEntry) (k v:Value),a[j]? = some e→e.key=k→ib (a.set j {e with key:=k,val:=v})=(ib a).set (2*j+1) v
 | [],j,e,k,v,h,_=>by simp at h
 | x::a,0,e,k,v,h,hk=>by
  simp at h;subst h;subst hk
  simp [ib]
 | x::a,j+1,e,k,v,h,hk=>by
  have:=Fx a j e k v (by simpa using h) hk
  simp only [List.set_cons_succ,ib,this]
  rw [show 2*(j+1)=(2*j+1)+1 by omega,List.set_cons_succ]
theorem RY (a b:List UInt8):((⟨⟨a⟩⟩:ByteArray) == ⟨⟨b⟩⟩)=(a==b):=by
 show((⟨a⟩:Array UInt8) == ⟨b⟩)=(a==b)
 simp
theorem find_spec {key:List UInt8} : ∀ (es:List MapEntry) (cs:List D) (i:Nat),(ib es).length=cs.length→(∀ (i:Nat) (d:D) (v:Value),cs[i]? = some d→(ib es)[i]? = some v→RD M s d v)→
 (∀ z d,yg key z cs=some d→(Instr.findNow .string (.string ⟨⟨key⟩⟩) es i=some none∧d=z)∨∃ (j:Nat) (e:MapEntry),Instr.findNow .string (.string ⟨⟨key⟩⟩) es i=some (some (i+j,e.val))∧RD M s d e.val)∧
 (∀ d jy,wI key d cs=some jy→(Instr.findNow .string (.string ⟨⟨key⟩⟩) es i=some none∧jy=cs++ [.str key,d])∨
  ∃ (j:Nat) (e:MapEntry),Instr.findNow .string (.string ⟨⟨key⟩⟩) es i=some (some (i+j,e.val))∧es[j]? = some e∧e.key = .string ⟨⟨key⟩⟩∧jy=cs.set (2*j+1) d)
 | [],cs,i,hl,hr=>by
  have:cs = []:=by cases cs <;> simp [ib]at hl;rfl
  subst this
  refine⟨fun z d h=> .inl ⟨rfl,by simp [yg]at h;exact h.symm⟩,fun d jy h=> .inl ⟨rfl,by simp [wI]at h;simp [← h]⟩⟩
 | x::es,cs,i,hl,hr=>by
  match cs,hl with
  | [],hl=>simp [ib]at hl
  | [_],hl=>simp [ib]at hl
  | c0::c1::r,hl=>
   simp only [ib,List.length_cons]at hl hr
   have h0:=hr 0 c0 x.key rfl rfl
   have h1:=hr 1 c1 x.val rfl rfl
   obtain⟨ih1,ih2⟩:=find_spec es r (i+1) (by omega) (fun j d v e1 e2=>hr (j+2) d v (by simpa using e1) (by simpa using e2))
   have hky : ∀ k,c0 = .str k→x.key = .string ⟨⟨k⟩⟩∧Instr.findNow .string (.string ⟨⟨key⟩⟩) (x::es) i=if key==k then some (some (i,x.val))else Instr.findNow .string (.string ⟨⟨key⟩⟩) es (i+1):=by
    intro k hk
    subst hk
    have hx:=h0.kY
    refine⟨hx, ?_⟩
    simp only [Instr.findNow,hx,Instr.sameNow,RY]
    cases hb:key==k <;> simp
   refine⟨fun z d h=> ?_,fun d jy h=> ?_⟩
   ·cases c0 <;> simp only [yg]at h <;> try (cases h;done)
    rename_i k
    obtain⟨k1,k2⟩:=hky k rfl
    rw [k2]
    by_cases zg:k=key
    ·subst zg
     simp at h
     subst h
     exact .inr ⟨0,x,by simp,h1⟩
    ·have e1:(k==key)=false:=by simpa using zg
     have e2:(key==k)=false:=by simpa using fun e:key=k=>zg (Eq.symm e)
     rw [e1]at h
     rw [e2]
     simp only [Bool.false_eq_true, ↓reduceIte]at h ⊢
     rcases ih1 z d h with h2 | ⟨j,e,h2,h3⟩
     ·exact .inl h2
     ·exact .inr ⟨j+1,e,by rw [h2];congr 3;omega,h3⟩
   ·cases c0 <;> simp only [wI]at h <;> try (cases h;done)
    rename_i k
    obtain⟨k1,k2⟩:=hky k rfl
    rw [k2]
    by_cases zg:k=key
    ·subst zg
     simp at h
     subst h
     exact .inr ⟨0,x,by simp,rfl,k1,by simp⟩
    ·have e1:(k==key)=false:=by simpa using zg
     have e2:(key==k)=false:=by simpa using fun e:key=k=>zg (Eq.symm e)
     rw [e1]at h
     rw [e2]
     simp only [Bool.false_eq_true, ↓reduceIte]at h ⊢
     split at h
     ·rename_i r' HN
      cases h
      rcases ih2 d r' HN with ⟨h2,h3⟩ | ⟨j,e,h2,h3,h4,h5⟩
      ·exact .inl ⟨h2,by rw [h3];rfl⟩
      ·refine .inr ⟨j+1,e,by rw [h2];congr 3;omega,by simpa using h3,h4, ?_⟩
       rw [h5,show 2*(j+1)+1=(2*j+1)+1+1 by omega]
       simp only [List.set_cons_succ]
     ·cases h
theorem Rel.YG (r:Rel M s w) {o:Nat} {cs jy:List D} (he:s.aG[o]? = some cs) (hk:M.ob o = .map) (zh:Array MapEntry) (ck:Nat) (hl:(ib zh.toList).length=jy.length)
 (h1 : ∀ v∈ib zh.toList,v.oneCell'=true) (h2 : ∀ (i:Nat) (d:D) (v:Value),jy[i]? = some d→(ib zh.toList)[i]? = some v→RD M s d v) :
 Rel M {s with aG:=s.aG.set o jy} {w with heap:=w.heap.setIfInBounds (M.mu o) (.map zh ck)}∧Ext M s w M {s with aG:=s.aG.set o jy} {w with heap:=w.heap.setIfInBounds (M.mu o) (.map zh ck)}:=by
 obtain⟨vs,T,hh,hs,⟨lD,U0⟩,pR⟩:=r.obj o cs he
 rw [hk]at hh
 obtain⟨es,ck0,hh,oQ⟩:=hh
 have ho:o<s.aG.length:=(List.getElem?_eq_some_iff.1 he).1
 obtain⟨G8,lL⟩:=heap_set (w:=w) (o':= .map zh ck) hh
 have le:Le M s M {s with aG:=s.aG.set o jy}:=
  ⟨fun _ _ _ h=>h,by simp,fun _ _=>rfl,Nat.le_refl _,fun t n _ h=>⟨n,h,Nat.le_refl _,fun _=>rfl⟩⟩
 refine⟨⟨fun b q v e=> ?_,fun o' ds e=> ?_,fun q hq wJ=>r.k7 q (by simpa using hq) wJ,fun q q' hq rA e=>r.inj q q' (by simpa using hq) (by simpa using rA) e,fun t n e=> ?_,
  fun t b c z q hl e hq=>r.fL t b c z q hl e (by simpa using hq),fun t t' b c z c' z' h h' e e'=>r.gq t t' b c z c' z' h h' e e'⟩, ?_⟩
 ·obtain⟨h3,h4⟩:=r.comm b q v e
  refine⟨?_,h4⟩
  have hb:b≠M.mu o:=fun eq=>by subst eq;rw [r.k7 o ho q]at e;cases e
  rw [← h3]
  simp [World.cell?,lL b hb]
 ·rw [List.getElem?_set]at e
  split at e
  ·rename_i heq
   subst heq
   simp at e
   obtain⟨_,rfl⟩:=e
   refine⟨⟨ib zh.toList⟩,0, ?_,by simpa using hl,⟨fun v hv=>h1 v (by simpa using hv),fun T' h=> ?_⟩,fun i d v e1 e2=>(h2 i d v e1 (by simpa using e2)).mono le⟩
   ·rw [hk];exact⟨zh,ck,G8,rfl⟩
   ·have:M.ty o=none:=by
     have:(M.loc o).2 = .map:=hk
     simp [Map.ty,this,Ob.ty?]
    rw [this]at h;cases h
  ·rename_i fE
   obtain⟨fW,T',h3,h4,h5,h6⟩:=r.obj o' ds e
   have np:o'<s.aG.length:=(List.getElem?_eq_some_iff.1 e).1
   refine⟨fW,T', ?_,h4,h5,fun i d v e1 e2=>(h6 i d v e1 e2).mono le⟩
   show mD (w.heap.setIfInBounds (M.mu o) (.map zh ck))[M.mu o']? (M.ob o') _ _
   rw [lL _ (fun eq=>fE (r.inj o o' ho np eq.symm))];exact h3
 ·rcases r.tok t n e with h3 | ⟨b,cap,size,fW,T',h3,h4,h5⟩
  ·exact .inl h3
  ·refine .inr ⟨b,cap,size,fW,T',h3, ?_,h5⟩
   show(w.heap.setIfInBounds (M.mu o) (.map zh ck))[b]? = _
   rw [lL b (fun eq=>r.fL t b cap size o ⟨n,e⟩ h3 ho eq.symm)];exact h4
 ·refine⟨le,fun b hb h3 _=>lL b (fun eq=>h3 o ho eq.symm),fun q h3 h4=> ?_,fun t b c z h e=> .inl ⟨h,c,z,e⟩,fun _ _ h=>(h rfl).elim,by simp,rfl,rfl,rfl⟩
  simp at h4;omega
theorem sI (l:List UInt8):IsKey .string (.string ⟨⟨l⟩⟩):=by simp [IsKey]
theorem LK (r:Rel M s w) {t kt e:TypeId} (ht:P.underlying t=some (.map kt e)):dK P M s w (do pure (.value (← Instr.makeMap t none))) (.gM s.aG.length) {s with aG:=s.aG++ [[]]}:=by
 obtain⟨r',e'⟩:=r.OB [] (.map #[] 0) #[] 0 .map ⟨#[],0,rfl,rfl⟩ (fun _ h=>by cases h) rfl (by simp) (by simp)
 have hm:(M.er s.aG.length w.heap.size .map).mu s.aG.length=w.heap.size:=by simp [Map.er,Map.mu]
 have hv:=RD.gM (M:=M.er s.aG.length w.heap.size .map) (s:= {s with aG:=s.aG++ [[]]}) s.aG.length (by simp) (by simp [Map.er,Map.ob])
 rw [hm]at hv
 refine⟨_,_,_, .inl ?_,r',hv,e'⟩
 simp only [Instr.makeMap,newObj,Sem.run_bind,Sem.run_pure,Sem.run,Result.andThen_ok]
 rfl
theorem LL (r:Rel M s w) {t kt e:TypeId} {i:TypeInfo} {z:Value} {zd:D} (ht:P.underlying t=some (.map kt e)) (hk:P.underlying kt=some .string) (hi:P.info? e=some i) (hz:i.zero=some z) (YH:rD z=some zd)
 {o:Nat} {key:List UInt8} {cs:List D} {d:D} (xv:M.ob o = .map) (ho:s.aG[o]? = some cs) (hg:yg key zd cs=some d) :
 dK P M s w (do pure (.value (← Instr.lookup t (.map (some (M.mu o))) (.string ⟨⟨key⟩⟩) false))) d s:=by
 obtain⟨vs,T,hh,hs,⟨lD,U0⟩,pR⟩:=r.obj o cs ho
 rw [xv]at hh
 obtain⟨es,ck,hh,oQ⟩:=hh
 have Cc : ∀ (i:Nat) (d:D) (v:Value),cs[i]? = some d→(ib es.toList)[i]? = some v→RD M s d v:=fun i d v e1 e2=>pR i d v e1 (by rw [← oQ]at e2;simpa using e2)
 have hzv:(zeroValue e).run P w = .ok z w:=by simp [zeroValue,im P hi,hz]
 rcases(find_spec es.toList cs 0 (by rw [← oQ];simpa using hs) Cc).1 zd d hg with ⟨h1,rfl⟩ | ⟨j,en,h1,h2⟩
 ·refine dK.pure (v:=z) r ?_ (qb YH).1
  simp [Instr.lookup,run_underlying ht,MapKept.run_getObj_map hh,run_checkKey hk (sI key),run_findKey hk h1,hzv]
 ·refine dK.pure (v:=en.val) r ?_ h2
  simp [Instr.lookup,run_underlying ht,MapKept.run_getObj_map hh,run_checkKey hk (sI key),run_findKey hk h1]
theorem OU (r:Rel M s w) {t kt e:TypeId} (ht:P.underlying t=some (.map kt e)) (hk:P.underlying kt=some .string)
 {o:Nat} {key:List UInt8} {cs jy:List D} {d:D} {v:Value} (xv:M.ob o = .map) (ho:s.aG[o]? = some cs) (hv:RD M s d v) (C1:v.oneCell'=true) (hg:wI key d cs=some jy) :
 dK P M s w (do Instr.mapUpdate t (.map (some (M.mu o))) (.string ⟨⟨key⟩⟩) v;pure .skip) (.tuple []) {s with aG:=s.aG.set o jy}:=by
 obtain⟨vs,T,hh,hs,⟨lD,U0⟩,pR⟩:=r.obj o cs ho
 rw [xv]at hh
 obtain⟨es,ck,hh,oQ⟩:=hh
 have Cc : ∀ (i:Nat) (d:D) (v:Value),cs[i]? = some d→(ib es.toList)[i]? = some v→RD M s d v:=fun i d v e1 e2=>pR i d v e1 (by rw [← oQ]at e2;simpa using e2)
 have hl:(ib es.toList).length=cs.length:=by rw [← oQ];simpa using hs
 have Vb : ∀ v∈ib es.toList,v.oneCell'=true:=fun v hv=>lD v (by rw [← oQ]at hv;simpa using hv)
 rcases(find_spec es.toList cs 0 hl Cc).2 d jy hg with ⟨h1,rfl⟩ | ⟨j,en,h1,h2,h3,rfl⟩
 ·obtain⟨r',e'⟩:=r.YG (jy:=cs++ [.str key,d]) ho xv (es.push {key:= .string ⟨⟨key⟩⟩,val:=v,born:=ck}) (ck+1) (by simp [vO,ib,hl]) (fun u hu=>by
   simp only [Array.toList_push,vO,ib,List.mem_append,List.mem_cons,List.not_mem_nil,or_false]at hu
   rcases hu with hu | rfl | rfl
   ·exact Vb u hu
   ·rfl
   ·exact C1) (fun i d' u e1 e2=>by
   simp only [Array.toList_push,vO,ib]at e2
   rcases Nat.lt_or_ge i cs.length with hi | hi
   ·rw [List.getElem?_append_left hi]at e1
    rw [List.getElem?_append_left (by omega)]at e2
    exact Cc i d' u e1 e2
   ·rw [List.getElem?_append_right hi]at e1
    rw [List.getElem?_append_right (by omega),hl]at e2
    match i - cs.length,e1,e2 with
    | 0,e1,e2=>simp at e1 e2;subst e1 e2;exact .str _
    | 1,e1,e2=>simp at e1 e2;subst e1 e2;exact hv
    | k+2,e1,e2=>simp at e1)
  refine⟨Go.undef,_,M, .inr ⟨?_,rfl⟩,r', .undef,e'⟩
  simp [Instr.mapUpdate,run_underlying ht,MapKept.run_getObj_map hh,run_checkKey hk (sI key),run_findKey hk h1,MapKept.run_setObj_map _ hh]
 ·simp only [Nat.zero_add]at h1
  have hj:es[j]? = some en:=by simpa using h2
  have RZ:(es.modify j fun e=> {e with key:= .string ⟨⟨key⟩⟩,val:=v}).toList=es.toList.set j {en with key:= .string ⟨⟨key⟩⟩,val:=v}:=by
   apply List.ext_getElem?
   intro i
   rw [Array.getElem?_toList,Array.getElem?_modify,List.getElem?_set]
   by_cases Vc:j=i
   ·subst Vc
    have:j<es.size:=by have:=(List.getElem?_eq_some_iff.1 h2).1;simpa using this
    simp [hj,this]
    have:=(Array.getElem?_eq_some_iff.1 hj).2
    rw [this]
   ·simp [Vc]
  have jK:=Fx es.toList j en (.string ⟨⟨key⟩⟩) v h2 h3
  obtain⟨r',e'⟩:=r.YG (jy:=cs.set (2*j+1) d) ho xv (es.modify j fun e=> {e with key:= .string ⟨⟨key⟩⟩,val:=v}) ck (by rw [RZ,jK];simp [hl]) (fun u hu=>by
   rw [RZ,jK]at hu
   rcases List.mem_or_eq_of_mem_set hu with hu | rfl
   ·exact Vb u hu
   ·exact C1) (fun i d' u e1 e2=>by
   rw [RZ,jK,List.getElem?_set]at e2
   rw [List.getElem?_set]at e1
   by_cases hi:2*j+1=i
   ·rw [if_pos hi]at e1 e2
    split at e1
    ·split at e2
     ·cases e1;cases e2;exact hv
     ·cases e2
    ·cases e1
   ·rw [if_neg hi]at e1 e2
    exact Cc i d' u e1 e2)
  refine⟨Go.undef,_,M, .inr ⟨?_,rfl⟩,r', .undef,e'⟩
  simp [Instr.mapUpdate,run_underlying ht,MapKept.run_getObj_map hh,run_checkKey hk (sI key),run_findKey hk h1,hj,h3,run_keyThatStays (sI key),MapKept.run_setObj_map _ hh]
end
end Go.Abs

/-! Sound8 -/

namespace Go.Abs
section
variable {P:Program} {M:Map} {s:St} {w:World}
theorem KQ {tm:Tm} {act:Act} (hr:lM M s tm act.tmps) : ∀ {l:List Operand} {xs:List X},xu l=some xs→
 xs.length=l.length∧∀ (i:Nat) (d:D) (v:Value),(xs.map (·.ev tm))[i]? = some d→(l.map act.eval)[i]? = some v→RD M s d v
 | [],xs,h=>by cases h;exact⟨rfl,by simp⟩
 | x::l,xs,h=>by
  unfold xu at h
  split at h
  ·rename_i x' r' h1 h2
   cases h
   obtain⟨g1,g2⟩:=KQ hr h2
   refine⟨by simp [g1],fun i d v e1 e2=> ?_⟩
   cases i with
   | zero=>simp at e1 e2;subst e1;subst e2;exact cH h1 hr
   | succ i=>exact g2 i d v (by simpa using e1) (by simpa using e2)
  ·cases h
theorem OV {lo:Option Operand} {Fy:Option X} {tm:Tm} {act:Act} (hr:lM M s tm act.tmps) (h:UW lo=some Fy) {l:Int} (hl:zM (Fy.map (·.ev tm))=some l):U2 (lo.map act.eval) l:=by
 cases lo with
 | none=>cases h;simp only [Option.map_none,zM,Option.some.injEq]at hl;exact .inl ⟨rfl,hl.symm⟩
 | some x=>
  obtain⟨y,hy,rfl⟩:=map_some (f:=some) h
  have:=cH hy hr
  simp only [Option.map_some]at hl ⊢
  cases hd:y.ev tm <;> rw [hd]at hl this <;> simp only [zM]at hl <;> try (cases hl;done)
  cases hl
  rw [this.jO]
  exact .inr ⟨_,rfl⟩
theorem OW {hi:Option Operand} {ik:Option X} {tm:Tm} {act:Act} (hr:lM M s tm act.tmps) (h:UW hi=some ik) {len:Nat} {l:Int} (hl:zN (ik.map (·.ev tm)) len=some l):U3 (hi.map act.eval) len l:=by
 cases hi with
 | none=>cases h;simp only [Option.map_none,zN,Option.some.injEq]at hl;exact .inl ⟨rfl,hl.symm⟩
 | some x=>
  obtain⟨y,hy,rfl⟩:=map_some (f:=some) h
  have:=cH hy hr
  simp only [Option.map_some]at hl ⊢
  cases hd:y.ev tm <;> rw [hd]at hl this <;> simp only [zN]at hl <;> try (cases hl;done)
  cases hl
  rw [this.jO]
  exact .inr ⟨_,rfl⟩
theorem LM {t:TypeId} {f off size:Nat} {agg:Bool} (h:l6 P t f=some (off,size,agg)) {cs:List D} {vs:Array Value} (hl:cs.length=vs.size) (h1 : ∀ v∈vs,v.oneCell'=true)
 (h2 : ∀ (i:Nat) (d:D) (v:Value),cs[i]? = some d→vs[i]? = some v→RD M s d v) {d:D} (hp:part cs off agg size=some d) (r:Rel M s w) :
 dK P M s w (do pure (.value (← Instr.field t (.agg vs) f))) d s:=by
 let n:=if agg then size else 1
 have kb:off+n≤vs.size:=by
  rcases sG hp with ⟨rfl,h1,_⟩ | ⟨rfl,h1⟩
  ·simp [n];omega
  ·have:=(List.getElem?_eq_some_iff.1 h1).1;simp [n];omega
 have hlen:((vs.toList.drop off).take n).length=n:=by simp;omega
 have hP : ∀ (j:Nat),j<((vs.toList.drop off).take n).length→vs[off+j]? = ((vs.toList.drop off).take n)[j]? :=by
  intro j h
  rw [hlen]at h
  rw [List.getElem?_take,if_pos h,List.getElem?_drop];simp
 refine dK.pure (v:=if agg then .agg ((vs.toList.drop off).take n).toArray else((vs.toList.drop off).take n).getD 0 Go.undef) r (by simp only [Sem.run_bind,OF h vs _ hlen hP,Result.andThen_ok,Sem.run_pure]) ?_
 refine tT hp _ hlen (fun _ u hu=>h1 u (Array.mem_toList_iff.1 (List.mem_of_mem_drop (List.mem_of_mem_take hu)))) (fun j d u e1 e2=>h2 _ d u e1 ?_)
 rw [hP j (List.getElem?_eq_some_iff.1 e2).1];exact e2
theorem sb {o:Oper} {ao:AO} {tm:Tm} {act:Act} {d:D} {s':St} (hc:CO P o=some ao) (r:Rel M s w) (hr:lM M s tm act.tmps) (he:aV ao tm s=some (d,s')) :
 dK P M s w (execOp act.eval o) d s':=by
 obtain⟨dst,op,type,pos,after,guard⟩:=o
 unfold CO at hc
 simp only at hc
 cases op with
 | move x=>
  obtain⟨y,hy,rfl⟩:=map_some hc
  cases he
  exact dK.pure r rfl (cH hy hr)
 | assign x=>
  obtain⟨y,hy,rfl⟩:=map_some hc
  cases he
  exact dK.pure r rfl (cH hy hr)
 | pick c a b=>
  simp only at hc
  split at hc
  ·rename_i c' a' b' h1 h2 h3
   cases hc
   simp only [aV]at he
   split at he
   ·rename_i t ht
    cases he
    have hcb:=cH h1 hr
    rw [ht]at hcb
    have:=hcb.nz
    refine dK.pure (v:=if t then act.eval a else act.eval b) r ?_ ?_
    ·simp only [execOp,this,asBool]
     simp
    ·cases t
     ·exact cH h3 hr
     ·exact cH h2 hr
   ·cases he
  ·cases hc
 | alloc t=>
  simp only at hc
  split at hc
  ·obtain⟨z,hz,rfl⟩:=map_some hc
   simp only [aV]at he
   split at he
   ·cases he;exact JT r hz
   ·cases he
  ·obtain⟨z,hz,rfl⟩:=map_some hc
   cases he
   exact Lu r hz
 | box t x=>
  simp only at hc
  split at hc
  ·obtain⟨y,hy,rfl⟩:=map_some hc
   simp only [aV]at he
   split at he
   ·rename_i row fa
    cases he
    exact OE r (cH hy hr) fa
   ·cases he
  ·obtain⟨y,hy,rfl⟩:=map_some hc
   simp only [aV]at he
   split at he
   ·rename_i row fa
    cases he
    exact RP r (cH hy hr) fa
   ·cases he
 | build t parts=>
  simp only at hc
  split at hc
  ·rename_i fs z ps h1 h2 h3
   split at hc
   ·rename_i uH
    cases hc
    simp only [aV]at he
    split at he
    ·rename_i cs oS
     cases he
     have:=LI r hr h1 uH h2 h3 oS
     simpa [execOp]using this
    ·cases he
   ·cases hc
  ·cases hc
 | buildSlice t n parts=>
  simp only at hc
  split at hc
  ·rename_i e hu
   split at hc
   ·rename_i i z ps h1 h2 h3
    split at hc
    ·rename_i l7
     cases hc
     simp only [aV]at he
     split at he
     ·rename_i rows lj
      cases he
      obtain⟨vs,T,g1,g2,g3,g4⟩:=BJ r hr hu h1 h2 l7.1 l7.2 h3 lj
      obtain⟨f1,f2,f3⟩:=LC r T g1
      refine⟨_,_,_, .inl ?_,f2,f1,f3⟩
      simp only [Array.toArray_toList]at g4
      simp only [execOp,Sem.run_bind,g4,Result.andThen_ok,Sem.run_pure]
      rw [g2]
     ·cases he
    ·cases hc
   ·cases hc
  ·cases hc
 | load t x=>
  simp only at hc
  split at hc
  ·rename_i y a i h1 h2 h3
   cases hc
   have hx:=cH h1 hr
   simp only [aV]at he
   split at he
   ·rename_i o off ho
    rw [ho]at hx
    have HS:=hx.zQ
    obtain⟨hv,_⟩:=hx.rG
    split at he
    ·rename_i cs oS
     split at he
     ·rename_i d' qt
      cases he
      have:=Gv r h3 h2 oS HS qt
      simp only [execOp,hv]
      exact this
     ·cases he
    ·cases he
   ·rename_i row off ho
    rw [ho]at hx
    obtain⟨b,k,hv,g1,g2⟩:=hx.yj
    split at he
    ·rename_i d' qt
     cases he
     have:=Gw r h3 h2 g1 g2 qt
     simp only [execOp,hv]
     exact this
    ·cases he
   ·cases he
  ·cases hc
 | store t a x=>
  simp only at hc
  split at hc
  ·rename_i a' x' i h1 h2 h3
   cases hc
   have ha:=cH h1 hr
   have hx:=cH h2 hr
   simp only [aV]at he
   split at he
   ·rename_i o off row ho fa
    rw [ho]at ha
    have HS:=ha.zQ
    obtain⟨hv,_⟩:=ha.rG
    split at he
    ·rename_i cs oS
     split at he
     ·rename_i kb
      cases he
      have:=Lv r h3 oS HS hx fa kb.1 kb.2
      simp only [execOp,hv]
      exact this
     ·cases he
    ·cases he
   ·cases he
  ·cases hc
 | nilCheck x=>
  obtain⟨y,hy,rfl⟩:=map_some hc
  have hx:=cH hy hr
  simp only [aV]at he
  split at he
  ·rename_i o off ho
   cases he
   rw [ho]at hx
   have hv:=hx.rG.1
   rw [hv]at hx
   simp only [execOp,hv]
   exact CR r hx
  ·rename_i row off ho
   cases he
   rw [ho]at hx
   obtain⟨b,k,hv,_⟩:=hx.yj
   rw [hv]at hx
   simp only [execOp,hv]
   exact CR r hx
  ·cases he
 | binOp op t x y yt=>
  simp only at hc
  split at hc
  ·rename_i x' y' h1 h2
   have hx:=cH h1 hr
   have hy:=cH h2 hr
   have fin : ∀ d',wH op (x'.ev tm) (y'.ev tm)=some d'→(d',s)=(d,s')→dK P M s w (execOp act.eval ⟨dst, .binOp op t x y yt,type,pos,after,guard⟩) d s':=by
    intro d' qt heq
    cases heq
    exact RQ r hx hy qt
   have YI:(match wH op (x'.ev tm) (y'.ev tm)with | some d=>some (d,s) | none=>none)=some (d,s')→dK P M s w (execOp act.eval ⟨dst, .binOp op t x y yt,type,pos,after,guard⟩) d s':=by
    intro h
    split at h
    ·rename_i d' qt
     exact fin d' qt (by cases h;rfl)
    ·cases h
   have YJ : ∀ neg,op=(if neg then .neq else .eql)→P.underlying t=some .bool→aV (.ze neg x' y') tm s=some (d,s')→dK P M s w (execOp act.eval ⟨dst, .binOp op t x y yt,type,pos,after,guard⟩) d s':=by
    intro neg mn ht h
    simp only [aV]at h
    split at h
    ·rename_i p q hp hq
     cases h
     rw [hp]at hx;rw [hq]at hy
     simp only [execOp,hx.nz,hy.nz,mn]
     exact RR r ht
    ·cases h
   have YK : ∀ neg e,op=(if neg then .neq else .eql)→P.underlying t=some (.pointer e)→aV (.Fq neg x' y') tm s=some (d,s')→dK P M s w (execOp act.eval ⟨dst, .binOp op t x y yt,type,pos,after,guard⟩) d s':=by
    intro neg e mn ht h
    simp only [aV]at h
    split at h
    ·rename_i hp hq
     cases h
     rw [hp]at hx;rw [hq]at hy
     simp only [execOp,hx.rF,hy.rF,mn]
     have:=B9 r (neg:=neg) (x:=x) (y:=y) (a:=none) ht
     cases neg <;> simpa using this
    ·rename_i o off hp hq
     cases h
     rw [hp]at hx;rw [hq]at hy
     simp only [execOp,hx.rG.1,hy.rF,mn]
     have:=B9 r (neg:=neg) (x:=x) (y:=y) (a:=some ⟨M.mu o,off,none⟩) ht
     cases neg <;> simpa using this
    ·rename_i row off hp hq
     cases h
     rw [hp]at hx;rw [hq]at hy
     obtain⟨b,k,hv,_⟩:=hx.yj
     simp only [execOp,hv,hy.rF,mn]
     have:=B9 r (neg:=neg) (x:=x) (y:=y) (a:=some ⟨b,k+off,none⟩) ht
     cases neg <;> simpa using this
    ·cases h
   have YL : ∀ neg ks,op=(if neg then .neq else .eql)→pQ P t=some ks→aV (.eqs neg ks x' y') tm s=some (d,s')→dK P M s w (execOp act.eval ⟨dst, .binOp op t x y yt,type,pos,after,guard⟩) d s':=by
    intro neg ks mn ht h
    simp only [aV]at h
    split at h
    ·rename_i p q hp hq
     split at h
     ·rename_i e' he'
      cases h
      rw [hp]at hx;rw [hq]at hy
      simp only [execOp,mn]
      exact RT r ht hx hy he'
     ·cases h
    ·cases h
   split at hc
   ·cases hc;exact YI he
   ·cases hc;exact YI he
   ·rename_i hu;cases hc;exact YJ false rfl hu he
   ·rename_i hu;cases hc;exact YJ true rfl hu he
   ·rename_i hu;cases hc;exact YK false _ rfl hu he
   ·rename_i hu;cases hc;exact YK true _ rfl hu he
   ·obtain⟨ks,hk,rfl⟩:=map_some hc;exact YL false ks rfl hk he
   ·obtain⟨ks,hk,rfl⟩:=map_some hc;exact YL true ks rfl hk he
   ·cases hc
  ·cases hc
 | unOp op t x=>
  obtain⟨y,hy,rfl⟩:=map_some hc
  have hx:=cH hy hr
  simp only [aV]at he
  split at he
  ·rename_i d' qt
   cases he
   unfold HF at qt
   split at qt
   ·rename_i k n hk
    cases qt
    rw [hk]at hx
    exact dK.pure (v:= .int k (k.wrap (0 - n))) r (by simp [execOp,hx.jO,Op.unary,Op.intArith]) (.int _ _)
   ·rename_i b hb
    cases qt
    rw [hb]at hx
    exact dK.pure (v:= .bool (!b)) r (by simp [execOp,hx.nz,Op.unary]) (.bool _)
   ·cases qt
  ·cases he
 | convert src axa x=>
  simp only at hc
  split at hc
  ·rename_i y k1 k h1 h2 h3
   cases hc
   have hx:=cH h1 hr
   simp only [aV]at he
   split at he
   ·rename_i k2 n hn
    cases he
    rw [hn]at hx
    refine dK.pure (v:= .int k (k.wrap n)) r ?_ (.int _ _)
    simp [execOp,hx.jO,convert,run_underlying h2,run_underlying h3,Conv.intToInt]
   ·cases he
  ·rename_i y e h1 h2 h3
   split at hc
   ·rename_i h4
    cases hc
    have hx:=cH h1 hr
    simp only [aV]at he
    split at he
    ·rename_i g z rows lj
     split at he
     ·rename_i b hb
      cases he
      rw [lj]at hx
      exact LJ r h2 h4 h3 hx hb
     ·cases he
    ·cases he
   ·cases hc
  ·rename_i y e e2 h1 h2 h3
   split at hc
   ·rename_i h4
    split at hc
    ·rename_i BK
     cases hc
     subst BK
     have hx:=cH h1 hr
     simp only [aV]at he
     split at he
     ·rename_i t z rows lj
      split at he
      ·rename_i l7
       cases he
       rw [lj]at hx
       exact RX r h2 h4 hx l7.1 l7.2
      ·cases he
     ·cases he
    ·cases hc
   ·cases hc
  ·rename_i y e h1 h2 h3
   split at hc
   ·rename_i i h4 h5
    split at hc
    ·cases hc
     have hx:=cH h1 hr
     simp only [aV]at he
     split at he
     ·rename_i l hl
      cases he
      rw [hl]at hx
      simp only [execOp,hx.kY]
      exact HR r h2 h3 h4
     ·cases he
    ·cases hc
   ·cases hc
  ·cases hc
 | slice t x lo hi mx=>
  cases mx with
  | some m=>cases hc
  | none=>
   simp only at hc
   split at hc
   ·rename_i y Fy ik h1 h2 h3 h4
    cases hc
    have hx:=cH h1 hr
    simp only [aV]at he
    split at he
    ·rename_i u hu
     rw [hu]at hx
     split at he
     ·rename_i l h hl hh
      split at he
      ·rename_i l7
       cases he
       have:=OI r h4 (OV hr h2 hl) (OW hr h3 hh) l7.1 l7.2.1 l7.2.2
       simp only [execOp,hx.kY,Option.map_none]
       exact this
      ·cases he
     ·cases he
    ·cases he
   ·rename_i y Fy ik e h1 h2 h3 h4
    split at hc
    ·rename_i i OM
     cases hc
     have hx:=cH h1 hr
     simp only [aV]at he
     split at he
     ·rename_i g z rows lj
      rw [lj]at hx
      split at he
      ·rename_i l h hl hh
       split at he
       ·rename_i l7
        cases he
        have:=RV r h4 OM l7.1 hx (OV hr h2 hl) (OW hr h3 hh) l7.2.1 l7.2.2.1 l7.2.2.2
        simp only [execOp,Option.map_none]
        exact this
       ·cases he
      ·cases he
     ·cases he
    ·cases hc
   ·cases hc
 | fieldAddr t x f=>
  simp only at hc
  split at hc
  ·rename_i y off size a h1 h2
   cases hc
   have hx:=cH h1 hr
   simp only [aV]at he
   split at he
   ·rename_i o k ho
    cases he
    rw [ho]at hx
    have HS:=hx.zQ
    obtain⟨hv,hF⟩:=hx.rG
    refine dK.pure (v:= .pointer (some ⟨M.mu o,k+off,none⟩)) r ?_ (.ptr _ _ hF HS)
    simp only [execOp,hv,Sem.run_bind,Fu h2,Result.andThen_ok,Sem.run_pure]
   ·rename_i row k ho
    cases he
    rw [ho]at hx
    obtain⟨b,q,hv,g1,g2⟩:=hx.yj
    refine dK.pure (v:= .pointer (some ⟨b,q+(k+off),none⟩)) r ?_ (.dU _ _ _ _ g1 g2)
    simp only [execOp,hv,Sem.run_bind,Fu h2,Result.andThen_ok,Sem.run_pure,Nat.add_assoc]
   ·cases he
  ·cases hc
 | field t x f=>
  simp only at hc
  split at hc
  ·rename_i y off size a h1 h2
   cases hc
   have hx:=cH h1 hr
   simp only [aV]at he
   split at he
   ·rename_i cs oS
    split at he
    ·rename_i d' qt
     cases he
     rw [oS]at hx
     obtain⟨vs,hv,g1,g2,g3⟩:=hx.Ec
     simp only [execOp,hv]
     exact LM h2 g1 g2 g3 qt r
    ·cases he
   ·cases he
  ·cases hc
 | indexAddr t x i=>
  simp only at hc
  split at hc
  ·rename_i y j e h1 h2 h3
   split at hc
   ·rename_i inf R0
    split at hc
    ·cases hc
     have hx:=cH h1 hr
     have hj:=cH h2 hr
     simp only [aV]at he
     split at he
     ·rename_i g z rows k n lj hn
      split at he
      ·rename_i l7
       obtain⟨BL,hz⟩:=l7
       subst hz
       split at he
       ·rename_i row fa
        cases he
        rw [lj]at hx;rw [hn]at hj
        simp only [execOp,hj.jO]
        exact LB r h3 R0 hx BL fa
       ·cases he
      ·cases he
     ·cases he
    ·cases hc
   ·cases hc
  ·cases hc
 | index t x i=>
  simp only at hc
  split at hc
  ·rename_i y j h1 h2 h3
   cases hc
   have hx:=cH h1 hr
   have hj:=cH h2 hr
   simp only [aV]at he
   split at he
   ·rename_i l k n hl hn
    split at he
    ·rename_i BL
     split at he
     ·rename_i c YM
      cases he
      rw [hl]at hx;rw [hn]at hj
      simp only [execOp,hj.jO,hx.kY]
      exact OH r h3 BL YM
     ·cases he
    ·cases he
   ·cases he
  ·cases hc
 | extract x i=>
  obtain⟨y,hy,rfl⟩:=map_some hc
  have hx:=cH hy hr
  simp only [aV]at he
  split at he
  ·rename_i ds C2
   split at he
   ·rename_i d' qt
    cases he
    rw [C2]at hx
    obtain⟨vs,hv,g1,g2⟩:=hx.Ft
    have hF:=(List.getElem?_eq_some_iff.1 qt).1
    have HT:vs[i]? = some vs[i]:=Array.getElem?_eq_getElem (by omega)
    refine dK.pure (v:=vs[i]) r ?_ (g2 i _ _ qt HT)
    simp [execOp,hv,Instr.extract,HT]
   ·cases he
  ·cases he
 | call c=>
  obtain⟨callee,args,nT⟩:=c
  cases callee with
  | value f=>cases hc
  | invoke f m=>cases hc
  | builtin bi=>
   have two : ∀ {x y:Operand} {x' y':X} {isMax:Bool},cX x=some x'→cX y=some y'→bi=(if isMax then .max else .min)→args.toList = [x,y]→aV (.mm isMax x' y') tm s=some (d,s')→
    dK P M s w (execOp act.eval ⟨dst, .call ⟨.builtin bi,args,nT⟩,type,pos,after,guard⟩) d s':=by
    intro x y x' y' isMax h1 h2 hb ha h
    have kx:args = #[x,y]:=by rw [← Array.toArray_toList (xs:=args),ha]
    subst kx
    have hx:=cH h1 hr
    have hy:=cH h2 hr
    simp only [aV]at h
    split at h
    ·rename_i k a k' b Fz HS
     split at h
     ·rename_i zg
      subst zg
      cases h
      rw [Fz]at hx;rw [HS]at hy
      refine dK.pure (v:= .int k (if isMax then(if b > a then b else a)else(if b<a then b else a))) r ?_ (.int _ _)
      subst hb
      cases isMax
      ·simp [execOp,resolve,invoke,builtin,Builtin.min_,Builtin.min2,hx.jO,hy.jO]
      ·simp [execOp,resolve,invoke,builtin,Builtin.max_,Builtin.max2,hx.jO,hy.jO]
     ·cases h
    ·cases h
   cases bi <;> simp only at hc <;> try (cases hc;done)
   case append=>
    split at hc
    ·rename_i x y t u ha tF
     split at hc
     ·rename_i e e' x' y' h1 h2 h3 h4
      split at hc
      ·rename_i i z hi hz
       split at hc
       ·rename_i zV
        cases hc
        have kx:args = #[x,y]:=by rw [← Array.toArray_toList (xs:=args),ha]
        have HU:nT = #[t,u]:=by rw [← Array.toArray_toList (xs:=nT),tF]
        subst kx;subst HU
        obtain⟨i',v,g1,g2,g3,g4⟩:=wK hz
        rw [hi]at g1;cases g1
        have Vd:=uG (M:=M) (s:=s) g4
        split at he
        ·rename_i hb
         obtain⟨rfl,HV,YN⟩:=hb
         obtain⟨v',w',M',f1,f2,f3,f4⟩:=LF (ty:=type) r h1 h2 hi g2 HV YN g3 Vd.2.1 (cH h3 hr) (cH h4 hr) he
         refine⟨v',w',M', .inl ?_,f2,f3,f4⟩
         simp [execOp,resolve,invoke,builtin,f1]
        ·obtain⟨v',w',M',f1,f2,f3,f4⟩:=OR (ty:=type) r h1 h2 hi g2 g3 Vd.2.1 (cH h3 hr) (cH h4 hr) zV he
         refine⟨v',w',M', .inl ?_,f2,f3,f4⟩
         simp [execOp,resolve,invoke,builtin,f1]
       ·cases hc
      ·cases hc
     ·rename_i e x' y' h1 h2 h3 h4
      split at hc
      ·rename_i i z hi hz
       split at hc
       ·rename_i hb
        cases hc
        obtain⟨rfl,HV,YN⟩:=hb
        have kx:args = #[x,y]:=by rw [← Array.toArray_toList (xs:=args),ha]
        have HU:nT = #[t,u]:=by rw [← Array.toArray_toList (xs:=nT),tF]
        subst kx;subst HU
        obtain⟨i',v,g1,g2,g3,g4⟩:=wK hz
        rw [hi]at g1;cases g1
        have Vd:=uG (M:=M) (s:=s) g4
        have hy:=cH h4 hr
        simp only [aV]at he
        split at he
        ·rename_i l hl
         rw [hl]at hy
         obtain⟨v',w',M',f1,f2,f3,f4⟩:=LG (ty:=type) r h1 h2 hi g2 HV YN g3 Vd.2.1 (cH h3 hr) he
         refine⟨v',w',M', .inl ?_,f2,f3,f4⟩
         simp [execOp,resolve,invoke,builtin,hy.kY,f1]
        ·cases he
       ·cases hc
      ·cases hc
     ·cases hc
    ·cases hc
   case len=>
    split at hc
    ·rename_i x t ha tF
     have kx:args = #[x]:=by rw [← Array.toArray_toList (xs:=args),ha]
     have HU:nT = #[t]:=by rw [← Array.toArray_toList (xs:=nT),tF]
     subst kx;subst HU
     have hex:execOp act.eval ⟨dst, .call ⟨.builtin .len, #[x], #[t]⟩,type,pos,after,guard⟩=(do pure (.value (← Builtin.len_ #[t] type #[act.eval x]))):=by
      simp [execOp,resolve,invoke,builtin]
     rw [hex]
     split at hc
     ·rename_i ht
      obtain⟨y,hy,rfl⟩:=map_some hc
      have hx:=cH hy hr
      simp only [aV]at he
      split at he
      ·rename_i l hl
       cases he
       rw [hl]at hx
       rw [hx.kY]
       exact HK r ht
      ·cases he
     ·rename_i e ht
      obtain⟨y,hy,rfl⟩:=map_some hc
      have hx:=cH hy hr
      simp only [aV]at he
      split at he
      ·rename_i g z rows lj
       cases he
       rw [lj]at hx
       rcases hx.iW with ⟨h0,hv,_⟩ | ⟨h0,_,a,cap,hv⟩ | ⟨b,q,cap,hv,_⟩
       ·rw [hv,h0];exact rI r ht
       ·rw [hv,h0];exact rI r ht
       ·rw [hv];exact rI r ht
      ·cases he
     ·cases hc
    ·cases hc
   case max=>
    split at hc
    ·rename_i x y ha
     split at hc
     ·rename_i x' y' h1 h2
      cases hc
      exact two (isMax:=true) h1 h2 rfl ha he
     ·cases hc
    ·cases hc
   case min=>
    split at hc
    ·rename_i x y ha
     split at hc
     ·rename_i x' y' h1 h2
      cases hc
      exact two (isMax:=false) h1 h2 rfl ha he
     ·cases hc
    ·cases hc
 | makeFunc fn first captured=>
  cases fn <;> simp only at hc <;> try (cases hc;done)
  split at hc
  ·rename_i f h0
   obtain⟨xs,oq,rfl⟩:=map_some hc
   simp only [aV,Option.some.injEq,Prod.mk.injEq]at he
   obtain⟨rfl,rfl⟩:=he
   obtain⟨c1,c2⟩:=KQ hr oq
   have hf:first = #[]:=Array.eq_empty_of_size_eq_zero h0
   subst hf
   refine dK.pure (v:= .func (.func f) #[] (captured.map act.eval)) r ?_ (.gP _ _ _ (by simp [c1]) (fun i d v e1 e2=>c2 i d v e1 (by simpa using e2)))
   simp [execOp,Instr.makeFunc]
  ·cases hc
 | makeMap t rv=>
  cases rv with
  | none=>
   simp only at hc
   split at hc
   ·rename_i ht
    cases hc
    simp only [aV,Option.some.injEq,Prod.mk.injEq]at he
    obtain⟨rfl,rfl⟩:=he
    simp only [execOp,Option.map_none]
    exact LK r ht
   ·cases hc
  | some x=>cases hc
 | mapUpdate t m k v=>
  simp only at hc
  split at hc
  ·rename_i kt et m' k' v' ht h1 h2 h3
   split at hc
   ·rename_i YO
    cases hc
    have hm:=cH h1 hr
    have hk:=cH h2 hr
    have hv:=cH h3 hr
    simp only [aV]at he
    split at he
    ·rename_i o key g z rows ho R1 lj
     rw [ho]at hm;rw [R1]at hk;rw [lj]at hv
     obtain⟨YP,hF,xv⟩:=hm.HJ
     split at he
     ·rename_i cs oS
      split at he
      ·rename_i jy afG
       cases he
       have C1:(act.eval v).oneCell'=true:=by
        rcases hv.iW with ⟨_,h,_⟩ | ⟨_,_,a,cap,h⟩ | ⟨b,q,cap,h,_⟩ <;> rw [h] <;> rfl
       simp only [execOp,YP,hk.kY]
       exact OU r ht YO xv oS hv C1 afG
      ·cases he
     ·cases he
    ·cases he
   ·cases hc
  ·cases hc
 | lookup t m k ok=>
  cases ok <;> simp only at hc <;> try (cases hc;done)
  split at hc
  ·rename_i kt et m' k' ht h1 h2
   split at hc
   ·rename_i i YO hi
    split at hc
    ·rename_i z hz
     obtain⟨zd,YH,rfl⟩:=map_some hc
     have hm:=cH h1 hr
     have hk:=cH h2 hr
     simp only [aV]at he
     split at he
     ·rename_i o key ho R1
      rw [ho]at hm;rw [R1]at hk
      obtain⟨YP,hF,xv⟩:=hm.HJ
      split at he
      ·rename_i cs oS
       split at he
       ·rename_i d' qt
        cases he
        simp only [execOp,YP,hk.kY]
        exact LL r ht YO hi hz YH xv oS qt
       ·cases he
      ·cases he
     ·cases he
    ·cases hc
   ·cases hc
  ·cases hc
 | _=>cases hc
theorem yl {o:Oper} {z:List D} {k n:Nat} {ps:List (Nat×X)} {tm:Tm} {act:Act} {d:D} {s':St} (hc:CO P o=some (.cG z k n ps)) (r:Rel M s w) (hr:lM M s tm act.tmps) (he:aV (.uB z k n ps) tm s=some (d,s')) :
 dK P M s w (execOp act.eval o) d s':=by
 obtain⟨dst,op,type,pos,after,guard⟩:=o
 unfold CO at hc
 simp only at hc
 cases op with
 | buildSlice t n' parts=>
  simp only at hc
  split at hc
  ·rename_i e hu
   split at hc
   ·rename_i i z ps h1 h2 h3
    split at hc
    ·rename_i l7
     cases hc
     simp only [aV]at he
     split at he
     ·rename_i rows lj
      cases he
      obtain⟨vs,T,g1,g2,g3,g4⟩:=BJ r hr hu h1 h2 l7.1 l7.2 h3 lj
      obtain⟨M',f1,f2,f3⟩:=OT r T g1 (by rw [g3,g2]) l7.1
      refine⟨_,_,_, .inl ?_,f2,f1,f3⟩
      simp only [Array.toArray_toList]at g4
      simp only [execOp,Sem.run_bind,g4,Result.andThen_ok,Sem.run_pure]
      rw [g2]
     ·cases he
    ·cases hc
   ·cases hc
  ·cases hc
 | _=>
  exfalso
  revert hc
  try simp only
  repeat' split
  all_goals (first | (intro h;cases h;done) | (intro h;obtain⟨_,_,h⟩:=map_some h;cases h;done) | contradiction | (simp;done) | (intro h;simp_all;done))
end
end Go.Abs

/-! Code -/

namespace Go.Abs
structure fI where
 M:Map
 s:St
 w:World
 laid:Laid M s w
 old : ∀ b o v,M.G b o=some v→b<w.heap.size
def Holds (B:fI) (nt:Nat) (tm:Tm) (s:St) (act:Act) (w:World):Prop:=
 ∃ M,Ext B.M B.s B.w M s w∧Rel M s w∧lM M s tm act.tmps∧act.tmps.size=nt∧act.defers = []
def pK (B:fI) (nt:Nat) (Q:Exit→Tm→St→Prop):Exit→Act→World→Prop:=fun e act w=>∃ tm s,Q e tm s∧Holds B nt tm s act w
def eU (P:Program) (f:FuncId) (args:List D) (s:St) (Q:D→St→Prop):Prop:=
 ∀ (M:Map) (w:World) (gw:Array Value),Rel M s w→Laid M s w→gw.size=args.length→(∀ (i:Nat) (d:D) (v:Value),args[i]? = some d→gw[i]? = some v→RD M s d v)→
  Calls P f gw w fun e w'=>∃ M' d v s',e = .returned v∧Q d s'∧Ext M s w M' s' w'∧Rel M' s' w'∧RD M' s' d v
theorem eU.mono {P:Program} {f:FuncId} {args:List D} {s:St} {Q Q':D→St→Prop} (h:eU P f args s Q) (hq : ∀ d s',Q d s'→Q' d s'):eU P f args s Q':=
 fun M w gw r hd hl ha=>(h M w gw r hd hl ha).mono fun _ _ ⟨M',d,v,s',h1,h2,h3⟩=>⟨M',d,v,s',h1,hq _ _ h2,h3⟩
def guarded (g:Option (Nat×Bool)) (tm:Tm) (A B:Prop):Prop:=
 match g with
 | none=>A
 | some (t,want)=>
  match tm.get t with
  | .bool b=>(b=want→A)∧(b=(!want)→B)
  | .tuple _=>B
  | _=>False
def iQ (P:Program):List AI→(Tm→St→Prop)→Tm→St→Prop
 | [],K,tm,s=>K tm s
 | .op dst g o::r,K,tm,s=>
  guarded g tm (match aV o tm s with | some (d,s')=>iQ P r K (tm.put dst d) s' | none=>False) (iQ P r K (tm.put dst (.tuple [])) s)
 | .call dst g f xs::r,K,tm,s=>
  guarded g tm (eU P f (xs.map (·.ev tm)) s fun d s'=>iQ P r K (tm.put dst d) s') (iQ P r K (tm.put dst (.tuple [])) s)
 | .nil dst g neg x::r,K,tm,s=>
  guarded g tm (match x.ev tm with
   | .slice _ _ rows=>∀ b:Bool,(rows≠ []→b=false)→iQ P r K (tm.put dst (.bool (if neg then !b else b))) s
   | _=>False) (iQ P r K (tm.put dst (.tuple [])) s)
 | .jg dst g t xs::r,K,tm,s=>
  guarded g tm (match tm.get t with
   | .gP f nu=>enters P f=true∧eU P f (xs.map (·.ev tm)++nu) s fun d s'=>iQ P r K (tm.put dst d) s'
   | _=>False) (iQ P r K (tm.put dst (.tuple [])) s)
section
variable {P:Program}
theorem zX {f:FuncId} (h:enters P f=true) (args:Array Value) (w:World):(callFunc f args).run P w = .ok (.enter f args) w:=by
 unfold enters at h
 split at h
 ·rename_i fn hf
  simp only [Bool.and_eq_true,Bool.not_eq_true']at h
  obtain⟨h1,h2⟩:=h
  have h3:fn.body.isNone=false:=by cases hb:fn.body <;> simp_all
  simp only [callFunc,Sem.run_bind,run_program,Result.andThen_ok,hf,h2,h3]
  simp
 ·cases h
theorem wL (ρ:Operand→Value) (dst:Option Tmp) (f:FuncId) (args:Array Operand) (nT:Array TypeId) (ty:TypeId) (pos:String) (after:Array Edge) (g:Option (Nat×Bool))
 (hρ:ρ (.func f) = .func (.func f) #[] #[]) (h:enters P f=true) (w:World) :
 (execOp ρ ⟨dst, .call ⟨.value (.func f),args,nT⟩,ty,pos,after,g⟩).run P w = .ok (.enter f (args.map ρ)) w:=by
 simp [execOp,resolve,hρ,Deferred.ofValue,invoke,zX h]
theorem zY (ρ:Operand→Value) (dst:Option Tmp) (x:Operand) (f:FuncId) (nu:Array Value) (args:Array Operand) (nT:Array TypeId) (ty:TypeId) (pos:String) (after:Array Edge) (g:Option (Nat×Bool))
 (hρ:ρ x = .func (.func f) #[] nu) (h:enters P f=true) (w:World) :
 (execOp ρ ⟨dst, .call ⟨.value x,args,nT⟩,ty,pos,after,g⟩).run P w = .ok (.enter f (args.map ρ++nu)) w:=by
 simp [execOp,resolve,hρ,Deferred.ofValue,invoke,zX h]
theorem vP {M:Map} {s:St} {tm:Tm} {act:Act} (hr:lM M s tm act.tmps) : ∀ {l:List Operand} {xs:List X},xu l=some xs→
 xs.length=l.length∧∀ (i:Nat) (d:D) (v:Value),(xs.map (·.ev tm))[i]? = some d→(l.map act.eval)[i]? = some v→RD M s d v
 | [],xs,h=>by cases h;exact⟨rfl,by simp⟩
 | x::l,xs,h=>by
  unfold xu at h
  split at h
  ·rename_i x' r' h1 h2
   cases h
   obtain⟨g1,g2⟩:=vP hr h2
   refine⟨by simp [g1],fun i d v e1 e2=> ?_⟩
   cases i with
   | zero=>simp at e1 e2;subst e1;subst e2;exact cH h1 hr
   | succ i=>exact g2 i d v (by simpa using e1) (by simpa using e2)
  ·cases h
theorem FA {M:Map} {s:St} {tm:Tm} {act:Act} {args:Array Operand} {xs:List X} {nu:List D} {vs:Array Value} (oq:xu args.toList=some xs) (ht:lM M s tm act.tmps) (hlen:nu.length=vs.size)
 (C3 : ∀ (i:Nat) (d:D) (v:Value),nu[i]? = some d→vs[i]? = some v→RD M s d v) :
 (args.map act.eval++vs).size=(xs.map (·.ev tm)++nu).length∧∀ (i:Nat) (d:D) (v:Value),(xs.map (·.ev tm)++nu)[i]? = some d→(args.map act.eval++vs)[i]? = some v→RD M s d v:=by
 obtain⟨c1,c2⟩:=vP ht oq
 refine⟨by simp [c1,hlen],fun i d v e1 e2=> ?_⟩
 rcases Nat.lt_or_ge i args.size with qI | qI
 ·rw [List.getElem?_append_left (by simp [c1];exact qI)]at e1
  rw [Array.getElem?_append_left (by simp;exact qI)]at e2
  exact c2 i d v e1 (by simpa using e2)
 ·rw [List.getElem?_append_right (by simp [c1];exact qI)]at e1
  rw [Array.getElem?_append_right (by simp;exact qI)]at e2
  simp only [List.length_map,c1,Array.size_map,Array.length_toList]at e1 e2
  exact C3 _ d v e1 e2
theorem zi {M:Map} {s:St} {w:World} {o:Oper} {neg:Bool} {x:X} {tm:Tm} {act:Act} (hc:Ea P o=some (neg,x)) (hr:lM M s tm act.tmps) {g:Tag} {z:Nat} {rows:List (List D)} (hx:x.ev tm = .slice g z rows) :
 ∃ b:Bool,(rows≠ []→b=false)∧(execOp act.eval o).run P w = .ok (.value (.bool (if neg then !b else b))) w:=by
 obtain⟨dst,op,type,pos,after,guard⟩:=o
 unfold Ea at hc
 split at hc
 ·rename_i op t y yt heq
  simp only at heq
  subst heq
  have fin : ∀ e,P.underlying t=some (.slice e)→cX y=some x→op=(if neg then .neq else .eql)→∃ b:Bool,(rows≠ []→b=false)∧
   (execOp act.eval ⟨dst, .binOp op t y (.const (.slice none 0 0)) yt,type,pos,after,guard⟩).run P w = .ok (.value (.bool (if neg then !b else b))) w:=by
   intro e ht hy mn
   have hv:=cH hy hr
   rw [hx]at hv
   have key : ∀ (a:Option Addr) (n c:Nat),act.eval y = .slice a n c→(execOp act.eval ⟨dst, .binOp op t y (.const (.slice none 0 0)) yt,type,pos,after,guard⟩).run P w = .ok (.value (.bool (if neg then !a.isNone else a.isNone))) w:=by
    intro a n c s6
    have hg:=nP (P:=P) (w:=w) (op:=op) (t:=t) (x:=y) (y:= .const (.slice none 0 0)) (a:= .slice a n c) (b:= .slice none 0 0) ⟨by simp,by simp⟩
    have he:(Op.equal t (.slice a n c) (.slice none 0 0)).run P w = .ok a.isNone w:=by
     have : ∀ d,(Op.equalIn (d+1) t (.slice a n c) (.slice none 0 0)).run P w = .ok a.isNone w:=by
      intro d
      cases a <;> simp [Op.equalIn,run_underlying ht]
     exact this 9999
    have afI:act.eval (.const (.slice none 0 0)) = .slice none 0 0:=rfl
    simp only [execOp,s6,afI]
    rw [mn]at hg ⊢
    cases neg
    ·simp only [Bool.false_eq_true,if_false]at hg ⊢
     simp [hg,binOp,he]
    ·simp only [if_true]at hg ⊢
     simp [hg,binOp,he]
   rcases hv.iW with ⟨h0,s6,_⟩ | ⟨_,_,a,cap,s6⟩ | ⟨b,q,cap,s6,_⟩
   ·exact⟨true,fun h=>(h h0).elim,key none 0 0 s6⟩
   ·exact⟨false,fun _=>rfl,key _ _ _ s6⟩
   ·exact⟨false,fun _=>rfl,key _ _ _ s6⟩
  split at hc
  ·cases hc
   exact fin _ ‹_› ‹_› rfl
  ·cases hc
   exact fin _ ‹_› ‹_› rfl
  ·cases hc
 ·cases hc
variable {B:fI} {nt:Nat}
theorem Holds.put {tm:Tm} {s:St} {act:Act} {w:World} {M':Map} {s':St} {w':World} {M:Map} (e:Ext B.M B.s B.w M s w) (ht:lM M s tm act.tmps) (hn:act.tmps.size=nt) (hd:act.defers = [])
 {dst:Option Nat} (qk : ∀ t,dst=some t→t<nt) {d:D} {v:Value} (e':Ext M s w M' s' w') (r':Rel M' s' w') (hv:RD M' s' d v):Holds B nt (tm.put dst d) s' (act.put dst v) w':=by
 refine⟨M',e.trans e',r',(ht.mono e'.le).put (fun t h=>by rw [hn];exact qk t h) hv, ?_, ?_⟩
 ·cases dst <;> simp [Act.put,hn]
 ·cases dst <;> simp [Act.put,hd]
theorem xA {ops:Array Oper} {o:Oper} {ai:AI} (h:cI P nt ops o=some ai) : ∀ t,o.dst=some t→t<nt:=by
 intro t ht
 unfold cI at h
 split at h
 ·cases h
 ·split at h
  ·rename_i hF;rw [ht]at hF;simpa [UX]using hF
  ·cases h
theorem jX {ops:Array Oper} {o:Oper} {g:Option (Nat×Bool)} (hg:uD ops o.guard=some g) {M:Map} {s:St} {tm:Tm} {act:Act} (hr:lM M s tm act.tmps) {A C:Prop} (h:guarded g tm A C) :
 (Region.wanted o (yielded ops act.tmps)=true∧A)∨(Region.wanted o (yielded ops act.tmps)=false∧C):=by
 unfold uD at hg
 split at hg
 ·rename_i hn
  cases hg
  exact .inl ⟨by simp [Region.wanted,hn],h⟩
 ·rename_i j want hn
  split at hg
  ·rename_i t ht
   cases hg
   have Ve:=hr t
   unfold guarded at h
   simp only at h
   split at h
   ·rename_i b hb
    rw [hb]at Ve
    have hv:=Ve.nz
    have acA:act.tmps[t]? = some (.bool b):=by
     cases hc:act.tmps[t]? with
     | none=>simp [Array.getD_eq_getD_getElem?,hc,Go.undef]at hv
     | some v=>simp [Array.getD_eq_getD_getElem?,hc]at hv;rw [hv]
    have hy:yielded ops act.tmps j=some b:=by simp [yielded,ht,acA]
    have hw:Region.wanted o (yielded ops act.tmps)=(some b==some want):=by simp [Region.wanted,hn,hy]
    by_cases YQ:b=want
    ·exact .inl ⟨by rw [hw,YQ];simp,h.1 YQ⟩
    ·refine .inr ⟨by rw [hw];simp [YQ],h.2 ?_⟩
     cases b <;> cases want <;> simp_all
   ·rename_i ds C2
    rw [C2]at Ve
    obtain⟨vs,hv,_⟩:=Ve.Ft
    refine .inr ⟨?_,h⟩
    have hy:yielded ops act.tmps j=none:=by
     unfold yielded
     rw [ht]
     cases hc:act.tmps[t]? with
     | none=>simp [hc]
     | some v=>simp [Array.getD_eq_getD_getElem?,hc]at hv;simp [hc,hv]
    simp [Region.wanted,hn,hy]
   ·exact h.elim
  ·cases hg
theorem zZ {ops:Array Oper} {Q:Exit→Tm→St→Prop} : ∀ (l:List Nat) (ol:List Oper) (is:List AI),l.map (ops[·]?)=ol.map some→qE P nt ops ol=some is→
 ∀ (tm:Tm) (s:St) (act:Act) (w:World),iQ P is (Q .normal) tm s→Holds B nt tm s act w→wpOps P ops (pK B nt Q) l act w
 | [],[],is,_,hc,tm,s,act,w,h,hh=>by cases hc;exact⟨tm,s,h,hh⟩
 | [],_::_,_,hl,_,_,_,_,_,_,_=>by simp at hl
 | _::_,[],_,hl,_,_,_,_,_,_,_=>by simp at hl
 | i::l,o::ol,is,hl,hc,tm,s,act,w,h,hh=>by
  simp only [List.map_cons,List.cons.injEq]at hl
  obtain⟨hi,hl⟩:=hl
  unfold qE at hc
  split at hc
  ·rename_i ai OZ h1 h2
   cases hc
   obtain⟨M,e,r,ht,hn,hd⟩:=hh
   have qk:=xA h1
   have ih:=fun tm s act w=>zZ (Q:=Q) l ol OZ hl h2 tm s act w
   have skip : ∀ (x:Prop),iQ P OZ (Q .normal) (tm.put o.dst (.tuple [])) s→wpOps P ops (pK B nt Q) l (act.put o.dst Go.undef) w:=fun _ hk=>
    ih _ _ _ _ hk (Holds.put e ht hn hd qk (Ext.refl M s w) r .undef)
   simp only [wpOps,hi]
   unfold cI at h1
   split at h1
   ·cases h1
   ·rename_i g hg
    split at h1
    ·unfold sa at h1
     split at h1
     ·-- a call
      rename_i f args nT mn
      split at h1
      ·rename_i ym
       obtain⟨xs,oq,rfl⟩:=map_some h1
       unfold iQ at h
       rcases jX hg ht h with ⟨hw,hA⟩ | ⟨hw,hB⟩
       ·simp only [hw,if_true]
        left
        have hex:(execOp act.eval o).run P w = .ok (.enter f (args.map act.eval)) w:=by
         obtain⟨dst,op,type,pos,after,guard⟩:=o
         simp only at mn
         subst mn
         exact wL act.eval dst f args nT type pos after guard rfl ym w
        obtain⟨c1,c2⟩:=vP ht oq
        unfold Oper.wp
        rw [hex,Oper.upon_enter]
        refine(hA M w (args.map act.eval) r (B.laid.ext e) (by simp [c1]) (fun i d v e1 e2=>c2 i d v e1 (by simpa using e2))).mono ?_
        rintro en w' ⟨M',d,v,s',rfl,hk,e',r',hv⟩
        exact ih _ _ _ _ hk (Holds.put e ht hn hd qk e' r' hv)
       ·simp only [hw]
        exact skip True hB
      ·cases h1
     ·-- what a slot holds is called
      rename_i t args nT mn
      obtain⟨xs,oq,rfl⟩:=map_some h1
      unfold iQ at h
      rcases jX hg ht h with ⟨hw,hA⟩ | ⟨hw,hB⟩
      ·simp only [hw,if_true]
       left
       split at hA
       ·rename_i f nu zj
        obtain⟨ym,hA⟩:=hA
        have O0:=ht t
        rw [zj]at O0
        obtain⟨vs,oQ,hlen,C3⟩:=O0.KH
        have hex:(execOp act.eval o).run P w = .ok (.enter f (args.map act.eval++vs)) w:=by
         obtain⟨dst,op,type,pos,after,guard⟩:=o
         simp only at mn
         subst mn
         exact zY act.eval dst (.tmp t) f vs args nT type pos after guard oQ ym w
        unfold Oper.wp
        rw [hex,Oper.upon_enter]
        have cc:=FA oq ht hlen C3
        refine(hA M w (args.map act.eval++vs) r (B.laid.ext e) cc.1 cc.2).mono ?_
        rintro en w' ⟨M',d,v,s',rfl,hk,e',r',hv⟩
        exact ih _ _ _ _ hk (Holds.put e ht hn hd qk e' r' hv)
       ·exact hA.elim
      ·simp only [hw]
       exact skip True hB
     ·split at h1
      ·-- a slice held against nil
       rename_i neg x HW
       cases h1
       unfold iQ at h
       rcases jX hg ht h with ⟨hw,hA⟩ | ⟨hw,hB⟩
       ·simp only [hw,if_true]
        left
        split at hA
        ·rename_i g' z rows hx
         obtain⟨b,hb,hex⟩:=zi (w:=w) HW ht hx
         unfold Oper.wp
         rw [hex,Oper.upon_value]
         exact ih _ _ _ _ (hA b hb) (Holds.put e ht hn hd qk (Ext.refl M s w) r (.bool _))
        ·exact hA.elim
       ·simp only [hw]
        exact skip True hB
      ·-- any other operation
       have fin : ∀ ao,ai = .op o.dst g ao→(∀ d s',aV ao tm s=some (d,s')→dK P M s w (execOp act.eval o) d s')→
        (if Region.wanted o (yielded ops act.tmps)=true then o.wp P act w (wpOps P ops (pK B nt Q) l) (pK B nt Q)∨(o.asks P act w∧LetsOut (pK B nt Q))else wpOps P ops (pK B nt Q) l (act.put o.dst Go.undef) w):=by
        intro ao vQ YS
        subst vQ
        unfold iQ at h
        rcases jX hg ht h with ⟨hw,hA⟩ | ⟨hw,hB⟩
        ·simp only [hw,if_true]
         left
         split at hA
         ·rename_i d s' qu
          obtain⟨v,w',M',dS,r',hv,e'⟩:=YS d s' qu
          unfold Oper.wp
          rcases dS with dS | ⟨dS,rfl⟩
          ·rw [dS,Oper.upon_value]
           exact ih _ _ _ _ hA (Holds.put e ht hn hd qk e' r' hv)
          ·rw [dS,Oper.upon_skip]
           exact ih _ _ _ _ hA (Holds.put e ht hn hd qk e' r' hv)
         ·exact hA.elim
        ·simp only [hw]
         exact skip True hB
       split at h1
       ·rename_i z k n ps nU
        cases h1
        refine fin _ rfl (fun d s' qu=> ?_)
        split at qu
        ·exact yl nU r ht qu
        ·exact sb nU r ht qu
       ·rename_i ao nU
        cases h1
        exact fin _ rfl (fun d s' qu=>sb nU r ht qu)
       ·cases h1
    ·cases h1
  ·cases hc
end
end Go.Abs

/-! Flow -/

namespace Go.Abs
def Turned (P:Program) (nt:Nat):AC→Code→Prop
 | .skip,c=>c = .skip
 | .run is,c=>∃ id ops,c = .region id ops false∧qE P nt ops ops.toList=some is
 | .par is lC,c=>∃ id ops,c = .region id ops true∧qE P nt ops ops.toList=some is∧P.follows .mixedOrders=true∧∃ pt,HD is (ops.toList.map mJ) pt lC=true
 | .seq a b,c=>∃ x y,c = .seq x y∧cC P nt x=some a∧cC P nt y=some b
 | .cond x a b,c=>∃ o p q,c = .cond o p q∧cX o=some x∧cC P nt p=some a∧cC P nt q=some b
 | .block id a,c=>∃ x,c = .block id x∧cC P nt x=some a
 | .loop a,c=>∃ x,c = .loop x∧cC P nt x=some a
 | .exit id,c=>c = .exit id
 | .scope a,c=>∃ x,c = .scope x∧cC P nt x=some a
 | .label l,c=>c = .label l
 | .goto l,c=>c = .goto l
 | .ret,c=>c = .ret
theorem k8 {P:Program} {nt:Nat} {c:Code} {ac:AC} (h:cC P nt c=some ac):Turned P nt ac c:=by
 cases c with
 | skip=>cases h;rfl
 | region id ops draw=>
  cases draw
  ·obtain⟨is,h1,rfl⟩:=map_some (x:=qE P nt ops ops.toList) (f:=AC.run) (by simpa [cC]using h)
   exact⟨id,ops,rfl,h1⟩
  ·simp only [cC]at h
   split at h
   ·rename_i hm
    obtain⟨is,h1,h2⟩:=Option.bind_eq_some_iff.1 h
    unfold UY at h2
    split at h2
    ·rename_i hp
     cases h2
     exact⟨id,ops,rfl,h1,hm,_,hp⟩
    ·cases h2
   ·cases h
 | seq a b=>
  simp only [cC]at h
  split at h
  ·rename_i a' b' h1 h2;cases h;exact⟨a,b,rfl,h1,h2⟩
  ·cases h
 | cond x a b=>
  simp only [cC]at h
  split at h
  ·rename_i x' a' b' h1 h2 h3;cases h;exact⟨x,a,b,rfl,h1,h2,h3⟩
  ·cases h
 | block id a=>
  obtain⟨a',h1,rfl⟩:=map_some (x:=cC P nt a) (f:=AC.block id) (by simpa [cC]using h)
  exact⟨a,rfl,h1⟩
 | loop a=>
  obtain⟨a',h1,rfl⟩:=map_some (x:=cC P nt a) (f:=AC.loop) (by simpa [cC]using h)
  exact⟨a,rfl,h1⟩
 | rangeFunc f p a b=>simp [cC]at h
 | exit id=>cases h;rfl
 | scope a=>
  obtain⟨a',h1,rfl⟩:=map_some (x:=cC P nt a) (f:=AC.scope) (by simpa [cC]using h)
  exact⟨a,rfl,h1⟩
 | label l=>cases h;rfl
 | goto l=>cases h;rfl
 | ret=>cases h;rfl
 | refuse w=>simp [cC]at h
def Sem (P:Program) (B:fI) (nt:Nat) (ac:AC) (Q:Exit→Tm→St→Prop) (tm:Tm) (s:St):Prop:=
 ∀ c,cC P nt c=some ac→∀ act w,Holds B nt tm s act w→c.wp P (pK B nt Q) act w
def lO (next:Tm→St→Prop) (Q:Exit→Tm→St→Prop):Exit→Tm→St→Prop
 | .normal,tm,s=>next tm s
 | e,tm,s=>Q e tm s
def jP (id:Nat) (Q:Exit→Tm→St→Prop):Exit→Tm→St→Prop
 | .exit i,tm,s=>if i=id then Q .normal tm s else Q (.exit i) tm s
 | e,tm,s=>Q e tm s
section
variable {P:Program} {B:fI} {nt:Nat} {Q:Exit→Tm→St→Prop} {tm:Tm} {s:St}
theorem Sem.mono {ac:AC} {Q':Exit→Tm→St→Prop} (h:Sem P B nt ac Q tm s) (hq : ∀ e tm s,Q e tm s→Q' e tm s):Sem P B nt ac Q' tm s:=
 fun c hc act w hh=>wp_mono (h c hc act w hh) fun _ _ _ ⟨tm,s,h1,h2⟩=>⟨tm,s,hq _ _ _ h1,h2⟩
theorem Sem.skip (h:Q .normal tm s):Sem P B nt .skip Q tm s:=by
 intro c hc act w hh
 cases k8 hc
 exact wp_skip ⟨tm,s,h,hh⟩
theorem Sem.label {l:Nat} (h:Q .normal tm s):Sem P B nt (.label l) Q tm s:=by
 intro c hc act w hh
 cases k8 hc
 exact wp_label ⟨tm,s,h,hh⟩
theorem Sem.exit {id:Nat} (h:Q (.exit id) tm s):Sem P B nt (.exit id) Q tm s:=by
 intro c hc act w hh
 cases k8 hc
 exact wp_exit ⟨tm,s,h,hh⟩
theorem Sem.goto {l:Nat} (h:Q (.goto l) tm s):Sem P B nt (.goto l) Q tm s:=by
 intro c hc act w hh
 cases k8 hc
 exact wp_goto ⟨tm,s,h,hh⟩
theorem Sem.ret (h:Q .ret tm s):Sem P B nt .ret Q tm s:=by
 intro c hc act w hh
 cases k8 hc
 exact wp_ret ⟨tm,s,h,hh⟩
theorem z6 (ops:Array Oper):(List.range ops.size).map (ops[·]?)=ops.toList.map some:=by
 apply List.ext_getElem?
 intro i
 by_cases h:i<ops.size
 ·simp [h]
 ·simp [h]
theorem Sem.run {is:List AI} (h:iQ P is (Q .normal) tm s):Sem P B nt (.run is) Q tm s:=by
 intro c hc act w hh
 obtain⟨id,ops,rfl,hi⟩:=k8 hc
 exact wp_region (zZ (Q:=Q) (List.range ops.size) ops.toList is (z6 ops) hi tm s act w h hh)
theorem Sem.seq {a b:AC} (h:Sem P B nt a (lO (Sem P B nt b Q) Q) tm s):Sem P B nt (.seq a b) Q tm s:=by
 intro c hc act w hh
 obtain⟨x,y,rfl,h1,h2⟩:=k8 hc
 refine wp_seq (wp_mono (h x h1 act w hh) fun e act w hp=> ?_)
 obtain⟨b7,s',hq,jV⟩:=hp
 cases e with
 | normal=>exact hq y h2 act w jV
 | exit id=>exact⟨b7,s',hq,jV⟩
 | goto l=>exact⟨b7,s',hq,jV⟩
 | ret=>exact⟨b7,s',hq,jV⟩
 | panic ch=>exact⟨b7,s',hq,jV⟩
 | outgrown=>exact⟨b7,s',hq,jV⟩
theorem Sem.cond {x:X} {a b:AC} {t:Bool} (hx:x.ev tm = .bool t) (h1:t=true→Sem P B nt a Q tm s) (h2:t=false→Sem P B nt b Q tm s):Sem P B nt (.cond x a b) Q tm s:=by
 intro c hc act w hh
 obtain⟨o,p,q,rfl,g1,g2,g3⟩:=k8 hc
 have jV:=hh
 obtain⟨M,e,r,ht,hn,hd⟩:=hh
 have hv:=cH g1 ht
 rw [hx]at hv
 exact wp_cond_split hv.nz (fun h=>h1 h p g2 act w jV) (fun h=>h2 h q g3 act w jV)
theorem Sem.block {id:Nat} {a:AC} (h:Sem P B nt a (jP id Q) tm s):Sem P B nt (.block id a) Q tm s:=by
 intro c hc act w hh
 obtain⟨x,rfl,h1⟩:=k8 hc
 refine wp_block (wp_mono (h x h1 act w hh) fun e act w hp=> ?_)
 obtain⟨b7,s',hq,jV⟩:=hp
 cases e with
 | exit i=>
  simp only [jP]at hq
  simp only [Exit.inBlock]
  split at hq
  ·rename_i h;rw [if_pos h];exact⟨b7,s',hq,jV⟩
  ·rename_i h;rw [if_neg h];exact⟨b7,s',hq,jV⟩
 | normal=>exact⟨b7,s',hq,jV⟩
 | goto l=>exact⟨b7,s',hq,jV⟩
 | ret=>exact⟨b7,s',hq,jV⟩
 | panic ch=>exact⟨b7,s',hq,jV⟩
 | outgrown=>exact⟨b7,s',hq,jV⟩
def yn (P:Program) (c:Code) (Q:Exit→Act→World→Prop) (a:Act) (w:World):Prop:=
 ∀ (b:Frame) (k:List Item) (cs:List Frame),∃ e a' w',Q e a' w'∧Arrives P (lone (b.at a (.code c:: .inLoop c::k)) cs w) b k cs e a' w'
theorem yn.wp {c:Code} {Q:Exit→Act→World→Prop} {a:Act} {w:World} (h:yn P c Q a w):(Code.loop c).wp P Q a w:=fun b k cs=>
 let ⟨e,a',w',hq,kx⟩:=h b k cs
 ⟨e,a',w',hq, .of_steps (.one step_loop) kx⟩
theorem yn.once {c:Code} {Q:Exit→Act→World→Prop} {a:Act} {w:World} (h:c.wp P (Exit.then (yn P c Q) Q) a w):yn P c Q a w:=by
 intro b k cs
 obtain⟨e,a₁,w₁,hq,kx⟩:=h b (.inLoop c::k) cs
 cases e with
 | normal=>
  obtain⟨e₂,a₂,w₂,YT,LN⟩:=hq b k cs
  exact⟨e₂,a₂,w₂,YT, .of_steps (Steps.trans kx (.one step_inLoop)) LN⟩
 | exit id=>exact⟨_,a₁,w₁,hq, .pass (x:= .inLoop c) rfl (fun _ _=> .inl (by simp)) kx⟩
 | goto l=>exact⟨_,a₁,w₁,hq, .pass (x:= .inLoop c) rfl (fun _ _=> .inl (by simp)) kx⟩
 | ret=>exact⟨_,a₁,w₁,hq, .pass (x:= .inLoop c) rfl (fun _ _=> .inl (by simp)) kx⟩
 | panic ch=>exact⟨_,a₁,w₁,hq, .pass (x:= .inLoop c) rfl (fun _ _=> .inl (by simp)) kx⟩
 | outgrown=>exact⟨_,a₁,w₁,hq, .pass (x:= .inLoop c) rfl (fun _ _=> .inl (by simp)) kx⟩
def a8 (P:Program) (B:fI) (nt:Nat) (ac:AC) (Q:Exit→Tm→St→Prop) (tm:Tm) (s:St):Prop:=
 ∀ c,cC P nt c=some ac→∀ act w,Holds B nt tm s act w→yn P c (pK B nt Q) act w
theorem Sem.loop {a:AC} (h:a8 P B nt a Q tm s):Sem P B nt (.loop a) Q tm s:=by
 intro c hc act w hh
 obtain⟨x,rfl,h1⟩:=k8 hc
 exact(h x h1 act w hh).wp
theorem a8.once {a:AC} (h:Sem P B nt a (lO (a8 P B nt a Q) Q) tm s):a8 P B nt a Q tm s:=by
 intro c hc act w hh
 refine yn.once (wp_mono (h c hc act w hh) fun e act w hp=> ?_)
 obtain⟨b7,s',hq,jV⟩:=hp
 cases e with
 | normal=>exact hq c hc act w jV
 | exit id=>exact⟨b7,s',hq,jV⟩
 | goto l=>exact⟨b7,s',hq,jV⟩
 | ret=>exact⟨b7,s',hq,jV⟩
 | panic ch=>exact⟨b7,s',hq,jV⟩
 | outgrown=>exact⟨b7,s',hq,jV⟩
def uK (P:Program) (c r:Code) (Q:Exit→Act→World→Prop) (a:Act) (w:World):Prop:=
 ∀ (b:Frame) (k:List Item) (cs:List Frame),∃ e a' w',Q e a' w'∧Arrives P (lone (b.at a (.code r:: .inScope c::k)) cs w) b k cs e a' w'
def acB (P:Program) (c:Code) (Q:Exit→Act→World→Prop):Exit→Act→World→Prop
 | .goto l,a,w=>∃ rest,findLabel c l=some rest∧uK P c rest Q a w
 | e,a,w=>Q e a w
theorem uK.wp {c:Code} {Q:Exit→Act→World→Prop} {a:Act} {w:World} (h:uK P c c Q a w):(Code.scope c).wp P Q a w:=fun b k cs=>
 let ⟨e,a',w',hq,kx⟩:=h b k cs
 ⟨e,a',w',hq, .of_steps (.one step_scope) kx⟩
theorem uK.once {c r:Code} {Q:Exit→Act→World→Prop} {a:Act} {w:World} (h:r.wp P (acB P c Q) a w):uK P c r Q a w:=by
 intro b k cs
 obtain⟨e,a₁,w₁,hq,kx⟩:=h b (.inScope c::k) cs
 cases e with
 | normal=>exact⟨.normal,a₁,w₁,hq,Steps.trans kx (.one step_inScope)⟩
 | exit id=>exact⟨.exit id,a₁,w₁,hq,fun k' hk=>kx k' (by simp [exitTo,hk])⟩
 | goto l=>
  obtain⟨rest,hf,hs⟩:=hq
  obtain⟨e₂,a₂,w₂,YT,LN⟩:=hs b k cs
  exact⟨e₂,a₂,w₂,YT, .of_steps (kx _ (by simp [gotoIn,hf])) LN⟩
 | ret=>exact⟨_,a₁,w₁,hq,kx⟩
 | panic ch=>exact⟨_,a₁,w₁,hq,kx⟩
 | outgrown=>exact⟨_,a₁,w₁,hq,kx⟩
def sc:AC→Nat→Option AC
 | .seq a b,l=>
  match sc a l with
  | some r=>some (.seq r b)
  | none=>sc b l
 | .label l',l=>if l'==l then some .skip else none
 | _,_=>none
theorem JW : ∀ {c:Code} {ac:AC},cC P nt c=some ac→∀ l,(sc ac l=none→findLabel c l=none)∧∀ r,sc ac l=some r→∃ rest,findLabel c l=some rest∧cC P nt rest=some r:=by
 intro c
 induction c with
 | seq a b O2 O3=>
  intro ac h l
  simp only [cC]at h
  split at h
  ·rename_i a' b' h1 h2
   cases h
   obtain⟨n1,s1⟩:=O2 h1 l
   obtain⟨n2,s2⟩:=O3 h2 l
   simp only [sc,findLabel]
   cases hf:sc a' l with
   | none=>
    rw [n1 hf]
    exact⟨n2,s2⟩
   | some r=>
    obtain⟨rest,g1,g2⟩:=s1 r hf
    rw [g1]
    refine⟨(by intro h;cases h),fun r' h=> ?_⟩
    cases h
    exact⟨_,rfl,by simp [cC,g2,h2]⟩
  ·cases h
 | label l'=>
  intro ac h l
  cases h
  simp only [sc,findLabel]
  split
  ·exact⟨(by intro h;cases h),(by intro r h;cases h;exact⟨_,rfl,rfl⟩)⟩
  ·exact⟨fun _=>rfl,(by intro r h;cases h)⟩
 | _=>
  intro ac h l
  have:=k8 h
  cases ac <;> simp only [Turned]at this <;> first
   | (exfalso;obtain⟨_,_,this⟩:=this;cases this.1;done)
   | exact⟨fun _=>rfl,(by intro r h;cases h)⟩
   | (exfalso;cases this;done)
   | (exfalso;obtain⟨_,this⟩:=this;cases this.1;done)
   | (exfalso;obtain⟨_,_,_,_,this⟩:=this;cases this.1;done)
def od (P:Program) (B:fI) (nt:Nat) (ac r:AC) (Q:Exit→Tm→St→Prop) (tm:Tm) (s:St):Prop:=
 ∀ c rest,cC P nt c=some ac→cC P nt rest=some r→∀ act w,Holds B nt tm s act w→uK P c rest (pK B nt Q) act w
def jY (P:Program) (B:fI) (nt:Nat) (ac:AC) (Q:Exit→Tm→St→Prop):Exit→Tm→St→Prop
 | .goto l,tm,s=>∃ r,sc ac l=some r∧od P B nt ac r Q tm s
 | e,tm,s=>Q e tm s
theorem Sem.scope {a:AC} (h:od P B nt a a Q tm s):Sem P B nt (.scope a) Q tm s:=by
 intro c hc act w hh
 obtain⟨x,rfl,h1⟩:=k8 hc
 exact(h x x h1 h1 act w hh).wp
theorem od.once {a r:AC} (h:Sem P B nt r (jY P B nt a Q) tm s):od P B nt a r Q tm s:=by
 intro c rest hc G9 act w hh
 refine uK.once (wp_mono (h rest G9 act w hh) fun e act w hp=> ?_)
 obtain⟨b7,s',hq,jV⟩:=hp
 cases e with
 | normal=>exact⟨b7,s',hq,jV⟩
 | exit id=>exact⟨b7,s',hq,jV⟩
 | goto l=>
  obtain⟨r',hf,hs⟩:=hq
  obtain⟨jZ,g1,g2⟩:=(JW hc l).2 r' hf
  exact⟨jZ,g1,hs c jZ hc g2 act w jV⟩
 | ret=>exact⟨b7,s',hq,jV⟩
 | panic ch=>exact⟨b7,s',hq,jV⟩
 | outgrown=>exact⟨b7,s',hq,jV⟩
def Tag.fg (m:Nat):Tag→Tag
 | .tok t y=>if t<m then .tok t y else .shared
 | g=>g
mutual
def D.fg (n m:Nat):D→D
 | .ptr o off=>if o<n then .ptr o off else .junk
 | .dU row off=> .dU (D.il n m row) off
 | .slice g z rows=> .slice (g.fg m) z (D.kr n m rows)
 | .agg cs=> .agg (D.il n m cs)
 | .tuple ds=> .tuple (D.il n m ds)
 | .junk=> .junk
 | .int k x=> .int k x
 | .bool b=> .bool b
 | .str l=> .str l
 | .fB=> .fB
 | .val v=> .val v
 | .fT T o=>if o<n then .fT T o else .junk
 | .gP f cs=> .gP f (D.il n m cs)
 | .gM o=>if o<n then .gM o else .junk
def D.il (n m:Nat):List D→List D
 | []=> []
 | d::r=>D.fg n m d::D.il n m r
def D.kr (n m:Nat):List (List D)→List (List D)
 | []=> []
 | d::r=>D.il n m d::D.kr n m r
end
theorem nV (n m:Nat) : ∀ l,D.il n m l=l.map (D.fg n m)
 | []=>by simp [D.il]
 | d::r=>by simp [D.il,nV n m r]
theorem O4 (n m:Nat) : ∀ l,D.kr n m l=l.map (D.il n m)
 | []=>by simp [D.kr]
 | d::r=>by simp [D.kr,O4 n m r]
def St.cut (s:St) (n m:Nat):St:=⟨(s.aG.take n).map (D.il n m),s.aH.take m⟩
def Tm.fg (n m:Nat) (tm:Tm):Tm:=tm.map fun p=>(p.1,p.2.fg n m)
def Tm.keep (ks:List Nat) (tm:Tm):Tm:=tm.filter fun p=>ks.contains p.1
theorem ql (s:St) (n m:Nat):(s.cut n m).aG.length=min n s.aG.length:=by simp [St.cut]
theorem iL.fg {M:Map} {g:Tag} {z len cap:Nat} {base:Option (Nat×Nat)} (n m:Nat) (h:iL M s g z len base cap):iL M (s.cut n m) (g.fg m) z len base cap:=by
 cases g with
 | full=>exact h
 | shared=>exact h
 | tok t y=>
  simp only [Tag.fg]
  split
  ·rename_i ht
   obtain⟨h1,h2⟩:=h
   refine⟨by simp [St.cut];omega,fun k hk=>h2 k ?_⟩
   simpa [St.cut,List.getElem?_take_of_lt ht]using hk
  ·trivial
theorem RD.fg {M:Map} {d:D} {v:Value} (n m:Nat) (h:RD M s d v):RD M (s.cut n m) (d.fg n m) v:=by
 induction h with
 | junk v=>simp only [D.fg];exact .junk v
 | int k x=>simp only [D.fg];exact .int k x
 | bool b=>simp only [D.fg];exact .bool b
 | str l=>simp only [D.fg];exact .str l
 | fB=>simp only [D.fg];exact .fB
 | val v hv=>simp only [D.fg];exact .val v hv
 | fT T o v h ht hv=>
  simp only [D.fg]
  split
  ·exact .fT T o v (by rw [ql];omega) ht hv
  ·exact .junk _
 | gM o h hm=>
  simp only [D.fg]
  split
  ·exact .gM o (by rw [ql];omega) hm
  ·exact .junk _
 | gP f ds vs hl _ ih=>
  simp only [D.fg,nV]
  refine .gP f _ vs (by simpa using hl) (fun i d v e1 e2=> ?_)
  simp only [List.getElem?_map,Option.map_eq_some_iff]at e1
  obtain⟨d',e1,rfl⟩:=e1
  exact ih i d' v e1 e2
 | ptr o off h hm=>
  simp only [D.fg]
  split
  ·exact .ptr o off (by rw [ql];omega) hm
  ·exact .junk _
 | dU row off b k h1 h2 ih=>
  simp only [D.fg,nV]
  refine .dU _ off b k (fun i d e=> ?_) (fun i d u e eu=> ?_)
  ·simp only [List.getElem?_map,Option.map_eq_some_iff]at e
   obtain⟨d',e,rfl⟩:=e
   exact h1 i d' e
  ·simp only [List.getElem?_map,Option.map_eq_some_iff]at e
   obtain⟨d',e,rfl⟩:=e
   exact ih i d' u e eu
 | jM g z cap hc ht=>simp only [D.fg,D.kr];exact .jM _ z cap hc (ht.fg n m)
 | nw z a cap=>simp only [D.fg,D.kr,Tag.fg];exact .nw z a cap
 | slice g z rows b k cap hl hs h1 h2 ht ih=>
  simp only [D.fg,O4]
  have hlen:(rows.map (D.il n m)).length=rows.length:=by simp
  have key:=RD.slice (M:=M) (s:=s.cut n m) (g.fg m) z (rows.map (D.il n m)) b k cap (by rw [hlen];exact hl) (fun row hr=>by
   obtain⟨lE,h',rfl⟩:=List.mem_map.1 hr
   rw [nV,List.length_map];exact hs lE h')
   (fun i row j d e1 e2=>by
    simp only [List.getElem?_map,Option.map_eq_some_iff]at e1
    obtain⟨lE,e1,rfl⟩:=e1
    rw [nV]at e2
    simp only [List.getElem?_map,Option.map_eq_some_iff]at e2
    obtain⟨d',e2,rfl⟩:=e2
    exact h1 i lE j d' e1 e2)
   (fun i row j d u e1 e2 eu=>by
    simp only [List.getElem?_map,Option.map_eq_some_iff]at e1
    obtain⟨lE,e1,rfl⟩:=e1
    rw [nV]at e2
    simp only [List.getElem?_map,Option.map_eq_some_iff]at e2
    obtain⟨d',e2,rfl⟩:=e2
    exact ih i lE j d' u e1 e2 eu)
   (by rw [hlen];exact ht.fg n m)
  rw [hlen]at key
  exact key
 | agg cells vs hl h1 _ ih=>
  simp only [D.fg,nV]
  refine .agg _ vs (by simpa using hl) h1 (fun i d v e1 e2=> ?_)
  simp only [List.getElem?_map,Option.map_eq_some_iff]at e1
  obtain⟨d',e1,rfl⟩:=e1
  exact ih i d' v e1 e2
 | tuple ds vs hl _ ih=>
  simp only [D.fg,nV]
  refine .tuple _ vs (by simpa using hl) (fun i d v e1 e2=> ?_)
  simp only [List.getElem?_map,Option.map_eq_some_iff]at e1
  obtain⟨d',e1,rfl⟩:=e1
  exact ih i d' v e1 e2
theorem Ei {t k n m:Nat} (h:(s.cut n m).aH[t]? = some (some k)):s.aH[t]? = some (some k):=by
 simp only [St.cut,List.getElem?_take]at h
 split at h
 ·exact h
 ·cases h
theorem uL {t n m:Nat} (h:(s.cut n m).live t):s.live t:=by
 obtain⟨k,hk⟩:=h
 exact⟨k,Ei hk⟩
theorem Rel.cut {M:Map} {w:World} (n m:Nat) (r:Rel M s w):Rel M (s.cut n m) w:=by
 have hF : ∀ o,o<(s.cut n m).aG.length→o<s.aG.length:=fun o h=>by rw [ql]at h;omega
 refine⟨r.comm,fun o ds e=> ?_,fun o ho=>r.k7 o (hF o ho),fun o o' h h'=>r.inj o o' (hF o h) (hF o' h'),fun t k e=>r.tok t k (Ei e),
  fun t b c z o hl e ho=>r.fL t b c z o (uL hl) e (hF o ho),fun t t' b c z c' z' h h' e e'=>r.gq t t' b c z c' z' (uL h) (uL h') e e'⟩
 simp only [St.cut,List.getElem?_map,Option.map_eq_some_iff,List.getElem?_take]at e
 obtain⟨om,e,rfl⟩:=e
 split at e
 ·obtain⟨vs,T,h1,h2,h3,h4⟩:=r.obj o om e
  refine⟨vs,T,h1,by rw [nV];simpa using h2,h3,fun i d v e1 e2=> ?_⟩
  rw [nV]at e1
  simp only [List.getElem?_map,Option.map_eq_some_iff]at e1
  obtain⟨d',e1,rfl⟩:=e1
  exact(h4 i d' v e1 e2).fg n m
 ·cases e
theorem Ext.cut {M0 M:Map} {s0:St} {w0 w:World} {n m:Nat} (e:Ext M0 s0 w0 M s w) (hn:s0.aG.length≤n) (hm:s0.aH.length≤m):Ext M0 s0 w0 M (s.cut n m) w:=by
 have hF : ∀ o,o<(s.cut n m).aG.length→o<s.aG.length:=fun o h=>by rw [ql]at h;omega
 refine⟨⟨e.le.G,by rw [ql];have:=e.le.n;omega,e.le.loc,by simp [St.cut];have:=e.le.t;omega,fun t k h1 h2=>e.le.tk t k h1 (Ei h2)⟩,e.kept,fun o h1 h2=>e.qB o h1 (hF o h2),fun t b c z h=>e.qC t b c z (uL h),e.sZ,e.size,e.os,e.tape,e.output⟩
end
end Go.Abs

/-! Call -/

namespace Go.Abs
def ou:Nat→List D→Tm
 | _,[]=> []
 | n,d::r=>(n,d)::ou (n+1) r
def au:List (Nat×Option (Bool×Nat))→Tm→St→Option (List D)
 | [],_,_=>some []
 | (t,none)::r,tm,s=>match au r tm s with | some l=>some (tm.get t::l) | none=>none
 | (t,some (agg,size))::r,tm,s=>
  match tm.get t with
  | .ptr o off=>
   match s.aG[o]? with
   | some cs=>match part cs off agg size,au r tm s with | some d,some l=>some (d::l) | _,_=>none
   | none=>none
  | _=>none
def aw:List D→D
 | [d]=>d
 | l=> .tuple l
def afM (B:fI) (res:List (Nat×Option (Bool×Nat))) (Q:D→St→Prop):Exit→Tm→St→Prop
 | .normal,tm,s | .ret,tm,s=>∃ l,au res tm s=some l∧∃ n m,B.s.aG.length≤n∧B.s.aH.length≤m∧Q ((aw l).fg n m) (s.cut n m)
 | _,_,_=>False
section
variable {P:Program} {M:Map} {s:St} {w:World}
theorem FB : ∀ (l:List D) (n t:Nat),(ou n l).get t=if n≤t then(l[t - n]?).getD .junk else .junk
 | [],n,t=>by simp [ou,Tm.get]
 | d::r,n,t=>by
  simp only [ou,Tm.get,FB r (n+1) t]
  by_cases h:n=t
  ·subst h;simp
  ·rw [if_neg h]
   by_cases h2:n+1≤t
   ·rw [if_pos h2,if_pos (by omega),show t - n=(t - (n+1))+1 by omega];simp
   ·rw [if_neg h2,if_neg (by omega)]
def z7 (tmps:Array Value):ResultVar→Go.Sem Value
 | .tmp t=>pure (tmps.getD t Go.undef)
 | .cell a t=>do loadVar t (← asAddr (tmps.getD a Go.undef))
theorem Ce (r:Rel M s w) {tm:Tm} {tmps:Array Value} (ht:lM M s tm tmps) : ∀ {rs:List ResultVar} {res:List (Nat×Option (Bool×Nat))} {l:List D},B7 P rs=some res→au res tm s=some l→
 ∃ vs:List Value,(rs.mapM (z7 tmps)).run P w = .ok vs w∧vs.length=l.length∧
  ∀ (i:Nat) (d:D) (v:Value),l[i]? = some d→vs[i]? = some v→RD M s d v
 | [],res,l,hc,hl=>by cases hc;cases hl;exact⟨[],rfl,rfl,by simp⟩
 | .tmp t::rs,res,l,hc,hl=>by
  obtain⟨afN,h1,rfl⟩:=map_some (by simpa [B7]using hc)
  simp only [au]at hl
  split at hl
  ·rename_i l' nQ
   cases hl
   obtain⟨vs,g1,g2,g3⟩:=Ce r ht h1 nQ
   refine⟨tmps.getD t Go.undef::vs, ?_,by simp [g2],fun i d v e1 e2=> ?_⟩
   ·rw [List.mapM_cons]
    simp only [z7,Go.Sem.run_bind,Go.Sem.run_pure,Result.andThen_ok,g1]
   ·cases i with
    | zero=>simp only [List.getElem?_cons_zero,Option.some.injEq]at e1 e2;subst e1;subst e2;exact ht t
    | succ i=>exact g3 i d v (by simpa using e1) (by simpa using e2)
  ·cases hl
 | .cell a t::rs,res,l,hc,hl=>by
  simp only [B7]at hc
  split at hc
  ·rename_i g i afN h1 h2 h3
   cases hc
   simp only [au]at hl
   split at hl
   ·rename_i o off ho
    split at hl
    ·rename_i cs oS
     split at hl
     ·rename_i d l' hd nQ
      cases hl
      obtain⟨vs,g1,g2,g3⟩:=Ce r ht h3 nQ
      have hv:=ht a
      rw [ho]at hv
      have hk:=hv.zQ
      obtain⟨hv,_⟩:=hv.rG
      have acC : ∃ v,(loadVar t ⟨M.mu o,off,none⟩).run P w = .ok v w∧RD M s d v:=by
       obtain⟨fW,T,hh,e9,⟨lD,_⟩,Cc⟩:=r.obj o cs oS
       replace hh:=hh.cells hk
       let n:=if g then i.size else 1
       have kb:off+n≤fW.size:=by
        rcases sG hd with ⟨rfl,hq,_⟩ | ⟨rfl,hq⟩
        ·simp [n];omega
        ·have:=(List.getElem?_eq_some_iff.1 hq).1;simp [n];omega
       have hlen:((fW.toList.drop off).take n).length=n:=by simp;omega
       have hP : ∀ (j:Nat) (u:Value),((fW.toList.drop off).take n)[j]? = some u→fW[off+j]? = some u:=by
        intro j u h
        rw [List.getElem?_take]at h
        split at h
        ·rw [List.getElem?_drop]at h;simpa using h
        ·cases h
       refine⟨_,B8 (w:=w) P h2 h1 (M.mu o) off ((fW.toList.drop off).take n) hlen (fun j u h=>by rw [kP hh];exact hP j u h), ?_⟩
       exact tT hd _ hlen (fun _ u hu=>lD u (Array.mem_toList_iff.1 (List.mem_of_mem_drop (List.mem_of_mem_take hu)))) (fun j d u e1 e2=>Cc _ d u e1 (hP j u e2))
      obtain⟨v,hlv,hvd⟩:=acC
      refine⟨v::vs, ?_,by simp [g2],fun i d' v' e1 e2=> ?_⟩
      ·rw [List.mapM_cons]
       have lD:(z7 tmps (.cell a t)).run P w = .ok v w:=by
        simp only [z7,Go.Sem.run_bind,hv,asAddr,Go.Sem.run_pure,Result.andThen_ok,hlv]
       simp only [Go.Sem.run_bind,lD,Result.andThen_ok,g1,Go.Sem.run_pure]
      ·cases i with
       | zero=>simp only [List.getElem?_cons_zero,Option.some.injEq]at e1 e2;subst e1;subst e2;exact hvd
       | succ i=>exact g3 i d' v' (by simpa using e1) (by simpa using e2)
     ·cases hl
    ·cases hl
   ·cases hl
  ·cases hc
theorem Gy (r:Rel M s w) {tm:Tm} {tmps:Array Value} (ht:lM M s tm tmps) {fn:Func} {res:List (Nat×Option (Bool×Nat))} {l:List D} (hc:B7 P fn.results.toList=some res) (hl:au res tm s=some l) :
 ∃ v,(results fn tmps).run P w = .ok v w∧RD M s (aw l) v:=by
 obtain⟨vs,g1,g2,g3⟩:=Ce (P:=P) r ht hc hl
 have dS:(results fn tmps).run P w = .ok (if h:vs.toArray.size=1 then vs.toArray[0]else .tuple vs.toArray) w:=by
  have e:results fn tmps=(do let vs ← fn.results.mapM (z7 tmps);pure (if h:vs.size=1 then vs[0]else .tuple vs)):=by
   unfold results
   rfl
  rw [e,Array.mapM_eq_mapM_toList]
  simp only [Go.Sem.run_bind,Go.Sem.run_map,g1,Result.andThen_ok,Go.Sem.run_pure]
 refine⟨_,dS, ?_⟩
 clear dS g1 hl
 match l,vs,g2,g3 with
 | [],[],_,_=>exact .tuple [] #[] rfl (by simp)
 | [d],[v],_,g3=>exact g3 0 d v rfl rfl
 | d::d'::l,v::v'::vs,h,g3=>
  have : ¬ ((v::v'::vs).toArray.size=1):=by simp
  rw [dif_neg this]
  exact .tuple _ _ (by simpa using h.symm) (fun i d v e1 e2=>g3 i d v e1 (by simpa using e2))
theorem eU.intro {f:FuncId} {fn:Func} {af:AF} {args:List D} {Q:D→St→Prop} (hf:P.funcs[f]? = some fn) (hc:cF P fn=some af) (hl:args.length≤af.ntmps)
 (h : ∀ B:fI,B.s=s→Sem P B af.ntmps af.body (afM B af.results Q) (ou 0 args) s):eU P f args s Q:=by
 intro M w gw r lk e9 ha
 unfold cF at hc
 split at hc
 ·rename_i c LO
  split at hc
  ·rename_i b res h1 h2
   cases hc
   simp only at h hl
   refine calls_of_wp hf LO ?_
   have hs:=h ⟨M,s,w,lk,fun b o v e=>r.Eb e⟩ rfl c h1 {tmps:=gw++Array.replicate (fn.ntmps - gw.size) Go.undef,defers:= []} w
    ⟨M,Ext.refl M s w,r,fun t=>by
     rw [FB]
     simp only [Nat.zero_le,if_true,Nat.sub_zero]
     cases hd:args[t]? with
     | none=>exact .junk _
     | some d=>
      have hF:=(List.getElem?_eq_some_iff.1 hd).1
      have hv:gw[t]? = some gw[t]:=Array.getElem?_eq_getElem (by omega)
      have:(gw++Array.replicate (fn.ntmps - gw.size) Go.undef).getD t Go.undef=gw[t]:=by
       rw [Array.getD_eq_getD_getElem?,Array.getElem?_append_left (by omega),hv];rfl
      rw [this]
      exact ha t d _ hd hv,by simp;omega,rfl⟩
   refine wp_mono hs fun e act w' hp=> ?_
   obtain⟨tm,s',hq,M',afO,r',ht,_,hdf⟩:=hp
   have fin:(∃ l,au res tm s'=some l∧∃ n m,s.aG.length≤n∧s.aH.length≤m∧Q ((aw l).fg n m) (s'.cut n m))→act.defers = []∧∃ v,(results fn act.tmps).run P w' = .ok v w'∧
    ∃ M' d v' s',Ending.returned v = .returned v'∧Q d s'∧Ext M s w M' s' w'∧Rel M' s' w'∧RD M' s' d v':=by
    rintro⟨l,hl,n,m,hn,hm,hQ⟩
    obtain⟨v,dS,pR⟩:=Gy (P:=P) r' ht h2 hl
    exact⟨hdf,v,dS,M',_,v,_,rfl,hQ,afO.cut hn hm,r'.cut n m,pR.fg n m⟩
   cases e with
   | normal=>exact fin hq
   | ret=>exact fin hq
   | exit id=>exact hq.elim
   | goto l=>exact hq.elim
   | panic ch=>exact hq.elim
   | outgrown=>exact hq.elim
  ·cases hc
 ·cases hc
end
end Go.Abs

/-! Frame -/

namespace Go.Abs
def Tag.ok (m:Nat):Tag→Bool
 | .tok t _=>decide (t<m)
 | _=>true
def Tag.dW (ts:List Nat):Tag→Tag
 | .tok t y=>match ts[t]? with | some t'=> .tok t' y | none=> .shared
 | g=>g
mutual
def D.ok (n m:Nat):D→Bool
 | .ptr o _=>decide (o<n)
 | .dU row _=>D.bR n m row
 | .slice g _ rows=>g.ok m && D.ji n m rows
 | .agg cs=>D.bR n m cs
 | .tuple ds=>D.bR n m ds
 | .fT _ o=>decide (o<n)
 | .gP _ cs=>D.bR n m cs
 | .gM o=>decide (o<n)
 | _=>true
def D.bR (n m:Nat):List D→Bool
 | []=>true
 | d::r=>D.ok n m d && D.bR n m r
def D.ji (n m:Nat):List (List D)→Bool
 | []=>true
 | d::r=>D.bR n m d && D.ji n m r
end
mutual
def D.dW (os ts:List Nat):D→D
 | .ptr o off=>match os[o]? with | some o'=> .ptr o' off | none=> .junk
 | .dU row off=> .dU (D.gA os ts row) off
 | .slice g z rows=> .slice (g.dW ts) z (D.s7 os ts rows)
 | .agg cs=> .agg (D.gA os ts cs)
 | .tuple ds=> .tuple (D.gA os ts ds)
 | .junk=> .junk
 | .int k x=> .int k x
 | .bool b=> .bool b
 | .str l=> .str l
 | .fB=> .fB
 | .val v=> .val v
 | .fT T o=>match os[o]? with | some o'=> .fT T o' | none=> .junk
 | .gP f cs=> .gP f (D.gA os ts cs)
 | .gM o=>match os[o]? with | some o'=> .gM o' | none=> .junk
def D.gA (os ts:List Nat):List D→List D
 | []=> []
 | d::r=>D.dW os ts d::D.gA os ts r
def D.s7 (os ts:List Nat):List (List D)→List (List D)
 | []=> []
 | d::r=>D.gA os ts d::D.s7 os ts r
end
theorem fU (os ts:List Nat) : ∀ l,D.gA os ts l=l.map (D.dW os ts)
 | []=>by simp [D.gA]
 | d::r=>by simp [D.gA,fU os ts r]
theorem Bf (os ts:List Nat) : ∀ l,D.s7 os ts l=l.map (D.gA os ts)
 | []=>by simp [D.s7]
 | d::r=>by simp [D.s7,Bf os ts r]
theorem Aa (n m:Nat) : ∀ l,D.bR n m l=l.all (D.ok n m)
 | []=>by simp [D.bR]
 | d::r=>by simp [D.bR,Aa n m r]
theorem C4 (n m:Nat) : ∀ l,D.ji n m l=l.all (D.bR n m)
 | []=>by simp [D.ji]
 | d::r=>by simp [D.ji,C4 n m r]
theorem uM {n m:Nat} {l:List D} (h:D.bR n m l=true) {i:Nat} {d:D} (e:l[i]? = some d):D.ok n m d=true:=by
 rw [Aa]at h;exact List.all_eq_true.1 h d (List.mem_of_getElem? e)
theorem WL {n m:Nat} {l:List (List D)} (h:D.ji n m l=true) {i:Nat} {d:List D} (e:l[i]? = some d):D.bR n m d=true:=by
 rw [C4]at h;exact List.all_eq_true.1 h d (List.mem_of_getElem? e)
section
variable {M M0:Map} {s s0:St} {os ts:List Nat}
theorem iL.Ha (kC : ∀ (i:Nat) t,ts[i]? = some t→M0.be i=M.be t) (ht : ∀ (i t:Nat),ts[i]? = some t→s0.aH[i]? = s.aH[t]?) (hlen:s0.aH.length=ts.length) {g:Tag} {z len cap:Nat} {base:Option (Nat×Nat)} (FC:g.ok ts.length=true) (h:iL M s (g.dW ts) z len base cap):iL M0 s0 g z len base cap:=by
 cases g with
 | full=>exact h
 | shared=>exact h
 | tok t y=>
  have hF:t<ts.length:=by simpa [Tag.ok]using FC
  have e:ts[t]? = some ts[t]:=List.getElem?_eq_getElem hF
  simp only [Tag.dW,e]at h
  obtain⟨h1,h2⟩:=h
  refine⟨by omega,fun n hn=> ?_⟩
  rw [ht t _ e]at hn
  rw [kC t _ e]
  exact h2 n hn
theorem RD.Ha (hG:M0.G=M.G) (Ab : ∀ (i:Nat) o,os[i]? = some o→M0.loc i=M.loc o) (oM:s0.aG.length=os.length)
 (kC : ∀ (i:Nat) t,ts[i]? = some t→M0.be i=M.be t) (ht : ∀ (i t:Nat),ts[i]? = some t→s0.aH[i]? = s.aH[t]?) (hlen:s0.aH.length=ts.length) {d:D} {v:Value} (h:RD M s d v) :
 ∀ d0:D,d0.dW os ts=d→d0.ok os.length ts.length=true→RD M0 s0 d0 v:=by
 have qs : ∀ (i:Nat) o,os[i]? = some o→M0.mu i=M.mu o:=fun i o h=>congrArg Prod.fst (Ab i o h)
 have tag:=fun {g z len cap base}=>@iL.Ha M M0 s s0 ts kC ht hlen g z len cap base
 induction h with
 | junk v=>
  intro d0 e ok
  cases d0 <;> simp only [D.dW]at e <;> try (cases e;done)
  ·exact .junk v
  ·rename_i o off
   have hF:o<os.length:=by simpa [D.ok]using ok
   rw [List.getElem?_eq_getElem hF]at e;cases e
  ·rename_i T o
   have hF:o<os.length:=by simpa [D.ok]using ok
   rw [List.getElem?_eq_getElem hF]at e;cases e
  ·rename_i o
   have hF:o<os.length:=by simpa [D.ok]using ok
   rw [List.getElem?_eq_getElem hF]at e;cases e
 | val v hv=>intro d0 e ok;cases d0 <;> simp only [D.dW]at e <;> first | (cases e;exact .val _ hv) | (split at e <;> cases e) | cases e
 | fT T o v ho ht hv=>
  intro d0 e ok
  cases d0 <;> simp only [D.dW]at e <;> first | (split at e <;> cases e;done) | skip
  all_goals try (cases e;done)
  rename_i T0 o0
  have hF:o0<os.length:=by simpa [D.ok]using ok
  rw [List.getElem?_eq_getElem hF]at e
  cases e
  have hl:=Ab o0 _ (List.getElem?_eq_getElem hF)
  exact .fT _ o0 v (by omega) ((congrArg (fun x=>x.2.ty?) hl).trans ht) (by rw [qs o0 _ (List.getElem?_eq_getElem hF)];exact hv)
 | int k x=>intro d0 e ok;cases d0 <;> simp only [D.dW]at e <;> first | (cases e;exact .int _ _) | (split at e <;> cases e) | cases e
 | bool b=>intro d0 e ok;cases d0 <;> simp only [D.dW]at e <;> first | (cases e;exact .bool _) | (split at e <;> cases e) | cases e
 | str l=>intro d0 e ok;cases d0 <;> simp only [D.dW]at e <;> first | (cases e;exact .str _) | (split at e <;> cases e) | cases e
 | fB=>intro d0 e ok;cases d0 <;> simp only [D.dW]at e <;> first | (cases e;exact .fB) | (split at e <;> cases e) | cases e
 | gM o ho hm=>
  intro d0 e ok
  cases d0 <;> simp only [D.dW]at e <;> first | (cases e;done) | skip
  all_goals try (split at e <;> cases e;done)
  rename_i o0
  have hF:o0<os.length:=by simpa [D.ok]using ok
  rw [List.getElem?_eq_getElem hF]at e
  cases e
  rw [← qs o0 _ (List.getElem?_eq_getElem hF)]
  exact RD.gM (s:=s0) o0 (by omega) ((congrArg Prod.snd (Ab o0 _ (List.getElem?_eq_getElem hF))).trans hm)
 | gP f ds vs hl _ ih=>
  intro d0 e ok
  cases d0 <;> simp only [D.dW]at e <;> first | (split at e <;> cases e;done) | skip
  all_goals try (cases e;done)
  rename_i f0 O5
  simp only [D.gP.injEq]at e
  obtain⟨rfl,rfl⟩:=e
  simp only [D.ok]at ok
  rw [fU]at hl ih
  refine .gP _ O5 vs (by simpa using hl) (fun i d v e1 e2=>ih i _ v (by rw [List.getElem?_map,e1];rfl) e2 d rfl (uM ok e1))
 | ptr o off ho hm=>
  intro d0 e ok
  cases d0 <;> simp only [D.dW]at e <;> first | (cases e;done) | skip
  all_goals try (split at e <;> cases e;done)
  rename_i o0 YU
  have hF:o0<os.length:=by simpa [D.ok]using ok
  rw [List.getElem?_eq_getElem hF]at e
  cases e
  rw [← qs o0 _ (List.getElem?_eq_getElem hF)]
  exact RD.ptr (s:=s0) o0 _ (by omega) (by rw [show M0.ob o0=_ from congrArg Prod.snd (Ab o0 _ (List.getElem?_eq_getElem hF))];exact hm)
 | dU row off b k h1 h2 ih=>
  intro d0 e ok
  cases d0 <;> simp only [D.dW]at e <;> first | (split at e <;> cases e;done) | skip
  all_goals try (cases e;done)
  rename_i afP YU
  simp only [D.dU.injEq]at e
  obtain⟨rfl,rfl⟩:=e
  simp only [D.ok]at ok
  rw [fU]at h1 ih
  refine .dU afP YU b k (fun i d e=> ?_) (fun i d u e eu=> ?_)
  ·rw [hG];exact h1 i _ (by rw [List.getElem?_map,e];rfl)
  ·rw [hG]at eu;exact ih i _ u (by rw [List.getElem?_map,e];rfl) eu d rfl (uM ok e)
 | jM g z cap hc mq=>
  intro d0 e ok
  cases d0 <;> simp only [D.dW]at e <;> first | (split at e <;> cases e;done) | skip
  all_goals try (cases e;done)
  rename_i g0 z0 tX
  simp only [D.slice.injEq]at e
  obtain⟨rfl,rfl,e⟩:=e
  have:tX = []:=by cases tX <;> simp [D.s7]at e;rfl
  subst this
  simp only [D.ok,Bool.and_eq_true]at ok
  exact .jM g0 z0 cap hc (tag ok.1 mq)
 | nw z a cap=>
  intro d0 e ok
  cases d0 <;> simp only [D.dW]at e <;> first | (split at e <;> cases e;done) | skip
  all_goals try (cases e;done)
  rename_i g0 z0 tX
  simp only [D.slice.injEq]at e
  obtain⟨hg,rfl,e⟩:=e
  have:tX = []:=by cases tX <;> simp [D.s7]at e;rfl
  subst this
  simp only [D.ok,Bool.and_eq_true]at ok
  have:g0 = .shared:=by
   cases g0 with
   | tok t y=>
    have ht:t<ts.length:=by simpa [Tag.ok]using ok.1
    simp [Tag.dW,ht]at hg
   | shared=>rfl
   | _=>simp [Tag.dW]at hg
  subst this
  exact .nw _ a cap
 | slice g z rows b k cap hl hs h1 h2 mq ih=>
  intro d0 e ok
  cases d0 <;> simp only [D.dW]at e <;> first | (split at e <;> cases e;done) | skip
  all_goals try (cases e;done)
  rename_i g0 z0 tX
  simp only [D.slice.injEq]at e
  obtain⟨rfl,rfl,rfl⟩:=e
  simp only [D.ok,Bool.and_eq_true]at ok
  rw [Bf]at hl hs h1 ih mq
  simp only [Bf,List.length_map]at hl mq ⊢
  have fa : ∀ (i:Nat) (row:List D),tX[i]? = some row→(tX.map (D.gA os ts))[i]? = some (D.gA os ts row):=fun i row e=>by rw [List.getElem?_map,e];rfl
  have vL : ∀ (row:List D) (j:Nat) (d:D),row[j]? = some d→(D.gA os ts row)[j]? = some (D.dW os ts d):=fun row j d e=>by rw [fU,List.getElem?_map,e];rfl
  refine .slice g0 z0 tX b k cap hl (fun row hr=> ?_) (fun i row j d e1 e2=> ?_) (fun i row j d u e1 e2 eu=> ?_) (tag ok.1 mq)
  ·have:=hs (D.gA os ts row) (List.mem_map.2 ⟨row,hr,rfl⟩)
   rwa [fU,List.length_map]at this
  ·rw [hG];exact h1 i _ j _ (fa i row e1) (vL row j d e2)
  ·rw [hG]at eu;exact ih i _ j _ u (fa i row e1) (vL row j d e2) eu d rfl (uM (WL ok.2 e1) e2)
 | agg cells vs hl h1 _ ih=>
  intro d0 e ok
  cases d0 <;> simp only [D.dW]at e <;> first | (split at e <;> cases e;done) | skip
  all_goals try (cases e;done)
  rename_i O5
  simp only [D.agg.injEq]at e
  subst e
  simp only [D.ok]at ok
  rw [fU]at hl ih
  refine .agg O5 vs (by simpa using hl) h1 (fun i d v e1 e2=>ih i _ v (by rw [List.getElem?_map,e1];rfl) e2 d rfl (uM ok e1))
 | tuple ds vs hl _ ih=>
  intro d0 e ok
  cases d0 <;> simp only [D.dW]at e <;> first | (split at e <;> cases e;done) | skip
  all_goals try (cases e;done)
  rename_i O5
  simp only [D.tuple.injEq]at e
  subst e
  simp only [D.ok]at ok
  rw [fU]at hl ih
  refine .tuple O5 vs (by simpa using hl) (fun i d v e1 e2=>ih i _ v (by rw [List.getElem?_map,e1];rfl) e2 d rfl (uM ok e1))
theorem RD.dW (hG:M0.G=M.G) (Ab : ∀ i,i<s0.aG.length→∃ o,os[i]? = some o∧o<s.aG.length∧M.loc o=M0.loc i)
 (kC : ∀ i,i<s0.aH.length→∃ t,ts[i]? = some t∧t<s.aH.length∧s.aH[t]? = s0.aH[i]? ∧M.be t=M0.be i) {d:D} {v:Value} (h:RD M0 s0 d v):RD M s (d.dW os ts) v:=by
 have tag : ∀ {g:Tag} {z len cap:Nat} {base:Option (Nat×Nat)},iL M0 s0 g z len base cap→iL M s (g.dW ts) z len base cap:=by
  intro g z len cap base h
  cases g with
  | full=>exact h
  | shared=>exact h
  | tok t y=>
   obtain⟨h1,h2⟩:=h
   obtain⟨t',e,hF,htk,hb⟩:=kC t h1
   simp only [Tag.dW,e]
   refine⟨hF,fun n hn=> ?_⟩
   rw [hb]
   exact h2 n (htk ▸ hn)
 induction h with
 | junk v=>simp only [D.dW];exact .junk v
 | int k x=>simp only [D.dW];exact .int k x
 | bool b=>simp only [D.dW];exact .bool b
 | str l=>simp only [D.dW];exact .str l
 | fB=>simp only [D.dW];exact .fB
 | ptr o off ho hk=>
  obtain⟨o',e,hF,hm⟩:=Ab o ho
  simp only [D.dW,e]
  have hb:M.ob o'=M0.ob o:=congrArg Prod.snd hm
  have hm:M.mu o'=M0.mu o:=congrArg Prod.fst hm
  rw [← hm]
  exact .ptr o' off hF (by rw [hb];exact hk)
 | gM o ho hk=>
  obtain⟨o',e,hF,hm⟩:=Ab o ho
  simp only [D.dW,e]
  have hb:M.ob o'=M0.ob o:=congrArg Prod.snd hm
  have hm:M.mu o'=M0.mu o:=congrArg Prod.fst hm
  rw [← hm]
  exact .gM o' hF (by rw [hb];exact hk)
 | gP f ds vs hl _ ih=>
  simp only [D.dW,fU]
  refine .gP f _ vs (by simpa using hl) (fun i d v e1 e2=> ?_)
  simp only [List.getElem?_map,Option.map_eq_some_iff]at e1
  obtain⟨d',e1,rfl⟩:=e1
  exact ih i d' v e1 e2
 | val v hv=>simp only [D.dW];exact .val v hv
 | fT T o v ho ht hv=>
  obtain⟨o',e,hF,hm⟩:=Ab o ho
  simp only [D.dW,e]
  have h1:M.mu o'=M0.mu o:=congrArg Prod.fst hm
  have h2:M.ty o'=M0.ty o:=congrArg (fun x=>x.2.ty?) hm
  exact .fT T o' v hF (by rw [h2];exact ht) (by rw [h1];exact hv)
 | dU row off b k h1 h2 ih=>
  simp only [D.dW,fU]
  refine .dU _ off b k (fun i d e=> ?_) (fun i d u e eu=> ?_)
  ·simp only [List.getElem?_map,Option.map_eq_some_iff]at e
   obtain⟨d',e,rfl⟩:=e
   rw [← hG];exact h1 i d' e
  ·simp only [List.getElem?_map,Option.map_eq_some_iff]at e
   obtain⟨d',e,rfl⟩:=e
   rw [← hG]at eu;exact ih i d' u e eu
 | jM g z cap hc ht=>simp only [D.dW,D.s7];exact .jM _ z cap hc (tag ht)
 | nw z a cap=>simp only [D.dW,D.s7,Tag.dW];exact .nw z a cap
 | slice g z rows b k cap hl hs h1 h2 ht ih=>
  simp only [D.dW,Bf]
  have hlen:(rows.map (D.gA os ts)).length=rows.length:=by simp
  have key:=RD.slice (M:=M) (s:=s) (g.dW ts) z (rows.map (D.gA os ts)) b k cap (by rw [hlen];exact hl) (fun row hr=>by
   obtain⟨lE,h',rfl⟩:=List.mem_map.1 hr
   rw [fU,List.length_map];exact hs lE h')
   (fun i row j d e1 e2=>by
    simp only [List.getElem?_map,Option.map_eq_some_iff]at e1
    obtain⟨lE,e1,rfl⟩:=e1
    rw [fU]at e2
    simp only [List.getElem?_map,Option.map_eq_some_iff]at e2
    obtain⟨d',e2,rfl⟩:=e2
    rw [← hG];exact h1 i lE j d' e1 e2)
   (fun i row j d u e1 e2 eu=>by
    simp only [List.getElem?_map,Option.map_eq_some_iff]at e1
    obtain⟨lE,e1,rfl⟩:=e1
    rw [fU]at e2
    simp only [List.getElem?_map,Option.map_eq_some_iff]at e2
    obtain⟨d',e2,rfl⟩:=e2
    rw [← hG]at eu;exact ih i lE j d' u e1 e2 eu)
   (by rw [hlen];exact tag ht)
  rw [hlen]at key
  exact key
 | agg cells vs hl h1 _ ih=>
  simp only [D.dW,fU]
  refine .agg _ vs (by simpa using hl) h1 (fun i d v e1 e2=> ?_)
  simp only [List.getElem?_map,Option.map_eq_some_iff]at e1
  obtain⟨d',e1,rfl⟩:=e1
  exact ih i d' v e1 e2
 | tuple ds vs hl _ ih=>
  simp only [D.dW,fU]
  refine .tuple _ vs (by simpa using hl) (fun i d v e1 e2=> ?_)
  simp only [List.getElem?_map,Option.map_eq_some_iff]at e1
  obtain⟨d',e1,rfl⟩:=e1
  exact ih i d' v e1 e2
def ky {α:Type} : List Nat→List α→List α→List α
 | [],new,l=>l++new
 | _::_,[],l=>l
 | o::os,x::xs,l=>ky os xs (l.set o x)
def ku (os:List Nat) (n k:Nat):List Nat:=os++(List.range k).map (n + ·)
theorem wM {α:Type} : ∀ (os:List Nat) (xs l:List α),os.length≤xs.length→(ky os xs l).length=l.length+(xs.length - os.length)
 | [],xs,l,_=>by simp [ky]
 | o::os,[],l,h=>by simp at h
 | o::os,x::xs,l,h=>by
  simp only [ky]
  rw [wM os xs _ (by simpa using h)]
  simp
theorem Cf {α:Type} : ∀ (os:List Nat) (xs l:List α),os.length≤xs.length→os.Nodup→(∀ o∈os,o<l.length)→
 (∀ (i:Nat) (o:Nat),os[i]? = some o→(ky os xs l)[o]? = xs[i]?)∧(∀ o,o<l.length→o∉os→(ky os xs l)[o]? = l[o]?)∧
 (∀ k,(ky os xs l)[l.length+k]? = xs[os.length+k]?)
 | [],xs,l,_,_,_=>by
  refine⟨by simp,fun o ho _=>by simp only [ky];rw [List.getElem?_append_left ho],fun k=>by simp only [ky];rw [List.getElem?_append_right (by omega)];simp⟩
 | o::os,[],l,h,_,_=>by simp at h
 | o::os,x::xs,l,h,hn,hF=>by
  simp only [List.nodup_cons]at hn
  have BM : ∀ q∈os,q<(l.set o x).length:=fun q hq=>by simpa using hF q (by simp [hq])
  obtain⟨h1,h2,h3⟩:=Cf os xs (l.set o x) (by simpa using h) hn.2 BM
  have ho:o<l.length:=hF o (by simp)
  simp only [ky]
  refine⟨fun i q e=> ?_,fun q hq O6=> ?_,fun k=> ?_⟩
  ·cases i with
   | zero=>
    simp only [List.getElem?_cons_zero,Option.some.injEq]at e
    subst e
    rw [h2 o (by simpa using ho) hn.1]
    simp [ho]
   | succ i=>simpa using h1 i q (by simpa using e)
  ·have Vf:q≠o:=fun e=>O6 (by simp [e])
   rw [h2 q (by simpa using hq) (fun h=>O6 (by simp [h])),List.getElem?_set_ne (Ne.symm Vf)]
  ·have:=h3 k
   simp only [List.length_set]at this
   rw [this]
   simp only [List.length_cons]
   rw [show os.length+1+k=(os.length+k)+1 by omega];simp
theorem BN (os:List Nat) (n k i:Nat):(ku os n k)[i]? = if i<os.length then os[i]? else if i<os.length+k then some (n+(i - os.length))else none:=by
 unfold ku
 split
 ·rename_i h;rw [List.getElem?_append_left h]
 ·rename_i h
  rw [List.getElem?_append_right (by omega)]
  split
  ·rename_i h2
   rw [List.getElem?_map,List.getElem?_range (by omega)];rfl
  ·rename_i h2
   rw [List.getElem?_eq_none]
   simp;omega
def posOf:List Nat→Nat→Option Nat
 | [],_=>none
 | x::r,o=>if x=o then some 0 else(posOf r o).map (· + 1)
theorem iN : ∀ {l:List Nat} {o i:Nat},posOf l o=some i→l[i]? = some o
 | x::r,o,i,h=>by
  simp only [posOf]at h
  split at h
  ·rename_i e;cases h;simp [e]
  ·cases hp:posOf r o with
   | none=>rw [hp]at h;cases h
   | some j=>rw [hp]at h;cases h;simpa using iN hp
theorem lQ : ∀ {l:List Nat} {o i:Nat},l.Nodup→l[i]? = some o→posOf l o=some i
 | x::r,o,i,hn,h=>by
  simp only [List.nodup_cons]at hn
  simp only [posOf]
  cases i with
  | zero=>simp at h;simp [h]
  | succ i=>
   simp at h
   have:x≠o:=fun e=>hn.1 (by rw [e];exact List.mem_of_getElem? h)
   rw [if_neg this,lQ hn.2 h];rfl
end
end Go.Abs

/-! Frame2 -/

namespace Go.Abs
theorem zk {l:List Nat} {n k:Nat} (h:l.Nodup) (hl : ∀ o∈l,o<n):(ku l n k).Nodup:=by
 unfold ku
 rw [List.nodup_append]
 refine⟨h, ?_,fun a ha b hb=> ?_⟩
 ·rw [List.nodup_iff_pairwise_ne,List.pairwise_map]
  exact List.Pairwise.imp (fun h=>by omega) (List.nodup_iff_pairwise_ne.1 List.nodup_range)
 ·obtain⟨c,hc,rfl⟩:=List.mem_map.1 hb
  have:=hl a ha
  omega
def ke (M:Map) (os ts:List Nat):Map:=⟨M.G,fun i=>M.loc (os.getD i 0),fun i=>M.be (ts.getD i 0)⟩
def xB (M M0:Map) (os ts:List Nat):Map:=
 ⟨M0.G,fun o=>match posOf os o with | some i=>M0.loc i | none=>M.loc o,fun t=>match posOf ts t with | some i=>M0.be i | none=>M.be t⟩
section
variable {P:Program} {M:Map} {s s0:St} {w:World} {os ts:List Nat}
theorem Bg {l:List Nat} {i o:Nat} (h:l[i]? = some o):l.getD i 0=o:=by simp [List.getD,h]
theorem Rel.sub (r:Rel M s w) (FD:os.Nodup) (KR:ts.Nodup) (oM : ∀ o∈os,o<s.aG.length)
 (ho:s0.aG.length=os.length) (R3 : ∀ (i o:Nat) (ds:List D),os[i]? = some o→s0.aG[i]? = some ds→s.aG[o]? = some (D.gA os ts ds)∧D.bR os.length ts.length ds=true)
 (ht:s0.aH.length=ts.length) (s4 : ∀ (i t:Nat),ts[i]? = some t→s0.aH[i]? = s.aH[t]?):Rel (ke M os ts) s0 w:=by
 have nth : ∀ i,i<s0.aG.length→∃ o,os[i]? = some o∧o<s.aG.length:=fun i hi=>⟨os[i],List.getElem?_eq_getElem (by omega),oM _ (List.getElem_mem _)⟩
 have loc : ∀ (i:Nat) o,os[i]? = some o→(ke M os ts).loc i=M.loc o:=fun i o h=>by simp only [ke,Bg h]
 have mu : ∀ (i:Nat) o,os[i]? = some o→(ke M os ts).mu i=M.mu o:=fun i o h=>congrArg Prod.fst (loc i o h)
 have be : ∀ (i:Nat) t,ts[i]? = some t→(ke M os ts).be i=M.be t:=fun i t h=>by simp only [ke,Bg h]
 have Vg : ∀ t,s0.live t→∃ t',ts[t]? = some t'∧s.live t':=fun t ⟨n,hn⟩=>by
  have hF:=(List.getElem?_eq_some_iff.1 hn).1
  have e:ts[t]? = some ts[t]:=List.getElem?_eq_getElem (by omega)
  exact⟨_,e,n,by rw [← s4 t _ e];exact hn⟩
 refine⟨r.comm,fun i ds e=> ?_,fun i hi off=> ?_,fun i i' hi ik e=> ?_,fun t n e=> ?_,fun t b c z i hl e hi=> ?_,fun t t' b c z c' z' h h' e e'=> ?_⟩
 ·obtain⟨o,h1,_⟩:=nth i (List.getElem?_eq_some_iff.1 e).1
  obtain⟨h2,h3⟩:=R3 i o ds h1 e
  obtain⟨vs,T,g1,g2,g3,g4⟩:=r.obj o _ h2
  refine⟨vs,T,by rw [mu i o h1,show(ke M os ts).ob i=M.ob o from congrArg Prod.snd (loc i o h1)];exact g1,by rw [fU]at g2;simpa using g2,⟨g3.1,by rw [show(ke M os ts).ty i=M.ty o from congrArg (fun x=>x.2.ty?) (loc i o h1)];exact g3.2⟩,fun j d v e1 e2=> ?_⟩
  exact RD.Ha (M:=M) (M0:=ke M os ts) (s:=s) rfl loc ho be s4 ht (g4 j (d.dW os ts) v (by rw [fU,List.getElem?_map,e1];rfl) e2) d rfl (uM h3 e1)
 ·obtain⟨o,h1,h2⟩:=nth i hi
  rw [mu i o h1];exact r.k7 o h2 off
 ·obtain⟨o,h1,h2⟩:=nth i hi
  obtain⟨o',pE,sJ⟩:=nth i' ik
  rw [mu i o h1,mu i' o' pE]at e
  have:=r.inj o o' h2 sJ e
  subst this
  have a:=lQ FD h1
  have b:=lQ FD pE
  rw [a]at b;cases b;rfl
 ·obtain⟨t',h1,h2⟩:=Vg t ⟨n,e⟩
  rw [be t t' h1]
  exact r.tok t' n (by rw [← s4 t t' h1];exact e)
 ·obtain⟨t',h1,h2⟩:=Vg t hl
  obtain⟨o,h3,h4⟩:=nth i hi
  rw [be t t' h1]at e
  rw [mu i o h3]
  exact r.fL t' b c z o h2 e h4
 ·obtain⟨q,h1,h2⟩:=Vg t h
  obtain⟨q',pE,sJ⟩:=Vg t' h'
  rw [be t q h1]at e
  rw [be t' q' pE]at e'
  have:=r.gq q q' b c z c' z' h2 sJ e e'
  subst this
  have a:=lQ KR h1
  have b:=lQ KR pE
  rw [a]at b;cases b;rfl
end
def St.back (s:St) (os ts:List Nat) (s':St):St:=
 ⟨ky os (s'.aG.map (D.gA (ku os s.aG.length (s'.aG.length - os.length)) (ku ts s.aH.length (s'.aH.length - ts.length)))) s.aG,ky ts s'.aH s.aH⟩
def D.back (s:St) (os ts:List Nat) (s':St) (d:D):D:=
 d.dW (ku os s.aG.length (s'.aG.length - os.length)) (ku ts s.aH.length (s'.aH.length - ts.length))
theorem eU.frame {P:Program} {f:FuncId} {LP args:List D} {s s0:St} {Q0 Q:D→St→Prop} (os ts:List Nat) (h:eU P f LP s0 Q0) (FD:os.Nodup) (KR:ts.Nodup) (oM : ∀ o∈os,o<s.aG.length) (OD : ∀ t∈ts,t<s.aH.length)
 (ho:s0.aG.length=os.length) (R3 : ∀ (i o:Nat) (ds:List D),os[i]? = some o→s0.aG[i]? = some ds→s.aG[o]? = some (D.gA os ts ds)∧D.bR os.length ts.length ds=true)
 (ht:s0.aH.length=ts.length) (s4 : ∀ (i t:Nat),ts[i]? = some t→s0.aH[i]? = s.aH[t]?)
 (Hb:args=D.gA os ts LP) (FC:D.bR os.length ts.length LP=true) (k : ∀ d s',Q0 d s'→Q (d.back s os ts s') (s.back os ts s')):eU P f args s Q:=by
 intro M w gw r lk e9 ha
 have r0:=r.sub FD KR oM ho R3 ht s4
 have loc : ∀ (i:Nat) o,os[i]? = some o→(ke M os ts).loc i=M.loc o:=fun i o h=>by simp only [ke,Bg h]
 have mu : ∀ (i:Nat) o,os[i]? = some o→(ke M os ts).mu i=M.mu o:=fun i o h=>congrArg Prod.fst (loc i o h)
 have be : ∀ (i:Nat) t,ts[i]? = some t→(ke M os ts).be i=M.be t:=fun i t h=>by simp only [ke,Bg h]
 subst Hb
 have YV:Laid (ke M os ts) s0 w:=by
  intro g cs hg
  obtain⟨h1,h2,h3⟩:=lk g cs hg
  refine⟨h1,fun o hF=> ?_,fun t c z hl hb=> ?_⟩
  ·obtain⟨o',np⟩ : ∃ o',os[o]? = some o':=⟨_,List.getElem?_eq_getElem (by omega)⟩
   rw [mu o o' np]
   exact h2 o' (oM o' (List.mem_of_getElem? np))
  ·obtain⟨n,hn⟩:=hl
   have hF:=(List.getElem?_eq_some_iff.1 hn).1
   obtain⟨t',O7⟩ : ∃ t',ts[t]? = some t':=⟨_,List.getElem?_eq_getElem (by omega)⟩
   rw [be t t' O7]at hb
   exact h3 t' c z ⟨n,by rw [← s4 t t' O7];exact hn⟩ hb
 have hc:=h (ke M os ts) w gw r0 YV (by rw [e9,fU,List.length_map]) (fun i d v e1 e2=>
  RD.Ha (M:=M) (M0:=ke M os ts) (s:=s) rfl loc ho be s4 ht (ha i (d.dW os ts) v (by rw [fU,List.getElem?_map,e1];rfl) e2) d rfl (uM FC e1))
 refine hc.mono ?_
 rintro en w' ⟨vR,d,v,s',rfl,hq,e,r',hv⟩
 have BL:=e.le.n
 have CQ:=e.le.t
 generalize LQ:ku os s.aG.length (s'.aG.length - os.length)=lz
 generalize LR:ku ts s.aH.length (s'.aH.length - ts.length)=oU
 have nd:lz.Nodup:=by rw [← LQ];exact zk FD oM
 have ndt:oU.Nodup:=by rw [← LR];exact zk KR OD
 have LS : ∀ i,lz[i]? = if i<os.length then os[i]? else if i<s'.aG.length then some (s.aG.length+(i - os.length))else none:=fun i=>by
  rw [← LQ,BN];split
  ·rfl
  ·rw [show os.length+(s'.aG.length - os.length)=s'.aG.length by omega]
 have LU : ∀ i,oU[i]? = if i<ts.length then ts[i]? else if i<s'.aH.length then some (s.aH.length+(i - ts.length))else none:=fun i=>by
  rw [← LR,BN];split
  ·rfl
  ·rw [show ts.length+(s'.aH.length - ts.length)=s'.aH.length by omega]
 have hsb:s.back os ts s' = ⟨ky os (s'.aG.map (D.gA lz oU)) s.aG,ky ts s'.aH s.aH⟩:=by simp only [St.back,LQ,LR]
 have hdb:d.back s os ts s'=d.dW lz oU:=by simp only [D.back,LQ,LR]
 have rA:=k d s' hq
 rw [hsb,hdb]at rA
 obtain⟨p1,p2,p3⟩:=Cf os (s'.aG.map (D.gA lz oU)) s.aG (by simp;omega) FD oM
 obtain⟨q1,q2,q3⟩:=Cf ts s'.aH s.aH (by omega) KR OD
 have H0:=wM os (s'.aG.map (D.gA lz oU)) s.aG (by simp;omega)
 have H2:=wM ts s'.aH s.aH (by omega)
 simp only [List.length_map]at H0
 generalize KN:(⟨ky os (s'.aG.map (D.gA lz oU)) s.aG,ky ts s'.aH s.aH⟩:St)=s2 at rA
 have so:s2.aG=ky os (s'.aG.map (D.gA lz oU)) s.aG:=by rw [← KN]
 have st:s2.aH=ky ts s'.aH s.aH:=by rw [← KN]
 -- the framed objects
 have fo : ∀ (i o:Nat),lz[i]? = some o→o<s2.aG.length∧s2.aG[o]? = (s'.aG[i]?).map (D.gA lz oU)∧i<s'.aG.length∧(i<os.length→o<s.aG.length∧os[i]? = some o)∧(os.length≤i→s.aG.length≤o):=by
  intro i o hi
  rw [LS]at hi
  split at hi
  ·rename_i h1
   have hF:=oM o (List.mem_of_getElem? hi)
   refine⟨by rw [so,H0];omega,by rw [so,p1 i o hi,List.getElem?_map],by omega,fun _=>⟨hF,hi⟩,fun h=>by omega⟩
  ·split at hi
   ·rename_i h1 h2
    cases hi
    refine⟨by rw [so,H0];omega, ?_,h2,fun h=>by omega,fun _=>by omega⟩
    rw [so,p3,List.getElem?_map,show os.length+(i - os.length)=i by omega]
   ·cases hi
 have ft : ∀ (i t:Nat),oU[i]? = some t→t<s2.aH.length∧s2.aH[t]? = s'.aH[i]? ∧i<s'.aH.length∧(i<ts.length→t<s.aH.length∧ts[i]? = some t)∧(ts.length≤i→s.aH.length≤t):=by
  intro i t hi
  rw [LU]at hi
  split at hi
  ·rename_i h1
   have hF:=OD t (List.mem_of_getElem? hi)
   refine⟨by rw [st,H2];omega,by rw [st,q1 i t hi],by omega,fun _=>⟨hF,hi⟩,fun h=>by omega⟩
  ·split at hi
   ·rename_i h1 h2
    cases hi
    refine⟨by rw [st,H2];omega, ?_,h2,fun h=>by omega,fun _=>by omega⟩
    rw [st,q3,show ts.length+(i - ts.length)=i by omega]
   ·cases hi
 -- all others
 have uo : ∀ o,o<s2.aG.length→posOf lz o=none→o<s.aG.length∧o∉os∧s2.aG[o]? = s.aG[o]? :=by
  intro o hF hp
  have oV : ∀ i,lz[i]? ≠some o:=fun i hi=>by rw [lQ nd hi]at hp;cases hp
  have h1:o<s.aG.length:=by
   rcases Nat.lt_or_ge o s.aG.length with h | h
   ·exact h
   ·exfalso
    rw [so,H0]at hF
    refine oV (os.length+(o - s.aG.length)) ?_
    rw [LS,if_neg (by omega),if_pos (by omega)]
    congr 1;omega
  have h2:o∉os:=fun hm=>by
   obtain⟨i,hi⟩:=List.mem_iff_getElem?.1 hm
   have pF:=(List.getElem?_eq_some_iff.1 hi).1
   exact oV i (by rw [LS,if_pos pF];exact hi)
  exact⟨h1,h2,by rw [so,p2 o h1 h2]⟩
 have ut : ∀ t,t<s2.aH.length→posOf oU t=none→t<s.aH.length∧t∉ts∧s2.aH[t]? = s.aH[t]? :=by
  intro t hF hp
  have oV : ∀ i,oU[i]? ≠some t:=fun i hi=>by rw [lQ ndt hi]at hp;cases hp
  have h1:t<s.aH.length:=by
   rcases Nat.lt_or_ge t s.aH.length with h | h
   ·exact h
   ·exfalso
    rw [st,H2]at hF
    refine oV (ts.length+(t - s.aH.length)) ?_
    rw [LU,if_neg (by omega),if_pos (by omega)]
    congr 1;omega
  have h2:t∉ts:=fun hm=>by
   obtain⟨i,hi⟩:=List.mem_iff_getElem?.1 hm
   have pF:=(List.getElem?_eq_some_iff.1 hi).1
   exact oV i (by rw [LU,if_pos pF];exact hi)
  exact⟨h1,h2,by rw [st,q2 t h1 h2]⟩
 generalize O9:xB M vR lz oU=M2
 have mG:vR.G=M2.G:=by rw [← O9];rfl
 have lo : ∀ (i o:Nat),lz[i]? = some o→M2.loc o=vR.loc i:=fun i o hi=>by rw [← O9];simp only [xB,lQ nd hi]
 have Vh : ∀ o,posOf lz o=none→M2.loc o=M.loc o:=fun o hp=>by rw [← O9];simp only [xB,hp]
 have mo : ∀ (i o:Nat),lz[i]? = some o→M2.mu o=vR.mu i:=fun i o hi=>congrArg Prod.fst (lo i o hi)
 have H3 : ∀ o,posOf lz o=none→M2.mu o=M.mu o:=fun o hp=>congrArg Prod.fst (Vh o hp)
 have mt : ∀ (i t:Nat),oU[i]? = some t→M2.be t=vR.be i:=fun i t hi=>by rw [← O9];simp only [xB,lQ ndt hi]
 have H4 : ∀ t,posOf oU t=none→M2.be t=M.be t:=fun t hp=>by rw [← O9];simp only [xB,hp]
 have le:Le M s M2 s2:=by
  refine⟨fun b o v hg=>by rw [← mG];exact e.le.G b o v hg,by rw [so,H0];omega,fun o hF=> ?_,by rw [st,H2];omega,fun t n' hF pS=> ?_⟩
  ·cases hp:posOf lz o with
   | none=>exact Vh o hp
   | some i=>
    have hi:=iN hp
    rw [lo i o hi]
    obtain⟨_,_,_,h1,h2⟩:=fo i o hi
    have pF:i<os.length:=by
     rcases Nat.lt_or_ge i os.length with h | h
     ·exact h
     ·have:=h2 h;omega
    rw [e.le.loc i (by omega),loc i o (h1 pF).2]
  ·cases hp:posOf oU t with
   | none=>
    obtain⟨_,_,h3⟩:=ut t (by rw [st,H2];omega) hp
    rw [h3]at pS
    exact⟨n',pS,Nat.le_refl _,fun _=>H4 t hp⟩
   | some i=>
    have hi:=iN hp
    obtain⟨_,g1,_,h1,h2⟩:=ft i t hi
    have pF:i<ts.length:=by
     rcases Nat.lt_or_ge i ts.length with h | h
     ·exact h
     ·have:=h2 h;omega
    rw [g1]at pS
    obtain⟨n,h3,h4,h5⟩:=e.le.tk i n' (by omega) pS
    refine⟨n,by rw [← s4 i t (h1 pF).2];exact h3,h4,fun eq=> ?_⟩
    rw [mt i t hi,h5 eq,be i t (h1 pF).2]
 have YW : ∀ {d:D} {v:Value},RD vR s' d v→RD M2 s2 (d.dW lz oU) v:=fun hd=>RD.dW mG
  (fun i hi=>by
   obtain⟨o,ho⟩ : ∃ o,lz[i]? = some o:=by
    rw [LS];split
    ·rename_i h1;exact⟨_,List.getElem?_eq_getElem h1⟩
    ·exact⟨_,rfl⟩
   exact⟨o,ho,(fo i o ho).1,lo i o ho⟩)
  (fun i hi=>by
   obtain⟨t,ht⟩ : ∃ t,oU[i]? = some t:=by
    rw [LU];split
    ·rename_i h1;exact⟨_,List.getElem?_eq_getElem h1⟩
    ·exact⟨_,rfl⟩
   exact⟨t,ht,(ft i t ht).1,(ft i t ht).2.1,mt i t ht⟩) hd
 -- blocks that the callee did not know
 have Hc : ∀ i,s0.live i→∃ t,ts[i]? = some t∧s.live t:=fun i ⟨n,hn⟩=>by
  have hF:=(List.getElem?_eq_some_iff.1 hn).1
  have e1:ts[i]? = some ts[i]:=List.getElem?_eq_getElem (by omega)
  exact⟨_,e1,n,by rw [← s4 i _ e1];exact hn⟩
 have LW : ∀ b,b<w.heap.size→(∀ (i o:Nat),os[i]? = some o→M.mu o≠b)→(∀ (i t:Nat) c z,ts[i]? = some t→s.live t→M.be t≠some (b,c,z))→
  w'.heap[b]? = w.heap[b]? ∧∀ off,vR.G b off=M.G b off:=by
  intro b hb h1 h2
  refine⟨e.kept b hb (fun i hi=> ?_) (fun i c z hl=> ?_),fun off=> ?_⟩
  ·have e1:os[i]? = some os[i]:=List.getElem?_eq_getElem (by omega)
   rw [mu i _ e1];exact h1 i _ e1
  ·obtain⟨t,e1,hF⟩:=Hc i hl
   rw [be i t e1];exact h2 i t c z e1 hF
  ·apply Classical.byContradiction
   intro fE
   rcases e.sZ b off fE with h3 | ⟨i,c,z,hl,h3⟩
   ·omega
   ·obtain⟨t,e1,hF⟩:=Hc i hl
    rw [be i t e1]at h3
    exact h2 i t c z e1 hF h3
 have Vi : ∀ o,o<s.aG.length→o∉os→w'.heap[M.mu o]? = w.heap[M.mu o]? ∧∀ off,vR.G (M.mu o) off=M.G (M.mu o) off:=fun o hF oV=>
  LW _ (r.qF hF) (fun i o' h1 h2=>oV (by rw [← r.inj o' o (oM o' (List.mem_of_getElem? h1)) hF h2];exact List.mem_of_getElem? h1))
   (fun i t c z _ hl h2=>r.fL t _ c z o hl h2 hF rfl)
 have acD : ∀ t b c z,s.live t→t∉ts→M.be t=some (b,c,z)→w'.heap[b]? = w.heap[b]? ∧∀ off,vR.G b off=M.G b off:=fun t b c z hl oV hb=>
  LW b (r.tR hl hb) (fun i o h1=>r.fL t b c z o hl hb (oM o (List.mem_of_getElem? h1)))
   (fun i t' c' z' h1 nQ h2=>oV (by rw [r.gq t t' b c z c' z' hl nQ hb h2];exact List.mem_of_getElem? h1))
 have lv : ∀ t,s2.live t→(∃ i,oU[i]? = some t∧s'.live i)∨(posOf oU t=none∧s.live t∧t∉ts):=by
  rintro t ⟨n,hn⟩
  cases hp:posOf oU t with
  | none=>
   obtain⟨h1,h2,h3⟩:=ut t (List.getElem?_eq_some_iff.1 hn).1 hp
   exact .inr ⟨rfl,⟨n,by rw [← h3];exact hn⟩,h2⟩
  | some i=>
   have hi:=iN hp
   exact .inl ⟨i,hi,n,by rw [← (ft i t hi).2.1];exact hn⟩
 -- where a framed object lies
 have Vj : ∀ (i o:Nat),lz[i]? = some o→(o<s.aG.length∧o∈os∧vR.mu i=M.mu o)∨w.heap.size≤vR.mu i:=by
  intro i o hi
  obtain⟨_,_,h1,h2,h3⟩:=fo i o hi
  rcases Nat.lt_or_ge i os.length with h | h
  ·refine .inl ⟨(h2 h).1,List.mem_of_getElem? (h2 h).2, ?_⟩
   rw [e.le.mu i (by omega),mu i o (h2 h).2]
  ·exact .inr (e.qB i (by omega) h1)
 have Vk : ∀ (i t b c z:Nat),oU[i]? = some t→s'.live i→vR.be i=some (b,c,z)→(s.live t∧t∈ts∧∃ c' z',M.be t=some (b,c',z'))∨w.heap.size≤b:=by
  intro i t b c z hi hl hb
  rcases e.qC i b c z hl hb with ⟨h1,c',z',h2⟩ | h1
  ·obtain⟨t',e1,hF⟩:=Hc i h1
   have pF:=(List.getElem?_eq_some_iff.1 e1).1
   obtain⟨_,_,_,h3,_⟩:=ft i t hi
   have:=(h3 pF).2
   rw [e1]at this;cases this
   rw [be i _ e1]at h2
   exact .inl ⟨hF,List.mem_of_getElem? e1,c',z',h2⟩
  ·exact .inr h1
 refine⟨M2,d.dW lz oU,v,s2,rfl,rA, ?_, ?_,YW hv⟩
 ·-- Ext
  refine⟨le,fun b hb h1 h2=> ?_,fun o h1 h2=> ?_,fun t b c z hl hb=> ?_,fun b off fE=> ?_,e.size,e.os,e.tape,e.output⟩
  ·exact(LW b hb (fun i o h3=>h1 o (oM o (List.mem_of_getElem? h3))) (fun i t c z _ hl=>h2 t c z hl)).1
  ·cases hp:posOf lz o with
   | none=>have:=(uo o h2 hp).1;omega
   | some i=>
    have hi:=iN hp
    rw [mo i o hi]
    rcases Vj i o hi with ⟨h3,_⟩ | h3
    ·omega
    ·exact h3
  ·rcases lv t hl with ⟨i,hi,nQ⟩ | ⟨hp,nQ,_⟩
   ·rw [mt i t hi]at hb
    rcases Vk i t b c z hi nQ hb with ⟨h1,_,h2⟩ | h1
    ·exact .inl ⟨h1,h2⟩
    ·exact .inr h1
   ·rw [H4 t hp]at hb
    exact .inl ⟨nQ,c,z,hb⟩
  ·rw [← mG]at fE
   rcases e.sZ b off fE with h1 | ⟨i,c,z,hl,hb⟩
   ·exact .inl h1
   ·obtain⟨t,e1,hF⟩:=Hc i hl
    rw [be i t e1]at hb
    exact .inr ⟨t,c,z,hF,hb⟩
 ·-- Rel
  refine⟨fun b o v hg=>r'.comm b o v (by rw [mG];exact hg),fun o ds C2=> ?_,fun o hF off=> ?_,fun o o' hF BM heq=> ?_,fun t n hn=> ?_,fun t b c z o hl hb hF=> ?_,fun t t' b c z c' z' hl nQ hb qJ=> ?_⟩
  ·cases hp:posOf lz o with
   | some i=>
    have hi:=iN hp
    obtain⟨_,g1,_⟩:=fo i o hi
    rw [g1]at C2
    obtain⟨om,h1,rfl⟩:=Option.map_eq_some_iff.1 C2
    obtain⟨vs,T,h2,h3,h4,h5⟩:=r'.obj i om h1
    refine⟨vs,T,by rw [mo i o hi,show M2.ob o=vR.ob i from congrArg Prod.snd (lo i o hi)];exact h2,by rw [fU];simpa using h3,⟨h4.1,by rw [show M2.ty o=vR.ty i from congrArg (fun x=>x.2.ty?) (lo i o hi)];exact h4.2⟩,fun j d v e1 e2=> ?_⟩
    rw [fU]at e1
    simp only [List.getElem?_map,Option.map_eq_some_iff]at e1
    obtain⟨d',e1,rfl⟩:=e1
    exact YW (h5 j d' v e1 e2)
   | none=>
    obtain⟨h1,h2,h3⟩:=uo o (List.getElem?_eq_some_iff.1 C2).1 hp
    rw [h3]at C2
    obtain⟨vs,T,g1,g2,g3,g4⟩:=r.obj o ds C2
    exact⟨vs,T,by rw [H3 o hp,(Vi o h1 h2).1,show M2.ob o=M.ob o from congrArg Prod.snd (Vh o hp)];exact g1,g2,⟨g3.1,by rw [show M2.ty o=M.ty o from congrArg (fun x=>x.2.ty?) (Vh o hp)];exact g3.2⟩,fun j d v e1 e2=>(g4 j d v e1 e2).mono le⟩
  ·cases hp:posOf lz o with
   | some i=>
    have hi:=iN hp
    rw [mo i o hi, ← mG];exact r'.k7 i (fo i o hi).2.2.1 off
   | none=>
    obtain⟨h1,h2,h3⟩:=uo o hF hp
    rw [H3 o hp, ← mG,(Vi o h1 h2).2 off];exact r.k7 o h1 off
  ·cases hp:posOf lz o with
   | some i=>
    have hi:=iN hp
    rw [mo i o hi]at heq
    cases ov:posOf lz o' with
    | some i'=>
     have ik:=iN ov
     rw [mo i' o' ik]at heq
     have:=r'.inj i i' (fo i o hi).2.2.1 (fo i' o' ik).2.2.1 heq
     subst this
     rw [hi]at ik;cases ik;rfl
    | none=>
     obtain⟨h1,h2,_⟩:=uo o' BM ov
     rw [H3 o' ov]at heq
     rcases Vj i o hi with ⟨h3,h4,h5⟩ | h3
     ·rw [h5]at heq
      have:=r.inj o o' h3 h1 heq
      subst this;exact(h2 h4).elim
     ·have:=r.qF h1;omega
   | none=>
    obtain⟨h1,h2,_⟩:=uo o hF hp
    rw [H3 o hp]at heq
    cases ov:posOf lz o' with
    | some i'=>
     have ik:=iN ov
     rw [mo i' o' ik]at heq
     rcases Vj i' o' ik with ⟨h3,h4,h5⟩ | h3
     ·rw [h5]at heq
      have:=r.inj o o' h1 h3 heq
      subst this;exact(h2 h4).elim
     ·have:=r.qF h1;omega
    | none=>
     obtain⟨pE,_,_⟩:=uo o' BM ov
     rw [H3 o' ov]at heq
     exact r.inj o o' h1 pE heq
  ·rcases lv t ⟨n,hn⟩with ⟨i,hi,hl⟩ | ⟨hp,hl,oV⟩
   ·rw [mt i t hi, ← mG]
    exact r'.tok i n (by rw [← (ft i t hi).2.1];exact hn)
   ·obtain⟨_,_,h3⟩:=ut t (List.getElem?_eq_some_iff.1 hn).1 hp
    rw [h3]at hn
    rw [H4 t hp]
    rcases r.tok t n hn with h4 | ⟨b,cap,size,vs,T,g1,g2,g3,g4,g5⟩
    ·exact .inl h4
    ·obtain⟨k1,k2⟩:=acD t b cap size hl oV g1
     exact .inr ⟨b,cap,size,vs,T,g1,by rw [k1];exact g2,g3,g4,fun off ho=>by rw [← mG,k2 off];exact g5.1 off ho,g5.2⟩
  ·rcases lv t hl with ⟨i,hi,nQ⟩ | ⟨hp,nQ,oV⟩
   ·rw [mt i t hi]at hb
    cases H5:posOf lz o with
    | some j=>
     have hj:=iN H5
     rw [mo j o hj]
     exact r'.fL i b c z j nQ hb (fo j o hj).2.2.1
    | none=>
     obtain⟨h1,h2,_⟩:=uo o hF H5
     rw [H3 o H5]
     rcases Vk i t b c z hi nQ hb with ⟨h3,_,c',z',h4⟩ | h3
     ·exact r.fL t b c' z' o h3 h4 h1
     ·have:=r.qF h1;omega
   ·rw [H4 t hp]at hb
    cases H5:posOf lz o with
    | some j=>
     have hj:=iN H5
     rw [mo j o hj]
     rcases Vj j o hj with ⟨h3,_,h5⟩ | h3
     ·rw [h5];exact r.fL t b c z o nQ hb h3
     ·have:=r.tR nQ hb;omega
    | none=>
     obtain⟨h1,_,_⟩:=uo o hF H5
     rw [H3 o H5];exact r.fL t b c z o nQ hb h1
  ·rcases lv t hl with ⟨i,hi,zl⟩ | ⟨hp,hF,oV⟩
   ·rw [mt i t hi]at hb
    rcases lv t' nQ with ⟨i',ik,R5⟩ | ⟨ov,BM,Vl⟩
    ·rw [mt i' t' ik]at qJ
     have:=r'.gq i i' b c z c' z' zl R5 hb qJ
     subst this
     rw [hi]at ik;cases ik;rfl
    ·rw [H4 t' ov]at qJ
     rcases Vk i t b c z hi zl hb with ⟨h3,h4,c2,z2,h5⟩ | h3
     ·have:=r.gq t t' b c2 z2 c' z' h3 BM h5 qJ
      subst this;exact(Vl h4).elim
     ·have:=r.tR BM qJ;omega
   ·rw [H4 t hp]at hb
    rcases lv t' nQ with ⟨i',ik,R5⟩ | ⟨ov,BM,Vl⟩
    ·rw [mt i' t' ik]at qJ
     rcases Vk i' t' b c' z' ik R5 qJ with ⟨h3,h4,c2,z2,h5⟩ | h3
     ·have:=r.gq t t' b c z c2 z2 hF h3 hb h5
      subst this;exact(oV h4).elim
     ·have:=r.tR hF hb;omega
    ·rw [H4 t' ov]at qJ
     exact r.gq t t' b c z c' z' hF BM hb qJ
end Go.Abs

/-! Walk -/

namespace Go.Abs
def Wk (d d':D):Prop:=∀ (M:Map) (s:St) (v:Value),RD M s d v→RD M s d' v
inductive mM:List D→List D→Prop where
 | nil:mM [] []
 | cons {d d':D} {l l':List D} (h:Wk d d') (t:mM l l'):mM (d::l) (d'::l')
inductive iF:List (List D)→List (List D)→Prop where
 | nil:iF [] []
 | cons {r r':List D} {l l':List (List D)} (h:mM r r') (t:iF l l'):iF (r::l) (r'::l')
theorem Wk.refl (d:D):Wk d d:=fun _ _ _ h=>h
theorem Wk.trans {a b c:D} (h:Wk a b) (k:Wk b c):Wk a c:=fun M s v r=>k M s v (h M s v r)
theorem Wk.junk (d:D):Wk d .junk:=fun _ _ v _=> .junk v
theorem mM.refl : ∀ l,mM l l
 | []=> .nil
 | d::l=> .cons (Wk.refl d) (mM.refl l)
theorem iF.refl : ∀ l,iF l l
 | []=> .nil
 | d::l=> .cons (mM.refl d) (iF.refl l)
theorem mM.len {l l':List D} (h:mM l l'):l.length=l'.length:=by
 induction h with
 | nil=>rfl
 | cons _ _ ih=>simp [ih]
theorem iF.len {l l':List (List D)} (h:iF l l'):l.length=l'.length:=by
 induction h with
 | nil=>rfl
 | cons _ _ ih=>simp [ih]
theorem mM.get {l l':List D} (h:mM l l') : ∀ {i:Nat} {d':D},l'[i]? = some d'→∃ d,l[i]? = some d∧Wk d d':=by
 induction h with
 | nil=>intro i d' e;simp at e
 | cons hd _ ih=>
  intro i d' e
  cases i with
  | zero=>simp at e;subst e;exact⟨_,rfl,hd⟩
  | succ i=>simp at e;simpa using ih e
theorem iF.get {l l':List (List D)} (h:iF l l') : ∀ {i:Nat} {d':List D},l'[i]? = some d'→∃ d,l[i]? = some d∧mM d d':=by
 induction h with
 | nil=>intro i d' e;simp at e
 | cons hd _ ih=>
  intro i d' e
  cases i with
  | zero=>simp at e;subst e;exact⟨_,rfl,hd⟩
  | succ i=>simp at e;simpa using ih e
theorem iF.append {a a' b b':List (List D)} (h:iF a a') (k:iF b b'):iF (a++b) (a'++b'):=by
 induction h with
 | nil=>exact k
 | cons hd _ ih=>exact .cons hd ih
theorem Wk.agg {l l':List D} (h:mM l l'):Wk (.agg l) (.agg l'):=by
 intro M s v r
 cases r with
 | agg _ vs hl h1 hr=>
  refine .agg _ vs (by rw [← hl,h.len]) h1 fun i d' u e e2=> ?_
  obtain⟨d,e1,hw⟩:=h.get e
  exact hw M s u (hr i d u e1 e2)
theorem Wk.tuple {l l':List D} (h:mM l l'):Wk (.tuple l) (.tuple l'):=by
 intro M s v r
 cases r with
 | tuple _ vs hl hr=>
  refine .tuple _ vs (by rw [← hl,h.len]) fun i d' u e e2=> ?_
  obtain⟨d,e1,hw⟩:=h.get e
  exact hw M s u (hr i d u e1 e2)
theorem Wk.rows {g:Tag} {z:Nat} {l l':List (List D)} (h:iF l l'):Wk (.slice g z l) (.slice g z l'):=by
 intro M s v r
 cases r with
 | jM _ _ cap hc ht=>cases h;exact .jM _ _ _ hc ht
 | nw _ a cap=>cases h;exact .nw _ a cap
 | slice _ _ _ b k cap hl hs h1 h2 ht=>
  rw [h.len]
  refine .slice g z l' b k cap (by rw [← h.len];exact hl) (fun row hm=> ?_) (fun i row j d e e2=> ?_) (fun i row j d u e e2 eu=> ?_) (by rw [← h.len];exact ht)
  ·obtain⟨i,hi,he⟩:=List.mem_iff_getElem.1 hm
   obtain⟨r0,g1,g2⟩:=h.get (i:=i) (by rw [List.getElem?_eq_getElem hi,he])
   rw [← g2.len];exact hs r0 (List.mem_of_getElem? g1)
  ·obtain⟨r0,g1,g2⟩:=h.get e
   obtain⟨d0,g3,_⟩:=g2.get e2
   exact h1 i r0 j d0 g1 g3
  ·obtain⟨r0,g1,g2⟩:=h.get e
   obtain⟨d0,g3,g4⟩:=g2.get e2
   exact g4 M s u (h2 i r0 j d0 u g1 g3 eu)
theorem Wk.shared (g:Tag) (z:Nat) (l:List (List D)):Wk (.slice g z l) (.slice .shared z l):=by
 intro M s v r
 cases r with
 | jM _ _ cap hc ht=>exact .jM _ _ _ hc trivial
 | nw _ a cap=>exact .nw _ a cap
 | slice _ _ _ b k cap hl hs h1 h2 ht=>exact .slice _ _ _ b k cap hl hs h1 h2 trivial
theorem Wk.slice {g:Tag} {z:Nat} {l l':List (List D)} (h:iF l l'):Wk (.slice g z l) (.slice .shared z l'):=(Wk.shared g z l).trans (Wk.rows h)
theorem Wk.nil (g:Tag) (z z':Nat):Wk (.slice g z []) (.slice .shared z' []):=by
 intro M s v r
 cases r with
 | jM _ _ cap hc ht=>exact .jM _ _ _ hc trivial
 | nw _ a cap=>exact .nw _ a cap
 | slice _ _ _ b k cap hl hs h1 h2 ht=>exact .slice _ _ [] b k cap hl (by simp) (by simp) (by simp) trivial
theorem Wk.afQ (z z':Nat):Wk (.slice .full z []) (.slice .full z' []):=by
 intro M s v r
 cases r with
 | jM _ _ cap hc ht=>exact .jM _ _ _ hc ht
 | slice _ _ _ b k cap hl hs h1 h2 ht=>exact .slice _ _ [] b k cap hl (by simp) (by simp) (by simp) ht
theorem Rel.Cg {M:Map} {s:St} {w:World} {aG:List (List D)} (r:Rel M s w) (h:iF s.aG aG):Rel M ⟨aG,s.aH⟩ w∧Le M s M ⟨aG,s.aH⟩:=by
 have le:Le M s M ⟨aG,s.aH⟩:=⟨fun _ _ _ h=>h,Nat.le_of_eq h.len,fun _ _=>rfl,Nat.le_refl _,fun t n' _ e=>⟨n',e,Nat.le_refl _,fun _=>rfl⟩⟩
 have hl:=h.len
 refine⟨⟨r.comm,fun o ds e=> ?_,fun o ho=>r.k7 o (by rw [hl];exact ho),fun o o' ho np=>r.inj o o' (by rw [hl];exact ho) (by rw [hl];exact np),r.tok,
  fun t b c z o hv e ho=>r.fL t b c z o hv e (by rw [hl];exact ho),r.gq⟩,le⟩
 obtain⟨ds0,g1,g2⟩:=h.get e
 obtain⟨vs,T,h1,h2,h3,h4⟩:=r.obj o ds0 g1
 refine⟨vs,T,h1,by rw [h2,g2.len],h3,fun i d v e1 e2=> ?_⟩
 obtain⟨d0,k1,k2⟩:=g2.get e1
 exact(k2 _ _ _ (h4 i d0 v k1 e2)).mono le
theorem Rel.blank {M:Map} {s:St} {w:World} (r:Rel M s w) :
 Rel (M.ff s.aH.length none) {s with aH:=s.aH++ [some 0]} w∧Le M s (M.ff s.aH.length none) {s with aH:=s.aH++ [some 0]}:=by
 have iz : ∀ t,St.live {s with aH:=s.aH++ [some 0]} t→s.live t∨t=s.aH.length:=by
  rintro t ⟨k,hk⟩
  rcases Nat.lt_or_ge t s.aH.length with h | h
  ·rw [List.getElem?_append_left h]at hk;exact .inl ⟨k,hk⟩
  ·have:=(List.getElem?_eq_some_iff.1 hk).1
   simp at this;exact .inr (by omega)
 have hF : ∀ t,s.live t→t<s.aH.length:=fun t ⟨k,hk⟩=>(List.getElem?_eq_some_iff.1 hk).1
 have hold : ∀ t,t<s.aH.length→(M.ff s.aH.length none).be t=M.be t:=fun t h=>by simp [Map.ff];omega
 have ey:(M.ff s.aH.length none).be s.aH.length=none:=by simp [Map.ff]
 have le:Le M s (M.ff s.aH.length none) {s with aH:=s.aH++ [some 0]}:=
  ⟨fun _ _ _ h=>h,Nat.le_refl _,fun _ _=>rfl,by simp,fun t k h e=>by
   rw [List.getElem?_append_left h]at e
   exact⟨k,e,Nat.le_refl _,fun _=>hold t h⟩⟩
 refine⟨⟨r.comm,fun o ds e=> ?_,r.k7,r.inj,fun t k e=> ?_,fun t b' c z o hl e np=> ?_,fun t t' b' c z c' z' h h' e e'=> ?_⟩,le⟩
 ·obtain⟨fW,T',h3,h4,h5,h6⟩:=r.obj o ds e
  exact⟨fW,T',h3,h4,h5,fun i d v e1 e2=>(h6 i d v e1 e2).mono le⟩
 ·rcases Nat.lt_or_ge t s.aH.length with h | h
  ·rw [List.getElem?_append_left h]at e
   rw [hold t h];exact r.tok t k e
  ·have:=(List.getElem?_eq_some_iff.1 e).1
   simp at this
   have:t=s.aH.length:=by omega
   subst this
   simp at e;subst e
   exact .inl ⟨ey,rfl⟩
 ·rcases iz t hl with h | h
  ·rw [hold t (hF t h)]at e;exact r.fL t b' c z o h e np
  ·subst h;rw [ey]at e;cases e
 ·rcases iz t h with h | h <;> rcases iz t' h' with h' | h'
  ·rw [hold t (hF t h)]at e;rw [hold t' (hF t' h')]at e';exact r.gq t t' b' c z c' z' h h' e e'
  ·subst h';rw [ey]at e';cases e'
  ·subst h;rw [ey]at e;cases e
  ·omega
theorem RD.own {M:Map} {s:St} {z z':Nat} {v:Value} (h:RD M s (.slice .full z []) v):RD (M.ff s.aH.length none) {s with aH:=s.aH++ [some 0]} (.slice (.tok s.aH.length) z' []) v:=by
 have key : ∀ base:Option (Nat×Nat),iL (M.ff s.aH.length none) {s with aH:=s.aH++ [some 0]} (.tok s.aH.length) z' 0 base 0:=by
  intro base
  refine⟨by simp,fun n e=> ?_⟩
  simp at e
  subst e
  exact⟨Nat.le_refl _,fun _=> .inl ⟨by simp [Map.ff],rfl,fun h=>by cases h⟩⟩
 cases h with
 | jM _ _ cap hc ht=>subst hc;exact .jM _ _ _ rfl (key none)
 | slice _ _ _ b k cap hl hs h1 h2 ht=>
  have:cap=0:=ht
  subst this
  exact .slice _ _ [] b k 0 (Nat.le_refl _) (by simp) (by simp) (by simp) (key _)
section
variable {P:Program} {B:fI} {nt:Nat} {Q:Exit→Tm→St→Prop} {tm:Tm} {s:St}
theorem Ad {M0 M:Map} {s0 s:St} {w0 w:World} (e:Ext M0 s0 w0 M s w) (le:Le M s (M.ff s.aH.length none) {s with aH:=s.aH++ [some 0]}) :
 Ext M0 s0 w0 (M.ff s.aH.length none) {s with aH:=s.aH++ [some 0]} w:=by
 refine e.trans ⟨le,fun _ _ _ _=>rfl,fun o h1 h2=>absurd h2 (Nat.not_lt.2 h1),fun t b c z hl eq=> ?_,fun _ _ h=>(h rfl).elim,Nat.le_refl _,rfl,rfl,rfl⟩
 obtain⟨k,hk⟩:=hl
 rcases Nat.lt_or_ge t s.aH.length with h | h
 ·refine .inl ⟨⟨k,by rw [List.getElem?_append_left h]at hk;exact hk⟩,c,z, ?_⟩
  have:(M.ff s.aH.length none).be t=M.be t:=by simp [Map.ff];omega
  rw [← this];exact eq
 ·have:=(List.getElem?_eq_some_iff.1 hk).1
  simp at this
  have:t=s.aH.length:=by omega
  subst this
  simp [Map.ff]at eq
theorem Sem.jB {ac:AC} (t z':Nat) {z:Nat} (hw:tm.get t = .slice .full z []) (h:Sem P B nt ac Q (tm.set t (.slice (.tok s.aH.length) z' [])) {s with aH:=s.aH++ [some 0]}):Sem P B nt ac Q tm s:=by
 intro c hc act w ⟨M,e,r,ht,h1,h2⟩
 obtain⟨r',le⟩:=r.blank
 refine h c hc act w ⟨_,Ad e le,r',fun k=> ?_,h1,h2⟩
 rw [Tm.Bd]
 split
 ·rename_i hk;subst hk;have:=ht k;rw [hw]at this;exact this.own
 ·exact(ht k).mono le
end
def aE (P:Program) (f:Nat) (args:List D) (s:St) (d:D) (s':St):Prop:=eU P f args s fun x y=>x=d∧y=s'
def iS (n m:Nat) (res:List (Nat×Option (Bool×Nat))) (d:D) (s':St):Exit→Tm→St→Prop
 | .normal,tm,s | .ret,tm,s=>∃ l,au res tm s=some l∧Wk ((aw l).fg n m) d∧iF (s.cut n m).aG s'.aG∧(s.cut n m).aH=s'.aH
 | _,_,_=>False
theorem eU.Cg {P:Program} {f:FuncId} {args C5:List D} {s:St} {Q:D→St→Prop} (ha:mM args C5) (h:eU P f C5 s Q):eU P f args s Q:=
 fun M w gw r lk hl hr=>h M w gw r lk (by rw [hl,ha.len]) fun i d v e1 e2=>by
  obtain⟨d0,g1,g2⟩:=ha.get e1
  exact g2 _ _ _ (hr i d0 v g1 e2)
theorem eU.Vm {P:Program} {f:FuncId} {args:List D} {s:St} {Q Q':D→St→Prop} (h:eU P f args s Q) (hq : ∀ d s1,Q d s1→∃ d' s',Wk d d'∧iF s1.aG s'.aG∧s1.aH=s'.aH∧Q' d' s'):eU P f args s Q':=
 fun M w gw r lk hl ha=>(h M w gw r lk hl ha).mono fun _ _ ⟨M',d,v,s1,h1,h2,h3,h4,h5⟩=>by
  obtain⟨d',s',g1,g2,g3,g4⟩:=hq d s1 h2
  obtain⟨r',le⟩:=h4.Cg g2
  have hs:(⟨s'.aG,s1.aH⟩:St)=s':=by rw [g3]
  rw [hs]at r' le
  refine⟨M',d',v,s',h1,g4,h3.trans ⟨le,fun _ _ _ _=>rfl,fun o h1 h2=> ?_,fun t b c z hl e=> .inl ⟨by obtain⟨n,hn⟩:=hl;exact⟨n,by rw [g3];exact hn⟩,c,z,e⟩,fun _ _ h=>(h rfl).elim,Nat.le_refl _,rfl,rfl,rfl⟩,r',(g1 _ _ _ h5).mono le⟩
  rw [← g2.len]at h2
  exact absurd h2 (Nat.not_lt.2 h1)
theorem aE.intro {P:Program} {f:FuncId} {af:AF} {args:List D} {s:St} {d:D} {s':St} (h0 : ∃ fn,P.funcs[f]? = some fn∧cF P fn=some af) (hl:args.length≤af.ntmps)
 (h : ∀ B:fI,B.s=s→Sem P B af.ntmps af.body (iS s.aG.length s.aH.length af.results d s') (ou 0 args) s):aE P f args s d s':=by
 obtain⟨fn,hf,hc⟩:=h0
 refine eU.Vm (eU.intro (Q:=fun d1 s1=>Wk d1 d∧iF s1.aG s'.aG∧s1.aH=s'.aH) hf hc hl fun B hB=>(h B hB).mono fun e tm s1 hr=> ?_) fun d1 s1 ⟨h1,h2,h3⟩=>⟨d,s',h1,h2,h3,rfl,rfl⟩
 subst hB
 cases e with
 | normal=>obtain⟨l,h1,h2,h3,h4⟩:=hr;exact⟨l,h1,_,_,Nat.le_refl _,Nat.le_refl _,h2,h3,h4⟩
 | ret=>obtain⟨l,h1,h2,h3,h4⟩:=hr;exact⟨l,h1,_,_,Nat.le_refl _,Nat.le_refl _,h2,h3,h4⟩
 | exit id=>exact hr.elim
 | goto l=>exact hr.elim
 | panic ch=>exact hr.elim
 | outgrown=>exact hr.elim
theorem aE.use {P:Program} {f:FuncId} {args:List D} {s:St} {d:D} {s':St} {Q:D→St→Prop} (h:aE P f args s d s') (hq:Q d s'):eU P f args s Q:=
 eU.mono h fun x y ⟨h1,h2⟩=>by subst h1;subst h2;exact hq
mutual
theorem rL (os ts:List Nat) : ∀ d,D.ok 0 0 d=true→D.dW os ts d=d
 | .junk,_=>by simp [D.dW]
 | .int k n,_=>by simp [D.dW]
 | .bool b,_=>by simp [D.dW]
 | .str l,_=>by simp [D.dW]
 | .fB,_=>by simp [D.dW]
 | .val v,_=>by simp [D.dW]
 | .fT T o,h=>by simp [D.ok]at h
 | .gM o,h=>by simp [D.ok]at h
 | .gP f cs,h=>by
  simp only [D.ok]at h
  simp only [D.dW,fF os ts cs h]
 | .ptr o f,h=>by simp [D.ok]at h
 | .dU r f,h=>by
  simp only [D.ok]at h
  simp only [D.dW,fF os ts r h]
 | .slice g z rows,h=>by
  simp only [D.ok,Bool.and_eq_true]at h
  simp only [D.dW,jz os ts rows h.2]
  cases g with
  | tok t y=>simp [Tag.ok]at h
  | full=>rfl
  | shared=>rfl
 | .agg cs,h=>by
  simp only [D.ok]at h
  simp only [D.dW,fF os ts cs h]
 | .tuple cs,h=>by
  simp only [D.ok]at h
  simp only [D.dW,fF os ts cs h]
theorem fF (os ts:List Nat) : ∀ l,D.bR 0 0 l=true→D.gA os ts l=l
 | [],_=>by simp [D.gA]
 | d::r,h=>by
  simp only [D.bR,Bool.and_eq_true]at h
  simp only [D.gA,rL os ts d h.1,fF os ts r h.2]
theorem jz (os ts:List Nat) : ∀ l,D.ji 0 0 l=true→D.s7 os ts l=l
 | [],_=>by simp [D.s7]
 | d::r,h=>by
  simp only [D.ji,Bool.and_eq_true]at h
  simp only [D.s7,fF os ts d h.1,jz os ts r h.2]
end
mutual
theorem Ek {n m n' m':Nat} (hn:n≤n') (hm:m≤m') : ∀ d,D.ok n m d=true→D.ok n' m' d=true
 | .junk,_=>rfl
 | .int k n,_=>rfl
 | .bool b,_=>rfl
 | .str l,_=>rfl
 | .fB,_=>rfl
 | .val v,_=>rfl
 | .fT T o,h=>by simp [D.ok]at h ⊢;omega
 | .gM o,h=>by simp [D.ok]at h ⊢;omega
 | .gP f cs,h=>by
  simp only [D.ok]at h ⊢
  exact iu hn hm cs h
 | .ptr o f,h=>by simp only [D.ok,decide_eq_true_eq]at h ⊢;omega
 | .dU r f,h=>by
  simp only [D.ok]at h ⊢
  exact iu hn hm r h
 | .slice g z rows,h=>by
  simp only [D.ok,Bool.and_eq_true]at h ⊢
  refine⟨?_,nB hn hm rows h.2⟩
  cases g with
  | tok t y=>simp only [Tag.ok,decide_eq_true_eq]at h ⊢;omega
  | full=>rfl
  | shared=>rfl
 | .agg cs,h=>by
  simp only [D.ok]at h ⊢
  exact iu hn hm cs h
 | .tuple cs,h=>by
  simp only [D.ok]at h ⊢
  exact iu hn hm cs h
theorem iu {n m n' m':Nat} (hn:n≤n') (hm:m≤m') : ∀ l,D.bR n m l=true→D.bR n' m' l=true
 | [],_=>rfl
 | d::r,h=>by
  simp only [D.bR,Bool.and_eq_true]at h ⊢
  exact⟨Ek hn hm d h.1,iu hn hm r h.2⟩
theorem nB {n m n' m':Nat} (hn:n≤n') (hm:m≤m') : ∀ l,D.ji n m l=true→D.ji n' m' l=true
 | [],_=>rfl
 | d::r,h=>by
  simp only [D.ji,Bool.and_eq_true]at h ⊢
  exact⟨iu hn hm d h.1,nB hn hm r h.2⟩
end
def S0:St:=⟨[],[]⟩
section
variable {P:Program} {f:Nat}
theorem aE.pure {args:List D} {d:D} (h:aE P f args S0 d S0) (ha:D.bR 0 0 args=true) (hd:D.ok 0 0 d=true) (s:St):aE P f args s d s:=by
 refine eU.frame [] [] h List.nodup_nil List.nodup_nil (by simp) (by simp) rfl (by simp) rfl (by simp) (by rw [fF _ _ _ ha]) ha ?_
 rintro _ _ ⟨rfl,rfl⟩
 refine⟨rL _ _ _ hd, ?_⟩
 simp [St.back,ky,S0]
theorem aE.kz {args row lE:List D} {d:D} (h:aE P f (.ptr 0 0::args) ⟨[row],[]⟩ d ⟨[lE],[]⟩) (ha:D.bR 0 0 args=true) (hr:D.bR 0 0 row=true) (HN:D.bR 0 0 lE=true) (hd:D.ok 0 0 d=true)
 {s:St} {o:Nat} (ho:s.aG[o]? = some row):aE P f (.ptr o 0::args) s d ⟨s.aG.set o lE,s.aH⟩:=by
 refine eU.frame [o] [] h (by simp) List.nodup_nil (by simpa using (List.getElem?_eq_some_iff.1 ho).1) (by simp) rfl (fun i o' ds e1 e2=> ?_) rfl (by simp) (by simp [D.gA,D.dW,fF _ _ _ ha])
  (by simp [D.bR,D.ok,iu (Nat.zero_le 1) (Nat.le_refl 0) _ ha]) ?_
 ·cases i with
  | zero=>simp at e1 e2;subst e1;subst e2;exact⟨by rw [fF _ _ _ hr];exact ho,iu (Nat.zero_le 1) (Nat.le_refl 0) _ hr⟩
  | succ i=>simp at e1
 ·rintro _ _ ⟨rfl,rfl⟩
  refine⟨rL _ _ _ hd, ?_⟩
  simp [St.back,ky,fF _ _ _ HN]
end
end Go.Abs
