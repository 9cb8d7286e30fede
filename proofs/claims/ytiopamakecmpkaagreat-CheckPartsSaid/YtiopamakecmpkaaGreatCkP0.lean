/-
  What is proved here: part 0 of the road to the claim (Globs, Abs, Lang, Rel, Sound, Sound2, Sound3, Sound4, Sound5, Sound6, Sound7, SoundM, Sound8, Code, Flow, Call, Frame, Frame2, Walk).
  No conditions.
-/
import GoSem.Core.Value
import Derived.Orders
import Derived.Calls
import Derived.Below
import Derived.Laws.AppendOwn
import Derived.Deep.AppendSrc
import Derived.Laws.StructEq
import Derived.Laws.Slices
import Derived.Laws.Strings
import Derived.Laws.IdiomStrings
import Derived.Laws.BytesString
import Derived.MapKept
import Derived.Scope

set_option linter.unusedSimpArgs false
set_option linter.unusedVariables false

/-! Globs -/

namespace Go.Abs
def X7:Nat→Option (Array Value):=fun _=>none
def n7:TypeId:=1000000
end Go.Abs

/-! Abs -/

namespace Go.Abs
inductive Tag where
 | full
 | shared
 | tok (t:Nat) (byte:Bool:=false) -- 'byte': its row's block bears the bytes' type
inductive D where
 | junk
 | int (k:IntKind) (n:Int)
 | bool (b:Bool)
 | str (s:List UInt8)
 | eM
 | ptr (o off:Nat)
 | dD (row:List D) (off:Nat)
 | slice (g:Tag) (size:Nat) (rows:List (List D))
 | agg (cells:List D)
 | tuple (vs:List D)
 | val (v:Value)
 | fc (T:TypeId) (o:Nat)
 | ga (f:Nat) (my:List D) -- a function value with what it captured
 | fZ (o:Nat) -- a map, kept as an object: keys and values by turns
instance:Inhabited D:=⟨.junk⟩
inductive Ob where
 | any
 | ty (T:TypeId)
 | map
structure Map where
 G:Nat→Nat→Option Value
 loc:Nat→Nat×Ob
 be:Nat→Option (Nat×Nat×Nat)
def Map.mu (M:Map) (o:Nat):Nat:=(M.loc o).1
def Ob.ty? : Ob→Option TypeId
 | .ty T=>some T
 | _=>none
def Map.ob (M:Map) (o:Nat):Ob:=(M.loc o).2
def Map.ty (M:Map) (o:Nat):Option TypeId:=(M.loc o).2.ty?
structure St where
 az:List (List D)
 aC:List (Option Nat)
def zs (z:Nat):Nat:=if z=0 then 1 else z
def bz (byte:Bool) (size:Nat):Nat:=match byte with | true=>0 | false=>size
def gW (M:Map) (s:St) (g:Tag) (size len:Nat) (base:Option (Nat×Nat)) (cap:Nat):Prop:=
 match g with
 | .full=>cap=len
 | .shared=>True
 | .tok t y=>t<s.aC.length∧∀ n,s.aC[t]? = some (some n)→len≤n∧
  (len=n→(M.be t=none∧cap=0∧(y=true→base=none))∨∃ b,base=some (b,0)∧M.be t=some (b,cap,bz y size))
inductive RD (M:Map) (s:St):D→Value→Prop where
 | junk (v:Value):RD M s .junk v
 | int (k:IntKind) (n:Int):RD M s (.int k n) (.int k n)
 | bool (b:Bool):RD M s (.bool b) (.bool b)
 | str (l:List UInt8):RD M s (.str l) (.string ⟨⟨l⟩⟩)
 | eM:RD M s .eM (.pointer none)
 | ptr (o off:Nat) (h:o<s.az.length) (hm:M.ob o≠ .map):RD M s (.ptr o off) (.pointer (some ⟨M.mu o,off,none⟩))
 | dD (row:List D) (off b k:Nat) (h1 : ∀ (i:Nat) (d:D),row[i]? = some d→∃ u,M.G b (k+i)=some u)
  (h2 : ∀ (i:Nat) (d:D) (u:Value),row[i]? = some d→M.G b (k+i)=some u→RD M s d u) :
  RD M s (.dD row off) (.pointer (some ⟨b,k+off,none⟩))
 | jf (g:Tag) (size cap:Nat) (hc:cap=0) (ht:gW M s g size 0 none cap):RD M s (.slice g size []) (.slice none 0 cap)
 | na (size:Nat) (a:Addr) (cap:Nat):RD M s (.slice .shared size []) (.slice (some a) 0 cap)
 | slice (g:Tag) (size:Nat) (rows:List (List D)) (b k cap:Nat) (hl:rows.length≤cap)
  (hs : ∀ row∈rows,row.length=size)
  (h1 : ∀ (i:Nat) (row:List D) (j:Nat) (d:D),rows[i]? = some row→row[j]? = some d→∃ u,M.G b (k+(i*size+j))=some u)
  (h2 : ∀ (i:Nat) (row:List D) (j:Nat) (d:D) (u:Value),rows[i]? = some row→row[j]? = some d→M.G b (k+(i*size+j))=some u→RD M s d u)
  (ht:gW M s g size rows.length (some (b,k)) cap) :
  RD M s (.slice g size rows) (.slice (some ⟨b,k,none⟩) rows.length cap)
 | agg (cells:List D) (vs:Array Value) (hl:cells.length=vs.size) (h1 : ∀ v∈vs,v.oneCell'=true)
  (h : ∀ (i:Nat) (d:D) (v:Value),cells[i]? = some d→vs[i]? = some v→RD M s d v):RD M s (.agg cells) (.agg vs)
 | tuple (ds:List D) (vs:Array Value) (hl:ds.length=vs.size)
  (h : ∀ (i:Nat) (d:D) (v:Value),ds[i]? = some d→vs[i]? = some v→RD M s d v):RD M s (.tuple ds) (.tuple vs)
 | val (v:Value) (h:v.oneCell'=true):RD M s (.val v) v
 | fc (T:TypeId) (o:Nat) (v:Value) (h:o<s.az.length) (ht:M.ty o=some T) (hv:v = .pointer none∨v = .pointer (some ⟨M.mu o,0,none⟩)):RD M s (.fc T o) v
 | ga (f:Nat) (ds:List D) (vs:Array Value) (hl:ds.length=vs.size)
  (h : ∀ (i:Nat) (d:D) (v:Value),ds[i]? = some d→vs[i]? = some v→RD M s d v):RD M s (.ga f ds) (.func (.func f) #[] vs)
 | fZ (o:Nat) (h:o<s.az.length) (hm:M.ob o = .map):RD M s (.fZ o) (.map (some (M.mu o)))
structure Le (M:Map) (s:St) (M':Map) (s':St):Prop where
 G : ∀ b o v,M.G b o=some v→M'.G b o=some v
 n:s.az.length≤s'.az.length
 loc : ∀ o,o<s.az.length→M'.loc o=M.loc o
 t:s.aC.length≤s'.aC.length
 tk : ∀ t n',t<s.aC.length→s'.aC[t]? = some (some n')→∃ n,s.aC[t]? = some (some n)∧n≤n'∧(n'=n→M'.be t=M.be t)
theorem Le.mu {M:Map} {s:St} {M':Map} {s':St} (h:Le M s M' s') : ∀ o,o<s.az.length→M'.mu o=M.mu o:=fun o ho=>congrArg Prod.fst (h.loc o ho)
theorem Le.ob {M:Map} {s:St} {M':Map} {s':St} (h:Le M s M' s') : ∀ o,o<s.az.length→M'.ob o=M.ob o:=fun o ho=>congrArg Prod.snd (h.loc o ho)
theorem Le.ty {M:Map} {s:St} {M':Map} {s':St} (h:Le M s M' s') : ∀ o,o<s.az.length→M'.ty o=M.ty o:=fun o ho=>congrArg (fun x=>x.2.ty?) (h.loc o ho)
theorem Le.refl (M:Map) (s:St):Le M s M s:=⟨fun _ _ _ h=>h,Nat.le_refl _,fun _ _=>rfl,Nat.le_refl _,fun _ n _ h=>⟨n,h,Nat.le_refl _,fun _=>rfl⟩⟩
theorem Le.trans {M M' IS:Map} {s s' Nf:St} (h:Le M s M' s') (k:Le M' s' IS Nf):Le M s IS Nf:=
 ⟨fun b o v e=>k.G b o v (h.G b o v e),Nat.le_trans h.n k.n,fun o ho=>(k.loc o (Nat.lt_of_lt_of_le ho h.n)).trans (h.loc o ho),Nat.le_trans h.t k.t,
  fun t n'' ht e=>by
   obtain⟨n',e',l,b⟩:=k.tk t n'' (Nat.lt_of_lt_of_le ht h.t) e
   obtain⟨n,Ng,l',b'⟩:=h.tk t n' ht e'
   refine⟨n,Ng,Nat.le_trans l' l,fun eq=> ?_⟩
   have h1:n'=n:=by omega
   have h2:n''=n':=by omega
   rw [b h2,b' h1]⟩
theorem gW.mono {M M':Map} {s s':St} (h:Le M s M' s') {g:Tag} {size len cap:Nat} {base:Option (Nat×Nat)} (ht:gW M s g size len base cap) :
 gW M' s' g size len base cap:=by
 cases g with
 | full=>exact ht
 | shared=>trivial
 | tok t y=>
  obtain⟨hC,ht⟩:=ht
  refine⟨Nat.lt_of_lt_of_le hC h.t,fun n' e'=> ?_⟩
  obtain⟨n,e,l,b⟩:=h.tk t n' hC e'
  obtain⟨l',b'⟩:=ht n e
  refine⟨Nat.le_trans l' l,fun eq=> ?_⟩
  have h1:n'=n:=by omega
  have h2:len=n:=by omega
  rw [b h1]
  exact b' h2
theorem RD.mono {M M':Map} {s s':St} (h:Le M s M' s') {d:D} {v:Value} (r:RD M s d v):RD M' s' d v:=by
 induction r with
 | junk v=>exact .junk v
 | int k n=>exact .int k n
 | bool b=>exact .bool b
 | str l=>exact .str l
 | eM=>exact .eM
 | ptr o off ho hm=>rw [← h.mu o ho];exact .ptr o off (Nat.lt_of_lt_of_le ho h.n) (by rw [h.ob o ho];exact hm)
 | dD row off b k h1 h2 ih=>
  refine .dD row off b k (fun i d e=> ?_) (fun i d u e eu=> ?_)
  ·obtain⟨u,hu⟩:=h1 i d e;exact⟨u,h.G _ _ _ hu⟩
  ·obtain⟨u',hu⟩:=h1 i d e
   have:=h.G _ _ _ hu
   rw [eu]at this
   cases this
   exact ih i d u e hu
 | jf g size cap hc ht=>exact .jf g size cap hc (ht.mono h)
 | na size a cap=>exact .na size a cap
 | slice g size rows b k cap hl hs h1 h2 ht ih=>
  refine .slice g size rows b k cap hl hs (fun i row j d e e2=> ?_) (fun i row j d u e e2 eu=> ?_) (ht.mono h)
  ·obtain⟨u,hu⟩:=h1 i row j d e e2;exact⟨u,h.G _ _ _ hu⟩
  ·obtain⟨u',hu⟩:=h1 i row j d e e2
   have:=h.G _ _ _ hu
   rw [eu]at this
   cases this
   exact ih i row j d u e e2 hu
 | agg cells vs hl h1 _ ih=>exact .agg cells vs hl h1 ih
 | tuple ds vs hl _ ih=>exact .tuple ds vs hl ih
 | val v hv=>exact .val v hv
 | fc T o v ho ht hv=>exact .fc T o v (Nat.lt_of_lt_of_le ho h.n) (by rw [h.ty o ho];exact ht) (by rw [h.mu o ho];exact hv)
 | ga f ds vs hl _ ih=>exact .ga f ds vs hl ih
 | fZ o ho hm=>rw [← h.mu o ho];exact .fZ o (Nat.lt_of_lt_of_le ho h.n) (by rw [h.ob o ho];exact hm)
def St.live (s:St) (t:Nat):Prop:=∃ n,s.aC[t]? = some (some n)
def gA:List MapEntry→List Value
 | []=> []
 | e::l=>e.key::e.val::gA l
def lN (x:Option Obj) (k:Ob) (vs:Array Value) (T:TypeId):Prop:=
 match k with
 | .map=>∃ es ck,x=some (.map es ck)∧vs.toList=gA es.toList
 | _=>x=some (.cells vs T (0,0))
theorem lN.cells {x:Option Obj} {k:Ob} {vs:Array Value} {T:TypeId} (h:lN x k vs T) (hk:k≠ .map):x=some (.cells vs T (0,0)):=by
 cases k with
 | map=>exact absurd rfl hk
 | any=>exact h
 | ty _=>exact h
theorem lN.of {x:Option Obj} {k:Ob} {vs:Array Value} {T:TypeId} (h:x=some (.cells vs T (0,0))) (hk:k≠ .map):lN x k vs T:=by
 cases k with
 | map=>exact absurd rfl hk
 | any=>exact h
 | ty _=>exact h
theorem lN.some {x:Option Obj} {k:Ob} {vs:Array Value} {T:TypeId} (h:lN x k vs T) : ∃ o,x=some o:=by
 cases k with
 | map=>obtain⟨es,ck,h,_⟩:=h;exact⟨_,h⟩
 | any=>exact⟨_,h⟩
 | ty _=>exact⟨_,h⟩
theorem lN.lt {w:World} {b:Nat} {k:Ob} {vs:Array Value} {T:TypeId} (h:lN w.heap[b]? k vs T):b<w.heap.size:=by
 obtain⟨o,h⟩:=h.some
 exact(Array.getElem?_eq_some_iff.1 h).1
structure Rel (M:Map) (s:St) (w:World):Prop where
 comm : ∀ b o v,M.G b o=some v→w.cell? ⟨b,o,none⟩=some v∧v.oneCell'=true
 obj : ∀ (o:Nat) (ds:List D),s.az[o]? = some ds→∃ (vs:Array Value) (T:TypeId),lN w.heap[M.mu o]? (M.ob o) vs T∧vs.size=ds.length∧
  ((∀ v∈vs,v.oneCell'=true)∧∀ T',M.ty o=some T'→T'=T)∧∀ (i:Nat) (d:D) (v:Value),ds[i]? = some d→vs[i]? = some v→RD M s d v
 ko : ∀ o,o<s.az.length→∀ off,M.G (M.mu o) off=none
 inj : ∀ o o',o<s.az.length→o'<s.az.length→M.mu o=M.mu o'→o=o'
 tok : ∀ t n,s.aC[t]? = some (some n)→(M.be t=none∧n=0)∨∃ (b cap z:Nat) (vs:Array Value) (T:TypeId),M.be t=some (b,cap,z)∧
  w.heap[b]? = some (.cells vs T (0,0))∧vs.size=cap*zs z∧n≤cap∧(∀ off,n*zs z≤off→M.G b off=none)∧(z=0→T=n7)
 eX : ∀ t b c z o,s.live t→M.be t=some (b,c,z)→o<s.az.length→M.mu o≠b
 fz : ∀ t t' b c z c' z',s.live t→s.live t'→M.be t=some (b,c,z)→M.be t'=some (b,c',z')→t=t'
structure Ext (M:Map) (s:St) (w:World) (M':Map) (s':St) (w':World):Prop where
 le:Le M s M' s'
 kept : ∀ b,b<w.heap.size→(∀ o,o<s.az.length→M.mu o≠b)→(∀ t c z,s.live t→M.be t≠some (b,c,z))→w'.heap[b]? = w.heap[b]?
 pL : ∀ o,s.az.length≤o→o<s'.az.length→w.heap.size≤M'.mu o
 pM : ∀ t b c z,s'.live t→M'.be t=some (b,c,z)→(s.live t∧∃ c' z',M.be t=some (b,c',z'))∨w.heap.size≤b
 rX : ∀ b o,M'.G b o≠M.G b o→w.heap.size≤b∨∃ t c z,s.live t∧M.be t=some (b,c,z)
 size:w.heap.size≤w'.heap.size
 os:w'.os=w.os
 tape:w'.tape=w.tape
 output:w'.output=w.output
theorem Ext.refl (M:Map) (s:St) (w:World):Ext M s w M s w:=
 ⟨Le.refl M s,fun _ _ _ _=>rfl,fun o h h'=>by omega,fun t b c z h e=> .inl ⟨h,c,z,e⟩,fun _ _ h=>(h rfl).elim,Nat.le_refl _,rfl,rfl,rfl⟩
theorem Ext.trans {M M' IS:Map} {s s' Nf:St} {w w' w'':World} (h:Ext M s w M' s' w') (k:Ext M' s' w' IS Nf w''):Ext M s w IS Nf w'':=by
 refine⟨h.le.trans k.le,fun b hb ho ht=> ?_,fun o h1 h2=> ?_,fun t b c z h1 e=> ?_,fun b o fi=> ?_,Nat.le_trans h.size k.size,
  k.os.trans h.os,k.tape.trans h.tape,k.output.trans h.output⟩
 ·rw [k.kept b (Nat.lt_of_lt_of_le hb h.size) (fun o hC e=> ?_) (fun t c z hC e=> ?_),h.kept b hb ho ht]
  ·rcases Nat.lt_or_ge o s.az.length with h1 | h1
   ·exact ho o h1 ((h.le.mu o h1).symm.trans e)
   ·have:=h.pL o h1 hC;omega
  ·rcases h.pM t b c z hC e with ⟨h1,c',z',e'⟩ | h1
   ·exact ht t c' z' h1 e'
   ·omega
 ·rcases Nat.lt_or_ge o s'.az.length with h3 | h3
  ·rw [k.le.mu o h3];exact h.pL o h1 h3
  ·exact Nat.le_trans h.size (k.pL o h3 h2)
 ·rcases k.pM t b c z h1 e with ⟨h2,c',z',e'⟩ | h2
  ·exact h.pM t b c' z' h2 e'
  ·exact .inr (Nat.le_trans h.size h2)
 ·by_cases e:M'.G b o=M.G b o
  ·have:IS.G b o≠M'.G b o:=fun e'=>fi (e'.trans e)
   rcases k.rX b o this with h1 | ⟨t,c,z,h1,h2⟩
   ·exact .inl (Nat.le_trans h.size h1)
   ·rcases h.pM t b c z h1 h2 with ⟨h3,c',z',e'⟩ | h3
    ·exact .inr ⟨t,c',z',h3,e'⟩
    ·exact .inl h3
  ·exact h.rX b o e
def Laid (M:Map) (s:St) (w:World):Prop:=∀ g cs,X7 g=some cs→
 (∃ T fr,w.heap[g]? = some (.cells cs T fr))∧(∀ o,o<s.az.length→M.mu o≠g)∧∀ t c z,s.live t→M.be t≠some (g,c,z)
theorem Laid.ext {M M':Map} {s s':St} {w w':World} (h:Laid M s w) (e:Ext M s w M' s' w'):Laid M' s' w':=by
 intro g cs hg
 obtain⟨⟨T,fr,h1⟩,h2,h3⟩:=h g cs hg
 have hC:g<w.heap.size:=(Array.getElem?_eq_some_iff.1 h1).1
 refine⟨⟨T,fr,by rw [e.kept g hC h2 h3];exact h1⟩,fun o ho=> ?_,fun t c z hl hb=> ?_⟩
 ·rcases Nat.lt_or_ge o s.az.length with h4 | h4
  ·rw [e.le.mu o h4];exact h2 o h4
  ·have:=e.pL o h4 ho;omega
 ·rcases e.pM t g c z hl hb with ⟨h4,c',z',h5⟩ | h4
  ·exact h3 t c' z' h4 h5
  ·omega
end Go.Abs

/-! Lang -/

namespace Go.Abs
abbrev Tm:=List (Nat×D)
def Tm.get:Tm→Nat→D
 | [],_=> .junk
 | (k,d)::r,t=>if k=t then d else Tm.get r t
def Tm.set:Tm→Nat→D→Tm
 | [],t,d=> [(t,d)]
 | (k,e)::r,t,d=>if k=t then(k,d)::r else(k,e)::Tm.set r t d
def Tm.put (tm:Tm) (dst:Option Nat) (d:D):Tm:=
 match dst with
 | some t=>tm.set t d
 | none=>tm
inductive X where
 | s (t:Nat)
 | k (d:D)
def X.ev (tm:Tm):X→D
 | .s t=>tm.get t
 | .k d=>d
inductive AO where
 | mv (x:X)
 | pick (c a b:X)
 | alloc (zero:List D)
 | box (x:X)
 | build (zero:List D) (parts:List (Nat×Nat×X))
 | cT (zero:List D) (size n:Nat) (parts:List (Nat×X))
 | s5 (zero:List D) (size n:Nat) (parts:List (Nat×X))
 | yd (x:X)
 | load (x:X) (agg:Bool) (size:Nat)
 | store (p x:X) (size:Nat)
 | db (x:X)
 | bin (op:BinOp) (x y:X)
 | xH (neg:Bool) (x y:X)
 | eqs (neg:Bool) (ks:List Nat) (x y:X) -- the fields' kinds: 0 an integer, 1 a bool, 2 a text
 | DA (neg:Bool) (x y:X)
 | un (op:UnOp) (x:X)
 | conv (k:IntKind) (x:X)
 | A9 (x:X)
 | vK (x:X)
 | Fw (size:Nat) (x:X) (lo hi:Option X)
 | va (x:X) (lo hi:Option X)
 | av (x:X) (off:Nat)
 | rl (x:X) (off:Nat) (agg:Bool) (size:Nat)
 | ca (x i:X) (size:Nat)
 | nJ (x i:X)
 | ext (x:X) (i:Nat)
 | len (x:X)
 | ll (x:X)
 | app (size bytes:Nat) (x y:X)
 | mm (isMax:Bool) (x y:X)
 | rm (zero:List D) (T:TypeId) -- a new object whose first cell is to hold its own address
 | ye (x:X) (T:TypeId)
 | yf (x y:X) -- bytes behind others
 | apps (x y:X) -- a text's bytes behind others
 | sC (f:Nat) (xs:List X) -- a function value
 | sD
 | wO (m k v:X) -- a text's slice in a map
 | uh (m k:X) (zero:D)
inductive AI where
 | im (dst:Option Nat) (g:Option (Nat×Bool)) (t:Nat) (xs:List X) -- what a slot holds is called
 | nil (dst:Option Nat) (g:Option (Nat×Bool)) (neg:Bool) (x:X) -- is a slice nil? (of an empty one nothing is known)
 | op (dst:Option Nat) (g:Option (Nat×Bool)) (o:AO)
 | call (dst:Option Nat) (g:Option (Nat×Bool)) (f:Nat) (xs:List X)
inductive AC where
 | skip
 | run (is:List AI)
 | par (is:List AI) (kR:List (Nat×Nat))
 | seq (a b:AC)
 | cond (x:X) (a b:AC)
 | block (id:Nat) (a:AC)
 | loop (a:AC)
 | exit (id:Nat)
 | scope (a:AC)
 | label (l:Nat)
 | goto (l:Nat)
 | ret
structure AF where
 ntmps:Nat
 results:List (Nat×Option (Bool×Nat)) -- a slot; or a slot that holds the address, whether an aggregate, how many cells
 body:AC
inductive AK where
 | pure
 | load
 | alloc
 | core
 deriving DecidableEq
def AO.kind:AO→AK
 | .alloc _=> .core
 | .box _=> .core
 | .s5 .. => .core
 | .yd _=> .core
 | .store .. => .core
 | .app .. => .core
 | .rm .. => .core
 | .ye .. => .core
 | .yf .. => .core
 | .apps .. => .core
 | .sD=> .core
 | .wO .. => .core
 | .uh .. => .load
 | .load .. => .load
 | _=> .pure
def AI.kind:AI→AK
 | .op (some _) none (.alloc _)=> .alloc
 | .op _ _ o=>o.kind
 | _=> .core
def AI.dst:AI→Option Nat
 | .op d _ _=>d
 | .call d _ _ _=>d
 | .nil d _ _ _=>d
 | .im d _ _ _=>d
def X.reads:X→List Nat
 | .s t=> [t]
 | .k _=> []
def mM:List X→List Nat
 | []=> []
 | x::r=>x.reads++mM r
def yg:Option X→List Nat
 | none=> []
 | some x=>x.reads
def AO.reads:AO→List Nat
 | .mv x=>x.reads
 | .pick c a b=>c.reads++(a.reads++b.reads)
 | .alloc _=> []
 | .box x=>x.reads
 | .build _ ps=>mM (ps.map (·.2.2))
 | .cT _ _ _ ps=>mM (ps.map (·.2))
 | .s5 _ _ _ ps=>mM (ps.map (·.2))
 | .yd x=>x.reads
 | .load x _ _=>x.reads
 | .store p x _=>p.reads++x.reads
 | .db x=>x.reads
 | .bin _ x y=>x.reads++y.reads
 | .xH _ x y=>x.reads++y.reads
 | .eqs _ _ x y=>x.reads++y.reads
 | .DA _ x y=>x.reads++y.reads
 | .un _ x=>x.reads
 | .conv _ x=>x.reads
 | .A9 x=>x.reads
 | .vK x=>x.reads
 | .Fw _ x lo hi=>x.reads++(yg lo++yg hi)
 | .va x lo hi=>x.reads++(yg lo++yg hi)
 | .av x _=>x.reads
 | .rl x _ _ _=>x.reads
 | .ca x i _=>x.reads++i.reads
 | .nJ x i=>x.reads++i.reads
 | .ext x _=>x.reads
 | .len x=>x.reads
 | .ll x=>x.reads
 | .app _ _ x y=>x.reads++y.reads
 | .mm _ x y=>x.reads++y.reads
 | .rm _ _=> []
 | .ye x _=>x.reads
 | .yf x y=>x.reads++y.reads
 | .apps x y=>x.reads++y.reads
 | .sC _ xs=>mM xs
 | .sD=> []
 | .wO m k v=>m.reads++(k.reads++v.reads)
 | .uh m k _=>m.reads++k.reads
def s6:Option (Nat×Bool)→List Nat
 | none=> []
 | some (t,_)=> [t]
def AI.reads:AI→List Nat
 | .op _ g o=>s6 g++o.reads
 | .call _ g _ xs=>s6 g++mM xs
 | .nil _ g _ x=>s6 g++x.reads
 | .im _ g t xs=>s6 g++(t::mM xs)
def Bb (d:Option Nat) (l:List Nat):Bool:=
 match d with
 | none=>true
 | some t=> !l.contains t
def AI.apart (a q:AI):Bool:=
 Bb a.dst q.reads && Bb q.dst a.reads && (match a.dst,q.dst with | some x,some y=>x != y | _,_=>true)
def gf (l:List (List Nat)) (i:Nat):List Nat:=l.getD i []
def iu (is:List AI) (i:Nat):AK:=
 match is[i]? with
 | some a=>a.kind
 | none=> .core
def ke (is:List AI) (i j:Nat):Bool:=
 match is[i]?,is[j]? with
 | some a,some b=>a.apart b
 | _,_=>false
def fP:AK→Bool
 | .core=>true
 | .alloc=>true
 | _=>false
def iC (is:List AI) (l:List Nat):Nat:=(l.filter fun i=>fP (iu is i)).length
def jX (is:List AI) (pq:List Nat):List Nat→Bool
 | []=>true
 | a::r=>(!(iu is a == .alloc && pq.contains a) || r.all pq.contains) && jX is pq r
def nK (is:List AI) (pt:List (List Nat)) (pre:List Nat) (q b:Nat):Bool:=
 match iu is q with
 | .core=>pre.all (gf pt q).contains
 | .alloc=>pre.all fun a=>ke is a q
 | .pure=>(pre.all fun a=>(gf pt q).contains a || ke is a q) && jX is (gf pt q) pre
 | .load=>(pre.all fun a=>(gf pt q).contains a || ke is a q) && jX is (gf pt q) pre &&
  decide (iC is (pre.filter fun a=> !(gf pt q).contains a)≤b)
def sh (is:List AI) (af pt:List (List Nat)):List Nat→List (Nat×Nat)→Bool
 | _,[]=>true
 | pre,(q,b)::r=>nK is pt pre q b && !pre.contains q && ((gf af q).all fun j=>j != q && !(r.map (·.1)).contains j) && sh is af pt (q::pre) r
def vL (af pt:List (List Nat)):Nat→Bool
 | 0=>true
 | i+1=>((gf pt i).all fun j=>(gf af i).contains j || (gf af i).any fun k=>(gf pt k).contains j) && vL af pt i
def Fx (is:List AI) (af pt:List (List Nat)) (kR:List (Nat×Nat)):Bool:=
 vL af pt is.length && sh is af pt [] kR && (List.range is.length).all (kR.map (·.1)).contains && kR.all (fun p=>decide (p.1<is.length)) &&
  (List.range is.length).all fun i=>(gf af i).all fun j=>decide (j<is.length)
def lS (o:Oper):List Nat:=(o.after.toList.filter (Region.binds .any)).map (·.on)
def Fy:List (List Nat)→List (List Nat)→List (List Nat)
 | done,[]=>done
 | done,es::r=>Fy (done++ [(es.flatMap fun k=>gf done k).foldl (fun l j=>if l.contains j then l else l++ [j]) es]) r
def T7 (is:List AI) (pt:List (List Nat)):List Nat→List Nat→List Nat→List Nat
 | [],rest,out=>out++((rest.filter fun j=>iu is j == .alloc)++rest.filter fun j=> !(iu is j == .alloc))
 | c::cs,rest,out=>
  let QQ:=rest.filter fun j=>(gf pt c).contains j
  T7 is pt cs (rest.filter fun j=> !(QQ.contains j) && j != c) (out++((QQ.filter fun j=>iu is j == .alloc)++(QQ.filter fun j=> !(iu is j == .alloc))++ [c]))
def T8 (is:List AI) (pt:List (List Nat)):List Nat→List Nat→List (Nat×Nat)
 | _,[]=> []
 | pre,q::r=>(q,if iu is q == .load then iC is (pre.filter fun a=> !(gf pt q).contains a)else 0)::T8 is pt (q::pre) r
def Nh (is:List AI) (af:List (List Nat)):List (Nat×Nat):=
 let pt:=Fy [] af
 let all:=List.range is.length
 T8 is pt [] (T7 is pt (all.filter fun i=>iu is i == .core) all [])
def D.row:D→Option (List D)
 | .agg cs=>some cs
 | .junk=>none
 | .tuple _=>none
 | d=>some [d]
def part (cs:List D) (off:Nat) (agg:Bool) (size:Nat):Option D:=
 match agg with
 | true=>if off+size≤cs.length then some (.agg ((cs.drop off).take size))else none
 | false=>cs[off]?
def iM (cs:List D) (off:Nat) (r:List D):List D:=cs.take off++r++cs.drop (off+r.length)
def pN (cells:List D):List (Nat×Nat×D)→Option (List D)
 | []=>some cells
 | (off,size,d)::rest=>
  match d.row with
  | none=>none
  | some r=>if r.length=size∧off+size≤cells.length then pN (iM cells off r) rest else none
def hY (zero:List D):Nat→List (List D)
 | 0=> []
 | n+1=>zero::hY zero n
def iR (size:Nat) (rows:List (List D)):List (Nat×D)→Option (List (List D))
 | []=>some rows
 | (i,d)::rest=>
  match d.row with
  | none=>none
  | some r=>if r.length=size∧i<rows.length then iR size (rows.set i r) rest else none
def bytesLess:List UInt8→List UInt8→Bool:=Op.bytesLess
def bQ:Nat:=1099511627776
def fq (op:BinOp) (k:IntKind) (a b:Int):Option D:=
 match op with
 | .add=>some (.int k (k.wrap (a+b)))
 | .sub=>some (.int k (k.wrap (a - b)))
 | .mul=>some (.int k (k.wrap (a*b)))
 | .quo=>if b=0 then none else some (.int k (k.wrap (a.tdiv b)))
 | .rem=>if b=0 then none else some (.int k (a.tmod b))
 | .eql=>some (.bool (a==b))
 | .neq=>some (.bool (a != b))
 | .lss=>some (.bool (decide (a<b)))
 | .leq=>some (.bool (decide (a≤b)))
 | .gtr=>some (.bool (decide (a > b)))
 | .geq=>some (.bool (decide (a≥b)))
 | _=>none
def mN (op:BinOp) (a b:List UInt8):Option D:=
 match op with
 | .add=>if a.length+b.length≤bQ then some (.str (a++b))else none
 | .eql=>some (.bool (a==b))
 | .neq=>some (.bool (!(a==b)))
 | .lss=>some (.bool (bytesLess a b))
 | _=>none
def vb (op:BinOp) (x y:D):Option D:=
 match x,y with
 | .int k a, .int k' b=>if k=k' then fq op k a b else none
 | .str a, .str b=>mN op a b
 | _,_=>none
def lT:Nat→D→D→Option Bool
 | 0, .int k a, .int k' b=>if k=k' then some (a==b)else none
 | 1, .bool a, .bool b=>some (a==b)
 | 2, .str a, .str b=>some (a==b)
 | _,_,_=>none
def kf:List Nat→List D→List D→Option Bool
 | [],[],[]=>some true
 | k::ks,x::xs,y::ys=>
  match lT k x y with
  | none=>none
  | some true=>kf ks xs ys
  | some false=>some false
 | _,_,_=>none
def Fz (op:UnOp) (x:D):Option D:=
 match op,x with
 | .neg, .int k n=>some (.int k (k.wrap (0 - n)))
 | .not, .bool b=>some (.bool (!b))
 | _,_=>none
def DB:List D→Option UInt8
 | [.int .u8 n]=>some (UInt8.ofNat n.toNat)
 | _=>none
def mX:List (List D)→Option (List UInt8)
 | []=>some []
 | r::rs=>
  match DB r,mX rs with
  | some b,some bs=>some (b::bs)
  | _,_=>none
def Tag.cut (g:Tag) (whole:Bool):Tag:=
 match g with
 | .full=>if whole then .full else .shared
 | g=>g
def yh (lo:Option D):Option Int:=
 match lo with
 | none=>some 0
 | some (.int _ n)=>some n
 | _=>none
def yi (hi:Option D) (len:Nat):Option Int:=
 match hi with
 | none=>some len
 | some (.int _ n)=>some n
 | _=>none
def kp (size bytes:Nat) (x y:D) (s:St):Option (D×St):=
 match x,y with
 | .slice g z rows, .slice _ z' new=>
  if(rows = []∨z=size)∧(new = []∨z'=size)∧(rows.length+new.length)*(bytes+1)≤bQ then
   match new with
   | []=>some (.slice g z rows,s)
   | _::_=>
    match g with
    | .full=>some (.slice (.tok s.aC.length) size (rows++new),{s with aC:=s.aC++ [some (rows.length+new.length)]})
    | .shared=>none
    | .tok _ true=>none
    | .tok t false=>if z=size∧s.aC[t]? = some (some rows.length)then some (.slice (.tok t) size (rows++new),{s with aC:=s.aC.set t (some (rows.length+new.length))})else none
  else none
 | _,_=>none
def yj (x y:D) (s:St):Option (D×St):=
 match x,y with
 | .slice g z rows, .slice _ z' new=>
  if(rows = []∨z=1)∧(new = []∨z'=1)∧(rows.length+new.length)*2≤bQ then
   match new with
   | []=>some (.slice g z rows,s)
   | _::_=>
    match g with
    | .full=>some (.slice (.tok s.aC.length true) 1 (rows++new),{s with aC:=s.aC++ [some (rows.length+new.length)]})
    | .shared=>none
    | .tok t y=>if z=1∧s.aC[t]? = some (some rows.length)then some (.slice (.tok t y) 1 (rows++new),{s with aC:=s.aC.set t (some (rows.length+new.length))})else none
  else none
 | _,_=>none
def wP (key:List UInt8) (zero:D):List D→Option D
 | []=>some zero
 | .str k::d::r=>if k==key then some d else wP key zero r
 | _=>none
def vd (key:List UInt8) (v:D):List D→Option (List D)
 | []=>some [.str key,v]
 | .str k::d::r=>if k==key then some (.str k::v::r)else match vd key v r with | some r'=>some (.str k::d::r') | none=>none
 | _=>none
def aW (o:AO) (tm:Tm) (s:St):Option (D×St):=
 match o with
 | .mv x=>some (x.ev tm,s)
 | .pick c a b=>
  match c.ev tm with
  | .bool t=>some (if t then a.ev tm else b.ev tm,s)
  | _=>none
 | .alloc zero=>some (.ptr s.az.length 0,{s with az:=s.az++ [zero]})
 | .box x=>
  match (x.ev tm).row with
  | some r=>some (.ptr s.az.length 0,{s with az:=s.az++ [r]})
  | none=>none
 | .build zero parts=>
  match pN zero (parts.map fun p=>(p.1,p.2.1,p.2.2.ev tm))with
  | some cs=>some (.agg cs,s)
  | none=>none
 | .cT zero size n parts=>
  match iR size (hY zero n) (parts.map fun p=>(p.1,p.2.ev tm))with
  | some rows=>some (.slice .full size rows,s)
  | none=>none
 | .s5 zero size n parts=>
  match iR size (hY zero n) (parts.map fun p=>(p.1,p.2.ev tm))with
  | some rows=>some (.slice (.tok s.aC.length) size rows,{s with aC:=s.aC++ [some rows.length]})
  | none=>none
 | .yd x=>
  match x.ev tm with
  | .slice (.tok t _) z rows=>if rows≠ []∧s.aC[t]? = some (some rows.length)then some (.slice .shared z rows,{s with aC:=s.aC.set t none})else none
  | _=>none
 | .load x agg size=>
  match x.ev tm with
  | .ptr o off=>
   match s.az[o]? with
   | some cs=>match part cs off agg size with | some d=>some (d,s) | none=>none
   | none=>none
  | .dD row off=>match part row off agg size with | some d=>some (d,s) | none=>none
  | _=>none
 | .store p x size=>
  match p.ev tm,(x.ev tm).row with
  | .ptr o off,some r=>
   match s.az[o]? with
   | some cs=>if r.length=size∧off+size≤cs.length then some (.tuple [],{s with az:=s.az.set o (iM cs off r)})else none
   | none=>none
  | _,_=>none
 | .db x=>
  match x.ev tm with
  | .ptr o off=>some (.ptr o off,s)
  | .dD row off=>some (.dD row off,s)
  | _=>none
 | .bin op x y=>match vb op (x.ev tm) (y.ev tm)with | some d=>some (d,s) | none=>none
 | .xH neg x y=>
  match x.ev tm,y.ev tm with
  | .bool a, .bool b=>some (.bool (if neg then !(a==b)else a==b),s)
  | _,_=>none
 | .eqs neg ks x y=>
  match x.ev tm,y.ev tm with
  | .agg a, .agg b=>match kf ks a b with | some e=>some (.bool (if neg then !e else e),s) | none=>none
  | _,_=>none
 | .DA neg x y=>
  match x.ev tm,y.ev tm with
  | .eM, .eM=>some (.bool (!neg),s)
  | .ptr _ _, .eM=>some (.bool neg,s)
  | .dD _ _, .eM=>some (.bool neg,s)
  | _,_=>none
 | .un op x=>match Fz op (x.ev tm)with | some d=>some (d,s) | none=>none
 | .conv k x=>match x.ev tm with | .int _ n=>some (.int k (k.wrap n),s) | _=>none
 | .A9 x=>
  match x.ev tm with
  | .slice _ _ rows=>match mX rows with | some b=>some (.str b,s) | none=>none
  | _=>none
 | .vK x=>
  match x.ev tm with
  | .str l=>some (.slice .shared 1 (l.map fun c=> [.int .u8 c.toNat]),s)
  | _=>none
 | .Fw size x lo hi=>
  match x.ev tm with
  | .slice g z rows=>
   match yh (lo.map (·.ev tm)),yi (hi.map (·.ev tm)) rows.length with
   | some l,some h=>
    if(rows = []∨z=size)∧0≤l∧l≤h∧h≤rows.length then
     some (.slice (if l=0 then g.cut (h=rows.length)else .shared) z ((rows.take h.toNat).drop l.toNat),s)else none
   | _,_=>none
  | _=>none
 | .va x lo hi=>
  match x.ev tm with
  | .str t=>
   match yh (lo.map (·.ev tm)),yi (hi.map (·.ev tm)) t.length with
   | some l,some h=>if 0≤l∧l≤h∧h≤t.length then some (.str ((t.take h.toNat).drop l.toNat),s)else none
   | _,_=>none
  | _=>none
 | .av x off=>
  match x.ev tm with
  | .ptr o k=>some (.ptr o (k+off),s)
  | .dD row k=>some (.dD row (k+off),s)
  | _=>none
 | .rl x off agg size=>
  match x.ev tm with
  | .agg cs=>match part cs off agg size with | some d=>some (d,s) | none=>none
  | _=>none
 | .ca x i size=>
  match x.ev tm,i.ev tm with
  | .slice _ z rows, .int _ n=>
   if 0≤n∧z=size then
    match rows[n.toNat]? with
    | some row=>some (.dD row 0,s)
    | none=>none
   else none
  | _,_=>none
 | .nJ x i=>
  match x.ev tm,i.ev tm with
  | .str t, .int _ n=>
   if 0≤n then
    match t[n.toNat]? with
    | some c=>some (.int .u8 c.toNat,s)
    | none=>none
   else none
  | _,_=>none
 | .ext x i=>
  match x.ev tm with
  | .tuple ds=>match ds[i]? with | some d=>some (d,s) | none=>none
  | _=>none
 | .ll x=>
  match x.ev tm with
  | .str t=>some (.int .i64 t.length,s)
  | _=>none
 | .len x=>
  match x.ev tm with
  | .slice _ _ rows=>some (.int .i64 rows.length,s)
  | _=>none
 | .app size bytes x y=>kp size bytes (x.ev tm) (y.ev tm) s
 | .mm isMax x y=>
  match x.ev tm,y.ev tm with
  | .int k a, .int k' b=>if k=k' then some (.int k (if isMax then(if b > a then b else a)else(if b<a then b else a)),s)else none
  | _,_=>none
 | .rm zero T=>
  match zero with
  | .eM::r=>some (.ptr s.az.length 0,{s with az:=s.az++ [.fc T s.az.length::r]})
  | _=>none
 | .ye x T=>
  match (x.ev tm).row with
  | some (.eM::r)=>some (.ptr s.az.length 0,{s with az:=s.az++ [.fc T s.az.length::r]})
  | _=>none
 | .yf x y=>yj (x.ev tm) (y.ev tm) s
 | .apps x y=>
  match y.ev tm with
  | .str l=>yj (x.ev tm) (.slice .shared 1 (l.map fun c=> [.int .u8 c.toNat])) s
  | _=>none
 | .sC f xs=>some (.ga f (xs.map (·.ev tm)),s)
 | .sD=>some (.fZ s.az.length,{s with az:=s.az++ [[]]})
 | .wO m k v=>
  match m.ev tm,k.ev tm,v.ev tm with
  | .fZ o, .str key, .slice g z rows=>
   match s.az[o]? with
   | some cs=>match vd key (.slice g z rows) cs with | some oo=>some (.tuple [],{s with az:=s.az.set o oo}) | none=>none
   | none=>none
  | _,_,_=>none
 | .uh m k zero=>
  match m.ev tm,k.ev tm with
  | .fZ o, .str key=>
   match s.az[o]? with
   | some cs=>match wP key zero cs with | some d=>some (d,s) | none=>none
   | none=>none
  | _,_=>none
def QR (b:ByteArray):List UInt8:=b.data.toList
def qF:Value→Option D
 | .int k n=>some (.int k n)
 | .bool b=>some (.bool b)
 | .string b=>some (.str (QR b))
 | .pointer none=>some .eM
 | .slice none 0 0=>some (.slice .full 0 [])
 | .nilIface=>some (.val .nilIface)
 | _=>none
def mz:List Value→Option (List D)
 | []=>some []
 | v::r=>match qF v,mz r with | some d,some ds=>some (d::ds) | _,_=>none
def An:Value→Option D
 | .slice none 0 0=>some (.val (.slice none 0 0))
 | v=>qF v
def ui:List Value→Option (List D)
 | []=>some []
 | v::r=>match An v,ui r with | some d,some ds=>some (d::ds) | _,_=>none
def JQ:Value→Option D
 | .agg cs=>(mz cs.toList).map .agg
 | .tuple ⟨[]⟩=>some (.tuple [])
 | v=>qF v
def cX:Operand→Option X
 | .tmp t=>some (.s t)
 | .const v=>(JQ v).map .k
 | .func f=>some (.k (.ga f []))
 | _=>none
def vM:List Operand→Option (List X)
 | []=>some []
 | x::r=>match cX x,vM r with | some d,some ds=>some (d::ds) | _,_=>none
def T9:Option Operand→Option (Option X)
 | none=>some none
 | some x=>(cX x).map some
section
variable (P:Program)
def rn (t:TypeId):Option Bool:=
 match P.underlying t with
 | some (.struct _) | some (.array _ _)=>some true
 | some _=>some false
 | none=>none
def zeroOf (t:TypeId):Option (List D):=
 match P.info? t with
 | some i=>match i.zero with | some z=>if z.cells.size=i.size then mz z.cells.toList else none | none=>none
 | none=>none
def ln (t:TypeId) (f:Nat):Option (Nat×Nat×Bool):=
 match P.underlying t with
 | some (.struct fs)=>
  match fs[f]? with
  | some fd=>match P.info? fd.type,rn P fd.type with
   | some i,some a=>if i.size=0 then none else some (fd.offset,i.size,a)
   | _,_=>none
  | none=>none
 | _=>none
def Ni (t u:TypeId):Bool:=
 match P.underlying u with
 | some (.pointer e)=>e==t
 | _=>false
def X8 (t:TypeId):Bool:=
 match P.underlying t with
 | some (.struct fs)=>
  match fs[0]? with
  | some f=>Ni P t f.type
  | none=>false
 | _=>false
def JR (t:TypeId):Bool:=
 match P.underlying t with
 | some (.struct fs)=>
  match fs[0]? with
  | some f=>Ni P t f.type || X8 P f.type
  | none=>false
 | _=>false
def JS (self:Bool) (l:List Value):Option (List D):=if self then ui l else mz l
def wQ (t:TypeId):Option (List D):=
 match P.info? t with
 | some i=>match i.zero with | some z=>if z.cells.size=i.size then JS (JR P t) z.cells.toList else none | none=>none
 | none=>none
def yk (t:TypeId):List (Nat×Operand)→Option (List (Nat×Nat×X))
 | []=>some []
 | (i,x)::r=>match ln P t i,cX x,yk t r with
  | some (off,size,_),some x',some r'=>some ((off,size,x')::r')
  | _,_,_=>none
def FA:List (Nat×Operand)→Option (List (Nat×X))
 | []=>some []
 | (i,x)::r=>match cX x,FA r with
  | some x',some r'=>some ((i,x')::r')
  | _,_=>none
def lU (t:TypeId):Option Nat:=
 match P.underlying t with
 | some (.int _)=>some 0
 | some .bool=>some 1
 | some .string=>some 2
 | _=>none
def zi:Nat→List Field→Option (List Nat)
 | _,[]=>some []
 | n,f::fs=>
  if f.offset=n∧f.name≠ "_" then
   match lU P f.type,zi (n+1) fs with
   | some k,some ks=>some (k::ks)
   | _,_=>none
  else none
def oF (t:TypeId):Option (List Nat):=
 match P.underlying t with
 | some (.struct fs)=>if P.eqGuardType P.depth t=false∧P.stoodInHeld t=false then zi P 0 fs.toList else none
 | _=>none
def Bc (o:Oper):Option AO:=
 match o.op with
 | .move x | .assign x=>(cX x).map .mv
 | .pick c a b=>match cX c,cX a,cX b with | some c,some a,some b=>some (.pick c a b) | _,_,_=>none
 | .alloc t=>if JR P t then(wQ P t).map (.rm · t)else(zeroOf P t).map .alloc
 | .box t x=>if JR P t then(cX x).map (.ye · t)else(cX x).map .box
 | .build t parts=>
  match P.underlying t,wQ P t,yk P t parts.toList with
  | some (.struct fs),some z,some ps=>if fs.toList.all fun f=>(P.info? f.type).isSome then some (.build z ps)else none
  | _,_,_=>none
 | .buildSlice t n parts=>
  match P.underlying t with
  | some (.slice e)=>
   match P.info? e,zeroOf P e,FA parts.toList with
   | some i,some z,some ps=>if 0<i.size∧n*i.size≤65536 then some (.cT z i.size n ps)else none
   | _,_,_=>none
  | _=>none
 | .load t x=>
  match cX x,rn P t,P.info? t with
  | some x,some a,some i=>some (.load x a i.size)
  | _,_,_=>none
 | .store t a x=>
  match cX a,cX x,P.info? t with
  | some a,some x,some i=>some (.store a x i.size)
  | _,_,_=>none
 | .nilCheck x=>(cX x).map .db
 | .binOp op t x y _=>
  match cX x,cX y with
  | some x,some y=>
   match P.underlying t,op with
   | some (.int _),_=>some (.bin op x y)
   | some .string,_=>some (.bin op x y)
   | some .bool, .eql=>some (.xH false x y)
   | some .bool, .neq=>some (.xH true x y)
   | some (.pointer _), .eql=>some (.DA false x y)
   | some (.pointer _), .neq=>some (.DA true x y)
   | some (.struct _), .eql=>(oF P t).map (.eqs false · x y)
   | some (.struct _), .neq=>(oF P t).map (.eqs true · x y)
   | _,_=>none
  | _,_=>none
 | .unOp op _ x=>(cX x).map (.un op)
 | .convert src dst x=>
  match cX x,P.underlying src,P.underlying dst with
  | some x,some (.int _),some (.int k)=>some (.conv k x)
  | some x,some (.slice e),some .string=>match P.underlying e with | some (.int .u8)=>some (.A9 x) | _=>none
  | some x,some (.slice e),some (.slice _)=>match P.underlying e with | some (.int .u8)=>if src=dst then some (.yd x)else none | _=>none
  | some x,some .string,some (.slice e)=>match P.underlying e,P.info? e with | some (.int .u8),some i=>if i.size=1 then some (.vK x)else none | _,_=>none
  | _,_,_=>none
 | .slice t x lo hi none=>
  match cX x,T9 lo,T9 hi,P.underlying t with
  | some x,some lo,some hi,some .string=>some (.va x lo hi)
  | some x,some lo,some hi,some (.slice e)=>match P.info? e with | some i=>some (.Fw i.size x lo hi) | none=>none
  | _,_,_,_=>none
 | .fieldAddr t x f=>match cX x,ln P t f with | some x,some (off,_,_)=>some (.av x off) | _,_=>none
 | .field t x f=>match cX x,ln P t f with | some x,some (off,size,a)=>some (.rl x off a size) | _,_=>none
 | .indexAddr t x i=>
  match cX x,cX i,P.underlying t with
  | some x,some i,some (.slice e)=>match P.info? e with | some j=>if 0<j.size then some (.ca x i j.size)else none | none=>none
  | _,_,_=>none
 | .index t x i=>match cX x,cX i,P.underlying t with | some x,some i,some .string=>some (.nJ x i) | _,_,_=>none
 | .extract x i=>(cX x).map (.ext · i)
 | .call {callee:= .builtin .len,args,argTypes}=>
  match args.toList,argTypes.toList with
  | [x],[t]=>match P.underlying t with
   | some .string=>(cX x).map .ll
   | some (.slice _)=>(cX x).map .len
   | _=>none
  | _,_=>none
 | .call {callee:= .builtin .append,args,argTypes}=>
  match args.toList,argTypes.toList with
  | [x,y],[t,u]=>match P.underlying t,P.underlying u,cX x,cX y with
   | some (.slice e),some (.slice _),some x,some y=>match P.info? e,zeroOf P e with
    | some i,some _=>if 0<i.size then some (if e=n7∧i.size=1∧i.bytes=1 then .yf x y else .app i.size i.bytes x y)else none
    | _,_=>none
   | some (.slice e),some .string,some x,some y=>match P.info? e,zeroOf P e with
    | some i,some _=>if e=n7∧i.size=1∧i.bytes=1 then some (.apps x y)else none
    | _,_=>none
   | _,_,_,_=>none
  | _,_=>none
 | .call {callee:= .builtin .max,args, ..}=>
  match args.toList with
  | [x,y]=>match cX x,cX y with | some x,some y=>some (.mm true x y) | _,_=>none
  | _=>none
 | .call {callee:= .builtin .min,args, ..}=>
  match args.toList with
  | [x,y]=>match cX x,cX y with | some x,some y=>some (.mm false x y) | _,_=>none
  | _=>none
 | .makeFunc (.func f) first captured=>if first.size=0 then(vM captured.toList).map (.sC f)else none
 | .makeMap t none=>match P.underlying t with | some (.map _ _)=>some .sD | _=>none
 | .mapUpdate t m k v=>
  match P.underlying t,cX m,cX k,cX v with
  | some (.map kt _),some m,some k,some v=>match P.underlying kt with | some .string=>some (.wO m k v) | _=>none
  | _,_,_,_=>none
 | .lookup t m k false=>
  match P.underlying t,cX m,cX k with
  | some (.map kt e),some m,some k=>
   match P.underlying kt,P.info? e with
   | some .string,some i=>match i.zero with | some z=>(qF z).map (.uh m k) | none=>none
   | _,_=>none
  | _,_,_=>none
 | _=>none
def s7 (ops:Array Oper):Option (Nat×Bool)→Option (Option (Nat×Bool))
 | none=>some none
 | some (j,b)=>
  match (ops[j]?).bind (·.dst)with
  | some t=>some (some (t,b))
  | none=>none
def enters (f:FuncId):Bool:=
 match P.funcs[f]? with
 | some fn=>fn.body.isSome && !(fn.name == "runtime.NumGoroutine")
 | none=>false
def frozenIn (ops:Array Oper) (dst:Option Nat):Bool:=
 ops.toList.any fun o=>match o.op,dst with
  | .convert s d (.tmp t),some t'=>t==t' && s==d
  | _,_=>false
def Cz (o:Oper):Option (Bool×X):=
 match o.op with
 | .binOp op t x (.const (.slice none 0 0)) _=>
  match P.underlying t,op,cX x with
  | some (.slice _), .eql,some x=>some (false,x)
  | some (.slice _), .neq,some x=>some (true,x)
  | _,_,_=>none
 | _=>none
def Ua (nt:Nat) (dst:Option Nat):Bool:=
 match dst with
 | some d=>decide (d<nt)
 | none=>true
def qW (ops:Array Oper) (o:Oper) (g:Option (Nat×Bool)):Option AI:=
 match o.op with
 | .call {callee:= .value (.func f),args, ..}=>if enters P f then(vM args.toList).map (.call o.dst g f)else none
 | .call {callee:= .value (.tmp t),args, ..}=>(vM args.toList).map (.im o.dst g t)
 | _=>
  match Cz P o with
  | some (neg,x)=>some (.nil o.dst g neg x)
  | none=>
   match Bc P o with
   | some (.cT z k n ps)=>some (.op o.dst g (if frozenIn ops o.dst then .s5 z k n ps else .cT z k n ps))
   | some ao=>some (.op o.dst g ao)
   | none=>none
def cI (nt:Nat) (ops:Array Oper) (o:Oper):Option AI:=
 match s7 ops o.guard with
 | none=>none
 | some g=>if Ua nt o.dst=true then qW P ops o g else none
def pO (nt:Nat) (ops:Array Oper):List Oper→Option (List AI)
 | []=>some []
 | o::r=>match cI P nt ops o,pO nt ops r with | some i,some is=>some (i::is) | _,_=>none
def Ub (is:List AI) (af:List (List Nat)):Option AC:=
 if Fx is af (Fy [] af) (Nh is af)then some (.par is (Nh is af))else none
def cC (nt:Nat):Code→Option AC
 | .skip=>some .skip
 | .region _ ops false=>(pO P nt ops ops.toList).map .run
 | .region _ ops true=>if P.follows .mixedOrders then(pO P nt ops ops.toList).bind (Ub · (ops.toList.map lS))else none
 | .seq a b=>match cC nt a,cC nt b with | some a,some b=>some (.seq a b) | _,_=>none
 | .cond x a b=>match cX x,cC nt a,cC nt b with | some x,some a,some b=>some (.cond x a b) | _,_,_=>none
 | .block id a=>(cC nt a).map (.block id)
 | .loop a=>(cC nt a).map .loop
 | .exit id=>some (.exit id)
 | .scope a=>(cC nt a).map .scope
 | .label l=>some (.label l)
 | .goto l=>some (.goto l)
 | .ret=>some .ret
 | _=>none
def Ao:List ResultVar→Option (List (Nat×Option (Bool×Nat)))
 | []=>some []
 | .tmp t::r=>(Ao r).map ((t,none):: ·)
 | .cell a t::r=>match rn P t,P.info? t,Ao r with
  | some g,some i,some r'=>some ((a,some (g,i.size))::r')
  | _,_,_=>none
def cF (fn:Func):Option AF:=
 match fn.body with
 | some c=>match cC P fn.ntmps c,Ao P fn.results.toList with
  | some b,some r=>some ⟨fn.ntmps,r,b⟩
  | _,_=>none
 | none=>none
end
end Go.Abs

/-! Rel -/

namespace Go.Abs
theorem jY {w:World} {b:Nat} {vs:Array Value} {T:TypeId} {fr:Nat×Nat} (h:w.heap[b]? = some (.cells vs T fr)) (o:Nat):w.cell? ⟨b,o,none⟩=vs[o]? :=by
 simp [World.cell?,h]
theorem kY {w:World} {b:Nat} {o:Obj} (h:w.heap[b]? = some o):b<w.heap.size:=(Array.getElem?_eq_some_iff.1 h).1
section
variable {M:Map} {s:St} {w:World}
theorem Rel.CA (r:Rel M s w) {b o:Nat} {v:Value} (h:M.G b o=some v):b<w.heap.size:=World.block_lt_of_cell? w _ (r.comm b o v h).1
theorem Rel.Uc (r:Rel M s w) {b:Nat} (h:w.heap.size≤b) (o:Nat):M.G b o=none:=by
 cases e:M.G b o with
 | none=>rfl
 | some v=>have:=r.CA e;omega
theorem Rel.pP (r:Rel M s w) {o:Nat} (h:o<s.az.length):M.mu o<w.heap.size:=by
 obtain⟨vs,T,hh,_⟩:=r.obj o _ (List.getElem?_eq_getElem h)
 exact hh.lt
theorem Rel.sE (r:Rel M s w) {t b c z:Nat} (h:s.live t) (e:M.be t=some (b,c,z)):b<w.heap.size:=by
 obtain⟨n,hn⟩:=h
 rcases r.tok t n hn with ⟨h1,_⟩ | ⟨b',cap,size,vs,T,h1,h2,_⟩
 ·rw [e]at h1;cases h1
 ·rw [e]at h1;cases h1;exact kY h2
theorem Rel.of_heap (r:Rel M s w) {w':World} (h:w'.heap=w.heap):Rel M s w':=by
 refine⟨fun b o v e=> ?_,fun o ds e=> ?_,r.ko,r.inj,fun t n e=> ?_,r.eX,r.fz⟩
 ·obtain⟨h1,h2⟩:=r.comm b o v e
  refine⟨?_,h2⟩
  rw [← h1];simp [World.cell?,h]
 ·rw [h];exact r.obj o ds e
 ·rw [h];exact r.tok t n e
theorem Ext.of_heap {w':World} (h:w'.heap=w.heap) (h1:w'.os=w.os) (h2:w'.tape=w.tape) (h3:w'.output=w.output):Ext M s w M s w':=
 ⟨Le.refl M s,fun _ _ _ _=>by rw [h],fun o h h'=>by omega,fun t b c z h e=> .inl ⟨h,c,z,e⟩,fun _ _ h=>(h rfl).elim,by rw [h];exact Nat.le_refl _,h1,h2,h3⟩
def Map.dM (M:Map) (n b:Nat) (x:Ob:= .any):Map:= {M with loc:=fun o=>if o=n then(b,x)else M.loc o}
theorem s8 (s:St) (b:Nat) (ds:List D) (x:Ob:= .any):Le M s (M.dM s.az.length b x) {s with az:=s.az++ [ds]}:=
 ⟨fun _ _ _ h=>h,by simp,fun o ho=>by simp [Map.dM];omega,Nat.le_refl _,fun t n _ h=>⟨n,h,Nat.le_refl _,fun _=>rfl⟩⟩
theorem Rel.Nj (r:Rel M s w) (ds:List D) (ob:Obj) (vs:Array Value) (T:TypeId) (x:Ob) (vN:lN (some ob) x vs T) (hx : ∀ T',x.ty? = some T'→T'=T) (hl:vs.size=ds.length) (h1 : ∀ v∈vs,v.oneCell'=true)
 (h2 : ∀ (i:Nat) (d:D) (v:Value),ds[i]? = some d→vs[i]? = some v→RD (M.dM s.az.length w.heap.size x) {s with az:=s.az++ [ds]} d v) :
 Rel (M.dM s.az.length w.heap.size x) {s with az:=s.az++ [ds]} (w.alloc ob)∧
 Ext M s w (M.dM s.az.length w.heap.size x) {s with az:=s.az++ [ds]} (w.alloc ob):=by
 have le:=s8 (M:=M) s w.heap.size ds x
 have pw : ∀ o,o<s.az.length→(M.dM s.az.length w.heap.size x).mu o=M.mu o:=le.mu
 have dS:(M.dM s.az.length w.heap.size x).mu s.az.length=w.heap.size:=by simp [Map.dM,Map.mu]
 have abX:(M.dM s.az.length w.heap.size x).ty s.az.length=x.ty? :=by simp [Map.dM,Map.ty]
 have abY:(M.dM s.az.length w.heap.size x).ob s.az.length=x:=by simp [Map.dM,Map.ob]
 refine⟨⟨fun b o v e=> ?_,fun o qz e=> ?_,fun o ho off=> ?_,fun o o' ho lH e=> ?_,fun t n e=> ?_,fun t b c z o hl e ho=> ?_,fun t t' b c z c' z' h h' e e'=>r.fz t t' b c z c' z' h h' e e'⟩, ?_⟩
 ·obtain⟨h3,h4⟩:=r.comm b o v e
  refine⟨?_,h4⟩
  rw [World.cell?_alloc_lt]
  ·exact h3
  ·exact r.CA e
 ·rcases Nat.lt_or_ge o s.az.length with ho | ho
  ·rw [List.getElem?_append_left ho]at e
   obtain⟨fj,T',h3,h4,h5,h6⟩:=r.obj o qz e
   refine⟨fj,T', ?_,h4,⟨h5.1,by rw [le.ty o ho];exact h5.2⟩,fun i d v e1 e2=>(h6 i d v e1 e2).mono le⟩
   rw [pw o ho,le.ob o ho,heap_alloc_old w _ _ h3.lt];exact h3
  ·rw [List.getElem?_append_right ho]at e
   have:o=s.az.length:=by
    have:=(List.getElem?_eq_some_iff.1 e).1
    simp at this;omega
   subst this
   simp at e;subst e
   refine⟨vs,T, ?_,hl,⟨h1,by rw [abX];exact hx⟩,fun i d v e1 e2=>h2 i d v e1 e2⟩
   rw [dS,abY,heap_alloc_new];exact vN
 ·simp at ho
  rcases Nat.lt_or_ge o s.az.length with h3 | h3
  ·rw [pw o h3];exact r.ko o h3 off
  ·have:o=s.az.length:=by omega
   subst this
   rw [dS];exact r.Uc (Nat.le_refl _) off
 ·simp at ho lH
  rcases Nat.lt_or_ge o s.az.length with h3 | h3 <;> rcases Nat.lt_or_ge o' s.az.length with h4 | h4
  ·rw [pw o h3,pw o' h4]at e;exact r.inj o o' h3 h4 e
  ·have:o'=s.az.length:=by omega
   subst this
   rw [pw o h3,dS]at e
   have:=r.pP h3;omega
  ·have:o=s.az.length:=by omega
   subst this
   rw [pw o' h4,dS]at e
   have:=r.pP h4;omega
  ·omega
 ·rcases r.tok t n e with h3 | ⟨b,cap,size,fj,T',h3,h4,h5⟩
  ·exact .inl h3
  ·exact .inr ⟨b,cap,size,fj,T',h3,by rw [heap_alloc_old w _ _ (kY h4)];exact h4,h5⟩
 ·simp at ho
  rcases Nat.lt_or_ge o s.az.length with h3 | h3
  ·rw [pw o h3];exact r.eX t b c z o hl e h3
  ·have:o=s.az.length:=by omega
   subst this
   rw [dS]
   have:=r.sE hl e;omega
 ·refine⟨le,fun b hb _ _=>heap_alloc_old w _ b hb,fun o h3 h4=> ?_,fun t b c z h e=> .inl ⟨h,c,z,e⟩,fun _ _ h=>(h rfl).elim,by simp,rfl,rfl,rfl⟩
  simp at h4
  have:o=s.az.length:=by omega
  subst this
  rw [dS];exact Nat.le_refl _
theorem Rel.FB (r:Rel M s w) (ds:List D) (vs:Array Value) (T:TypeId) (x:Ob) (hk:x≠ .map) (hx : ∀ T',x.ty? = some T'→T'=T) (hl:vs.size=ds.length) (h1 : ∀ v∈vs,v.oneCell'=true)
 (h2 : ∀ (i:Nat) (d:D) (v:Value),ds[i]? = some d→vs[i]? = some v→RD (M.dM s.az.length w.heap.size x) {s with az:=s.az++ [ds]} d v) :
 Rel (M.dM s.az.length w.heap.size x) {s with az:=s.az++ [ds]} (w.alloc (.cells vs T))∧
 Ext M s w (M.dM s.az.length w.heap.size x) {s with az:=s.az++ [ds]} (w.alloc (.cells vs T)):=
 r.Nj ds _ vs T x (lN.of rfl hk) hx hl h1 h2
theorem Rel.dM (r:Rel M s w) (ds:List D) (vs:Array Value) (T:TypeId) (hl:vs.size=ds.length) (h1 : ∀ v∈vs,v.oneCell'=true)
 (h2 : ∀ (i:Nat) (d:D) (v:Value),ds[i]? = some d→vs[i]? = some v→RD M s d v) :
 Rel (M.dM s.az.length w.heap.size) {s with az:=s.az++ [ds]} (w.alloc (.cells vs T))∧
 Ext M s w (M.dM s.az.length w.heap.size) {s with az:=s.az++ [ds]} (w.alloc (.cells vs T)):=
 r.FB ds vs T .any (by simp) (fun _ h=>by cases h) hl h1 fun i d v e1 e2=>(h2 i d v e1 e2).mono (s8 s w.heap.size ds)
theorem uj (cs:List D) (off:Nat) (r:List D) (h:off+r.length≤cs.length) (i:Nat) :
 (iM cs off r)[i]? = if i<off then cs[i]? else if i<off+r.length then r[i - off]? else cs[i]? :=by
 unfold iM
 have hl:(cs.take off).length=off:=by simp;omega
 split
 ·rename_i h1
  rw [List.append_assoc,List.getElem?_append_left (by omega),List.getElem?_take_of_lt h1]
 ·rename_i h1
  rw [List.append_assoc,List.getElem?_append_right (by omega),hl]
  split
  ·rename_i h2
   rw [List.getElem?_append_left (by omega)]
  ·rename_i h2
   rw [List.getElem?_append_right (by omega),List.getElem?_drop]
   congr 1;omega
theorem xI (cs:List D) (off:Nat) (r:List D) (h:off+r.length≤cs.length):(iM cs off r).length=cs.length:=by
 unfold iM;simp;omega
theorem Rel.afm (P:Program) (r:Rel M s w) {o off:Nat} {cs:List D} (he:s.az[o]? = some cs) (hk:M.ob o≠ .map) (row:List D) (us:List Value) (hu:us.length=row.length) (kq:off+row.length≤cs.length)
 (h1 : ∀ u∈us,u.oneCell'=true) (h2 : ∀ (i:Nat) (d:D) (v:Value),row[i]? = some d→us[i]? = some v→RD M s d v) :
 ∃ w',(storeCells (⟨M.mu o,off,none⟩:Addr) us).run P w = .ok () w'∧Rel M {s with az:=s.az.set o (iM cs off row)} w'∧Ext M s w M {s with az:=s.az.set o (iM cs off row)} w':=by
 obtain⟨vs,T,hh,hs,⟨jO,Ud⟩,oG⟩:=r.obj o cs he
 replace hh:=hh.cells hk
 have ho:o<s.az.length:=(List.getElem?_eq_some_iff.1 he).1
 have zO:=run_storeCells_at P (M.mu o) off T us 0 vs w hh (by omega) h1
 simp only [Nat.add_zero]at zO
 have le:Le M s M {s with az:=s.az.set o (iM cs off row)}:=
  ⟨fun _ _ _ h=>h,by simp,fun _ _=>rfl,Nat.le_refl _,fun t n _ h=>⟨n,h,Nat.le_refl _,fun _=>rfl⟩⟩
 generalize dS:(vs.toList.take off++us++vs.toList.drop (off+us.length)).toArray=uk at zO
 have QS:uk.size=vs.size:=by rw [← dS];simp;omega
 have hE : ∀ i,uk[i]? = if i<off then vs[i]? else if i<off+row.length then us[i - off]? else vs[i]? :=by
  intro i
  rw [← dS]
  simp only [List.getElem?_toArray]
  have hl:(vs.toList.take off).length=off:=by simp;omega
  split
  ·rename_i h3
   rw [List.append_assoc,List.getElem?_append_left (by omega),List.getElem?_take_of_lt h3];simp
  ·rename_i h3
   rw [List.append_assoc,List.getElem?_append_right (by omega),hl]
   split
   ·rename_i h4
    rw [List.getElem?_append_left (by omega)]
   ·rename_i h4
    rw [List.getElem?_append_right (by omega),List.getElem?_drop]
    rw [show off+us.length+(i - off - us.length)=i by omega];simp
 have kZ : ∀ b,b≠M.mu o→(w.setRow (M.mu o) uk).heap[b]? = w.heap[b]? :=fun b hb=>setRow_other w (M.mu o) b _ hb
 refine⟨_,zO,⟨fun b q v e=> ?_,fun o' ds e=> ?_,fun q hq ve=>r.ko q (by simpa using hq) ve,fun q q' hq qA e=>r.inj q q' (by simpa using hq) (by simpa using qA) e,fun t n e=> ?_,
  fun t b c z q hl e hq=>r.eX t b c z q hl e (by simpa using hq),fun t t' b c z c' z' h h' e e'=>r.fz t t' b c z c' z' h h' e e'⟩, ?_⟩
 ·obtain⟨h3,h4⟩:=r.comm b q v e
  refine⟨?_,h4⟩
  have hb:b≠M.mu o:=fun eq=>by subst eq;rw [r.ko o ho q]at e;cases e
  rw [← h3]
  simp [World.cell?,kZ b hb]
 ·rw [List.getElem?_set]at e
  split at e
  ·rename_i heq
   subst heq
   simp at e
   obtain⟨_,rfl⟩:=e
   refine⟨uk,T,lN.of (setRow_heap w (M.mu o) vs uk T (0,0) hh) hk,by rw [QS,hs,xI cs off row kq],⟨fun v hv=> ?_,Ud⟩,fun i d v e1 e2=> ?_⟩
   ·rw [← dS]at hv
    simp at hv
    rcases hv with hv | hv | hv
    ·exact jO v (Array.mem_toList_iff.1 (List.mem_of_mem_take hv))
    ·exact h1 v hv
    ·exact jO v (Array.mem_toList_iff.1 (List.mem_of_mem_drop hv))
   ·rw [uj cs off row kq]at e1
    rw [hE]at e2
    split at e1
    ·rename_i h3;simp only [h3,if_true]at e2;exact(oG i d v e1 e2).mono le
    ·rename_i h3
     simp only [h3,if_false]at e2
     split at e1
     ·rename_i h4;simp only [h4,if_true]at e2;exact(h2 _ d v e1 e2).mono le
     ·rename_i h4;simp only [h4,if_false]at e2;exact(oG i d v e1 e2).mono le
  ·rename_i fi
   obtain⟨fj,T',h3,h4,h5,h6⟩:=r.obj o' ds e
   have lH:o'<s.az.length:=(List.getElem?_eq_some_iff.1 e).1
   refine⟨fj,T', ?_,h4,h5,fun i d v e1 e2=>(h6 i d v e1 e2).mono le⟩
   rw [kZ _ (fun eq=>fi (r.inj o o' ho lH eq.symm))];exact h3
 ·rcases r.tok t n e with h3 | ⟨b,cap,size,fj,T',h3,h4,h5⟩
  ·exact .inl h3
  ·refine .inr ⟨b,cap,size,fj,T',h3, ?_,h5⟩
   rw [kZ b (fun eq=>r.eX t b cap size o ⟨n,e⟩ h3 ho eq.symm)];exact h4
 ·refine⟨le,fun b hb h3 _=>kZ b (fun eq=>h3 o ho eq.symm),fun q h3 h4=> ?_,fun t b c z h e=> .inl ⟨h,c,z,e⟩,fun _ _ h=>(h rfl).elim,by simp,rfl,rfl,rfl⟩
  simp at h4;omega
def Map.e7 (M:Map) (b n:Nat) (vs:Array Value):Map:= {M with G:=fun b' o=>if b'=b then(if o<n then vs[o]? else none)else M.G b' o}
theorem Nk (r:Rel M s w) (n:Nat) (vs:Array Value):Le M s (M.e7 w.heap.size n vs) s:=
 ⟨fun b o v h=>by
  have hb:b≠w.heap.size:=fun e=>by have:=r.CA h;omega
  simp [Map.e7,hb,h],Nat.le_refl _,fun _ _=>rfl,Nat.le_refl _,fun t n _ h=>⟨n,h,Nat.le_refl _,fun _=>rfl⟩⟩
theorem Rel.e7 (r:Rel M s w) (n:Nat) (vs:Array Value) (T:TypeId) (fr:Nat×Nat) (h1 : ∀ v∈vs,v.oneCell'=true) :
 Rel (M.e7 w.heap.size n vs) s (w.alloc (.cells vs T fr))∧Ext M s w (M.e7 w.heap.size n vs) s (w.alloc (.cells vs T fr)):=by
 have le:=Nk r n vs
 have hold : ∀ b,b<w.heap.size→∀ o,(M.e7 w.heap.size n vs).G b o=M.G b o:=fun b hb o=>by
  have:b≠w.heap.size:=by omega
  simp [Map.e7,this]
 refine⟨⟨fun b o v e=> ?_,fun o ds e=> ?_,fun o ho off=> ?_,r.inj,fun t k e=> ?_,r.eX,r.fz⟩, ?_⟩
 ·by_cases hb:b=w.heap.size
  ·subst hb
   simp [Map.e7]at e
   obtain⟨_,e⟩:=e
   refine⟨by rw [jY (heap_alloc_new w _)];exact e,h1 v (Array.mem_of_getElem? e)⟩
  ·simp [Map.e7,hb]at e
   obtain⟨h3,h4⟩:=r.comm b o v e
   refine⟨?_,h4⟩
   rw [World.cell?_alloc_lt]
   ·exact h3
   ·exact r.CA e
 ·obtain⟨fj,T',h3,h4,h5,h6⟩:=r.obj o ds e
  exact⟨fj,T',by show lN (w.alloc _).heap[M.mu o]? (M.ob o) _ _;rw [heap_alloc_old w _ _ h3.lt];exact h3,h4,h5,fun i d v e1 e2=>(h6 i d v e1 e2).mono le⟩
 ·rw [hold]
  ·exact r.ko o ho off
  ·exact r.pP ho
 ·rcases r.tok t k e with h3 | ⟨b,cap,size,fj,T',h3,h4,h5,h6,h7⟩
  ·exact .inl h3
  ·exact .inr ⟨b,cap,size,fj,T',h3,by rw [heap_alloc_old w _ _ (kY h4)];exact h4,h5,h6,fun off ho=>by rw [hold b (kY h4)];exact h7.1 off ho,h7.2⟩
 ·refine⟨le,fun b hb _ _=>heap_alloc_old w _ b hb,fun o h3 h4=>by omega,fun t b c z h e=> .inl ⟨h,c,z,e⟩,fun b o h=> ?_,by simp,rfl,rfl,rfl⟩
  rcases Nat.lt_or_ge b w.heap.size with hb | hb
  ·exact(h (hold b hb o)).elim
  ·exact .inl hb
def Map.ej (M:Map) (t:Nat) (x:Option (Nat×Nat×Nat)):Map:= {M with be:=fun t'=>if t'=t then x else M.be t'}
theorem Rel.Ue (r:Rel M s w) (n b cap size:Nat) (vs:Array Value) (T:TypeId) (hb:w.heap[b]? = some (.cells vs T (0,0))) (ep:vs.size=cap*zs size) (hn:n≤cap) (hy:size=0→T=n7)
 (hG : ∀ off,n*zs size≤off→M.G b off=none) (ho : ∀ o,o<s.az.length→M.mu o≠b) (ht : ∀ t c z,s.live t→M.be t≠some (b,c,z)) :
 Rel (M.ej s.aC.length (some (b,cap,size))) {s with aC:=s.aC++ [some n]} w∧Le M s (M.ej s.aC.length (some (b,cap,size))) {s with aC:=s.aC++ [some n]}:=by
 have gK : ∀ t,St.live {s with aC:=s.aC++ [some n]} t→s.live t∨t=s.aC.length:=by
  rintro t ⟨k,hk⟩
  rcases Nat.lt_or_ge t s.aC.length with h | h
  ·rw [List.getElem?_append_left h]at hk;exact .inl ⟨k,hk⟩
  ·have:=(List.getElem?_eq_some_iff.1 hk).1
   simp at this;exact .inr (by omega)
 have hC : ∀ t,s.live t→t<s.aC.length:=fun t ⟨k,hk⟩=>(List.getElem?_eq_some_iff.1 hk).1
 have hold : ∀ t,t<s.aC.length→(M.ej s.aC.length (some (b,cap,size))).be t=M.be t:=fun t h=>by simp [Map.ej];omega
 have dS:(M.ej s.aC.length (some (b,cap,size))).be s.aC.length=some (b,cap,size):=by simp [Map.ej]
 have le:Le M s (M.ej s.aC.length (some (b,cap,size))) {s with aC:=s.aC++ [some n]}:=
  ⟨fun _ _ _ h=>h,Nat.le_refl _,fun _ _=>rfl,by simp,fun t k h e=>by
   rw [List.getElem?_append_left h]at e
   exact⟨k,e,Nat.le_refl _,fun _=>hold t h⟩⟩
 refine⟨⟨r.comm,fun o ds e=> ?_,r.ko,r.inj,fun t k e=> ?_,fun t b' c z o hl e lH=> ?_,fun t t' b' c z c' z' h h' e e'=> ?_⟩,le⟩
 ·obtain⟨fj,T',h3,h4,h5,h6⟩:=r.obj o ds e
  exact⟨fj,T',h3,h4,h5,fun i d v e1 e2=>(h6 i d v e1 e2).mono le⟩
 ·rcases Nat.lt_or_ge t s.aC.length with h | h
  ·rw [List.getElem?_append_left h]at e
   rw [hold t h];exact r.tok t k e
  ·have:=(List.getElem?_eq_some_iff.1 e).1
   simp at this
   have:t=s.aC.length:=by omega
   subst this
   simp at e;subst e
   exact .inr ⟨b,cap,size,vs,T,dS,hb,ep,hn,hG,hy⟩
 ·rcases gK t hl with h | h
  ·rw [hold t (hC t h)]at e;exact r.eX t b' c z o h e lH
  ·subst h;rw [dS]at e;cases e;exact ho o lH
 ·rcases gK t h with h | h <;> rcases gK t' h' with h' | h'
  ·rw [hold t (hC t h)]at e;rw [hold t' (hC t' h')]at e';exact r.fz t t' b' c z c' z' h h' e e'
  ·subst h';rw [dS]at e';cases e';rw [hold t (hC t h)]at e;exact(ht t c z h e).elim
  ·subst h;rw [dS]at e;cases e;rw [hold t' (hC t' h')]at e';exact(ht t' c' z' h' e').elim
  ·omega
theorem Rel.abZ (r:Rel M s w) (t n n' b cap size:Nat) (vs:Array Value) (T:TypeId) (Bd:s.aC[t]? = some (some n)) (hnn:n<n') (hb:w.heap[b]? = some (.cells vs T (0,0))) (ep:vs.size=cap*zs size) (hn:n'≤cap) (hy:size=0→T=n7)
 (hG : ∀ off,n'*zs size≤off→M.G b off=none) (ho : ∀ o,o<s.az.length→M.mu o≠b) (ht : ∀ t c z,s.live t→M.be t≠some (b,c,z)) :
 Rel (M.ej t (some (b,cap,size))) {s with aC:=s.aC.set t (some n')} w∧Le M s (M.ej t (some (b,cap,size))) {s with aC:=s.aC.set t (some n')}:=by
 have Nl:t<s.aC.length:=(List.getElem?_eq_some_iff.1 Bd).1
 have gK : ∀ q,St.live {s with aC:=s.aC.set t (some n')} q→s.live q:=by
  rintro q ⟨k,hk⟩
  rw [List.getElem?_set]at hk
  split at hk
  ·rename_i h;subst h;exact⟨n,Bd⟩
  ·exact⟨k,hk⟩
 have hold : ∀ q,q≠t→(M.ej t (some (b,cap,size))).be q=M.be q:=fun q h=>by simp [Map.ej,h]
 have dS:(M.ej t (some (b,cap,size))).be t=some (b,cap,size):=by simp [Map.ej]
 have le:Le M s (M.ej t (some (b,cap,size))) {s with aC:=s.aC.set t (some n')}:=
  ⟨fun _ _ _ h=>h,Nat.le_refl _,fun _ _=>rfl,by simp,fun q k h e=>by
   rw [List.getElem?_set]at e
   split at e
   ·rename_i h2;subst h2
    simp at e;subst e
    exact⟨n,Bd,by omega,fun h=>by omega⟩
   ·rename_i h2
    exact⟨k,e,Nat.le_refl _,fun _=>hold q (fun h=>h2 h.symm)⟩⟩
 refine⟨⟨r.comm,fun o ds e=> ?_,r.ko,r.inj,fun q k e=> ?_,fun q b' c z o hl e lH=> ?_,fun q q' b' c z c' z' h h' e e'=> ?_⟩,le⟩
 ·obtain⟨fj,T',h3,h4,h5,h6⟩:=r.obj o ds e
  exact⟨fj,T',h3,h4,h5,fun i d v e1 e2=>(h6 i d v e1 e2).mono le⟩
 ·rw [List.getElem?_set]at e
  split at e
  ·rename_i h2;subst h2
   simp at e;subst e
   exact .inr ⟨b,cap,size,vs,T,dS,hb,ep,hn,hG,hy⟩
  ·rename_i h2
   rw [hold q (fun h=>h2 h.symm)];exact r.tok q k e
 ·by_cases h:q=t
  ·subst h;rw [dS]at e;cases e;exact ho o lH
  ·rw [hold q h]at e;exact r.eX q b' c z o (gK q hl) e lH
 ·by_cases h1:q=t <;> by_cases h2:q'=t
  ·omega
  ·subst h1;rw [dS]at e;cases e;rw [hold q' h2]at e';exact(ht q' c' z' (gK q' h') e').elim
  ·subst h2;rw [dS]at e';cases e';rw [hold q h1]at e;exact(ht q c z (gK q h) e).elim
  ·rw [hold q h1]at e;rw [hold q' h2]at e';exact r.fz q q' b' c z c' z' (gK q h) (gK q' h') e e'
def Map.fix (M:Map) (b lo:Nat) (us:List Value):Map:=
 {M with G:=fun b' o=>if b'=b∧lo≤o∧o<lo+us.length then us[o - lo]? else M.G b' o}
theorem Rel.ab0 (r:Rel M s w) (t n m b cap z size:Nat) (us:List Value) (hz:zs z=size) (Bd:s.aC[t]? = some (some n)) (jL:M.be t=some (b,cap,z)) (zP:us.length=m*size) (fC:n+m≤cap) (hm:0<m)
 (h1 : ∀ u∈us,u.oneCell'=true) (vs:Array Value) (T:TypeId) (hh:w.heap[b]? = some (.cells vs T (0,0))) (ep:vs.size=cap*size) (hy:z=0→T=n7) :
 Rel (M.fix b (n*size) us) {s with aC:=s.aC.set t (some (n+m))} (w.setRow b (vs.toList.take (n*size)++us++vs.toList.drop (n*size+us.length)).toArray)∧
 Ext M s w (M.fix b (n*size) us) {s with aC:=s.aC.set t (some (n+m))} (w.setRow b (vs.toList.take (n*size)++us++vs.toList.drop (n*size+us.length)).toArray):=by
 have Nl:t<s.aC.length:=(List.getElem?_eq_some_iff.1 Bd).1
 have vO:s.live t:=⟨n,Bd⟩
 have JT : ∀ off,n*size≤off→M.G b off=none:=by
  rcases r.tok t n Bd with ⟨h3,_⟩ | ⟨b',FC,wR,fj,T',h3,h4,h5,h6,h7⟩
  ·rw [jL]at h3;cases h3
  ·rw [jL]at h3;cases h3;rw [← hz];exact h7.1
 have kq:n*size+us.length≤vs.size:=by rw [zP,ep, ← Nat.add_mul];exact Nat.mul_le_mul_right _ fC
 have gK : ∀ q,St.live {s with aC:=s.aC.set t (some (n+m))} q→s.live q:=by
  rintro q ⟨k,hk⟩
  rw [List.getElem?_set]at hk
  split at hk
  ·rename_i h;subst h;exact vO
  ·exact⟨k,hk⟩
 generalize dS:(vs.toList.take (n*size)++us++vs.toList.drop (n*size+us.length)).toArray=uk
 have QS:uk.size=vs.size:=by rw [← dS];simp;omega
 have hE : ∀ i,uk[i]? = if i<n*size then vs[i]? else if i<n*size+us.length then us[i - n*size]? else vs[i]? :=by
  intro i
  rw [← dS]
  simp only [List.getElem?_toArray]
  have hl:(vs.toList.take (n*size)).length=n*size:=by simp;omega
  split
  ·rename_i h3
   rw [List.append_assoc,List.getElem?_append_left (by omega),List.getElem?_take_of_lt h3];simp
  ·rename_i h3
   rw [List.append_assoc,List.getElem?_append_right (by omega),hl]
   split
   ·rename_i h4
    rw [List.getElem?_append_left (by omega)]
   ·rename_i h4
    rw [List.getElem?_append_right (by omega),List.getElem?_drop]
    rw [show n*size+us.length+(i - n*size - us.length)=i by omega];simp
 have dZ:(w.setRow b uk).heap[b]? = some (.cells uk T (0,0)):=setRow_heap w b vs uk T (0,0) hh
 have kZ : ∀ q,q≠b→(w.setRow b uk).heap[q]? = w.heap[q]? :=fun q hq=>setRow_other w b q _ hq
 have le:Le M s (M.fix b (n*size) us) {s with aC:=s.aC.set t (some (n+m))}:=by
  refine⟨fun b' o v h=> ?_,Nat.le_refl _,fun _ _=>rfl,by simp,fun q k h e=> ?_⟩
  ·show(if b'=b∧n*size≤o∧o<n*size+us.length then us[o - n*size]? else M.G b' o)=some v
   rw [if_neg]
   ·exact h
   ·rintro⟨rfl,h3,_⟩;rw [JT o h3]at h;cases h
  ·rw [List.getElem?_set]at e
   split at e
   ·rename_i h2;subst h2
    simp at e;subst e
    exact⟨n,Bd,by omega,fun h=>by omega⟩
   ·exact⟨k,e,Nat.le_refl _,fun _=>rfl⟩
 have rq : ∀ b' o,b'≠b→(M.fix b (n*size) us).G b' o=M.G b' o:=fun b' o h=>by simp [Map.fix,h]
 refine⟨⟨fun b' o v e=> ?_,fun o ds e=> ?_,fun o ho off=> ?_,r.inj,fun q k e=> ?_,fun q b' c z o hl e lH=>r.eX q b' c z o (gK q hl) e lH,
  fun q q' b' c z c' z' h h' e e'=>r.fz q q' b' c z c' z' (gK q h) (gK q' h') e e'⟩, ?_⟩
 ·by_cases hb:b'=b
  ·subst hb
   rw [jY dZ,hE]
   have e':(if b'=b'∧n*size≤o∧o<n*size+us.length then us[o - n*size]? else M.G b' o)=some v:=e
   by_cases h3:n*size≤o
   ·by_cases h4:o<n*size+us.length
    ·rw [if_pos ⟨rfl,h3,h4⟩]at e'
     rw [if_neg (by omega),if_pos h4]
     exact⟨e',h1 v (List.mem_of_getElem? e')⟩
    ·rw [if_neg (fun h=>h4 h.2.2),JT o h3]at e';cases e'
   ·rw [if_neg (fun h=>h3 h.2.1)]at e'
    obtain⟨h5,h6⟩:=r.comm b' o v e'
    rw [jY hh]at h5
    rw [if_pos (by omega)]
    exact⟨h5,h6⟩
  ·rw [rq b' o hb]at e
   obtain⟨h5,h6⟩:=r.comm b' o v e
   refine⟨?_,h6⟩
   rw [← h5]
   simp [World.cell?,kZ b' hb]
 ·obtain⟨fj,T',h3,h4,h5,h6⟩:=r.obj o ds e
  have ho:o<s.az.length:=(List.getElem?_eq_some_iff.1 e).1
  refine⟨fj,T', ?_,h4,h5,fun i d v e1 e2=>(h6 i d v e1 e2).mono le⟩
  show lN (w.setRow b uk).heap[M.mu o]? (M.ob o) _ _
  rw [kZ _ (r.eX t b cap z o vO jL ho)];exact h3
 ·show(M.fix b (n*size) us).G (M.mu o) off=none
  rw [rq _ _ (r.eX t b cap z o vO jL ho)];exact r.ko o ho off
 ·rw [List.getElem?_set]at e
  split at e
  ·rename_i h2;subst h2
   simp at e;subst e
   refine .inr ⟨b,cap,z,uk,T,jL,dZ,by rw [QS,ep,hz],fC,fun off ho=> ?_,hy⟩
   rw [hz]at ho
   show(if b=b∧n*size≤off∧off<n*size+us.length then us[off - n*size]? else M.G b off)=none
   rw [Nat.add_mul]at ho
   rw [if_neg (by rintro⟨_,_,h⟩;omega)]
   exact JT off (by omega)
  ·rename_i h2
   rcases r.tok q k e with h3 | ⟨b',FC,wR,fj,T',h3,h4,h5,h6,h7⟩
   ·exact .inl h3
   ·have fi:b'≠b:=fun h=>h2 (r.fz t q b cap z FC wR vO ⟨k,e⟩ jL (by rw [h3,h]))
    exact .inr ⟨b',FC,wR,fj,T',h3,by rw [kZ b' fi];exact h4,h5,h6,fun off ho=>by rw [rq b' off fi];exact h7.1 off ho,h7.2⟩
 ·refine⟨le,fun q _ _ h4=>kZ q (fun h=>h4 t cap z vO (by rw [jL,h])),fun o h3 h4=>by simp at h4;omega,fun q b' c z h e=> .inl ⟨gK q h,c,z,e⟩,fun b' o h=> ?_,by simp,rfl,rfl,rfl⟩
  by_cases hb:b'=b
  ·exact .inr ⟨t,cap,z,vO,by rw [jL,hb]⟩
  ·exact(h (rq b' o hb)).elim
theorem Rel.freeze (r:Rel M s w) {b:Nat} (off n:Nat) (ho : ∀ o,o<s.az.length→M.mu o≠b) (ht : ∀ t c z,s.live t→M.be t≠some (b,c,z)) :
 Rel M s (w.freeze ⟨b,off,none⟩ n)∧(∀ q,q≠b→(w.freeze ⟨b,off,none⟩ n).heap[q]? = w.heap[q]?)∧(w.freeze ⟨b,off,none⟩ n).heap.size=w.heap.size∧
 (w.freeze ⟨b,off,none⟩ n).os=w.os∧(w.freeze ⟨b,off,none⟩ n).tape=w.tape∧(w.freeze ⟨b,off,none⟩ n).output=w.output:=by
 by_cases hn:n=0
 ·simp [World.freeze,hn,r]
 ·have hh : ∀ q,q≠b→(w.freeze ⟨b,off,none⟩ n).heap[q]? = w.heap[q]? :=fun q hq=>by
   simp [World.freeze,hn,Array.getElem?_modify,Ne.symm hq]
  have zj : ∀ q o,(w.freeze ⟨b,off,none⟩ n).cell? ⟨q,o,none⟩=w.cell? ⟨q,o,none⟩:=by
   intro q o
   by_cases hq:q=b
   ·subst hq
    unfold World.cell?
    simp only [World.freeze,hn,if_false,Array.getElem?_modify,if_true]
    cases h:w.heap[q]? with
    | none=>rfl
    | some x=>cases x <;> rfl
   ·simp [World.cell?,hh q hq]
  refine⟨⟨fun q o v e=> ?_,fun o ds e=> ?_,r.ko,r.inj,fun t k e=> ?_,r.eX,r.fz⟩,hh,by simp [World.freeze,hn],by simp [World.freeze,hn],by simp [World.freeze,hn],by simp [World.freeze,hn]⟩
  ·rw [zj];exact r.comm q o v e
  ·rw [hh _ (ho o (List.getElem?_eq_some_iff.1 e).1)];exact r.obj o ds e
  ·rcases r.tok t k e with h3 | ⟨b',cap,size,vs,T,h3,h4,h5⟩
   ·exact .inl h3
   ·refine .inr ⟨b',cap,size,vs,T,h3, ?_,h5⟩
    rw [hh]
    ·exact h4
    ·rintro rfl;exact ht t cap size ⟨k,e⟩ h3
theorem Rel.ab1 (r:Rel M s w) (t:Nat):Rel M {s with aC:=s.aC.set t none} w∧Le M s M {s with aC:=s.aC.set t none}:=by
 have gK : ∀ q,St.live {s with aC:=s.aC.set t none} q→s.live q:=by
  rintro q ⟨k,hk⟩
  rw [List.getElem?_set]at hk
  split at hk
  ·split at hk <;> simp at hk
  ·exact⟨k,hk⟩
 have rY : ∀ (q k:Nat),(s.aC.set t none)[q]? = some (some k)→s.aC[q]? = some (some k):=by
  intro q k e
  rw [List.getElem?_set]at e
  split at e
  ·split at e <;> simp at e
  ·exact e
 have le:Le M s M {s with aC:=s.aC.set t none}:=
  ⟨fun _ _ _ h=>h,Nat.le_refl _,fun _ _=>rfl,by simp,fun q k _ e=>⟨k,rY q k e,Nat.le_refl _,fun _=>rfl⟩⟩
 refine⟨⟨r.comm,fun o ds e=> ?_,r.ko,r.inj,fun q k e=>r.tok q k (rY q k e),fun q b' c z o hl e lH=>r.eX q b' c z o (gK q hl) e lH,
  fun q q' b' c z c' z' h h' e e'=>r.fz q q' b' c z c' z' (gK q h) (gK q' h') e e'⟩,le⟩
 obtain⟨fj,T',h3,h4,h5,h6⟩:=r.obj o ds e
 exact⟨fj,T',h3,h4,h5,fun i d v e1 e2=>(h6 i d v e1 e2).mono le⟩
end
end Go.Abs

/-! Sound -/

namespace Go.Abs
section
variable {M:Map} {s:St} {w:World}
theorem RD.iS {k:IntKind} {n:Int} {v:Value} (h:RD M s (.int k n) v):v = .int k n:=by cases h;rfl
theorem RD.mA {b:Bool} {v:Value} (h:RD M s (.bool b) v):v = .bool b:=by cases h;rfl
theorem RD.kh {l:List UInt8} {v:Value} (h:RD M s (.str l) v):v = .string ⟨⟨l⟩⟩:=by cases h;rfl
theorem RD.qG {v:Value} (h:RD M s .eM v):v = .pointer none:=by cases h;rfl
theorem RD.qH {o off:Nat} {v:Value} (h:RD M s (.ptr o off) v):v = .pointer (some ⟨M.mu o,off,none⟩)∧o<s.az.length:=by
 cases h with | ptr _ _ h hm=>exact⟨rfl,h⟩
theorem RD.yl {o off:Nat} {v:Value} (h:RD M s (.ptr o off) v):M.ob o≠ .map:=by cases h with | ptr _ _ h hm=>exact hm
theorem RD.FD {o:Nat} {v:Value} (h:RD M s (.fZ o) v):v = .map (some (M.mu o))∧o<s.az.length∧M.ob o = .map:=by cases h with | fZ _ h hm=>exact⟨rfl,h,hm⟩
theorem RD.IT {f:Nat} {ds:List D} {v:Value} (h:RD M s (.ga f ds) v) : ∃ vs:Array Value,v = .func (.func f) #[] vs∧ds.length=vs.size∧
 ∀ (i:Nat) (d:D) (v:Value),ds[i]? = some d→vs[i]? = some v→RD M s d v:=by
 cases h with | ga _ _ vs h1 h2=>exact⟨vs,rfl,h1,h2⟩
theorem RD.wS {row:List D} {off:Nat} {v:Value} (h:RD M s (.dD row off) v) : ∃ b k,v = .pointer (some ⟨b,k+off,none⟩)∧
 (∀ (i:Nat) (d:D),row[i]? = some d→∃ u,M.G b (k+i)=some u)∧(∀ (i:Nat) (d:D) (u:Value),row[i]? = some d→M.G b (k+i)=some u→RD M s d u):=by
 cases h with | dD _ _ b k h1 h2=>exact⟨b,k,rfl,h1,h2⟩
theorem RD.CC {ds:List D} {v:Value} (h:RD M s (.agg ds) v) : ∃ vs:Array Value,v = .agg vs∧ds.length=vs.size∧(∀ v∈vs,v.oneCell'=true)∧
 ∀ (i:Nat) (d:D) (v:Value),ds[i]? = some d→vs[i]? = some v→RD M s d v:=by
 cases h with | agg _ vs h1 h2 h3=>exact⟨vs,rfl,h1,h2,h3⟩
theorem RD.DC {ds:List D} {v:Value} (h:RD M s (.tuple ds) v) : ∃ vs:Array Value,v = .tuple vs∧ds.length=vs.size∧
 ∀ (i:Nat) (d:D) (v:Value),ds[i]? = some d→vs[i]? = some v→RD M s d v:=by
 cases h with | tuple _ vs h1 h2=>exact⟨vs,rfl,h1,h2⟩
theorem RD.undef:RD M s (.tuple []) Go.undef:= .tuple [] #[] rfl (fun i d v h=>by simp at h)
theorem RD.ic {g:Tag} {z:Nat} {rows:List (List D)} {v:Value} (h:RD M s (.slice g z rows) v) :
 (rows = []∧v = .slice none 0 0∧gW M s g z 0 none 0)∨(rows = []∧g = .shared∧∃ a cap,v = .slice (some a) 0 cap)∨
 ∃ b k cap,v = .slice (some ⟨b,k,none⟩) rows.length cap∧rows.length≤cap∧(∀ row∈rows,row.length=z)∧
  (∀ (i:Nat) (row:List D) (j:Nat) (d:D),rows[i]? = some row→row[j]? = some d→∃ u,M.G b (k+(i*z+j))=some u)∧
  (∀ (i:Nat) (row:List D) (j:Nat) (d:D) (u:Value),rows[i]? = some row→row[j]? = some d→M.G b (k+(i*z+j))=some u→RD M s d u)∧
  gW M s g z rows.length (some (b,k)) cap:=by
 cases h with
 | jf _ _ cap hc ht=>subst hc;exact .inl ⟨rfl,rfl,ht⟩
 | na _ a cap=>exact .inr (.inl ⟨rfl,rfl,a,cap,rfl⟩)
 | slice _ _ _ b k cap hl hs h1 h2 ht=>exact .inr (.inr ⟨b,k,cap,rfl,hl,hs,h1,h2,ht⟩)
theorem RD.row {d:D} {v:Value} (h:RD M s d v) {r:List D} (hr:d.row=some r):v.cells.size=r.length∧(∀ u∈v.cells,u.oneCell'=true)∧
 ∀ (i:Nat) (d':D) (u:Value),r[i]? = some d'→v.cells[i]? = some u→RD M s d' u:=by
 have one : ∀ (x:Value),x.oneCell'=true→x.cells = #[x]:=by intro x hx;cases x <;> first | rfl | (simp [Value.oneCell']at hx)
 have go : ∀ (x:Value),x.oneCell'=true→RD M s d x→d.row=some [d]→x.cells.size=r.length∧(∀ u∈x.cells,u.oneCell'=true)∧
  ∀ (i:Nat) (d':D) (u:Value),r[i]? = some d'→x.cells[i]? = some u→RD M s d' u:=by
  intro x hx hd h1
  rw [h1]at hr;cases hr
  rw [one x hx]
  refine⟨rfl,by simp [hx],fun i d' u e1 e2=> ?_⟩
  cases i with
  | zero=>simp at e1 e2;subst e1;subst e2;exact hd
  | succ i=>simp at e1
 cases h with
 | junk v=>cases hr
 | int k n=>exact go _ rfl (.int k n) rfl
 | bool b=>exact go _ rfl (.bool b) rfl
 | str l=>exact go _ rfl (.str l) rfl
 | eM=>exact go _ rfl .eM rfl
 | val v hv=>exact go _ hv (.val v hv) rfl
 | fc T o v h ht hv=>exact go _ (by rcases hv with rfl | rfl <;> rfl) (.fc T o v h ht hv) rfl
 | ptr o off h hm=>exact go _ rfl (.ptr o off h hm) rfl
 | ga f ds vs hl h=>exact go _ rfl (.ga f ds vs hl h) rfl
 | fZ o h hm=>exact go _ rfl (.fZ o h hm) rfl
 | dD row off b k h1 h2=>exact go _ rfl (.dD row off b k h1 h2) rfl
 | jf g z cap hc ht=>exact go _ rfl (.jf g z cap hc ht) rfl
 | na z a cap=>exact go _ rfl (.na z a cap) rfl
 | slice g z rows b k cap hl hs h1 h2 ht=>exact go _ rfl (.slice g z rows b k cap hl hs h1 h2 ht) rfl
 | agg cells vs hl h1 h2=>cases hr;exact⟨hl.symm,h1,h2⟩
 | tuple ds vs hl h1=>cases hr
theorem oY {v:Value} {d:D} (h:qF v=some d):RD M s d v∧v.oneCell'=true:=by
 unfold qF at h
 split at h <;> first | (cases h;done) | skip
 ·cases h;exact⟨.int _ _,rfl⟩
 ·cases h;exact⟨.bool _,rfl⟩
 ·cases h;exact⟨.str _,rfl⟩
 ·cases h;exact⟨.eM,rfl⟩
 ·cases h;exact⟨.jf _ _ 0 rfl rfl,rfl⟩
 ·cases h;exact⟨.val _ rfl,rfl⟩
theorem ki : ∀ {vs:List Value} {ds:List D},mz vs=some ds→ds.length=vs.length∧(∀ v∈vs,v.oneCell'=true)∧
 ∀ (i:Nat) (d:D) (v:Value),ds[i]? = some d→vs[i]? = some v→RD M s d v
 | [],ds,h=>by cases h;exact⟨rfl,by simp,by simp⟩
 | v::r,ds,h=>by
  unfold mz at h
  split at h
  ·rename_i d qz h1 h2
   cases h
   obtain⟨a,b⟩:=oY (M:=M) (s:=s) h1
   obtain⟨i1,i2,i3⟩:=ki h2
   refine⟨by simp [i1],fun u hu=> ?_,fun i d' u e1 e2=> ?_⟩
   ·rcases List.mem_cons.1 hu with rfl | hu
    ·exact b
    ·exact i2 u hu
   ·cases i with
    | zero=>simp at e1 e2;subst e1;subst e2;exact a
    | succ i=>simp at e1 e2;exact i3 i d' u e1 e2
  ·cases h
theorem CD {v:Value} {d:D} (h:An v=some d):RD M s d v∧v.oneCell'=true:=by
 unfold An at h
 split at h
 ·cases h;exact⟨.val _ rfl,rfl⟩
 ·exact oY h
theorem um : ∀ {vs:List Value} {ds:List D},ui vs=some ds→ds.length=vs.length∧(∀ v∈vs,v.oneCell'=true)∧
 ∀ (i:Nat) (d:D) (v:Value),ds[i]? = some d→vs[i]? = some v→RD M s d v
 | [],ds,h=>by cases h;exact⟨rfl,by simp,by simp⟩
 | v::r,ds,h=>by
  unfold ui at h
  split at h
  ·rename_i d qz h1 h2
   cases h
   obtain⟨g1,g2⟩:=CD (M:=M) (s:=s) h1
   obtain⟨k1,k2,k3⟩:=um h2
   refine⟨by simp [k1],fun u hu=> ?_,fun i d' u e1 e2=> ?_⟩
   ·rcases List.mem_cons.1 hu with rfl | hu
    ·exact g2
    ·exact k2 u hu
   ·cases i with
    | zero=>simp at e1 e2;subst e1;subst e2;exact g1
    | succ i=>exact k3 i d' u (by simpa using e1) (by simpa using e2)
  ·cases h
theorem zQ {b:Bool} {vs:List Value} {ds:List D} (h:JS b vs=some ds):ds.length=vs.length∧(∀ v∈vs,v.oneCell'=true)∧
 ∀ (i:Nat) (d:D) (v:Value),ds[i]? = some d→vs[i]? = some v→RD M s d v:=by
 unfold JS at h
 split at h
 ·exact um h
 ·exact ki h
theorem JU {v:Value} {d:D} (h:JQ v=some d):RD M s d v:=by
 unfold JQ at h
 split at h
 ·rename_i cs
  cases hc:mz cs.toList with
  | none=>rw [hc]at h;cases h
  | some ds=>
   rw [hc]at h;cases h
   obtain⟨h1,h2,h3⟩:=ki (M:=M) (s:=s) hc
   exact .agg ds cs (by simpa using h1) (fun v hv=>h2 v (by simpa using hv)) (fun i d v e1 e2=>h3 i d v e1 (by simpa using e2))
 ·cases h;exact .undef
 ·exact(oY h).1
def k5 (M:Map) (s:St) (tm:Tm) (tmps:Array Value):Prop:=∀ t,RD M s (tm.get t) (tmps.getD t Go.undef)
theorem k5.mono {M':Map} {s':St} {tm:Tm} {tmps:Array Value} (h:k5 M s tm tmps) (le:Le M s M' s'):k5 M' s' tm tmps:=fun t=>(h t).mono le
theorem cj {x:Operand} {y:X} (h:cX x=some y) {tm:Tm} {act:Act} (hr:k5 M s tm act.tmps):RD M s (y.ev tm) (act.eval x):=by
 unfold cX at h
 split at h
 ·cases h;exact hr _
 ·rename_i v
  cases hv:JQ v with
  | none=>rw [hv]at h;cases h
  | some d=>rw [hv]at h;cases h;exact JU hv
 ·cases h;exact .ga _ [] #[] rfl (by simp)
 ·cases h
theorem Tm.zk (tm:Tm) (t:Nat) (d:D) (u:Nat):(tm.set t d).get u=if u=t then d else tm.get u:=by
 induction tm with
 | nil=>
  simp only [Tm.set,Tm.get]
  by_cases h:t=u
  ·simp [h]
  ·rw [if_neg h,if_neg (fun e=>h e.symm)]
 | cons p r ih=>
  obtain⟨k,e⟩:=p
  simp only [Tm.set]
  split
  ·rename_i h
   subst h
   simp only [Tm.get]
   by_cases h:k=u
   ·simp [h]
   ·rw [if_neg h,if_neg (fun e=>h e.symm),if_neg h]
  ·rename_i h
   simp only [Tm.get,ih]
   by_cases h1:k=u
   ·subst h1;simp [h]
   ·simp [h1]
theorem k5.put {tm:Tm} {act:Act} (h:k5 M s tm act.tmps) {dst:Option Nat} (hd : ∀ t,dst=some t→t<act.tmps.size) {d:D} {v:Value} (hv:RD M s d v) :
 k5 M s (tm.put dst d) (act.put dst v).tmps:=by
 intro u
 cases dst with
 | none=>exact h u
 | some t=>
  simp only [Tm.put,Act.put,Tm.zk]
  have ht:=hd t rfl
  by_cases hu:u=t
  ·subst hu
   simp [ht];exact hv
  ·rw [if_neg hu]
   have:=h u
   simpa [Array.getElem?_setIfInBounds_ne (fun e=>hu e.symm)]using this
theorem gF (P:Program) {t:TypeId} {i:TypeInfo} (h:P.info? t=some i) (w:World):(typeInfo t).run P w = .ok i w:=by
 simp [typeInfo,h]
theorem qI (b o n:Nat):Addr.add ⟨b,o,none⟩ n = ⟨b,o+n,none⟩:=Addr.add_lit b o n
theorem Ap (P:Program) {t:TypeId} {i:TypeInfo} {agg:Bool} (hi:P.info? t=some i) (ha:rn P t=some agg) (b k:Nat) (us:List Value)
 (hl:us.length=if agg then i.size else 1) (h : ∀ (j:Nat) (u:Value),us[j]? = some u→w.cell? ⟨b,k+j,none⟩=some u) :
 (loadVar t ⟨b,k,none⟩).run P w = .ok (if agg then .agg us.toArray else us.getD 0 Go.undef) w:=by
 have ym:(isAgg t).run P w = .ok agg w:=by
  unfold rn at ha
  unfold isAgg
  cases hu:P.underlying t with
  | none=>rw [hu]at ha;cases ha
  | some d=>
   rw [hu]at ha
   simp only [Sem.run_bind,run_underlying hu,Result.andThen_ok]
   cases d <;> simp_all
 cases agg with
 | true=>
  simp only [if_true]at hl ⊢
  have hc:=run_loadCells_list (P:=P) w ⟨b,k,none⟩ us (fun j v e=>by rw [qI];exact h j v e)
  simp [loadVar,ym,sizeOf,gF P hi, ← hl,hc]
 | false=>
  simp only [Bool.false_eq_true,if_false]at hl ⊢
  match us,hl with
  | [u],_=>
   have:=h 0 u rfl
   simp only [Nat.add_zero]at this
   simp [loadVar,ym,this]
theorem rr {cs:List D} {off:Nat} {agg:Bool} {size:Nat} {d:D} (h:part cs off agg size=some d) :
 (agg=true∧off+size≤cs.length∧d = .agg ((cs.drop off).take size))∨(agg=false∧cs[off]? = some d):=by
 unfold part at h
 split at h
 ·split at h
  ·cases h;exact .inl ⟨rfl, ‹_›,rfl⟩
  ·cases h
 ·exact .inr ⟨rfl,h⟩
theorem sF {cs:List D} {off size:Nat} {agg:Bool} {d:D} (h:part cs off agg size=some d) (us:List Value) (hl:us.length=if agg then size else 1)
 (jO:agg=true→∀ u∈us,u.oneCell'=true)
 (hr : ∀ (j:Nat) (d:D) (u:Value),cs[off+j]? = some d→us[j]? = some u→RD M s d u):RD M s d (if agg then .agg us.toArray else us.getD 0 Go.undef):=by
 rcases rr h with ⟨rfl,h1,rfl⟩ | ⟨rfl,h1⟩
 ·simp only [if_true]at hl ⊢
  refine .agg _ _ (by simp [hl];omega) (fun v hv=>jO rfl v (by simpa using hv)) (fun i d v e1 e2=> ?_)
  rw [List.getElem?_take]at e1
  split at e1
  ·rw [List.getElem?_drop]at e1
   exact hr i d v e1 (by simpa using e2)
  ·cases e1
 ·simp only [Bool.false_eq_true,if_false]at hl ⊢
  match us,hl with
  | [u],_=>exact hr 0 d u (by simpa using h1) rfl
end
end Go.Abs

/-! Sound2 -/

namespace Go.Abs
def dq (P:Program) (M:Map) (s:St) (w:World) (x:Sem Next) (d:D) (s':St):Prop:=
 ∃ v w' M',(x.run P w = .ok (.value v) w'∨(x.run P w = .ok .skip w'∧v=Go.undef))∧Rel M' s' w'∧RD M' s' d v∧Ext M s w M' s' w'
section
variable {P:Program} {M:Map} {s:St} {w:World}
theorem dq.pure {x:Sem Next} {d:D} {v:Value} (r:Rel M s w) (h:x.run P w = .ok (.value v) w) (hd:RD M s d v):dq P M s w x d s:=
 ⟨v,w,M, .inl h,r,hd,Ext.refl M s w⟩
theorem JV (r:Rel M s w) {t:TypeId} {z:List D} (hz:zeroOf P t=some z) :
 dq P M s w (do pure (.value (← Instr.alloc t true (.tuple #[])))) (.ptr s.az.length 0) {s with az:=s.az++ [z]}:=by
 unfold zeroOf at hz
 split at hz
 ·rename_i i hi
  split at hz
  ·rename_i v hv
   split at hz
   ·rename_i ep
    obtain⟨h1,h2,h3⟩:=ki (M:=M) (s:=s) hz
    obtain⟨r',e'⟩:=r.dM z v.cells t (by rw [h1];simp) (fun u hu=>h2 u (by simpa using hu)) (fun i d u e1 e2=>h3 i d u e1 (by simpa using e2))
    refine⟨_,_,_, .inl ?_,r', .ptr _ _ (by simp) (by simp [Map.dM,Map.ob]),e'⟩
    simp [Instr.alloc,zeroValue,gF P hi,hv,newVar,newRow,Map.dM,Map.mu]
   ·cases hz
  ·cases hz
 ·cases hz
theorem HU (r:Rel M s w) {t:TypeId} {z:List D} (hz:wQ P t=some (.eM::z)) :
 dq P M s w (do pure (.value (← Instr.alloc t true (.tuple #[])))) (.ptr s.az.length 0) {s with az:=s.az++ [.fc t s.az.length::z]}:=by
 unfold wQ at hz
 split at hz
 ·rename_i i hi
  split at hz
  ·rename_i v hv
   split at hz
   ·rename_i ep
    obtain⟨h1,h2,h3⟩:=zQ (M:=M) (s:=s) hz
    obtain⟨r',e'⟩:=r.FB (.fc t s.az.length::z) v.cells t (.ty t) (by simp) (fun _ h=>by cases h;rfl) (by simp at h1 ⊢;omega) (fun u hu=>h2 u (by simpa using hu)) (fun i d u e1 e2=>by
     cases i with
     | zero=>
      simp at e1;subst e1
      have:=(h3 0 .eM u rfl (by simpa using e2)).qG
      exact .fc t _ u (by simp) (by simp [Map.dM,Map.ty,Ob.ty?]) (.inl this)
     | succ i=>exact(h3 (i+1) d u (by simpa using e1) (by simpa using e2)).mono (s8 s w.heap.size _ _))
    refine⟨_,_,_, .inl ?_,r', .ptr _ _ (by simp) (by simp [Map.dM,Map.ob]),e'⟩
    simp [Instr.alloc,zeroValue,gF P hi,hv,newVar,newRow,Map.dM,Map.mu]
   ·cases hz
  ·cases hz
 ·cases hz
theorem QT (r:Rel M s w) {t:TypeId} {d:D} {v:Value} {row:List D} (hd:RD M s d v) (hr:d.row=some row) :
 dq P M s w (do pure (.value (← Instr.box t v))) (.ptr s.az.length 0) {s with az:=s.az++ [row]}:=by
 obtain⟨h1,h2,h3⟩:=hd.row hr
 obtain⟨r',e'⟩:=r.dM row v.cells t h1 h2 h3
 refine⟨_,_,_, .inl ?_,r', .ptr _ _ (by simp) (by simp [Map.dM,Map.ob]),e'⟩
 simp [Instr.box,newVar,newRow,Map.dM,Map.mu]
theorem Nn (r:Rel M s w) {t:TypeId} {d:D} {v:Value} {row:List D} (hd:RD M s d v) (hr:d.row=some (.eM::row)) :
 dq P M s w (do pure (.value (← Instr.box t v))) (.ptr s.az.length 0) {s with az:=s.az++ [.fc t s.az.length::row]}:=by
 obtain⟨h1,h2,h3⟩:=hd.row hr
 obtain⟨r',e'⟩:=r.FB (.fc t s.az.length::row) v.cells t (.ty t) (by simp) (fun _ h=>by cases h;rfl) (by simp at h1 ⊢;omega) h2 (fun i d u e1 e2=>by
  cases i with
  | zero=>
   simp at e1;subst e1
   have:=(h3 0 .eM u rfl e2).qG
   exact .fc t _ u (by simp) (by simp [Map.dM,Map.ty,Ob.ty?]) (.inl this)
  | succ i=>exact(h3 (i+1) d u (by simpa using e1) e2).mono (s8 s w.heap.size _ _))
 refine⟨_,_,_, .inl ?_,r', .ptr _ _ (by simp) (by simp [Map.dM,Map.ob]),e'⟩
 simp [Instr.box,newVar,newRow,Map.dM,Map.mu]
theorem EH (r:Rel M s w) {t:TypeId} {i:TypeInfo} {agg:Bool} (hi:P.info? t=some i) (ha:rn P t=some agg) {o off:Nat} {cs:List D} {d:D}
 (ho:s.az[o]? = some cs) (hk:M.ob o≠ .map) (hp:part cs off agg i.size=some d) :
 dq P M s w (do pure (.value (← Instr.loadAt t (.pointer (some ⟨M.mu o,off,none⟩))))) d s:=by
 obtain⟨vs,T,hh,ep,⟨jO,_⟩,oG⟩:=r.obj o cs ho
 replace hh:=hh.cells hk
 let n:=if agg then i.size else 1
 have kq:off+n≤vs.size:=by
  rcases rr hp with ⟨rfl,h1,_⟩ | ⟨rfl,h1⟩
  ·simp [n];omega
  ·have:=(List.getElem?_eq_some_iff.1 h1).1;simp [n];omega
 have hlen:((vs.toList.drop off).take n).length=n:=by simp;omega
 have hE : ∀ (j:Nat) (u:Value),((vs.toList.drop off).take n)[j]? = some u→vs[off+j]? = some u:=by
  intro j u h
  rw [List.getElem?_take]at h
  split at h
  ·rw [List.getElem?_drop]at h;simpa using h
  ·cases h
 have dA:=Ap (w:=w) P hi ha (M.mu o) off ((vs.toList.drop off).take n) hlen (fun j u h=>by rw [jY hh];exact hE j u h)
 refine dq.pure (v:=if agg then .agg ((vs.toList.drop off).take n).toArray else((vs.toList.drop off).take n).getD 0 Go.undef) r (by simp [Instr.loadAt,Instr.sureAddr,dA]) ?_
 refine sF hp _ hlen (fun _ u hu=>jO u ?_) (fun j d u e1 e2=>oG _ d u e1 (hE j u e2))
 exact Array.mem_toList_iff.1 (List.mem_of_mem_drop (List.mem_of_mem_take hu))
theorem wT {b:Nat} : ∀ (n k:Nat),(∀ j,j<n→∃ u,M.G b (k+j)=some u)→∃ us:List Value,us.length=n∧∀ (j:Nat) (u:Value),us[j]? = some u→M.G b (k+j)=some u
 | 0,_,_=>⟨[],rfl,fun j u h=>by simp at h⟩
 | n+1,k,h=>by
  obtain⟨u0,h0⟩:=h 0 (by omega)
  obtain⟨us,h1,h2⟩:=wT n (k+1) (fun j hj=>by obtain⟨u,hu⟩:=h (j+1) (by omega);exact⟨u,by rw [show k+1+j=k+(j+1) by omega];exact hu⟩)
  refine⟨u0::us,by simp [h1],fun j u hj=> ?_⟩
  cases j with
  | zero=>simp at hj;subst hj;exact h0
  | succ j=>simp at hj;have:=h2 j u hj;rw [show k+(j+1)=k+1+j by omega];exact this
theorem EI (r:Rel M s w) {t:TypeId} {i:TypeInfo} {agg:Bool} (hi:P.info? t=some i) (ha:rn P t=some agg) {row:List D} {off b k:Nat} {d:D}
 (h1 : ∀ (i:Nat) (d:D),row[i]? = some d→∃ u,M.G b (k+i)=some u) (h2 : ∀ (i:Nat) (d:D) (u:Value),row[i]? = some d→M.G b (k+i)=some u→RD M s d u)
 (hp:part row off agg i.size=some d) :
 dq P M s w (do pure (.value (← Instr.loadAt t (.pointer (some ⟨b,k+off,none⟩))))) d s:=by
 let n:=if agg then i.size else 1
 have kq:off+n≤row.length:=by
  rcases rr hp with ⟨rfl,h1,_⟩ | ⟨rfl,h1⟩
  ·simp [n];omega
  ·have:=(List.getElem?_eq_some_iff.1 h1).1;simp [n];omega
 obtain⟨us,hl,zP⟩:=wT (M:=M) (b:=b) n (k+off) (fun j hj=>by
  obtain⟨d,hd⟩ : ∃ d,row[off+j]? = some d:=⟨_,List.getElem?_eq_getElem (by omega)⟩
  obtain⟨u,hu⟩:=h1 _ d hd
  exact⟨u,by rw [show k+off+j=k+(off+j) by omega];exact hu⟩)
 have dA:=Ap (w:=w) P hi ha b (k+off) us hl (fun j u h=>(r.comm _ _ _ (zP j u h)).1)
 refine dq.pure (v:=if agg then .agg us.toArray else us.getD 0 Go.undef) r (by simp [Instr.loadAt,Instr.sureAddr,dA]) ?_
 refine sF hp us hl (fun _ u hu=> ?_) (fun j d u e1 e2=>h2 _ d u e1 (by rw [show k+(off+j)=k+off+j by omega];exact zP j u e2))
 obtain⟨j,hj⟩:=List.mem_iff_getElem?.1 hu
 exact(r.comm _ _ _ (zP j u hj)).2
theorem JW (r:Rel M s w) {t:TypeId} {i:TypeInfo} (hi:P.info? t=some i) {o off:Nat} {cs row:List D} {d:D} {v:Value} (ho:s.az[o]? = some cs) (hk:M.ob o≠ .map)
 (hd:RD M s d v) (hr:d.row=some row) (hl:row.length=i.size) (kq:off+i.size≤cs.length) :
 dq P M s w (do Instr.storeAt t (.pointer (some ⟨M.mu o,off,none⟩)) v;pure .skip) (.tuple []) {s with az:=s.az.set o (iM cs off row)}:=by
 obtain⟨h1,h2,h3⟩:=hd.row hr
 obtain⟨w',dA,r',e'⟩:=r.afm P ho hk row v.cells.toList (by simpa using h1) (by rw [hl];exact kq) (fun u hu=>h2 u (by simpa using hu)) (fun i d u e1 e2=>h3 i d u e1 (by simpa using e2))
 refine⟨Go.undef,w',M, .inr ⟨?_,rfl⟩,r', .undef,e'⟩
 have ep:v.cells.size=i.size:=by omega
 simp [Instr.storeAt,Instr.sureAddr,storeVar,sizeOf,gF P hi,ep,dA]
theorem Be (r:Rel M s w) {d:D} {a:Addr} (hd:RD M s d (.pointer (some a))) :
 dq P M s w (pure (.value (.pointer (some a)))) d s:=dq.pure r rfl hd
theorem DD {t:TypeId} {f off size:Nat} {agg:Bool} (h:ln P t f=some (off,size,agg)) (b k:Nat) :
 (Instr.fieldAt t (.pointer (some ⟨b,k,none⟩)) f).run P w = .ok (.pointer (some ⟨b,k+off,none⟩)) w:=by
 unfold ln at h
 split at h
 ·rename_i fs hu
  split at h
  ·rename_i fd hf
   split at h
   ·rename_i i a hi ha
    split at h
    ·cases h
    ·rename_i fi
     cases h
     simp [Instr.fieldAt,run_underlying hu,hf,Instr.sureAddr,fieldPlace,sizeOf,gF P hi,fi,qI]
   ·cases h
  ·cases h
 ·cases h
theorem No {t:TypeId} {f off size:Nat} {agg:Bool} (h:ln P t f=some (off,size,agg)) (vs:Array Value) (us:List Value) (hl:us.length=if agg then size else 1)
 (hg : ∀ j,j<us.length→vs[off+j]? = us[j]?) :
 (Instr.field t (.agg vs) f).run P w = .ok (if agg then .agg us.toArray else us.getD 0 Go.undef) w:=by
 unfold ln at h
 split at h
 ·rename_i fs hu
  split at h
  ·rename_i fd hf
   split at h
   ·rename_i i a hi ha
    split at h
    ·cases h
    ·rename_i fi
     cases h
     have ym:(isAgg fd.type).run P w = .ok agg w:=by
      unfold rn at ha
      unfold isAgg
      cases hu:P.underlying fd.type with
      | none=>rw [hu]at ha;cases ha
      | some d=>
       rw [hu]at ha
       simp only [Sem.run_bind,run_underlying hu,Result.andThen_ok]
       cases d <;> simp_all
     cases agg with
     | true=>
      simp only [if_true]at hl ⊢
      have:vs.extract fd.offset (fd.offset+i.size)=us.toArray:=by
       apply Array.ext_getElem?
       intro j
       rw [Array.getElem?_extract]
       by_cases hj:j<us.length
       ·rw [← hl,if_pos (by
         have h1:=hg j hj
         rw [List.getElem?_eq_getElem hj]at h1
         have:=(Array.getElem?_eq_some_iff.1 h1).1
         have h2:=hg (us.length - 1) (by omega)
         rw [List.getElem?_eq_getElem (by omega)]at h2
         have:=(Array.getElem?_eq_some_iff.1 h2).1
         omega),hg j hj]
        simp
       ·have hn:us.toArray[j]? = none:=by simp;omega
        rw [hn,if_neg (by omega)]
      simp [Instr.field,run_underlying hu,hf,asAgg,Go.part,ym,sizeOf,gF P hi,this]
     | false=>
      simp only [Bool.false_eq_true,if_false]at hl ⊢
      match us,hl with
      | [u],_=>
       have:=hg 0 (by simp)
       simp at this
       simp [Instr.field,run_underlying hu,hf,asAgg,Go.part,ym,this]
   ·cases h
  ·cases h
 ·cases h
end
end Go.Abs

/-! Sound3 -/

namespace Go.Abs
section
variable {P:Program} {M:Map} {s:St} {w:World}
theorem JX {op : BinOp} {t : TypeId} {k : IntKind} {a b : Int} {d : D} (h : fq op k a b = some d) :
   ∃ v, (binOp op t (.int k a) (.int k b)).run P w = .ok v w ∧ RD M s d v := by
 cases op <;> simp only [fq] at h <;> first
   | (cases h; done)
   | (split at h
      · cases h
      · cases h
        exact ⟨_, by simp [binOp, Op.intDiv, *], .int _ _⟩)
   | (cases h; exact ⟨_, by simp [binOp, Op.intArith], .int _ _⟩)
   | (cases h; exact ⟨_, by simp [binOp, Op.intCmp], .bool _⟩)
theorem JY {op:BinOp} {t:TypeId} {a b:List UInt8} {d:D} (h:mN op a b=some d) :
 ∃ v,(binOp op t (.string ⟨⟨a⟩⟩) (.string ⟨⟨b⟩⟩)).run P w = .ok v w∧RD M s d v:=by
 have sz : ∀ l:List UInt8,(⟨⟨l⟩⟩:ByteArray).size=l.length:=fun _=>rfl
 cases op <;> simp only [mN]at h <;> first
  | (cases h;done)
  | skip
 case add=>
  split at h
  ·rename_i hl
   cases h
   refine⟨.string ⟨⟨a++b⟩⟩, ?_, .str _⟩
   have h1 : ¬ ((((⟨⟨a⟩⟩:ByteArray).size+(⟨⟨b⟩⟩:ByteArray).size:Nat):Int) > IntKind.i64.max):=by
    rw [sz,sz,IntKind.max_i64];simp only [bQ]at hl;omega
   simp only [binOp,Op.stringOp,h1,if_false]
   simp only [Sem.run_pure]
   congr 2
  ·cases h
 case eql=>cases h;exact⟨_,by simp [binOp,Op.stringOp], .bool _⟩
 case neq=>cases h;exact⟨_,by simp [binOp,Op.stringOp], .bool _⟩
 case lss=>cases h;exact⟨_,by simp [binOp,Op.stringOp,bytesLess], .bool _⟩
theorem mO {op:BinOp} {t:TypeId} {x y:Operand} {a b:Value} (h:(∀ vs,a≠ .agg vs)∧a≠ .nilIface):(eqGuard op t x y a b).run P w = .ok () w:=by
 obtain⟨h1,h2⟩:=h
 cases a <;> first
  | exact(h2 rfl).elim
  | exact(h1 _ rfl).elim
  | (cases op <;> simp [eqGuard])
theorem QU (r:Rel M s w) {op:BinOp} {t:TypeId} {x y:Operand} {dx dy d:D} {a b:Value} (ha:RD M s dx a) (hb:RD M s dy b) (h:vb op dx dy=some d) :
 dq P M s w (do pure (.value (← (do eqGuard op t x y a b;binOp op t a b)))) d s:=by
 unfold vb at h
 split at h
 ·rename_i k n k' m
  split at h
  ·rename_i hk;subst hk
   rw [ha.iS,hb.iS]
   obtain⟨v,hv,hd⟩:=JX (P:=P) (M:=M) (s:=s) (w:=w) (t:=t) h
   exact dq.pure r (by simp [mO (P:=P) (w:=w) (op:=op) (t:=t) (x:=x) (y:=y) (a:= .int k n) (b:= .int k m) ⟨by simp,by simp⟩,hv]) hd
  ·cases h
 ·rename_i l m
  rw [ha.kh,hb.kh]
  obtain⟨v,hv,hd⟩:=JY (P:=P) (M:=M) (s:=s) (w:=w) (t:=t) h
  exact dq.pure r (by simp [mO (P:=P) (w:=w) (op:=op) (t:=t) (x:=x) (y:=y) (a:= .string ⟨⟨l⟩⟩) (b:= .string ⟨⟨m⟩⟩) ⟨by simp,by simp⟩,hv]) hd
 ·cases h
theorem QV (r:Rel M s w) {neg:Bool} {t:TypeId} {x y:Operand} {p q:Bool} (ht:P.underlying t=some .bool) :
 dq P M s w (do pure (.value (← (do eqGuard (if neg then .neq else .eql) t x y (.bool p) (.bool q);binOp (if neg then .neq else .eql) t (.bool p) (.bool q))))) (.bool (if neg then !(p==q)else p==q)) s:=by
 refine dq.pure (v:= .bool (if neg then !(p==q)else p==q)) r ?_ (.bool _)
 have hg:=mO (P:=P) (w:=w) (op:=if neg then .neq else .eql) (t:=t) (x:=x) (y:=y) (a:= .bool p) (b:= .bool q) ⟨by simp,by simp⟩
 have he:(Op.equal t (.bool p) (.bool q)).run P w = .ok (p==q) w:=by
  exact run_equalIn_bool w 9999 t p q ht
 cases neg
 ·simp only [Bool.false_eq_true,if_false]at hg ⊢
  simp [hg,binOp,he]
 ·simp only [if_true]at hg ⊢
  simp [hg,binOp,he]
theorem HV (n:Nat) {t e:TypeId} {a:Option Addr} (ht:P.underlying t=some (.pointer e)):(Op.equalIn (n+1) t (.pointer a) (.pointer none)).run P w = .ok a.isNone w:=by
 cases a <;> simp [Op.equalIn,run_underlying ht]
theorem Aq (r:Rel M s w) {neg:Bool} {t e:TypeId} {x y:Operand} {a:Option Addr} (ht:P.underlying t=some (.pointer e)) :
 dq P M s w (do pure (.value (← (do eqGuard (if neg then .neq else .eql) t x y (.pointer a) (.pointer none);binOp (if neg then .neq else .eql) t (.pointer a) (.pointer none))))) (.bool (if neg then !a.isNone else a.isNone)) s:=by
 refine dq.pure (v:= .bool (if neg then !a.isNone else a.isNone)) r ?_ (.bool _)
 have hg:=mO (P:=P) (w:=w) (op:=if neg then .neq else .eql) (t:=t) (x:=x) (y:=y) (a:= .pointer a) (b:= .pointer none) ⟨by simp,by simp⟩
 have he:(Op.equal t (.pointer a) (.pointer none)).run P w = .ok a.isNone w:=by
  exact HV 9999 ht
 cases neg
 ·simp only [Bool.false_eq_true,if_false]at hg ⊢
  simp [hg,binOp,he]
 ·simp only [if_true]at hg ⊢
  simp [hg,binOp,he]
theorem J0 (n:Nat) {t:TypeId} {k:Nat} (hk:lU P t=some k) {x y:D} {v u:Value} (rv:RD M s x v) (ru:RD M s y u) {b:Bool} (h:lT k x y=some b) :
 (Op.equalIn (n+1) t v u).run P w = .ok b w:=by
 unfold lU at hk
 split at hk <;> first | (cases hk;done) | skip
 ·rename_i kk hu
  cases hk
  cases x <;> cases y <;> simp [lT]at h
  obtain⟨rfl,rfl⟩:=h
  rw [rv.iS,ru.iS]
  exact run_equalIn_int w n t _ _ _ _ hu
 ·rename_i hu
  cases hk
  cases x <;> cases y <;> simp [lT]at h
  subst h
  rw [rv.mA,ru.mA]
  exact run_equalIn_bool w n t _ _ hu
 ·rename_i hu
  cases hk
  cases x <;> cases y <;> simp [lT]at h
  subst h
  rw [rv.kh,ru.kh]
  rw [run_equalIn_string w n t _ _ hu]
  simp
theorem yn (n:Nat) : ∀ (fs:List Field) (off:Nat) (ks:List Nat) (xs ys:List D) (vs us:Array Value) (e:Bool),
 zi P off fs=some ks→(∀ (i:Nat) (d:D) (v:Value),xs[i]? = some d→vs[off+i]? = some v→RD M s d v)→(∀ i,i<xs.length→(vs[off+i]?).isSome)→
 (∀ (i:Nat) (d:D) (v:Value),ys[i]? = some d→us[off+i]? = some v→RD M s d v)→(∀ i,i<ys.length→(us[off+i]?).isSome)→
 kf ks xs ys=some e→(Op.eqFields (n+1) vs us fs).run P w = .ok e w
 | [],off,ks,xs,ys,vs,us,e,hk,_,_,_,_,h=>by
  cases hk
  cases xs <;> cases ys <;> simp [kf]at h
  subst h;rfl
 | f::fs,off,ks,xs,ys,vs,us,e,hk,h1,h2,h3,h4,h=>by
  unfold zi at hk
  split at hk
  ·rename_i hf
   obtain⟨ho,J1⟩:=hf
   split at hk
   ·rename_i k ks' k6 bS
    cases hk
    match xs,ys with
    | [],[]=>cases h
    | [],_::_=>cases h
    | _::_,[]=>cases h
    | x::xs,y::ys=>
     obtain⟨v,hv⟩:=Option.isSome_iff_exists.1 (h2 0 (by simp))
     obtain⟨u,hu⟩:=Option.isSome_iff_exists.1 (h4 0 (by simp))
     simp only [Nat.add_zero]at hv hu
     have rv:=h1 0 x v rfl hv
     have ru:=h3 0 y u rfl hu
     have ym:(isAgg f.type).run P w = .ok false w:=by
      unfold isAgg
      unfold lU at k6
      cases hu:P.underlying f.type with
      | none=>rw [hu]at k6;simp at k6
      | some d=>simp only [Sem.run_bind,run_underlying hu,Result.andThen_ok];rw [hu]at k6;cases d <;> simp_all
     have pv:(Go.part f.type vs f.offset).run P w = .ok v w:=by simp [Go.part,ym,ho,hv]
     have pu:(Go.part f.type us f.offset).run P w = .ok u w:=by simp [Go.part,ym,ho,hu]
     cases hc:lT k x y with
     | none=>simp [kf,hc]at h
     | some b=>
      have hb:=J0 (w:=w) n k6 rv ru hc
      simp only [kf,hc]at h
      simp only [Op.eqFields,if_pos J1,Sem.run_bind,pv,pu,hb,Result.andThen_ok,Sem.run_ite,Sem.run_pure]
      cases b with
      | false=>cases h;rfl
      | true=>
       have:=yn n fs (off+1) ks' xs ys vs us e bS
        (fun i d v e1 e2=>h1 (i+1) d v (by simpa using e1) (by rw [show off+(i+1)=off+1+i by omega];exact e2))
        (fun i hi=>by have:=h2 (i+1) (by simpa using hi);rwa [show off+(i+1)=off+1+i by omega]at this)
        (fun i d v e1 e2=>h3 (i+1) d v (by simpa using e1) (by rw [show off+(i+1)=off+1+i by omega];exact e2))
        (fun i hi=>by have:=h4 (i+1) (by simpa using hi);rwa [show off+(i+1)=off+1+i by omega]at this) h
       simp [this]
   ·cases hk
  ·cases hk
theorem QX (r:Rel M s w) {neg:Bool} {t:TypeId} {x y:Operand} {ks:List Nat} {xs ys:List D} {a b:Value} {e:Bool} (ht:oF P t=some ks) (ha:RD M s (.agg xs) a) (hb:RD M s (.agg ys) b) (he:kf ks xs ys=some e) :
 dq P M s w (do pure (.value (← (do eqGuard (if neg then .neq else .eql) t x y a b;binOp (if neg then .neq else .eql) t a b)))) (.bool (if neg then !e else e)) s:=by
 obtain⟨vs,rfl,hl,_,h1⟩:=ha.CC
 obtain⟨us,rfl,jg,_,h2⟩:=hb.CC
 unfold oF at ht
 split at ht
 ·rename_i fs hu
  split at ht
  ·rename_i hg
   obtain⟨Ya,Uf⟩:=hg
   have hf:P.fieldsOf t=fs:=by simp [Program.fieldsOf,hu]
   have dA:(Op.equalIn 10000 t (.agg vs) (.agg us)).run P w = .ok e w:=by
    rw [run_equalIn_struct w 9999 t vs us (by rw [hf];exact hu) Uf,hf]
    exact yn 9998 fs.toList 0 ks xs ys vs us e ht (fun i d v e1 e2=>h1 i d v e1 (by simpa using e2)) (fun i hi=>by simp;omega)
     (fun i d v e1 e2=>h2 i d v e1 (by simpa using e2)) (fun i hi=>by simp;omega) he
   have DE:=run_eqGuard_agg (P:=P) w (if neg then .neq else .eql) t x y vs us Ya
   refine dq.pure (v:= .bool (if neg then !e else e)) r ?_ (.bool _)
   cases neg
   ·simp only [Bool.false_eq_true,if_false]at DE ⊢
    simp only [Sem.run_bind,DE,Result.andThen_ok,run_eql_struct,dA,Sem.run_pure]
   ·simp only [if_true]at DE ⊢
    simp only [Sem.run_bind,DE,Result.andThen_ok,run_neq_struct,dA,Sem.run_pure]
  ·cases ht
 ·cases ht
end
end Go.Abs

/-! Sound4 -/

namespace Go.Abs
section
variable {P:Program} {M:Map} {s:St} {w:World}
theorem zl (l:List UInt8):(⟨⟨l⟩⟩:ByteArray).size=l.length:=rfl
theorem extract_mk (l:List UInt8) (a b:Nat):(⟨⟨l⟩⟩:ByteArray).extract a b = ⟨⟨(l.take b).drop a⟩⟩:=by
 apply ByteArray.ext
 rw [ByteArray.data_extract]
 apply Array.ext'
 simp [List.drop_take]
theorem getElem?_mk (l:List UInt8) (n:Nat):(⟨⟨l⟩⟩:ByteArray)[n]? = l[n]? :=by
 by_cases h:n<l.length
 ·rw [getElem?_pos (⟨⟨l⟩⟩:ByteArray) n h,List.getElem?_eq_getElem h];rfl
 ·rw [List.getElem?_eq_none (by omega)]
  rw [getElem?_neg (c:=(⟨⟨l⟩⟩:ByteArray)) (i:=n)]
  show ¬ n<(⟨⟨l⟩⟩:ByteArray).size
  rw [zl];omega
theorem Nq (r:Rel M s w) {t:TypeId} {l:List UInt8} {k:IntKind} {n:Int} {c:UInt8} (ht:P.underlying t=some .string) (h0:0≤n) (hc:l[n.toNat]? = some c) :
 dq P M s w (do pure (.value (← Instr.index t (.string ⟨⟨l⟩⟩) (.int k n)))) (.int .u8 c.toNat) s:=by
 refine dq.pure (v:= .int .u8 c.toNat) r ?_ (.int _ _)
 simp [Instr.index,asIntOf,run_underlying ht,h0,getElem?_mk,hc]
theorem FE (r:Rel M s w) {t ty:TypeId} {l:List UInt8} (ht:P.underlying t=some .string) :
 dq P M s w (do pure (.value (← Builtin.len_ #[t] ty #[.string ⟨⟨l⟩⟩]))) (.int .i64 l.length) s:=by
 refine dq.pure (v:= .int .i64 l.length) r ?_ (.int _ _)
 simp [Builtin.len_,run_underlying ht,goInt,zl]
theorem qJ (r:Rel M s w) {t ty e:TypeId} {a:Option Addr} {n c:Nat} (ht:P.underlying t=some (.slice e)) :
 dq P M s w (do pure (.value (← Builtin.len_ #[t] ty #[.slice a n c]))) (.int .i64 n) s:=by
 refine dq.pure (v:= .int .i64 n) r ?_ (.int _ _)
 simp [Builtin.len_,run_underlying ht,goInt]
theorem J2 (r:Rel M s w) {t e:TypeId} {i:TypeInfo} {g:Tag} {rows:List (List D)} {row:List D} {v:Value} {k:IntKind} {n:Int} (ht:P.underlying t=some (.slice e)) (hi:P.info? e=some i)
 (hd:RD M s (.slice g i.size rows) v) (h0:0≤n) (hr:rows[n.toNat]? = some row) :
 dq P M s w (do pure (.value (← Instr.indexAt t v (.int k n)))) (.dD row 0) s:=by
 have hC:=(List.getElem?_eq_some_iff.1 hr).1
 rcases hd.ic with ⟨rfl,_,_⟩ | ⟨rfl,_,_⟩ | ⟨b,q,cap,rfl,hl,hs,h1,h2,_⟩
 ·simp at hr
 ·simp at hr
 ·refine dq.pure (v:= .pointer (some ⟨b,q+n.toNat*i.size+0,none⟩)) r ?_ ?_
  ·have:n<(rows.length:Int):=by omega
   simp [Instr.indexAt,asIntOf,run_underlying ht,h0,this,sizeOf,gF P hi,qI]
  ·refine .dD row 0 b (q+n.toNat*i.size) (fun j d hj=> ?_) (fun j d u hj hu=> ?_)
   ·obtain⟨u,hu⟩:=h1 n.toNat row j d hr hj
    exact⟨u,by rw [Nat.add_assoc];exact hu⟩
   ·exact h2 n.toNat row j d u hr hj (by rw [← Nat.add_assoc];exact hu)
def Ug (lv:Option Value) (l:Int):Prop:=(lv=none∧l=0)∨∃ k,lv=some (.int k l)
def Uh (hv:Option Value) (len:Nat) (h:Int):Prop:=(hv=none∧h=len)∨∃ k,hv=some (.int k h)
theorem sG {isSlice:Bool} {lv hv:Option Value} {len cap:Nat} {l h:Int} (h1:Ug lv l) (h2:Uh hv len h) (a:0≤l) (b:l≤h) (c:h≤len) (d:len≤cap) :
 (Instr.sliceBounds isSlice len cap lv hv none).run P w = .ok (l.toNat,h.toNat,cap) w:=by
 have h0:0≤h:=by omega
 have hc:h≤cap:=by omega
 rcases h1 with ⟨rfl,rfl⟩ | ⟨k,rfl⟩ <;> rcases h2 with ⟨rfl,rfl⟩ | ⟨k',rfl⟩
 ·simp [Instr.sliceBounds]
 ·simp [Instr.sliceBounds,run_sliceBound w _ _ _ _ h0 hc]
 ·simp [Instr.sliceBounds,run_sliceBound w _ _ _ _ a b]
 ·have e:(h.toNat:Int)=h:=Int.toNat_of_nonneg h0
  simp [Instr.sliceBounds,run_sliceBound w _ _ _ _ h0 hc,run_sliceBound w _ _ _ _ a (show l≤(h.toNat:Int) by omega)]
theorem Nr (r:Rel M s w) {t:TypeId} {lv hv:Option Value} {x:List UInt8} {l h:Int} (ht:P.underlying t=some .string) (h1:Ug lv l) (h2:Uh hv x.length h) (a:0≤l) (b:l≤h) (c:h≤x.length) :
 dq P M s w (do pure (.value (← Instr.sliceAt t (.string ⟨⟨x⟩⟩) lv hv none))) (.str ((x.take h.toNat).drop l.toNat)) s:=by
 have hb:=sG (P:=P) (w:=w) (isSlice:=false) (cap:=x.length) h1 h2 a b c (Nat.le_refl _)
 refine dq.pure (v:= .string ⟨⟨(x.take h.toNat).drop l.toNat⟩⟩) r ?_ (.str _)
 simp [Instr.sliceAt,run_underlying ht,Instr.slice,zl,hb,extract_mk]
theorem gW.cut {g:Tag} {z len QY cap:Nat} {base:Option (Nat×Nat)} (h:gW M s g z len base cap) (hl:QY≤len) (whole:Bool) (hw:whole=true→QY=len):gW M s (g.cut whole) z QY base cap:=by
 cases g with
 | full=>
  cases whole with
  | true=>rw [hw rfl];exact h
  | false=>trivial
 | shared=>trivial
 | tok t y=>
  obtain⟨x1,x2⟩:=h
  refine⟨x1,fun n hn=>⟨Nat.le_trans hl (x2 n hn).1,fun e=> ?_⟩⟩
  have:len=n:=by have:=(x2 n hn).1;omega
  exact(x2 n hn).2 this
theorem QZ (r:Rel M s w) {t e:TypeId} {i:TypeInfo} {g:Tag} {z:Nat} {lv hv:Option Value} {rows:List (List D)} {v:Value} {l h:Int} (ht:P.underlying t=some (.slice e)) (Ns:P.info? e=some i) (hz:rows = []∨z=i.size)
 (hd:RD M s (.slice g z rows) v) (h1:Ug lv l) (h2:Uh hv rows.length h) (a:0≤l) (b:l≤h) (c:h≤rows.length) :
 dq P M s w (do pure (.value (← Instr.sliceAt t v lv hv none))) (.slice (if l=0 then g.cut (h=rows.length)else .shared) z ((rows.take h.toNat).drop l.toNat)) s:=by
 have hlen:((rows.take h.toNat).drop l.toNat).length=h.toNat - l.toNat:=by simp;omega
 have tag : ∀ base cap,gW M s g z rows.length base cap→gW M s (if l=0 then g.cut (h=rows.length)else .shared) z ((rows.take h.toNat).drop l.toNat).length base cap:=by
  intro base cap nc
  split
  ·exact nc.cut (by omega) _ (fun hh=>by simp at hh;omega)
  ·trivial
 rcases hd.ic with ⟨rfl,rfl,nc⟩ | ⟨rfl,rfl,a',cap,rfl⟩ | ⟨b',q,cap,rfl,hl,hs,g1,g2,nc⟩
 ·have hb:=sG (P:=P) (w:=w) (isSlice:=true) (cap:=0) h1 h2 a b c (Nat.le_refl _)
  have IU:l=0:=by simp at c;omega
  have Yb:h=0:=by simp at c;omega
  subst IU;subst Yb
  refine dq.pure (v:= .slice none 0 0) r ?_ ?_
  ·simp at hb
   simp [Instr.sliceAt,run_underlying ht,Instr.slice,hb,sizeOf,gF P Ns]
  ·have:=tag _ _ nc
   simp only [Int.toNat_zero,List.take_nil,List.drop_nil,List.length_nil]at this ⊢
   exact .jf _ _ 0 rfl this
 ·have hb:=sG (P:=P) (w:=w) (isSlice:=true) (cap:=cap) h1 h2 a b c (Nat.zero_le _)
  have IU:l=0:=by simp at c;omega
  have Yb:h=0:=by simp at c;omega
  subst IU;subst Yb
  simp only [List.length_nil]at hb
  have dA : ∃ a2:Addr,(Instr.sliceAt t (.slice (some a') 0 cap) lv hv none).run P w = .ok (.slice (some a2) 0 cap) w:=by
   refine⟨if cap=(0:Int).toNat then a' else a'.add ((0:Int).toNat*i.size), ?_⟩
   simp only [Instr.sliceAt,Sem.run_bind,run_underlying ht,Result.andThen_ok,Instr.slice,hb,sizeOf,gF P Ns,Sem.run_pure]
   split <;> simp
  obtain⟨a2,dA⟩:=dA
  refine dq.pure (v:= .slice (some a2) 0 cap) r (by simp [dA]) ?_
  simp only [↓reduceIte,Int.toNat_zero,List.take_nil,List.drop_nil]
  have:Tag.cut .shared (decide ((0:Int)=(([] : List (List D)).length:Int))) = .shared:=rfl
  rw [this]
  exact .na _ a2 cap
 ·have hb:=sG (P:=P) (w:=w) (isSlice:=true) (cap:=cap) h1 h2 a b c hl
  have dA:(Instr.sliceAt t (.slice (some ⟨b',q,none⟩) rows.length cap) lv hv none).run P w = .ok (.slice (some (if cap=l.toNat then⟨b',q,none⟩else⟨b',q+l.toNat*i.size,none⟩)) (h.toNat - l.toNat) (cap - l.toNat)) w:=by
   simp only [Instr.sliceAt,Sem.run_bind,run_underlying ht,Result.andThen_ok,Instr.slice,hb,sizeOf,gF P Ns,Sem.run_pure]
   split <;> simp [qI]
  by_cases IU:l=0
  ·subst IU
   have e:(if cap=(0:Int).toNat then(⟨b',q,none⟩:Addr)else⟨b',q+(0:Int).toNat*i.size,none⟩) = ⟨b',q,none⟩:=by simp
   rw [e]at dA
   refine dq.pure (v:= .slice (some ⟨b',q,none⟩) ((rows.take h.toNat).drop (0:Int).toNat).length cap) r (by simp [dA];omega) ?_
   refine .slice _ z _ b' q cap (by omega) (fun row hr=>hs row ?_) (fun i row j d e1 e2=> ?_) (fun i row j d u e1 e2 eu=> ?_) (tag _ _ nc)
   ·simp at hr;exact List.mem_of_mem_take hr
   ·simp [List.getElem?_take]at e1;exact g1 i row j d e1.2 e2
   ·simp [List.getElem?_take]at e1;exact g2 i row j d u e1.2 e2 eu
  ·rw [if_neg IU]
   by_cases rZ:cap=l.toNat
   ·have:(rows.take h.toNat).drop l.toNat = []:=List.eq_nil_of_length_eq_zero (by omega)
    rw [this]
    rw [if_pos rZ]at dA
    refine dq.pure (v:= .slice (some ⟨b',q,none⟩) ([] : List (List D)).length (cap - l.toNat)) r (by simp [dA];omega) ?_
    exact .slice _ z [] b' q _ (by simp) (by simp) (by simp) (by simp) trivial
   ·rw [if_neg rZ]at dA
    refine dq.pure (v:= .slice (some ⟨b',q+l.toNat*i.size,none⟩) ((rows.take h.toNat).drop l.toNat).length (cap - l.toNat)) r (by simp [dA];omega) ?_
    have dZ : ∀ (k:Nat) (row:List D),((rows.take h.toNat).drop l.toNat)[k]? = some row→rows[l.toNat+k]? = some row:=by
     intro k row e
     rw [List.getElem?_drop,List.getElem?_take]at e
     split at e
     ·exact e
     ·cases e
    have hzz : ∀ (k:Nat) (row:List D),((rows.take h.toNat).drop l.toNat)[k]? = some row→z=i.size:=by
     intro k row e
     rcases hz with rfl | hz
     ·simp at e
     ·exact hz
    refine .slice _ z _ b' _ _ (by omega) (fun row hr=>hs row (List.mem_of_mem_take (List.mem_of_mem_drop hr))) (fun k row j d e1 e2=> ?_) (fun k row j d u e1 e2 eu=> ?_) trivial
    ·obtain⟨u,hu⟩:=g1 _ row j d (dZ k row e1) e2
     refine⟨u, ?_⟩
     rw [← hu, ← hzz k row e1]
     congr 1
     rw [Nat.add_mul];omega
    ·refine g2 _ row j d u (dZ k row e1) e2 ?_
     rw [← eu, ← hzz k row e1]
     congr 1
     rw [Nat.add_mul];omega
theorem uq (off:Nat) : ∀ (l:List Value) (k:Nat) (cells:Array Value) (i:Nat),
 ((l.zipIdx k).foldl (fun cs p=>cs.setIfInBounds (off+p.2) p.1) cells).size=cells.size∧
 (off+k+l.length≤cells.size→((l.zipIdx k).foldl (fun cs p=>cs.setIfInBounds (off+p.2) p.1) cells)[i]? = if off+k≤i∧i<off+k+l.length then l[i - (off+k)]? else cells[i]?)
 | [],k,cells,i=>by simp;intro _ h1 h2;omega
 | v::l,k,cells,i=>by
  obtain⟨h1,h2⟩:=uq off l (k+1) (cells.setIfInBounds (off+k) v) i
  simp only [List.zipIdx_cons,List.foldl_cons]
  refine⟨by rw [h1];simp,fun kq=> ?_⟩
  simp only [List.length_cons]at kq
  rw [h2 (by simp;omega)]
  rw [Array.getElem?_setIfInBounds]
  by_cases hi:off+k=i
  ·subst hi
   rw [if_neg (by omega),if_pos rfl,if_pos (by omega),if_pos (by simp)]
   simp
  ·rw [if_neg hi]
   by_cases hr:off+(k+1)≤i∧i<off+(k+1)+l.length
   ·rw [if_pos hr,if_pos (by simp;omega)]
    rw [show i - (off+k)=(i - (off+(k+1)))+1 by omega]
    simp
   ·rw [if_neg hr,if_neg (by simp;omega)]
def ry (M:Map) (s:St) (ds:List D) (vs:Array Value):Prop:=vs.size=ds.length∧(∀ v∈vs,v.oneCell'=true)∧∀ (i:Nat) (d:D) (v:Value),ds[i]? = some d→vs[i]? = some v→RD M s d v
theorem ry.iM {ds:List D} {vs:Array Value} (h:ry M s ds vs) {d:D} {v:Value} {row:List D} (hd:RD M s d v) (hr:d.row=some row) {off:Nat} (kq:off+row.length≤ds.length) :
 ry M s (iM ds off row) (v.cells.zipIdx.foldl (fun cs (p:Value×Nat)=>cs.setIfInBounds (off+p.2) p.1) vs):=by
 obtain⟨h1,h2,h3⟩:=hd.row hr
 obtain⟨g1,g2,g3⟩:=h
 have e:v.cells.zipIdx.foldl (fun cs (p:Value×Nat)=>cs.setIfInBounds (off+p.2) p.1) vs=(v.cells.toList.zipIdx 0).foldl (fun cs p=>cs.setIfInBounds (off+p.2) p.1) vs:=by
  rw [← Array.foldl_toList];simp
 rw [e]
 have hl:v.cells.toList.length=row.length:=by simpa using h1
 have fs:=fun i=>uq off v.cells.toList 0 vs i
 have get : ∀ i,((v.cells.toList.zipIdx 0).foldl (fun cs p=>cs.setIfInBounds (off+p.2) p.1) vs)[i]? = if off≤i∧i<off+row.length then v.cells.toList[i - off]? else vs[i]? :=by
  intro i
  have:=(fs i).2 (by omega)
  rw [hl]at this
  simpa using this
 refine⟨by rw [(fs 0).1,g1,xI ds off row kq],fun u hu=> ?_,fun i d' u e1 e2=> ?_⟩
 ·obtain⟨i,hi⟩:=Array.mem_iff_getElem?.1 hu
  rw [get]at hi
  split at hi
  ·exact h2 u (Array.mem_toList_iff.1 (List.mem_of_getElem? hi))
  ·exact g2 u (Array.mem_of_getElem? hi)
 ·rw [uj ds off row kq]at e1
  rw [get]at e2
  by_cases h5:off≤i
  ·by_cases h6:i<off+row.length
   ·rw [if_pos ⟨h5,h6⟩]at e2
    rw [if_neg (by omega),if_pos h6]at e1
    exact h3 _ d' u e1 (by simpa using e2)
   ·rw [if_neg (fun h=>h6 h.2)]at e2
    rw [if_neg (by omega),if_neg h6]at e1
    exact g3 i d' u e1 e2
  ·rw [if_neg (fun h=>h5 h.1)]at e2
   rw [if_pos (by omega)]at e1
   exact g3 i d' u e1 e2
theorem FF {place:Nat→Option (Nat×Nat)} : ∀ (vp:List (Nat×Value)) (dp:List (Nat×Nat×D)) (ds:List D) (vs:Array Value) (qz:List D),ry M s ds vs→
 dp.length=vp.length→(∀ (j:Nat) (i:Nat) (v:Value) (off size:Nat) (d:D),vp[j]? = some (i,v)→dp[j]? = some (off,size,d)→place i=some (off,size)∧RD M s d v)→
 pN ds dp=some qz→∃ fj,Instr.fill place vs vp=some fj∧ry M s qz fj
 | [],[],ds,vs,qz,h,_,_,e=>by cases e;exact⟨vs,rfl,h⟩
 | [],_::_,_,_,_,_,hl,_,_=>by simp at hl
 | _::_,[],_,_,_,_,hl,_,_=>by simp at hl
 | (i,v)::vp,(off,size,d)::dp,ds,vs,qz,h,hl,hp,e=>by
  obtain⟨h1,h2⟩:=hp 0 i v off size d rfl rfl
  unfold pN at e
  split at e
  ·cases e
  ·rename_i row hr
   split at e
   ·rename_i hc
    obtain⟨c1,c2⟩:=hc
    have ep:=(h2.row hr).1
    obtain⟨fj,f1,f2⟩:=FF vp dp (iM ds off row) _ qz (h.iM h2 hr (by omega)) (by simpa using hl)
     (fun j i v off size d e1 e2=>hp (j+1) i v off size d (by simpa using e1) (by simpa using e2)) e
    refine⟨fj, ?_,f2⟩
    unfold Instr.fill
    simp only [h1]
    rw [if_neg]
    ·exact f1
    ·simp;exact⟨by omega,by have:=h.1;omega⟩
   ·cases e
end
end Go.Abs

/-! Sound5 -/

namespace Go.Abs
section
variable {P:Program} {M:Map} {s:St} {w:World}
def lO (M:Map) (s:St) (size:Nat) (rows:List (List D)) (vs:Array Value):Prop:=
 rows.length*size≤vs.size∧(∀ row∈rows,row.length=size)∧(∀ v∈vs,v.oneCell'=true)∧
 ∀ (i:Nat) (row:List D) (j:Nat) (d:D) (v:Value),rows[i]? = some row→row[j]? = some d→vs[i*size+j]? = some v→RD M s d v
theorem yo {size:Nat} {rows:List (List D)} (hs : ∀ row∈rows,row.length=size) {i:Nat} {row:List D} {j:Nat} {d:D} (h1:rows[i]? = some row) (h2:row[j]? = some d):i*size+j<rows.length*size:=by
 have hi:=(List.getElem?_eq_some_iff.1 h1).1
 have hj:=(List.getElem?_eq_some_iff.1 h2).1
 have:=hs row (List.mem_of_getElem? h1)
 have:i*size+size≤rows.length*size:=by rw [← Nat.succ_mul];exact Nat.mul_le_mul_right _ hi
 omega
theorem lO.fixed {size:Nat} {rows:List (List D)} {vs:Array Value} (h:lO M s size rows vs) {M':Map} {s':St} (le:Le M s M' s') {b:Nat}
 (hG : ∀ o,o<rows.length*size→M'.G b o=vs[o]?) :
 (∀ (i:Nat) (row:List D) (j:Nat) (d:D),rows[i]? = some row→row[j]? = some d→∃ u,M'.G b (0+(i*size+j))=some u)∧
 (∀ (i:Nat) (row:List D) (j:Nat) (d:D) (u:Value),rows[i]? = some row→row[j]? = some d→M'.G b (0+(i*size+j))=some u→RD M' s' d u):=by
 obtain⟨h1,h2,h3,h4⟩:=h
 refine⟨fun i row j d e1 e2=> ?_,fun i row j d u e1 e2 eu=> ?_⟩
 ·have hC:=yo h2 e1 e2
  rw [Nat.zero_add,hG _ hC]
  exact⟨_,Array.getElem?_eq_getElem (by omega)⟩
 ·have hC:=yo h2 e1 e2
  rw [Nat.zero_add,hG _ hC]at eu
  exact(h4 i row j d u e1 e2 eu).mono le
theorem np (z:List D) : ∀ n,(hY z n).length=n
 | 0=>rfl
 | n+1=>by simp [hY,np z n]
theorem pQ (z:List D) : ∀ n,∀ row∈hY z n,row=z
 | 0,_,h=>by cases h
 | n+1,row,h=>by
  rcases List.mem_cons.1 h with rfl | h
  ·rfl
  ·exact pQ z n row h
theorem lO.zero {z:List D} {zs:Array Value} (h:ry M s z zs) (hp:0<z.length) (n:Nat):lO M s z.length (hY z n) ((Array.range (n*z.length)).map (zs[· % zs.size]!)):=by
 obtain⟨h1,h2,h3⟩:=h
 have get : ∀ q,q<n*z.length→((Array.range (n*z.length)).map (zs[· % zs.size]!))[q]? = zs[q % z.length]? :=by
  intro q hq
  have:q % z.length<zs.size:=by rw [h1];exact Nat.mod_lt _ hp
  simp only [Array.getElem?_map,Array.getElem?_range,hq,if_true,Option.map_some]
  rw [h1,getElem!_pos zs (q % z.length) this,Array.getElem?_eq_getElem this]
 refine⟨by simp [np],fun row hr=>by rw [pQ z n row hr],fun v hv=> ?_,fun i row j d v e1 e2 e3=> ?_⟩
 ·obtain⟨q,hq⟩:=Array.mem_iff_getElem?.1 hv
  have hC:q<n*z.length:=by have:=(Array.getElem?_eq_some_iff.1 hq).1;simpa using this
  rw [get q hC]at hq
  exact h2 v (Array.mem_of_getElem? hq)
 ·have dZ:=pQ z n row (List.mem_of_getElem? e1)
  subst dZ
  have hC:=yo (size:=row.length) (fun r hr=>by rw [pQ row n r hr]) e1 e2
  rw [np]at hC
  rw [get _ hC]at e3
  have hj:=(List.getElem?_eq_some_iff.1 e2).1
  rw [Nat.mul_comm,Nat.mul_add_mod,Nat.mod_eq_of_lt hj]at e3
  exact h3 j d v e2 e3
theorem lO.set {size:Nat} {rows:List (List D)} {vs:Array Value} (h:lO M s size rows vs) {d:D} {v:Value} {row:List D} (hd:RD M s d v) (hr:d.row=some row) (hl:row.length=size) {i:Nat} (hi:i<rows.length) :
 lO M s size (rows.set i row) (v.cells.zipIdx.foldl (fun cs (p:Value×Nat)=>cs.setIfInBounds (i*size+p.2) p.1) vs):=by
 obtain⟨h1,h2,h3⟩:=hd.row hr
 obtain⟨g1,g2,g3,g4⟩:=h
 have e:v.cells.zipIdx.foldl (fun cs (p:Value×Nat)=>cs.setIfInBounds (i*size+p.2) p.1) vs=(v.cells.toList.zipIdx 0).foldl (fun cs p=>cs.setIfInBounds (i*size+p.2) p.1) vs:=by
  rw [← Array.foldl_toList];simp
 rw [e]
 have gQ:v.cells.toList.length=size:=by simp [h1,hl]
 have kq:i*size+size≤vs.size:=by
  have:(i+1)*size≤rows.length*size:=Nat.mul_le_mul_right _ hi
  rw [Nat.succ_mul]at this;omega
 have fs:=fun q=>uq (i*size) v.cells.toList 0 vs q
 have get : ∀ q,((v.cells.toList.zipIdx 0).foldl (fun cs p=>cs.setIfInBounds (i*size+p.2) p.1) vs)[q]? = if i*size≤q∧q<i*size+size then v.cells.toList[q - i*size]? else vs[q]? :=by
  intro q
  have:=(fs q).2 (by omega)
  rw [gQ]at this
  simpa using this
 refine⟨by rw [(fs 0).1];simpa using g1,fun r ur=> ?_,fun u hu=> ?_,fun i' kS j d' u e1 e2 e3=> ?_⟩
 ·rcases List.mem_or_eq_of_mem_set ur with h | rfl
  ·exact g2 r h
  ·exact hl
 ·obtain⟨q,hq⟩:=Array.mem_iff_getElem?.1 hu
  rw [get]at hq
  split at hq
  ·exact h2 u (Array.mem_toList_iff.1 (List.mem_of_getElem? hq))
  ·exact g3 u (Array.mem_of_getElem? hq)
 ·rw [List.getElem?_set]at e1
  rw [get]at e3
  split at e1
  ·rename_i heq;subst heq
   simp at e1
   obtain⟨_,rfl⟩:=e1
   have hj:=(List.getElem?_eq_some_iff.1 e2).1
   rw [if_pos (by omega)]at e3
   rw [show i*size+j - i*size=j by omega]at e3
   exact h3 j d' u e2 (by simpa using e3)
  ·rename_i fi
   have hj:=(List.getElem?_eq_some_iff.1 e2).1
   have IV:=g2 kS (List.mem_of_getElem? e1)
   rw [if_neg]at e3
   ·exact g4 i' kS j d' u e1 e2 e3
   ·rintro⟨a,b⟩
    rcases Nat.lt_or_gt_of_ne fi with h | h
    ·have:(i+1)*size≤i'*size:=Nat.mul_le_mul_right _ h
     rw [Nat.succ_mul]at this;omega
    ·have:(i'+1)*size≤i*size:=Nat.mul_le_mul_right _ h
     rw [Nat.succ_mul]at this;omega
theorem yp {size:Nat} : ∀ (vp:List (Nat×Value)) (dp:List (Nat×D)) (rows:List (List D)) (vs:Array Value) (kF:List (List D)),lO M s size rows vs→
 dp.length=vp.length→(∀ (j:Nat) (i:Nat) (v:Value) (i':Nat) (d:D),vp[j]? = some (i,v)→dp[j]? = some (i',d)→i'=i∧RD M s d v)→
 iR size rows dp=some kF→∃ fj,Instr.fill (fun i=>some (i*size,size)) vs vp=some fj∧lO M s size kF fj∧kF.length=rows.length∧fj.size=vs.size
 | [],[],rows,vs,kF,h,_,_,e=>by cases e;exact⟨vs,rfl,h,rfl,rfl⟩
 | [],_::_,_,_,_,_,hl,_,_=>by simp at hl
 | _::_,[],_,_,_,_,hl,_,_=>by simp at hl
 | (i,v)::vp,(i',d)::dp,rows,vs,kF,h,hl,hp,e=>by
  obtain⟨h1,h2⟩:=hp 0 i v i' d rfl rfl
  subst h1
  unfold iR at e
  split at e
  ·cases e
  ·rename_i row hr
   split at e
   ·rename_i hc
    obtain⟨c1,c2⟩:=hc
    have ep:=(h2.row hr).1
    have ab2:=h.set h2 hr c1 c2
    obtain⟨fj,f1,f2,f3,f4⟩:=yp vp dp (rows.set i' row) _ kF ab2 (by simpa using hl)
     (fun j i v i' d e1 e2=>hp (j+1) i v i' d (by simpa using e1) (by simpa using e2)) e
    have kq:i'*size+size≤vs.size:=by
     have:(i'+1)*size≤rows.length*size:=Nat.mul_le_mul_right _ c2
     have:=h.1
     rw [Nat.succ_mul]at *;omega
    refine⟨fj, ?_,f2,by rw [f3];simp, ?_⟩
    ·unfold Instr.fill
     simp only
     rw [if_neg]
     ·exact f1
     ·simp;exact⟨by omega,by omega⟩
    ·rw [f4]
     have:=(uq (i'*size) v.cells.toList 0 vs 0).1
     rw [← this, ← Array.foldl_toList];simp
   ·cases e
theorem J3 (r:Rel M s w) {size:Nat} {rows:List (List D)} {vs:Array Value} (T:TypeId) (h:lO M s size rows vs) :
 RD (M.e7 w.heap.size vs.size vs) s (.slice .full size rows) (.slice (some ⟨w.heap.size,0,none⟩) rows.length rows.length)∧
 Rel (M.e7 w.heap.size vs.size vs) s (w.alloc (.cells vs T))∧Ext M s w (M.e7 w.heap.size vs.size vs) s (w.alloc (.cells vs T)):=by
 obtain⟨r',e'⟩:=r.e7 vs.size vs T (0,0) h.2.2.1
 obtain⟨g1,g2⟩:=h.fixed e'.le (b:=w.heap.size) (fun o ho=>by
  have:o<vs.size:=Nat.lt_of_lt_of_le ho h.1
  simp [Map.e7,this])
 exact⟨.slice .full size rows w.heap.size 0 rows.length (Nat.le_refl _) h.2.1 g1 g2 rfl,r',e'⟩
theorem o9 {t u ty e:TypeId} {i:TypeInfo} (ht:P.underlying t=some (.slice e)) (hi:P.info? e=some i) {base:Option Addr} {len cap:Nat} {y:Value} (hs:Src P i.size u y 0 [] w) (hc:len≤cap) :
 (Builtin.append_ #[t,u] ty #[.slice base len cap,y]).run P w = .ok (.slice base len cap) w:=by
 have k7:=hs.cells
 rcases hs.kind with ⟨e',hk⟩ | hk <;> cases base <;> simp [Builtin.append_,run_underlying ht,run_underlying hk,sizeOf,typeInfo,hi,hs.len,hc,k7,storeCells]
theorem DF (r:Rel M s w) {u e':TypeId} (hu:P.underlying u=some (.slice e')) {g:Tag} {size:Nat} {rows:List (List D)} {y:Value} (hy:RD M s (.slice g size rows) y) :
 ∃ news:List Value,Src P size u y rows.length news w∧
  (∀ (i:Nat) (row:List D) (j:Nat) (d:D) (v:Value),rows[i]? = some row→row[j]? = some d→news[i*size+j]? = some v→RD M s d v)∧
  ∀ (b q n c:Nat),y = .slice (some ⟨b,q,none⟩) n c→∀ o,o<rows.length*size→M.G b (q+o)=news[o]? :=by
 rcases hy.ic with ⟨rfl,rfl,_⟩ | ⟨rfl,_,a,cap,rfl⟩ | ⟨b,q,cap,rfl,hl,hs,g1,g2,_⟩
 ·exact⟨[],Src.ofNil w hu 0,by simp,by simp⟩
 ·exact⟨[],Src.ofSlice w hu a 0 cap [] (by simp) (by simp) (by simp),by simp,by simp⟩
 ·obtain⟨us,hlen,zP⟩:=wT (M:=M) (b:=b) (rows.length*size) q (fun k hk=>by
   have hz:0<size:=by
    rcases Nat.eq_zero_or_pos size with h | h
    ·subst h;simp at hk
    ·exact h
   have hi:k / size<rows.length:=by rw [Nat.div_lt_iff_lt_mul hz];exact hk
   obtain⟨row,dZ⟩ : ∃ row,rows[k / size]? = some row:=⟨_,List.getElem?_eq_getElem hi⟩
   have IV:=hs row (List.mem_of_getElem? dZ)
   have hj:k % size<row.length:=by rw [IV];exact Nat.mod_lt _ hz
   obtain⟨u,hu⟩:=g1 _ row _ _ dZ (List.getElem?_eq_getElem hj)
   refine⟨u, ?_⟩
   rw [← hu,Nat.mul_comm (k / size) size,Nat.div_add_mod])
  refine⟨us,Src.ofSlice w hu ⟨b,q,none⟩ rows.length cap us hlen (fun j u h=>by rw [qI];exact(r.comm _ _ _ (zP j u h)).1) (fun u hu=> ?_),fun i row j d v e1 e2 e3=>g2 i row j d v e1 e2 (zP _ v e3),
   fun b' q' n c heq o ho=>by
    cases heq
    rw [zP o _ (List.getElem?_eq_getElem (by omega)),List.getElem?_eq_getElem (by omega)]⟩
  obtain⟨j,hj⟩:=List.mem_iff_getElem?.1 hu
  exact(r.comm _ _ _ (zP j u hj)).2
theorem Bh {size:Nat} {rows new:List (List D)} {ow news:List Value} (Bi : ∀ row∈rows,row.length=size) (DG : ∀ row∈new,row.length=size)
 (l1:ow.length=rows.length*size) (l2:news.length=new.length*size) (o1 : ∀ u∈ow,u.oneCell'=true) (o2 : ∀ u∈news,u.oneCell'=true)
 (h1 : ∀ (i:Nat) (row:List D) (j:Nat) (d:D) (v:Value),rows[i]? = some row→row[j]? = some d→ow[i*size+j]? = some v→RD M s d v)
 (h2 : ∀ (i:Nat) (row:List D) (j:Nat) (d:D) (v:Value),new[i]? = some row→row[j]? = some d→news[i*size+j]? = some v→RD M s d v)
 (z:Array Value) (hz : ∀ v∈z,v.oneCell'=true):lO M s size (rows++new) ((ow++news).toArray++z):=by
 have hs : ∀ row∈rows++new,row.length=size:=fun row h=>(List.mem_append.1 h).elim (Bi row) (DG row)
 refine⟨by simp [l1,l2,Nat.add_mul],hs,fun v hv=> ?_,fun i row j d v e1 e2 e3=> ?_⟩
 ·simp at hv
  rcases hv with (h | h) | h
  ·exact o1 v h
  ·exact o2 v h
  ·exact hz v h
 ·have hC:=yo hs e1 e2
  rw [List.length_append,Nat.add_mul]at hC
  rw [Array.getElem?_append_left (by simp [l1,l2];omega),List.getElem?_toArray]at e3
  by_cases hi:i<rows.length
  ·rw [List.getElem?_append_left hi]at e1
   have:=yo Bi e1 e2
   rw [List.getElem?_append_left (by omega)]at e3
   exact h1 i row j d v e1 e2 e3
  ·rw [List.getElem?_append_right (by omega)]at e1
   have ez:rows.length*size≤i*size:=Nat.mul_le_mul_right _ (by omega)
   rw [List.getElem?_append_right (by omega),l1]at e3
   refine h2 (i - rows.length) row j d v e1 e2 ?_
   rw [← e3]
   congr 1
   rw [Nat.sub_mul];omega
theorem EJ {z:Array Value} (h : ∀ v∈z,v.oneCell'=true) (n:Nat) : ∀ v∈Builtin.zeroCells z n,v.oneCell'=true:=by
 intro v hv
 unfold Builtin.zeroCells at hv
 obtain⟨q,hq,rfl⟩:=Array.mem_map.1 hv
 have hC:q<n*z.size:=by simpa using hq
 have hz:0<z.size:=by
  rcases Nat.eq_zero_or_pos z.size with h | h
  ·rw [h]at hC;simp at hC
  ·exact h
 have:=Nat.mod_lt q hz
 rw [getElem!_pos z (q % z.size) this]
 exact h _ (Array.getElem_mem this)
def CG (eb:Bool) (size bytes:Nat) (x y:D) (s:St):Option (D×St):=
 match x,y with
 | .slice g z rows, .slice _ z' new=>
  if(rows = []∨z=size)∧(new = []∨z'=size)∧(rows.length+new.length)*(bytes+1)≤bQ then
   match new with
   | []=>some (.slice g z rows,s)
   | _::_=>
    match g with
    | .full=>some (.slice (.tok s.aC.length eb) size (rows++new),{s with aC:=s.aC++ [some (rows.length+new.length)]})
    | .shared=>none
    | .tok t y=>if(y=true→eb=true)∧z=size∧s.aC[t]? = some (some rows.length)then some (.slice (.tok t y) size (rows++new),{s with aC:=s.aC.set t (some (rows.length+new.length))})else none
  else none
 | _,_=>none
theorem Yc {size bytes:Nat} {x y d:D} {s s':St} (h:kp size bytes x y s=some (d,s')):CG false size bytes x y s=some (d,s'):=by
 unfold kp at h
 unfold CG
 split at h
 ·split at h
  ·rename_i hc
   simp only [hc,and_self,if_true]
   split at h
   ·exact h
   ·split at h
    ·exact h
    ·exact h
    ·cases h
    ·split at h
     ·rename_i hq
      simp only [hq,and_self,Bool.false_eq_true,false_imp_iff,if_true]
      exact h
     ·cases h
  ·cases h
 ·cases h
theorem Nt {x y d:D} {s s':St} (h:yj x y s=some (d,s')):CG true 1 1 x y s=some (d,s'):=by
 unfold yj at h
 unfold CG
 split at h
 ·split at h
  ·rename_i hc
   simp only [hc,and_self,if_true]
   split at h
   ·exact h
   ·split at h
    ·exact h
    ·exact h
    ·split at h
     ·rename_i hq
      simp only [hq,and_self,imp_true_iff,if_true]
      exact h
     ·cases h
  ·cases h
 ·cases h
theorem Ui {b:Bool} {n:Nat} (h:b=true→n=1) (hn:0<n):zs (bz b n)=n:=by
 cases b
 ·show(if n=0 then 1 else n)=n
  rw [if_neg (by omega)]
 ·simp [zs,bz,h rfl]
theorem As (eb:Bool) (r:Rel M s w) {t u ty e:TypeId} {i:TypeInfo} {z:Value} (ht:P.underlying t=some (.slice e)) (hi:P.info? e=some i) (hz:i.zero=some z)
 (zR:z.cells.size=i.size) (FH : ∀ v∈z.cells,v.oneCell'=true) {dx dy d:D} {x y:Value} {s':St} (hx:RD M s dx x) (Uj:eb=true→e=n7∧i.size=1) (vf:0<i.size) (he:CG eb i.size i.bytes dx dy s=some (d,s'))
 (src : ∀ (g:Tag) (size:Nat) (rows:List (List D)),dy = .slice g size rows→(rows = []→Src P i.size u y 0 [] w)∧(rows≠ []→size=i.size→(∀ row∈rows,row.length=i.size)∧∃ news:List Value,Src P i.size u y rows.length news w∧
  (∀ (k:Nat) (row:List D) (j:Nat) (d:D) (v:Value),rows[k]? = some row→row[j]? = some d→news[k*i.size+j]? = some v→RD M s d v))) :
 ∃ v w' M',(Builtin.append_ #[t,u] ty #[x,y]).run P w = .ok v w'∧Rel M' s' w'∧RD M' s' d v∧Ext M s w M' s' w':=by
 unfold CG at he
 split at he
 case h_2=>cases he
 rename_i g zx rows g' zy new
 split at he
 case isFalse=>cases he
 rename_i hc
 obtain⟨si,yq,IW⟩:=hc
 cases new with
 | nil=>
  simp only at he
  cases he
  have Nu:Src P i.size u y 0 [] w:=(src _ _ _ rfl).1 rfl
  rcases hx.ic with ⟨_,hv,_⟩ | ⟨_,_,a,cap,hv⟩ | ⟨b,q,cap,hv,hl,_⟩
  ·refine⟨x,w,M, ?_,r,hx,Ext.refl M s w⟩
   rw [hv]
   exact o9 ht hi Nu (Nat.le_refl _)
  ·refine⟨x,w,M, ?_,r,hx,Ext.refl M s w⟩
   rw [hv]
   exact o9 ht hi Nu (Nat.zero_le _)
  ·refine⟨x,w,M, ?_,r,hx,Ext.refl M s w⟩
   rw [hv]
   exact o9 ht hi Nu hl
 | cons n0 new=>
  have fi:(n0::new)≠ []:=by simp
  generalize dS:n0::new=gR at *
  have hzy:zy=i.size:=yq.resolve_left fi
  subst hzy
  obtain⟨Nv,news,hs,Uk⟩:=(src _ _ _ rfl).2 fi rfl
  have hm:0<gR.length:=List.length_pos_iff.2 fi
  have Bk:(rows.length+gR.length)*i.bytes≤140737488355328:=by rw [Nat.mul_succ]at IW;simp only [bQ]at IW;omega
  have amB:rows.length+gR.length≤1099511627776:=by rw [Nat.mul_succ]at IW;simp only [bQ]at IW;omega
  -- what the first argument reads as
  obtain⟨base,cap,ow,hxv,hle,oH,hod,Ul,Yd,hsx,hoG,nc⟩ : ∃ (base:Option Addr) (cap:Nat) (ow:List Value),x = .slice base rows.length cap∧rows.length≤cap∧ow.length=rows.length*i.size∧
   (Builtin.firstCells i.size rows.length (.slice base rows.length cap)).run P w.drew = .ok ow.toArray w.drew∧(∀ u∈ow,u.oneCell'=true)∧
   (∀ (k:Nat) (row:List D) (j:Nat) (d:D) (v:Value),rows[k]? = some row→row[j]? = some d→ow[k*i.size+j]? = some v→RD M s d v)∧(∀ row∈rows,row.length=i.size)∧
   (∀ b q,base=some ⟨b,q,none⟩→∀ o,o<rows.length*i.size→M.G b (q+o)=ow[o]?)∧
   ((base=none∧rows = []∧gW M s g zx 0 none cap)∨∃ b q,base=some ⟨b,q,none⟩∧gW M s g zx rows.length (some (b,q)) cap):=by
   rcases si with h0 | h0
   ·subst h0
    rcases hx.ic with ⟨_,hv,nc⟩ | ⟨_,rfl,_⟩ | ⟨b,q,cap,hv,hl,_,_,_,nc⟩
    ·exact⟨none,0,[],hv,Nat.le_refl _,by simp,by simp [Builtin.firstCells],by simp,by simp,by simp,by simp, .inl ⟨rfl,rfl,nc⟩⟩
    ·exfalso;simp only [← dS]at he;cases he
    ·exact⟨some ⟨b,q,none⟩,cap,[],hv,hl,by simp,by simp [Builtin.firstCells,loadCells,loadCellsFrom],by simp,by simp,by simp,by simp, .inr ⟨b,q,rfl,nc⟩⟩
   ·subst h0
    obtain⟨ow,IX,qB,ju⟩:=DF r ht hx
    rcases hx.ic with ⟨h0,hv,nc⟩ | ⟨_,rfl,_⟩ | ⟨b,q,cap,hv,hl,nM,_,_,nc⟩
    ·subst h0
     refine⟨none,0,ow,hv,Nat.le_refl _,IX.newsLen, ?_,IX.one,qB,by simp,by simp, .inl ⟨rfl,rfl,nc⟩⟩
     have:=IX.cellsD;rw [hv]at this;exact this
    ·exfalso;simp only [← dS]at he;cases he
    ·refine⟨some ⟨b,q,none⟩,cap,ow,hv,hl,IX.newsLen, ?_,IX.one,qB,nM,fun b' q' heq o ho=> ?_, .inr ⟨b,q,rfl,nc⟩⟩
     ·have:=IX.cellsD;rw [hv]at this;exact this
     ·cases heq;exact ju b q _ cap hv o ho
  subst hxv
  -- the way that makes a new row
  have grow : ∀ (hg:cap<rows.length+gR.length),∃ (w':World) (M1:Map) (vs:Array Value) (nN:Nat),
   (Builtin.append_ #[t,u] ty #[.slice base rows.length cap,y]).run P w = .ok (.slice (some ⟨w.heap.size,0,none⟩) (rows.length+gR.length) nN) w'∧
   w'.heap[w.heap.size]? = some (.cells vs e (0,0))∧vs.size=nN*i.size∧rows.length+gR.length≤nN∧M1=M.e7 w.heap.size ((rows.length+gR.length)*i.size) vs∧
   lO M s i.size (rows++gR) vs∧Rel M1 s w'∧Ext M s w M1 s w':=by
   intro hg
   have ez:=grownCap_ge w (rows.length+gR.length) cap e
   have dA:=run_append_grow_src (P:=P) w t u ty e i z ht hi hz base rows.length cap ow hod y gR.length news hs hg (by omega) (growslice_fits hg Bk)
   have dZ:=Bh (M:=M) (s:=s) hsx Nv oH hs.newsLen Ul hs.one Yd Uk (Builtin.zeroCells z.cells (grownCap w (rows.length+gR.length) cap e - (rows.length+gR.length))) (EJ FH _)
   obtain⟨r1,e1⟩:=(r.of_heap (w':=w.drew) rfl).e7 ((rows.length+gR.length)*i.size) _ e (0,0) dZ.2.2.1
   refine⟨_,_,_,_,dA,heap_alloc_new w.drew _, ?_,ez,rfl,dZ,r1,(Ext.of_heap (M:=M) (s:=s) (w:=w) (w':=w.drew) rfl rfl rfl rfl).trans e1⟩
   simp only [Array.size_append,List.size_toArray,List.length_append,size_zeroCells,zR,oH,hs.newsLen, ← Nat.add_mul]
   congr 1;omega
  have hlen:(rows++gR).length=rows.length+gR.length:=by simp
  cases g with
  | shared=>simp only [← dS]at he;cases he
  | full=>
   have rZ:cap=rows.length:=by
    rcases nc with ⟨_,h0,h1⟩ | ⟨_,_,_,h1⟩
    ·subst h0;exact h1
    ·exact h1
   obtain⟨w',M1,vs,nN,dA,hh,ep,hn,Bl,dZ,r1,e1⟩:=grow (by omega)
   simp only [← dS]at he
   simp only [dS]at he
   cases he
   have FI:zs (bz eb i.size)=i.size:=Ui (fun h=>(Uj h).2) vf
   have Um:bz eb i.size=0→e=n7:=fun h0=>by
    cases eb with
    | true=>exact(Uj rfl).1
    | false=>simp [bz]at h0;omega
   obtain⟨r2,l2⟩:=r1.Ue (rows.length+gR.length) w.heap.size nN (bz eb i.size) vs e hh (by rw [FI];exact ep) hn Um
    (fun off ho=>by rw [FI]at ho;rw [Bl];simp [Map.e7];omega)
    (fun o ho=>by have:=r.pP ho;rw [Bl];show M.mu o≠_;omega) (fun q c z' hl heq=>by
     have:M.be q=some (w.heap.size,c,z'):=by rw [Bl]at heq;exact heq
     have:=r.sE hl this;omega)
   refine⟨_,w',_,dA,r2, ?_, ?_⟩
   ·obtain⟨f1,f2⟩:=dZ.fixed (e1.le.trans l2) (b:=w.heap.size) (fun o ho=>by
     rw [Bl,hlen]at *
     simp [Map.ej,Map.e7,ho])
    have key:=RD.slice (M:=M1.ej s.aC.length (some (w.heap.size,nN,bz eb i.size))) (s:= {s with aC:=s.aC++ [some (rows.length+gR.length)]}) (.tok s.aC.length eb) i.size (rows++gR) w.heap.size 0 nN (by rw [hlen];exact hn) dZ.2.1 f1 f2
     ⟨by simp,fun n oI=>by
      simp at oI
      subst oI
      exact⟨by rw [hlen];exact Nat.le_refl _,fun _=> .inr ⟨_,rfl,by simp [Map.ej]⟩⟩⟩
    rw [hlen]at key
    exact key
   ·refine⟨e1.le.trans l2,e1.kept,e1.pL,fun q b c z' hl heq=> ?_,e1.rX,e1.size,e1.os,e1.tape,e1.output⟩
    obtain⟨k,hk⟩:=hl
    rcases Nat.lt_or_ge q s.aC.length with h | h
    ·have FJ:M1.be q=some (b,c,z'):=by
      have:(M1.ej s.aC.length (some (w.heap.size,nN,bz eb i.size))).be q=M1.be q:=by simp [Map.ej];omega
      rw [this]at heq;exact heq
     simp only [List.getElem?_append_left h]at hk
     exact e1.pM q b c z' ⟨k,hk⟩ FJ
    ·have:=(List.getElem?_eq_some_iff.1 hk).1
     simp at this
     have:q=s.aC.length:=by omega
     subst this
     have:(M1.ej s.aC.length (some (w.heap.size,nN,bz eb i.size))).be s.aC.length=some (w.heap.size,nN,bz eb i.size):=by simp [Map.ej]
     rw [this]at heq;cases heq
     exact .inr (Nat.le_refl _)
  | tok q yb=>
   simp only [← dS]at he
   simp only [dS]at he
   split at he
   case isFalse=>cases he
   rename_i hq
   obtain⟨Um,hzx,hq⟩:=hq
   cases he
   have FI:zs (bz yb i.size)=i.size:=Ui (fun h=>(Uj (Um h)).2) vf
   have afo:bz yb i.size=0→e=n7:=fun h0=>by
    cases yb with
    | true=>exact(Uj (Um rfl)).1
    | false=>simp [bz]at h0;omega
   have J4 : ∀ (hg:cap<rows.length+gR.length),∃ v w' M',(Builtin.append_ #[t,u] ty #[.slice base rows.length cap,y]).run P w = .ok v w'∧Rel M' {s with aC:=s.aC.set q (some (rows.length+gR.length))} w'∧
    RD M' {s with aC:=s.aC.set q (some (rows.length+gR.length))} (.slice (.tok q yb) i.size (rows++gR)) v∧Ext M s w M' {s with aC:=s.aC.set q (some (rows.length+gR.length))} w':=by
    intro hg
    obtain⟨w',M1,vs,nN,dA,hh,ep,hn,Bl,dZ,r1,e1⟩:=grow hg
    have Nw:q<s.aC.length:=(List.getElem?_eq_some_iff.1 hq).1
    obtain⟨r2,l2⟩:=r1.abZ q rows.length (rows.length+gR.length) w.heap.size nN (bz yb i.size) vs e hq (by omega) hh (by rw [FI];exact ep) hn afo
     (fun off ho=>by rw [FI]at ho;rw [Bl];simp [Map.e7];omega)
     (fun o ho=>by have:=r.pP ho;rw [Bl];show M.mu o≠_;omega) (fun q c z' hl heq=>by
      have:M.be q=some (w.heap.size,c,z'):=by rw [Bl]at heq;exact heq
      have:=r.sE hl this;omega)
    refine⟨_,w',_,dA,r2, ?_, ?_⟩
    ·obtain⟨f1,f2⟩:=dZ.fixed (e1.le.trans l2) (b:=w.heap.size) (fun o ho=>by
      rw [Bl,hlen]at *
      simp [Map.ej,Map.e7,ho])
     have key:=RD.slice (M:=M1.ej q (some (w.heap.size,nN,bz yb i.size))) (s:= {s with aC:=s.aC.set q (some (rows.length+gR.length))}) (.tok q yb) i.size (rows++gR) w.heap.size 0 nN (by rw [hlen];exact hn) dZ.2.1 f1 f2
      ⟨by simp [Nw],fun n oI=>by
       simp [Nw]at oI
       subst oI
       exact⟨by rw [hlen];exact Nat.le_refl _,fun _=> .inr ⟨_,rfl,by simp [Map.ej]⟩⟩⟩
     rw [hlen]at key
     exact key
    ·refine⟨e1.le.trans l2,e1.kept,e1.pL,fun q' b c z' hl heq=> ?_,e1.rX,e1.size,e1.os,e1.tape,e1.output⟩
     obtain⟨k,hk⟩:=hl
     by_cases h:q'=q
     ·subst h
      have:(M1.ej q' (some (w.heap.size,nN,bz yb i.size))).be q'=some (w.heap.size,nN,bz yb i.size):=by simp [Map.ej]
      rw [this]at heq;cases heq
      exact .inr (Nat.le_refl _)
     ·have FJ:M1.be q'=some (b,c,z'):=by
       have:(M1.ej q (some (w.heap.size,nN,bz yb i.size))).be q'=M1.be q':=by simp [Map.ej,h]
       rw [this]at heq;exact heq
      simp only [List.getElem?_set_ne (Ne.symm h)]at hk
      exact e1.pM q' b c z' ⟨k,hk⟩ FJ
   rcases nc with ⟨rfl,rfl,h1⟩ | ⟨b,k,rfl,h1⟩
   ·obtain⟨_,h2⟩:=h1
    obtain⟨_,h3⟩:=h2 _ hq
    rcases h3 rfl with ⟨_,h4⟩ | ⟨b,h4,_⟩
    ·exact J4 (by simp;omega)
    ·cases h4
   ·obtain⟨_,h2⟩:=h1
    obtain⟨_,h3⟩:=h2 _ hq
    rcases h3 rfl with ⟨_,h4⟩ | ⟨b2,h4,jL⟩
    ·exact J4 (by omega)
    cases h4
    subst hzx
    by_cases fC:rows.length+gR.length≤cap
    ·rcases r.tok q rows.length hq with ⟨h4,_⟩ | ⟨b',FC,wR,vs,T,h4,h5,h6,h7,h8⟩
     ·rw [jL]at h4;cases h4
     ·rw [jL]at h4;cases h4
      rw [FI]at h6
      obtain⟨r2,e2⟩:=r.ab0 q rows.length gR.length b cap (bz yb i.size) i.size news FI hq jL hs.newsLen fC hm hs.one vs T h5 h6 h8.2
      have kq:rows.length*i.size+news.length≤vs.size:=by rw [hs.newsLen,h6, ← Nat.add_mul];exact Nat.mul_le_mul_right _ fC
      have zO:=run_storeCells_at P b (rows.length*i.size) T news 0 vs w h5 (by simpa using kq) hs.one
      simp only [Nat.add_zero]at zO
      have dA:(Builtin.append_ #[t,u] ty #[.slice (some ⟨b,0,none⟩) rows.length cap,y]).run P w = .ok (.slice (some ⟨b,0,none⟩) (rows.length+gR.length) cap) (w.setRow b (vs.toList.take (rows.length*i.size)++news++vs.toList.drop (rows.length*i.size+news.length)).toArray):=by
       rcases hs.kind with ⟨Ng,hk⟩ | hk <;> simp [Builtin.append_,run_underlying ht,run_underlying hk,sizeOf,typeInfo,hi,hs.len,fC,hs.cells,Addr.add_lit,zO]
      refine⟨_,_,_,dA,r2, ?_,e2⟩
      have hG : ∀ o,o<(rows++gR).length*i.size→(M.fix b (rows.length*i.size) news).G b o=(ow++news).toArray[o]? :=by
       intro o ho
       rw [hlen,Nat.add_mul]at ho
       rw [List.getElem?_toArray]
       by_cases h9:o<rows.length*i.size
       ·rw [List.getElem?_append_left (by omega)]
        have:(M.fix b (rows.length*i.size) news).G b o=M.G b o:=by simp [Map.fix];omega
        rw [this]
        have:=hoG b 0 rfl o h9
        rwa [Nat.zero_add]at this
       ·rw [List.getElem?_append_right (by omega),oH]
        have:(M.fix b (rows.length*i.size) news).G b o=news[o - rows.length*i.size]? :=by
         simp only [Map.fix];rw [if_pos ⟨trivial,by omega,by rw [hs.newsLen];omega⟩]
        rw [this]
      have dZ:=Bh (M:=M) (s:=s) hsx Nv oH hs.newsLen Ul hs.one Yd Uk #[] (by simp)
      rw [Array.append_empty]at dZ
      obtain⟨f1,f2⟩:=dZ.fixed e2.le (b:=b) hG
      have Nw:q<s.aC.length:=(List.getElem?_eq_some_iff.1 hq).1
      have key:=RD.slice (M:=M.fix b (rows.length*i.size) news) (s:= {s with aC:=s.aC.set q (some (rows.length+gR.length))}) (.tok q yb) i.size (rows++gR) b 0 cap (by rw [hlen];exact fC) dZ.2.1 f1 f2
       ⟨by simp [Nw],fun n oI=>by
        simp [Nw]at oI
        subst oI
        exact⟨by rw [hlen];exact Nat.le_refl _,fun _=> .inr ⟨_,rfl,jL⟩⟩⟩
      rw [hlen]at key
      exact key
    ·exact J4 (by omega)
theorem IY (r:Rel M s w) {u e':TypeId} {i:TypeInfo} (hu:P.underlying u=some (.slice e')) {y:Value} {dy:D} (hy:RD M s dy y) (g:Tag) (size:Nat) (rows:List (List D)) (Yf:dy = .slice g size rows) :
 (rows = []→Src P i.size u y 0 [] w)∧(rows≠ []→size=i.size→(∀ row∈rows,row.length=i.size)∧∃ news:List Value,Src P i.size u y rows.length news w∧
  (∀ (k:Nat) (row:List D) (j:Nat) (d:D) (v:Value),rows[k]? = some row→row[j]? = some d→news[k*i.size+j]? = some v→RD M s d v)):=by
 subst Yf
 refine⟨fun h0=> ?_,fun fi ep=> ?_⟩
 ·subst h0
  rcases hy.ic with ⟨_,rfl,_⟩ | ⟨_,_,a,cap,rfl⟩ | ⟨b,q,cap,rfl,_⟩
  ·exact Src.ofNil w hu 0
  ·exact Src.ofSlice w hu a 0 cap [] (by simp) (by simp) (by simp)
  ·exact Src.ofSlice w hu ⟨b,q,none⟩ 0 cap [] (by simp) (by simp) (by simp)
 ·subst ep
  obtain⟨news,h1,h2,_⟩:=DF r hu hy
  refine⟨?_,news,h1,h2⟩
  rcases hy.ic with ⟨h0,_⟩ | ⟨h0,_⟩ | ⟨_,_,_,_,_,h,_⟩
  ·exact(fi h0).elim
  ·exact(fi h0).elim
  ·exact h
theorem Nx (r:Rel M s w) {t u ty e e':TypeId} {i:TypeInfo} {z:Value} (ht:P.underlying t=some (.slice e)) (hu:P.underlying u=some (.slice e')) (hi:P.info? e=some i) (hz:i.zero=some z)
 (zR:z.cells.size=i.size) (FH : ∀ v∈z.cells,v.oneCell'=true) {dx dy d:D} {x y:Value} {s':St} (hx:RD M s dx x) (hy:RD M s dy y) (vf:0<i.size) (he:kp i.size i.bytes dx dy s=some (d,s')) :
 ∃ v w' M',(Builtin.append_ #[t,u] ty #[x,y]).run P w = .ok v w'∧Rel M' s' w'∧RD M' s' d v∧Ext M s w M' s' w':=
 As false r ht hi hz zR FH hx (fun h=>by cases h) vf (Yc he) (IY r hu hy)
theorem J5 (r:Rel M s w) {t u ty e':TypeId} {i:TypeInfo} {z:Value} (ht:P.underlying t=some (.slice n7)) (hu:P.underlying u=some (.slice e')) (hi:P.info? n7=some i) (hz:i.zero=some z) (h1:i.size=1) (h2:i.bytes=1)
 (zR:z.cells.size=i.size) (FH : ∀ v∈z.cells,v.oneCell'=true) {dx dy d:D} {x y:Value} {s':St} (hx:RD M s dx x) (hy:RD M s dy y) (he:yj dx dy s=some (d,s')) :
 ∃ v w' M',(Builtin.append_ #[t,u] ty #[x,y]).run P w = .ok v w'∧Rel M' s' w'∧RD M' s' d v∧Ext M s w M' s' w':=
 As true r ht hi hz zR FH hx (fun _=>⟨rfl,h1⟩) (by omega) (by rw [h1,h2];exact Nt he) (IY r hu hy)
theorem J6 (r:Rel M s w) {t u ty:TypeId} {i:TypeInfo} {z:Value} (ht:P.underlying t=some (.slice n7)) (hu:P.underlying u=some .string) (hi:P.info? n7=some i) (hz:i.zero=some z) (h1:i.size=1) (h2:i.bytes=1)
 (zR:z.cells.size=i.size) (FH : ∀ v∈z.cells,v.oneCell'=true) {dx d:D} {x:Value} {l:List UInt8} {s':St} (hx:RD M s dx x) (he:yj dx (.slice .shared 1 (l.map fun c=> [.int .u8 c.toNat])) s=some (d,s')) :
 ∃ v w' M',(Builtin.append_ #[t,u] ty #[x, .string ⟨⟨l⟩⟩]).run P w = .ok v w'∧Rel M' s' w'∧RD M' s' d v∧Ext M s w M' s' w':=by
 have hs:Src P i.size u (.string ⟨⟨l⟩⟩) l.length (l.map fun c=> .int .u8 c.toNat) w:=by
  rw [h1]
  exact Src.ofString w hu ⟨⟨l⟩⟩
 refine As true r ht hi hz zR FH hx (fun _=>⟨rfl,h1⟩) (by omega) (by rw [h1,h2];exact Nt he) fun g size rows Yf=> ?_
 cases Yf
 refine⟨fun h0=> ?_,fun fi ep=> ?_⟩
 ·have:l = []:=by simpa using h0
  subst this
  exact hs
 ·refine⟨fun row hr=> ?_,_,by simpa using hs,fun k row j d v e1 e2 e3=> ?_⟩
  ·obtain⟨c,_,rfl⟩:=List.mem_map.1 hr
   rw [h1];rfl
  ·rw [List.getElem?_map,Option.map_eq_some_iff]at e1
   obtain⟨c,e1,rfl⟩:=e1
   cases j with
   | zero=>
    simp at e2
    subst e2
    simp [h1,e1]at e3
    subst e3
    exact .int _ _
   | succ j=>simp at e2
end
end Go.Abs

/-! Sound6 -/

namespace Go.Abs
section
variable {P:Program} {M:Map} {s:St} {w:World}
theorem map_some {α β:Type} {f:α→β} {x:Option α} {y:β} (h:x.map f=some y) : ∃ a,x=some a∧y=f a:=by
 cases x with
 | none=>cases h
 | some a=>cases h;exact⟨a,rfl,rfl⟩
theorem vg {t:TypeId} {z:List D} (h:zeroOf P t=some z) : ∃ i v,P.info? t=some i∧i.zero=some v∧v.cells.size=i.size∧mz v.cells.toList=some z:=by
 unfold zeroOf at h
 split at h
 ·rename_i i hi
  split at h
  ·rename_i v hv
   split at h
   ·exact⟨i,v,hi,hv, ‹_›,h⟩
   ·cases h
  ·cases h
 ·cases h
theorem s9 {z:List D} {v:Value} (h:mz v.cells.toList=some z):ry M s z v.cells:=by
 obtain⟨h1,h2,h3⟩:=ki (M:=M) (s:=s) h
 exact⟨by simpa using h1.symm,fun u hu=>h2 u (by simpa using hu),fun i d u e1 e2=>h3 i d u e1 (by simpa using e2)⟩
theorem J7 {t:TypeId} {z:List D} (h:wQ P t=some z) : ∃ i v,P.info? t=some i∧i.zero=some v∧v.cells.size=i.size∧ry M s z v.cells:=by
 unfold wQ at h
 split at h
 ·rename_i i hi
  split at h
  ·rename_i v hv
   split at h
   ·refine⟨i,v,hi,hv, ‹_›, ?_⟩
    obtain⟨h1,h2,h3⟩:=zQ (M:=M) (s:=s) h
    exact⟨by simpa using h1.symm,fun u hu=>h2 u (by simpa using hu),fun i d u e1 e2=>h3 i d u e1 (by simpa using e2)⟩
   ·cases h
  ·cases h
 ·cases h
theorem yr {t:TypeId} {tm:Tm} {act:Act} (hr:k5 M s tm act.tmps) : ∀ {l:List (Nat×Operand)} {ps:List (Nat×Nat×X)},yk P t l=some ps→
 (ps.map fun p=>(p.1,p.2.1,p.2.2.ev tm)).length=(l.map fun p=>(p.1,act.eval p.2)).length∧
 ∀ (j:Nat) (i:Nat) (v:Value) (off size:Nat) (d:D),(l.map fun p=>(p.1,act.eval p.2))[j]? = some (i,v)→(ps.map fun p=>(p.1,p.2.1,p.2.2.ev tm))[j]? = some (off,size,d)→
  (∃ a,ln P t i=some (off,size,a))∧RD M s d v
 | [],ps,h=>by cases h;exact⟨rfl,by simp⟩
 | (i0,x)::l,ps,h=>by
  unfold yk at h
  split at h
  ·rename_i off size a x' r' h1 h2 h3
   cases h
   obtain⟨g1,g2⟩:=yr hr h3
   refine⟨by simpa using g1,fun j i v ve wR d e1 e2=> ?_⟩
   cases j with
   | zero=>
    simp at e1 e2
    obtain⟨rfl,rfl⟩:=e1
    obtain⟨rfl,rfl,rfl⟩:=e2
    exact⟨⟨a,h1⟩,cj h2 hr⟩
   | succ j=>exact g2 j i v ve wR d (by simpa using e1) (by simpa using e2)
  ·cases h
theorem Bm {tm:Tm} {act:Act} (hr:k5 M s tm act.tmps) : ∀ {l:List (Nat×Operand)} {ps:List (Nat×X)},FA l=some ps→
 (ps.map fun p=>(p.1,p.2.ev tm)).length=(l.map fun p=>(p.1,act.eval p.2)).length∧
 ∀ (j:Nat) (i:Nat) (v:Value) (i':Nat) (d:D),(l.map fun p=>(p.1,act.eval p.2))[j]? = some (i,v)→(ps.map fun p=>(p.1,p.2.ev tm))[j]? = some (i',d)→i'=i∧RD M s d v
 | [],ps,h=>by cases h;exact⟨rfl,by simp⟩
 | (i0,x)::l,ps,h=>by
  unfold FA at h
  split at h
  ·rename_i x' r' h1 h2
   cases h
   obtain⟨g1,g2⟩:=Bm hr h2
   refine⟨by simpa using g1,fun j i v i' d e1 e2=> ?_⟩
   cases j with
   | zero=>
    simp at e1 e2
    obtain⟨rfl,rfl⟩:=e1
    obtain⟨rfl,rfl⟩:=e2
    exact⟨rfl,cj h1 hr⟩
   | succ j=>exact g2 j i v i' d (by simpa using e1) (by simpa using e2)
  ·cases h
theorem Bn : ∀ (l:List Field),(∀ f∈l,(P.info? f.type).isSome)→
 ∃ ps:List (Nat×Nat),(l.mapM fun f=>do pure (f.offset, ← sizeOf f.type):Sem (List (Nat×Nat))).run P w = .ok ps w∧
  ∀ (j:Nat) (f:Field) (i:TypeInfo),l[j]? = some f→P.info? f.type=some i→ps[j]? = some (f.offset,i.size)
 | [],_=>⟨[],rfl,by simp⟩
 | f::l,h=>by
  obtain⟨i,hi⟩:=Option.isSome_iff_exists.1 (h f (by simp))
  obtain⟨ps,h1,h2⟩:=Bn l (fun g hg=>h g (by simp [hg]))
  refine⟨(f.offset,i.size)::ps, ?_,fun j g i' e1 e2=> ?_⟩
  ·rw [List.mapM_cons]
   simp only [Sem.run_bind,sizeOf,gF P hi,Result.andThen_ok,Sem.run_pure]at h1 ⊢
   simp only [h1,Result.andThen_ok]
  ·cases j with
   | zero=>simp at e1;subst e1;rw [hi]at e2;cases e2;rfl
   | succ j=>exact h2 j g i' (by simpa using e1) e2
theorem J8 (r:Rel M s w) {t:TypeId} {fs:Array Field} {z:List D} {l:List (Nat×Operand)} {ps:List (Nat×Nat×X)} {tm:Tm} {act:Act} {cs:List D} (hr:k5 M s tm act.tmps)
 (ht:P.underlying t=some (.struct fs)) (FK:(fs.toList.all fun f=>(P.info? f.type).isSome)=true) (hz:wQ P t=some z) (hp:yk P t l=some ps) (hf:pN z (ps.map fun p=>(p.1,p.2.1,p.2.2.ev tm))=some cs) :
 dq P M s w (do pure (.value (← Instr.build t (l.toArray.map fun(i,x)=>(i,act.eval x))))) (.agg cs) s:=by
 obtain⟨i,v,h1,h2,h3,hc⟩:=J7 (M:=M) (s:=s) hz
 obtain⟨g1,g2⟩:=yr hr hp
 obtain⟨pl,p1,p2⟩:=Bn (P:=P) (w:=w) fs.toList (fun f hf'=>by simpa using List.all_eq_true.1 FK f hf')
 have VV:(fs.mapM fun f=>do pure (f.offset, ← sizeOf f.type):Sem (Array (Nat×Nat))).run P w = .ok pl.toArray w:=by
  rw [Array.mapM_eq_mapM_toList,Sem.run_map,p1];rfl
 obtain⟨vs,f1,f2⟩:=FF (place:=(pl.toArray[·]?)) (l.map fun p=>(p.1,act.eval p.2)) _ z v.cells cs hc g1 (fun j i v off size d e1 e2=>by
  obtain⟨⟨a,ha⟩,hd⟩:=g2 j i v off size d e1 e2
  refine⟨?_,hd⟩
  unfold ln at ha
  rw [ht]at ha
  simp only at ha
  split at ha
  ·rename_i fd hfd
   split at ha
   ·rename_i i' a' gD _
    split at ha
    ·cases ha
    ·cases ha
     simpa using p2 i fd i' (by simpa using hfd) gD
   ·cases ha
  ·cases ha) hf
 refine dq.pure (v:= .agg vs) r ?_ (.agg _ _ f2.1.symm f2.2.1 f2.2.2)
 have sj:(l.toArray.map fun(i,x)=>(i,act.eval x)).toList=l.map fun p=>(p.1,act.eval p.2):=by simp
 unfold Instr.build
 simp only [Sem.run_bind,zeroValue,gF P h1,h2,Result.andThen_ok,Sem.run_pure,run_underlying ht,VV,sj,f1]
theorem zS (r:Rel M s w) {t e:TypeId} {i:TypeInfo} {z:List D} {n:Nat} {l:List (Nat×Operand)} {ps:List (Nat×X)} {tm:Tm} {act:Act} {rows:List (List D)} (hr:k5 M s tm act.tmps)
 (ht:P.underlying t=some (.slice e)) (hi:P.info? e=some i) (hz:zeroOf P e=some z) (vf:0<i.size) (hn:n*i.size≤65536) (hp:FA l=some ps)
 (hf:iR i.size (hY z n) (ps.map fun p=>(p.1,p.2.ev tm))=some rows) :
 ∃ (vs:Array Value) (T:TypeId),lO M s i.size rows vs∧rows.length=n∧vs.size=n*i.size∧
  (Instr.buildSlice t n (l.toArray.map fun(i,x)=>(i,act.eval x))).run P w = .ok (.slice (some ⟨w.heap.size,0,none⟩) n n) (w.alloc (.cells vs T)):=by
 obtain⟨i',v,h1,h2,h3,h4⟩:=vg hz
 rw [hi]at h1;cases h1
 have hc:=s9 (M:=M) (s:=s) h4
 have hzl:z.length=i.size:=by rw [← hc.1,h3]
 have hr0:=lO.zero hc (by omega) n
 rw [hzl]at hr0
 obtain⟨g1,g2⟩:=Bm hr hp
 obtain⟨vs,f1,f2,f3,f4⟩:=yp (l.map fun p=>(p.1,act.eval p.2)) _ _ _ rows hr0 g1 g2 hf
 have hzr:=np z n
 refine⟨vs,e,f2,by rw [f3,hzr],by rw [f4];simp, ?_⟩
 have Bk : ¬ (n*i.size > 2 ^ 24):=by omega
 have sj:(l.toArray.map fun(i,x)=>(i,act.eval x)).toList=l.map fun p=>(p.1,act.eval p.2):=by simp
 by_cases h0:n*i.size=0
 ·have k7:(Array.range (n*i.size)).map ((#[] : Array Value)[· % (#[] : Array Value).size]!)=(Array.range (n*i.size)).map (v.cells[· % v.cells.size]!):=by rw [h0];simp
  unfold Instr.buildSlice
  simp only [Sem.run_bind,run_underlying ht,Result.andThen_ok,sizeOf,gF P hi,Sem.run_pure,if_neg Bk,if_pos h0,k7,sj,f1,newRow,run_newObj]
  rfl
 ·unfold Instr.buildSlice
  simp only [Sem.run_bind,run_underlying ht,Result.andThen_ok,sizeOf,gF P hi,Sem.run_pure,if_neg Bk,if_neg h0,zeroValue,h2,sj,f1,newRow,run_newObj]
  rfl
end
end Go.Abs

/-! Sound7 -/

namespace Go.Abs
section
variable {P:Program} {M:Map} {s:St} {w:World}
theorem foldl_push (ns:List Int) : ∀ r:ByteArray,ns.foldl (fun r n=>r.push (UInt8.ofNat n.toNat)) r = ⟨r.data++(ns.map fun n=>UInt8.ofNat n.toNat).toArray⟩:=by
 induction ns with
 | nil=>intro r;simp
 | cons n ns ih=>intro r;simp only [List.foldl_cons];rw [ih];simp [ByteArray.push]
theorem ta : ∀ {rows:List (List D)} {l:List UInt8},mX rows=some l→∃ ns:List Int,rows=ns.map (fun n=> [.int .u8 n])∧l=ns.map fun n=>UInt8.ofNat n.toNat
 | [],l,h=>by cases h;exact⟨[],rfl,rfl⟩
 | r::rs,l,h=>by
  unfold mX at h
  split at h
  ·rename_i b bs h1 h2
   cases h
   obtain⟨ns,g1,g2⟩:=ta h2
   unfold DB at h1
   split at h1
   ·rename_i n
    cases h1
    exact⟨n::ns,by rw [g1];rfl,by rw [g2];rfl⟩
   ·cases h1
  ·cases h
theorem J9 (r:Rel M s w) {src dst e:TypeId} {g:Tag} {z:Nat} {rows:List (List D)} {v:Value} {l:List UInt8} (hs:P.underlying src=some (.slice e)) (he:P.underlying e=some (.int .u8)) (hd:P.underlying dst=some .string)
 (hv:RD M s (.slice g z rows) v) (hb:mX rows=some l):dq P M s w (do pure (.value (← convert src dst v))) (.str l) s:=by
 obtain⟨ns,rfl,rfl⟩:=ta hb
 refine dq.pure (v:= .string ⟨⟨ns.map fun n=>UInt8.ofNat n.toNat⟩⟩) r ?_ (.str _)
 rcases hv.ic with ⟨h0,rfl,_⟩ | ⟨h0,_,a,cap,rfl⟩ | ⟨b,q,cap,rfl,hl,ep,g1,g2,_⟩
 ·have:ns = []:=by simpa using h0
  subst this
  have:=run_convert_bytes_string w src dst e none 0 0 hs he hd
  simp only [Sem.run_bind,this,Conv.bytesToString,Sem.run_pure,Result.andThen_ok]
  rfl
 ·have:ns = []:=by simpa using h0
  subst this
  have h2:=run_convert_bytes_string w src dst e (some a) 0 cap hs he hd
  simp only [Sem.run_bind,h2,Conv.bytesToString,Sem.run_pure,Result.andThen_ok]
  rfl
 ·have k7:=run_loadCells_list (P:=P) w ⟨b,q,none⟩ (ns.map (Value.int .u8)) (fun j v hj=>by
   rw [qI]
   simp only [List.getElem?_map,Option.map_eq_some_iff]at hj
   obtain⟨n,hn,rfl⟩:=hj
   have dZ:(ns.map (fun n=> [D.int .u8 n]))[j]? = some [.int .u8 n]:=by simp [hn]
   have hz:z=1:=by have:=ep [.int .u8 n] (List.mem_of_getElem? dZ);simpa using this.symm
   subst hz
   obtain⟨u,hu⟩:=g1 j _ 0 _ dZ rfl
   have:=g2 j _ 0 _ u dZ rfl hu
   rw [this.iS]at hu
   have:=(r.comm _ _ _ hu).1
   simpa using this)
  simp only [List.length_map]at k7 ⊢
  have h1:=run_bytesToString (P:=P) w ⟨b,q,none⟩ ns.length cap ns k7
  have h2:=run_convert_bytes_string w src dst e (some ⟨b,q,none⟩) ns.length cap hs he hd
  simp only [Sem.run_bind,h2,h1,Sem.run_pure,Result.andThen_ok,foldl_push]
  congr 3
  simp [ByteArray.empty,ByteArray.emptyWithCapacity]
  rfl
theorem FL (r:Rel M s w) {src dst e:TypeId} {l:List UInt8} (hs:P.underlying src=some .string) (hd:P.underlying dst=some (.slice e)) (he:P.underlying e=some (.int .u8)) :
 dq P M s w (do pure (.value (← convert src dst (.string ⟨⟨l⟩⟩)))) (.slice .shared 1 (l.map fun c=> [.int .u8 c.toNat])) s:=by
 have dA:=run_bytes_of_string (P:=P) w src dst e ⟨⟨l⟩⟩ hs hd he
 generalize rZ:grownCap w (ByteArray.size ⟨⟨l⟩⟩) 0 e=cap at dA
 have ez:l.length≤cap:=by rw [← rZ];exact grownCap_ge w l.length 0 e
 have dZ : ∀ j,j<l.length→(bytesRow ⟨⟨l⟩⟩ cap)[j]? = some (.int .u8 ((l[j]?.getD 0).toNat:Int)):=by
  intro j hj
  unfold bytesRow
  rw [Array.getElem?_append_left (by simpa using hj)]
  simp [hj]
 have ep:(bytesRow ⟨⟨l⟩⟩ cap).size=cap:=by simp [bytesRow,zl];omega
 have jO : ∀ v∈bytesRow ⟨⟨l⟩⟩ cap,v.oneCell'=true:=by
  intro v hv
  unfold bytesRow at hv
  simp at hv
  rcases hv with ⟨a,_,rfl⟩ | ⟨_,rfl⟩ <;> rfl
 have hR:lO M s 1 (l.map fun c=> [D.int .u8 c.toNat]) (bytesRow ⟨⟨l⟩⟩ cap):=by
  refine⟨by simp [ep];omega,by simp,jO,fun i row j d v e1 e2 e3=> ?_⟩
  simp only [List.getElem?_map,Option.map_eq_some_iff]at e1
  obtain⟨c,hc,rfl⟩:=e1
  cases j with
  | zero=>
   simp at e2;subst e2
   have hi:=(List.getElem?_eq_some_iff.1 hc).1
   rw [show i*1+0=i by omega,dZ i hi,hc]at e3
   cases e3
   exact .int _ _
  | succ j=>simp at e2
 obtain⟨r1,e1⟩:=(r.of_heap (w':=w.drew) rfl).e7 l.length (bytesRow ⟨⟨l⟩⟩ cap) e ((bytesRow ⟨⟨l⟩⟩ cap).size,(bytesRow ⟨⟨l⟩⟩ cap).size+1) jO
 obtain⟨f1,f2⟩:=hR.fixed e1.le (b:=w.heap.size) (fun o ho=>by simp at ho;simp [Map.e7,ho])
 refine⟨.slice (some ⟨w.heap.size,0,none⟩) l.length cap,_,_, .inl (by simp only [Sem.run_bind,dA,Result.andThen_ok,Sem.run_pure];rfl),r1, ?_,(Ext.of_heap (M:=M) (s:=s) (w:=w) (w':=w.drew) rfl rfl rfl rfl).trans e1⟩
 have key:=RD.slice (M:=M.e7 w.heap.size l.length (bytesRow ⟨⟨l⟩⟩ cap)) (s:=s) .shared 1 (l.map fun c=> [D.int .u8 c.toNat]) w.heap.size 0 cap (by simpa using ez) hR.2.1 f1 f2 trivial
 simp only [List.length_map]at key
 exact key
theorem Q1 (r:Rel M s w) {t e:TypeId} {q z:Nat} {yb:Bool} {rows:List (List D)} {v:Value} (ht:P.underlying t=some (.slice e)) (he:P.underlying e=some (.int .u8)) (hv:RD M s (.slice (.tok q yb) z rows) v) (fi:rows≠ []) (hq:s.aC[q]? = some (some rows.length)) :
 dq P M s w (do pure (.value (← convert t t v))) (.slice .shared z rows) {s with aC:=s.aC.set q none}:=by
 rcases hv.ic with ⟨h0,_,_⟩ | ⟨h0,_,_⟩ | ⟨b,k,cap,rfl,hl,ep,g1,g2,nc⟩
 ·exact(fi h0).elim
 ·exact(fi h0).elim
 ·obtain⟨_,h2⟩:=nc
  obtain⟨_,h3⟩:=h2 _ hq
  rcases h3 rfl with ⟨_,h4,_⟩ | ⟨b2,h4,jL⟩
  ·subst h4
   exact(fi (List.eq_nil_of_length_eq_zero (Nat.le_zero.1 hl))).elim
  cases h4
  obtain⟨r1,l1⟩:=r.ab1 q
  rcases r.tok q rows.length hq with ⟨h4,_⟩ | ⟨b',FC,wR,vs,T,h4,h5,h6,h7,h8⟩
  ·rw [jL]at h4;cases h4
  ·rw [jL]at h4;cases h4
   have gK : ∀ p,St.live {s with aC:=s.aC.set q none} p→p≠q∧s.live p:=by
    rintro p ⟨n,hn⟩
    rw [List.getElem?_set]at hn
    split at hn
    ·simp at hn
    ·rename_i fi;exact⟨fun h=>fi h.symm,n,hn⟩
   obtain⟨r2,hh,nM,ho,Bo,Ka⟩:=r1.freeze (b:=b) vs.size 1 (fun o ho=>r.eX q b cap _ o ⟨_,hq⟩ jL ho)
    (fun p c y hp heq=>(gK p hp).1 (r.fz p q b c y cap _ (gK p hp).2 ⟨_,hq⟩ heq jL))
   have Yg:w.shape? b=some (T,vs.size):=by simp [World.shape?,h5]
   refine⟨.slice (some ⟨b,0,none⟩) rows.length cap,_,M, .inl ?_,r2, ?_, ?_⟩
   ·simp [convert,run_underlying ht,run_underlying he,markStringish,Yg]
   ·have h9:=(RD.slice (M:=M) (s:=s) .shared z rows b 0 cap hl ep g1 g2 trivial).mono l1
    exact h9
   ·refine⟨l1,fun p _ _ h4=>hh p (fun e=>h4 q cap (bz yb z) ⟨_,hq⟩ (by rw [jL,e])),fun o h3 h4=> ?_,fun p b' c y hp heq=> .inl ⟨(gK p hp).2,c,y,heq⟩,fun _ _ h=>(h rfl).elim,by rw [nM];exact Nat.le_refl _,ho,Bo,Ka⟩
    simp at h4;omega
theorem Ny (r:Rel M s w) {size:Nat} {rows:List (List D)} {vs:Array Value} (T:TypeId) (h:lO M s size rows vs) (ep:vs.size=rows.length*size) (vf:0<size) :
 ∃ M',RD M' {s with aC:=s.aC++ [some rows.length]} (.slice (.tok s.aC.length) size rows) (.slice (some ⟨w.heap.size,0,none⟩) rows.length rows.length)∧
 Rel M' {s with aC:=s.aC++ [some rows.length]} (w.alloc (.cells vs T))∧Ext M s w M' {s with aC:=s.aC++ [some rows.length]} (w.alloc (.cells vs T)):=by
 obtain⟨r1,e1⟩:=r.e7 vs.size vs T (0,0) h.2.2.1
 have zR:zs size=size:=by show(if size=0 then 1 else size)=size;rw [if_neg (by omega)]
 obtain⟨r2,l2⟩:=r1.Ue rows.length w.heap.size rows.length size vs T (heap_alloc_new w _) (by rw [zR];exact ep) (Nat.le_refl _) (fun h=>by omega)
  (fun off ho=>by rw [zR]at ho;simp [Map.e7];omega) (fun o ho=>by have:=r.pP ho;show M.mu o≠_;omega)
  (fun q c z' hl heq=>by have:=r.sE hl (show M.be q=some (w.heap.size,c,z')from heq);omega)
 obtain⟨f1,f2⟩:=h.fixed (e1.le.trans l2) (b:=w.heap.size) (fun o ho=>by
  have:o<vs.size:=Nat.lt_of_lt_of_le ho h.1
  simp [Map.ej,Map.e7,this])
 refine⟨_, ?_,r2, ?_⟩
 ·exact .slice _ size rows w.heap.size 0 rows.length (Nat.le_refl _) h.2.1 f1 f2 ⟨by simp,fun n hn=>by
   simp at hn;subst hn
   exact⟨Nat.le_refl _,fun _=> .inr ⟨_,rfl,by simp [Map.ej,bz]⟩⟩⟩
 ·refine⟨e1.le.trans l2,e1.kept,e1.pL,fun q b c z' hl heq=> ?_,e1.rX,e1.size,e1.os,e1.tape,e1.output⟩
  obtain⟨k,hk⟩:=hl
  rcases Nat.lt_or_ge q s.aC.length with h' | h'
  ·have FJ:M.be q=some (b,c,z'):=by
    have:((M.e7 w.heap.size vs.size vs).ej s.aC.length (some (w.heap.size,rows.length,size))).be q=M.be q:=by simp [Map.ej,Map.e7];omega
    rw [this]at heq;exact heq
   simp only [List.getElem?_append_left h']at hk
   exact .inl ⟨⟨k,hk⟩,c,z',FJ⟩
  ·have:=(List.getElem?_eq_some_iff.1 hk).1
   simp at this
   have:q=s.aC.length:=by omega
   subst this
   have:((M.e7 w.heap.size vs.size vs).ej s.aC.length (some (w.heap.size,rows.length,size))).be s.aC.length=some (w.heap.size,rows.length,size):=by simp [Map.ej]
   rw [this]at heq;cases heq
   exact .inr (Nat.le_refl _)
end
end Go.Abs

/-! SoundM -/

namespace Go.Abs
open Go.MapKept
section
variable {P:Program} {M:Map} {s:St} {w:World}
theorem uu : ∀ (a b:List MapEntry),gA (a++b)=gA a++gA b
 | [],b=>rfl
 | e::a,b=>by simp only [List.cons_append,gA,uu a b]
theorem DH : ∀ (a:List MapEntry) (j:Nat) (e:MapEntry) (k v:Value),a[j]? = some e→e.key=k→gA (a.set j {e with key:=k,val:=v})=(gA a).set (2*j+1) v
 | [],j,e,k,v,h,_=>by simp at h
 | x::a,0,e,k,v,h,hk=>by
  simp at h;subst h;subst hk
  simp [gA]
 | x::a,j+1,e,k,v,h,hk=>by
  have:=DH a j e k v (by simpa using h) hk
  simp only [List.set_cons_succ,gA,this]
  rw [show 2*(j+1)=(2*j+1)+1 by omega,List.set_cons_succ]
theorem Q2 (a b:List UInt8):((⟨⟨a⟩⟩:ByteArray) == ⟨⟨b⟩⟩)=(a==b):=by
 show((⟨a⟩:Array UInt8) == ⟨b⟩)=(a==b)
 simp
theorem find_spec {key:List UInt8} : ∀ (es:List MapEntry) (cs:List D) (i:Nat),(gA es).length=cs.length→(∀ (i:Nat) (d:D) (v:Value),cs[i]? = some d→(gA es)[i]? = some v→RD M s d v)→
 (∀ z d,wP key z cs=some d→(Instr.findNow .string (.string ⟨⟨key⟩⟩) es i=some none∧d=z)∨∃ (j:Nat) (e:MapEntry),Instr.findNow .string (.string ⟨⟨key⟩⟩) es i=some (some (i+j,e.val))∧RD M s d e.val)∧
 (∀ d oo,vd key d cs=some oo→(Instr.findNow .string (.string ⟨⟨key⟩⟩) es i=some none∧oo=cs++ [.str key,d])∨
  ∃ (j:Nat) (e:MapEntry),Instr.findNow .string (.string ⟨⟨key⟩⟩) es i=some (some (i+j,e.val))∧es[j]? = some e∧e.key = .string ⟨⟨key⟩⟩∧oo=cs.set (2*j+1) d)
 | [],cs,i,hl,hr=>by
  have:cs = []:=by cases cs <;> simp [gA]at hl;rfl
  subst this
  refine⟨fun z d h=> .inl ⟨rfl,by simp [wP]at h;exact h.symm⟩,fun d oo h=> .inl ⟨rfl,by simp [vd]at h;simp [← h]⟩⟩
 | x::es,cs,i,hl,hr=>by
  match cs,hl with
  | [],hl=>simp [gA]at hl
  | [_],hl=>simp [gA]at hl
  | c0::c1::r,hl=>
   simp only [gA,List.length_cons]at hl hr
   have h0:=hr 0 c0 x.key rfl rfl
   have h1:=hr 1 c1 x.val rfl rfl
   obtain⟨pR,sk⟩:=find_spec es r (i+1) (by omega) (fun j d v e1 e2=>hr (j+2) d v (by simpa using e1) (by simpa using e2))
   have hky : ∀ k,c0 = .str k→x.key = .string ⟨⟨k⟩⟩∧Instr.findNow .string (.string ⟨⟨key⟩⟩) (x::es) i=if key==k then some (some (i,x.val))else Instr.findNow .string (.string ⟨⟨key⟩⟩) es (i+1):=by
    intro k hk
    subst hk
    have hx:=h0.kh
    refine⟨hx, ?_⟩
    simp only [Instr.findNow,hx,Instr.sameNow,Q2]
    cases hb:key==k <;> simp
   refine⟨fun z d h=> ?_,fun d oo h=> ?_⟩
   ·cases c0 <;> simp only [wP]at h <;> try (cases h;done)
    rename_i k
    obtain⟨k1,k2⟩:=hky k rfl
    rw [k2]
    by_cases xJ:k=key
    ·subst xJ
     simp at h
     subst h
     exact .inr ⟨0,x,by simp,h1⟩
    ·have e1:(k==key)=false:=by simpa using xJ
     have e2:(key==k)=false:=by simpa using fun e:key=k=>xJ (Eq.symm e)
     rw [e1]at h
     rw [e2]
     simp only [Bool.false_eq_true, ↓reduceIte]at h ⊢
     rcases pR z d h with h2 | ⟨j,e,h2,h3⟩
     ·exact .inl h2
     ·exact .inr ⟨j+1,e,by rw [h2];congr 3;omega,h3⟩
   ·cases c0 <;> simp only [vd]at h <;> try (cases h;done)
    rename_i k
    obtain⟨k1,k2⟩:=hky k rfl
    rw [k2]
    by_cases xJ:k=key
    ·subst xJ
     simp at h
     subst h
     exact .inr ⟨0,x,by simp,rfl,k1,by simp⟩
    ·have e1:(k==key)=false:=by simpa using xJ
     have e2:(key==k)=false:=by simpa using fun e:key=k=>xJ (Eq.symm e)
     rw [e1]at h
     rw [e2]
     simp only [Bool.false_eq_true, ↓reduceIte]at h ⊢
     split at h
     ·rename_i r' ur
      cases h
      rcases sk d r' ur with ⟨h2,h3⟩ | ⟨j,e,h2,h3,h4,h5⟩
      ·exact .inl ⟨h2,by rw [h3];rfl⟩
      ·refine .inr ⟨j+1,e,by rw [h2];congr 3;omega,by simpa using h3,h4, ?_⟩
       rw [h5,show 2*(j+1)+1=(2*j+1)+1+1 by omega]
       simp only [List.set_cons_succ]
     ·cases h
theorem Rel.Yh (r:Rel M s w) {o:Nat} {cs oo:List D} (he:s.az[o]? = some cs) (hk:M.ob o = .map) (xK:Array MapEntry) (ck:Nat) (hl:(gA xK.toList).length=oo.length)
 (h1 : ∀ v∈gA xK.toList,v.oneCell'=true) (h2 : ∀ (i:Nat) (d:D) (v:Value),oo[i]? = some d→(gA xK.toList)[i]? = some v→RD M s d v) :
 Rel M {s with az:=s.az.set o oo} {w with heap:=w.heap.setIfInBounds (M.mu o) (.map xK ck)}∧Ext M s w M {s with az:=s.az.set o oo} {w with heap:=w.heap.setIfInBounds (M.mu o) (.map xK ck)}:=by
 obtain⟨vs,T,hh,hs,⟨jO,Ud⟩,oG⟩:=r.obj o cs he
 rw [hk]at hh
 obtain⟨es,ck0,hh,rA⟩:=hh
 have ho:o<s.az.length:=(List.getElem?_eq_some_iff.1 he).1
 obtain⟨ab4,kZ⟩:=heap_set (w:=w) (o':= .map xK ck) hh
 have le:Le M s M {s with az:=s.az.set o oo}:=
  ⟨fun _ _ _ h=>h,by simp,fun _ _=>rfl,Nat.le_refl _,fun t n _ h=>⟨n,h,Nat.le_refl _,fun _=>rfl⟩⟩
 refine⟨⟨fun b q v e=> ?_,fun o' ds e=> ?_,fun q hq ve=>r.ko q (by simpa using hq) ve,fun q q' hq qA e=>r.inj q q' (by simpa using hq) (by simpa using qA) e,fun t n e=> ?_,
  fun t b c z q hl e hq=>r.eX t b c z q hl e (by simpa using hq),fun t t' b c z c' z' h h' e e'=>r.fz t t' b c z c' z' h h' e e'⟩, ?_⟩
 ·obtain⟨h3,h4⟩:=r.comm b q v e
  refine⟨?_,h4⟩
  have hb:b≠M.mu o:=fun eq=>by subst eq;rw [r.ko o ho q]at e;cases e
  rw [← h3]
  simp [World.cell?,kZ b hb]
 ·rw [List.getElem?_set]at e
  split at e
  ·rename_i heq
   subst heq
   simp at e
   obtain⟨_,rfl⟩:=e
   refine⟨⟨gA xK.toList⟩,0, ?_,by simpa using hl,⟨fun v hv=>h1 v (by simpa using hv),fun T' h=> ?_⟩,fun i d v e1 e2=>(h2 i d v e1 (by simpa using e2)).mono le⟩
   ·rw [hk];exact⟨xK,ck,ab4,rfl⟩
   ·have:M.ty o=none:=by
     have:(M.loc o).2 = .map:=hk
     simp [Map.ty,this,Ob.ty?]
    rw [this]at h;cases h
  ·rename_i fi
   obtain⟨fj,T',h3,h4,h5,h6⟩:=r.obj o' ds e
   have lH:o'<s.az.length:=(List.getElem?_eq_some_iff.1 e).1
   refine⟨fj,T', ?_,h4,h5,fun i d v e1 e2=>(h6 i d v e1 e2).mono le⟩
   show lN (w.heap.setIfInBounds (M.mu o) (.map xK ck))[M.mu o']? (M.ob o') _ _
   rw [kZ _ (fun eq=>fi (r.inj o o' ho lH eq.symm))];exact h3
 ·rcases r.tok t n e with h3 | ⟨b,cap,size,fj,T',h3,h4,h5⟩
  ·exact .inl h3
  ·refine .inr ⟨b,cap,size,fj,T',h3, ?_,h5⟩
   show(w.heap.setIfInBounds (M.mu o) (.map xK ck))[b]? = _
   rw [kZ b (fun eq=>r.eX t b cap size o ⟨n,e⟩ h3 ho eq.symm)];exact h4
 ·refine⟨le,fun b hb h3 _=>kZ b (fun eq=>h3 o ho eq.symm),fun q h3 h4=> ?_,fun t b c z h e=> .inl ⟨h,c,z,e⟩,fun _ _ h=>(h rfl).elim,by simp,rfl,rfl,rfl⟩
  simp at h4;omega
theorem rB (l:List UInt8):IsKey .string (.string ⟨⟨l⟩⟩):=by simp [IsKey]
theorem Kb (r:Rel M s w) {t kt e:TypeId} (ht:P.underlying t=some (.map kt e)):dq P M s w (do pure (.value (← Instr.makeMap t none))) (.fZ s.az.length) {s with az:=s.az++ [[]]}:=by
 obtain⟨r',e'⟩:=r.Nj [] (.map #[] 0) #[] 0 .map ⟨#[],0,rfl,rfl⟩ (fun _ h=>by cases h) rfl (by simp) (by simp)
 have hm:(M.dM s.az.length w.heap.size .map).mu s.az.length=w.heap.size:=by simp [Map.dM,Map.mu]
 have hv:=RD.fZ (M:=M.dM s.az.length w.heap.size .map) (s:= {s with az:=s.az++ [[]]}) s.az.length (by simp) (by simp [Map.dM,Map.ob])
 rw [hm]at hv
 refine⟨_,_,_, .inl ?_,r',hv,e'⟩
 simp only [Instr.makeMap,newObj,Sem.run_bind,Sem.run_pure,Sem.run,Result.andThen_ok]
 rfl
theorem Kc (r:Rel M s w) {t kt e:TypeId} {i:TypeInfo} {z:Value} {zd:D} (ht:P.underlying t=some (.map kt e)) (hk:P.underlying kt=some .string) (hi:P.info? e=some i) (hz:i.zero=some z) (Yi:qF z=some zd)
 {o:Nat} {key:List UInt8} {cs:List D} {d:D} (vN:M.ob o = .map) (ho:s.az[o]? = some cs) (hg:wP key zd cs=some d) :
 dq P M s w (do pure (.value (← Instr.lookup t (.map (some (M.mu o))) (.string ⟨⟨key⟩⟩) false))) d s:=by
 obtain⟨vs,T,hh,hs,⟨jO,Ud⟩,oG⟩:=r.obj o cs ho
 rw [vN]at hh
 obtain⟨es,ck,hh,rA⟩:=hh
 have Av : ∀ (i:Nat) (d:D) (v:Value),cs[i]? = some d→(gA es.toList)[i]? = some v→RD M s d v:=fun i d v e1 e2=>oG i d v e1 (by rw [← rA]at e2;simpa using e2)
 have hzv:(zeroValue e).run P w = .ok z w:=by simp [zeroValue,gF P hi,hz]
 rcases(find_spec es.toList cs 0 (by rw [← rA];simpa using hs) Av).1 zd d hg with ⟨h1,rfl⟩ | ⟨j,en,h1,h2⟩
 ·refine dq.pure (v:=z) r ?_ (oY Yi).1
  simp [Instr.lookup,run_underlying ht,MapKept.run_getObj_map hh,run_checkKey hk (rB key),run_findKey hk h1,hzv]
 ·refine dq.pure (v:=en.val) r ?_ h2
  simp [Instr.lookup,run_underlying ht,MapKept.run_getObj_map hh,run_checkKey hk (rB key),run_findKey hk h1]
theorem Nz (r:Rel M s w) {t kt e:TypeId} (ht:P.underlying t=some (.map kt e)) (hk:P.underlying kt=some .string)
 {o:Nat} {key:List UInt8} {cs oo:List D} {d:D} {v:Value} (vN:M.ob o = .map) (ho:s.az[o]? = some cs) (hv:RD M s d v) (Bp:v.oneCell'=true) (hg:vd key d cs=some oo) :
 dq P M s w (do Instr.mapUpdate t (.map (some (M.mu o))) (.string ⟨⟨key⟩⟩) v;pure .skip) (.tuple []) {s with az:=s.az.set o oo}:=by
 obtain⟨vs,T,hh,hs,⟨jO,Ud⟩,oG⟩:=r.obj o cs ho
 rw [vN]at hh
 obtain⟨es,ck,hh,rA⟩:=hh
 have Av : ∀ (i:Nat) (d:D) (v:Value),cs[i]? = some d→(gA es.toList)[i]? = some v→RD M s d v:=fun i d v e1 e2=>oG i d v e1 (by rw [← rA]at e2;simpa using e2)
 have hl:(gA es.toList).length=cs.length:=by rw [← rA];simpa using hs
 have Un : ∀ v∈gA es.toList,v.oneCell'=true:=fun v hv=>jO v (by rw [← rA]at hv;simpa using hv)
 rcases(find_spec es.toList cs 0 hl Av).2 d oo hg with ⟨h1,rfl⟩ | ⟨j,en,h1,h2,h3,rfl⟩
 ·obtain⟨r',e'⟩:=r.Yh (oo:=cs++ [.str key,d]) ho vN (es.push {key:= .string ⟨⟨key⟩⟩,val:=v,born:=ck}) (ck+1) (by simp [uu,gA,hl]) (fun u hu=>by
   simp only [Array.toList_push,uu,gA,List.mem_append,List.mem_cons,List.not_mem_nil,or_false]at hu
   rcases hu with hu | rfl | rfl
   ·exact Un u hu
   ·rfl
   ·exact Bp) (fun i d' u e1 e2=>by
   simp only [Array.toList_push,uu,gA]at e2
   rcases Nat.lt_or_ge i cs.length with hi | hi
   ·rw [List.getElem?_append_left hi]at e1
    rw [List.getElem?_append_left (by omega)]at e2
    exact Av i d' u e1 e2
   ·rw [List.getElem?_append_right hi]at e1
    rw [List.getElem?_append_right (by omega),hl]at e2
    match i - cs.length,e1,e2 with
    | 0,e1,e2=>simp at e1 e2;subst e1 e2;exact .str _
    | 1,e1,e2=>simp at e1 e2;subst e1 e2;exact hv
    | k+2,e1,e2=>simp at e1)
  refine⟨Go.undef,_,M, .inr ⟨?_,rfl⟩,r', .undef,e'⟩
  simp [Instr.mapUpdate,run_underlying ht,MapKept.run_getObj_map hh,run_checkKey hk (rB key),run_findKey hk h1,MapKept.run_setObj_map _ hh]
 ·simp only [Nat.zero_add]at h1
  have hj:es[j]? = some en:=by simpa using h2
  have Q3:(es.modify j fun e=> {e with key:= .string ⟨⟨key⟩⟩,val:=v}).toList=es.toList.set j {en with key:= .string ⟨⟨key⟩⟩,val:=v}:=by
   apply List.ext_getElem?
   intro i
   rw [Array.getElem?_toList,Array.getElem?_modify,List.getElem?_set]
   by_cases Uo:j=i
   ·subst Uo
    have:j<es.size:=by have:=(List.getElem?_eq_some_iff.1 h2).1;simpa using this
    simp [hj,this]
    have:=(Array.getElem?_eq_some_iff.1 hj).2
    rw [this]
   ·simp [Uo]
  have qC:=DH es.toList j en (.string ⟨⟨key⟩⟩) v h2 h3
  obtain⟨r',e'⟩:=r.Yh (oo:=cs.set (2*j+1) d) ho vN (es.modify j fun e=> {e with key:= .string ⟨⟨key⟩⟩,val:=v}) ck (by rw [Q3,qC];simp [hl]) (fun u hu=>by
   rw [Q3,qC]at hu
   rcases List.mem_or_eq_of_mem_set hu with hu | rfl
   ·exact Un u hu
   ·exact Bp) (fun i d' u e1 e2=>by
   rw [Q3,qC,List.getElem?_set]at e2
   rw [List.getElem?_set]at e1
   by_cases hi:2*j+1=i
   ·rw [if_pos hi]at e1 e2
    split at e1
    ·split at e2
     ·cases e1;cases e2;exact hv
     ·cases e2
    ·cases e1
   ·rw [if_neg hi]at e1 e2
    exact Av i d' u e1 e2)
  refine⟨Go.undef,_,M, .inr ⟨?_,rfl⟩,r', .undef,e'⟩
  simp [Instr.mapUpdate,run_underlying ht,MapKept.run_getObj_map hh,run_checkKey hk (rB key),run_findKey hk h1,hj,h3,run_keyThatStays (rB key),MapKept.run_setObj_map _ hh]
end
end Go.Abs

/-! Sound8 -/

namespace Go.Abs
section
variable {P:Program} {M:Map} {s:St} {w:World}
theorem IZ {tm:Tm} {act:Act} (hr:k5 M s tm act.tmps) : ∀ {l:List Operand} {xs:List X},vM l=some xs→
 xs.length=l.length∧∀ (i:Nat) (d:D) (v:Value),(xs.map (·.ev tm))[i]? = some d→(l.map act.eval)[i]? = some v→RD M s d v
 | [],xs,h=>by cases h;exact⟨rfl,by simp⟩
 | x::l,xs,h=>by
  unfold vM at h
  split at h
  ·rename_i x' r' h1 h2
   cases h
   obtain⟨g1,g2⟩:=IZ hr h2
   refine⟨by simp [g1],fun i d v e1 e2=> ?_⟩
   cases i with
   | zero=>simp at e1 e2;subst e1;subst e2;exact cj h1 hr
   | succ i=>exact g2 i d v (by simpa using e1) (by simpa using e2)
  ·cases h
theorem NA {lo:Option Operand} {DI:Option X} {tm:Tm} {act:Act} (hr:k5 M s tm act.tmps) (h:T9 lo=some DI) {l:Int} (hl:yh (DI.map (·.ev tm))=some l):Ug (lo.map act.eval) l:=by
 cases lo with
 | none=>cases h;simp only [Option.map_none,yh,Option.some.injEq]at hl;exact .inl ⟨rfl,hl.symm⟩
 | some x=>
  obtain⟨y,hy,rfl⟩:=map_some (f:=some) h
  have:=cj hy hr
  simp only [Option.map_some]at hl ⊢
  cases hd:y.ev tm <;> rw [hd]at hl this <;> simp only [yh]at hl <;> try (cases hl;done)
  cases hl
  rw [this.iS]
  exact .inr ⟨_,rfl⟩
theorem NB {hi:Option Operand} {gD:Option X} {tm:Tm} {act:Act} (hr:k5 M s tm act.tmps) (h:T9 hi=some gD) {len:Nat} {l:Int} (hl:yi (gD.map (·.ev tm)) len=some l):Uh (hi.map act.eval) len l:=by
 cases hi with
 | none=>cases h;simp only [Option.map_none,yi,Option.some.injEq]at hl;exact .inl ⟨rfl,hl.symm⟩
 | some x=>
  obtain⟨y,hy,rfl⟩:=map_some (f:=some) h
  have:=cj hy hr
  simp only [Option.map_some]at hl ⊢
  cases hd:y.ev tm <;> rw [hd]at hl this <;> simp only [yi]at hl <;> try (cases hl;done)
  cases hl
  rw [this.iS]
  exact .inr ⟨_,rfl⟩
theorem Ke {t:TypeId} {f off size:Nat} {agg:Bool} (h:ln P t f=some (off,size,agg)) {cs:List D} {vs:Array Value} (hl:cs.length=vs.size) (h1 : ∀ v∈vs,v.oneCell'=true)
 (h2 : ∀ (i:Nat) (d:D) (v:Value),cs[i]? = some d→vs[i]? = some v→RD M s d v) {d:D} (hp:part cs off agg size=some d) (r:Rel M s w) :
 dq P M s w (do pure (.value (← Instr.field t (.agg vs) f))) d s:=by
 let n:=if agg then size else 1
 have kq:off+n≤vs.size:=by
  rcases rr hp with ⟨rfl,h1,_⟩ | ⟨rfl,h1⟩
  ·simp [n];omega
  ·have:=(List.getElem?_eq_some_iff.1 h1).1;simp [n];omega
 have hlen:((vs.toList.drop off).take n).length=n:=by simp;omega
 have hE : ∀ (j:Nat),j<((vs.toList.drop off).take n).length→vs[off+j]? = ((vs.toList.drop off).take n)[j]? :=by
  intro j h
  rw [hlen]at h
  rw [List.getElem?_take,if_pos h,List.getElem?_drop];simp
 refine dq.pure (v:=if agg then .agg ((vs.toList.drop off).take n).toArray else((vs.toList.drop off).take n).getD 0 Go.undef) r (by simp only [Sem.run_bind,No h vs _ hlen hE,Result.andThen_ok,Sem.run_pure]) ?_
 refine sF hp _ hlen (fun _ u hu=>h1 u (Array.mem_toList_iff.1 (List.mem_of_mem_drop (List.mem_of_mem_take hu)))) (fun j d u e1 e2=>h2 _ d u e1 ?_)
 rw [hE j (List.getElem?_eq_some_iff.1 e2).1];exact e2
theorem qX {o:Oper} {ao:AO} {tm:Tm} {act:Act} {d:D} {s':St} (hc:Bc P o=some ao) (r:Rel M s w) (hr:k5 M s tm act.tmps) (he:aW ao tm s=some (d,s')) :
 dq P M s w (execOp act.eval o) d s':=by
 obtain⟨dst,op,type,pos,after,guard⟩:=o
 unfold Bc at hc
 simp only at hc
 cases op with
 | move x=>
  obtain⟨y,hy,rfl⟩:=map_some hc
  cases he
  exact dq.pure r rfl (cj hy hr)
 | assign x=>
  obtain⟨y,hy,rfl⟩:=map_some hc
  cases he
  exact dq.pure r rfl (cj hy hr)
 | pick c a b=>
  simp only at hc
  split at hc
  ·rename_i c' a' b' h1 h2 h3
   cases hc
   simp only [aW]at he
   split at he
   ·rename_i t ht
    cases he
    have hcb:=cj h1 hr
    rw [ht]at hcb
    have:=hcb.mA
    refine dq.pure (v:=if t then act.eval a else act.eval b) r ?_ ?_
    ·simp only [execOp,this,asBool]
     simp
    ·cases t
     ·exact cj h3 hr
     ·exact cj h2 hr
   ·cases he
  ·cases hc
 | alloc t=>
  simp only at hc
  split at hc
  ·obtain⟨z,hz,rfl⟩:=map_some hc
   simp only [aW]at he
   split at he
   ·cases he;exact HU r hz
   ·cases he
  ·obtain⟨z,hz,rfl⟩:=map_some hc
   cases he
   exact JV r hz
 | box t x=>
  simp only at hc
  split at hc
  ·obtain⟨y,hy,rfl⟩:=map_some hc
   simp only [aW]at he
   split at he
   ·rename_i row dZ
    cases he
    exact Nn r (cj hy hr) dZ
   ·cases he
  ·obtain⟨y,hy,rfl⟩:=map_some hc
   simp only [aW]at he
   split at he
   ·rename_i row dZ
    cases he
    exact QT r (cj hy hr) dZ
   ·cases he
 | build t parts=>
  simp only at hc
  split at hc
  ·rename_i fs z ps h1 h2 h3
   split at hc
   ·rename_i FK
    cases hc
    simp only [aW]at he
    split at he
    ·rename_i cs pT
     cases he
     have:=J8 r hr h1 FK h2 h3 pT
     simpa [execOp]using this
    ·cases he
   ·cases hc
  ·cases hc
 | buildSlice t n parts=>
  simp only at hc
  split at hc
  ·rename_i e hu
   split at hc
   ·rename_i i z ps h1 h2 h3
    split at hc
    ·rename_i lq
     cases hc
     simp only [aW]at he
     split at he
     ·rename_i rows kG
      cases he
      obtain⟨vs,T,g1,g2,g3,g4⟩:=zS r hr hu h1 h2 lq.1 lq.2 h3 kG
      obtain⟨f1,f2,f3⟩:=J3 r T g1
      refine⟨_,_,_, .inl ?_,f2,f1,f3⟩
      simp only [Array.toArray_toList]at g4
      simp only [execOp,Sem.run_bind,g4,Result.andThen_ok,Sem.run_pure]
      rw [g2]
     ·cases he
    ·cases hc
   ·cases hc
  ·cases hc
 | load t x=>
  simp only at hc
  split at hc
  ·rename_i y a i h1 h2 h3
   cases hc
   have hx:=cj h1 hr
   simp only [aW]at he
   split at he
   ·rename_i o off ho
    rw [ho]at hx
    have FM:=hx.yl
    obtain⟨hv,_⟩:=hx.qH
    split at he
    ·rename_i cs pT
     split at he
     ·rename_i d' px
      cases he
      have:=EH r h3 h2 pT FM px
      simp only [execOp,hv]
      exact this
     ·cases he
    ·cases he
   ·rename_i row off ho
    rw [ho]at hx
    obtain⟨b,k,hv,g1,g2⟩:=hx.wS
    split at he
    ·rename_i d' px
     cases he
     have:=EI r h3 h2 g1 g2 px
     simp only [execOp,hv]
     exact this
    ·cases he
   ·cases he
  ·cases hc
 | store t a x=>
  simp only at hc
  split at hc
  ·rename_i a' x' i h1 h2 h3
   cases hc
   have ha:=cj h1 hr
   have hx:=cj h2 hr
   simp only [aW]at he
   split at he
   ·rename_i o off row ho dZ
    rw [ho]at ha
    have FM:=ha.yl
    obtain⟨hv,_⟩:=ha.qH
    split at he
    ·rename_i cs pT
     split at he
     ·rename_i kq
      cases he
      have:=JW r h3 pT FM hx dZ kq.1 kq.2
      simp only [execOp,hv]
      exact this
     ·cases he
    ·cases he
   ·cases he
  ·cases hc
 | nilCheck x=>
  obtain⟨y,hy,rfl⟩:=map_some hc
  have hx:=cj hy hr
  simp only [aW]at he
  split at he
  ·rename_i o off ho
   cases he
   rw [ho]at hx
   have hv:=hx.qH.1
   rw [hv]at hx
   simp only [execOp,hv]
   exact Be r hx
  ·rename_i row off ho
   cases he
   rw [ho]at hx
   obtain⟨b,k,hv,_⟩:=hx.wS
   rw [hv]at hx
   simp only [execOp,hv]
   exact Be r hx
  ·cases he
 | binOp op t x y yt=>
  simp only at hc
  split at hc
  ·rename_i x' y' h1 h2
   have hx:=cj h1 hr
   have hy:=cj h2 hr
   have fin : ∀ d',vb op (x'.ev tm) (y'.ev tm)=some d'→(d',s)=(d,s')→dq P M s w (execOp act.eval ⟨dst, .binOp op t x y yt,type,pos,after,guard⟩) d s':=by
    intro d' px heq
    cases heq
    exact QU r hx hy px
   have Yj:(match vb op (x'.ev tm) (y'.ev tm)with | some d=>some (d,s) | none=>none)=some (d,s')→dq P M s w (execOp act.eval ⟨dst, .binOp op t x y yt,type,pos,after,guard⟩) d s':=by
    intro h
    split at h
    ·rename_i d' px
     exact fin d' px (by cases h;rfl)
    ·cases h
   have Yk : ∀ neg,op=(if neg then .neq else .eql)→P.underlying t=some .bool→aW (.xH neg x' y') tm s=some (d,s')→dq P M s w (execOp act.eval ⟨dst, .binOp op t x y yt,type,pos,after,guard⟩) d s':=by
    intro neg kO ht h
    simp only [aW]at h
    split at h
    ·rename_i p q hp hq
     cases h
     rw [hp]at hx;rw [hq]at hy
     simp only [execOp,hx.mA,hy.mA,kO]
     exact QV r ht
    ·cases h
   have Yl : ∀ neg e,op=(if neg then .neq else .eql)→P.underlying t=some (.pointer e)→aW (.DA neg x' y') tm s=some (d,s')→dq P M s w (execOp act.eval ⟨dst, .binOp op t x y yt,type,pos,after,guard⟩) d s':=by
    intro neg e kO ht h
    simp only [aW]at h
    split at h
    ·rename_i hp hq
     cases h
     rw [hp]at hx;rw [hq]at hy
     simp only [execOp,hx.qG,hy.qG,kO]
     have:=Aq r (neg:=neg) (x:=x) (y:=y) (a:=none) ht
     cases neg <;> simpa using this
    ·rename_i o off hp hq
     cases h
     rw [hp]at hx;rw [hq]at hy
     simp only [execOp,hx.qH.1,hy.qG,kO]
     have:=Aq r (neg:=neg) (x:=x) (y:=y) (a:=some ⟨M.mu o,off,none⟩) ht
     cases neg <;> simpa using this
    ·rename_i row off hp hq
     cases h
     rw [hp]at hx;rw [hq]at hy
     obtain⟨b,k,hv,_⟩:=hx.wS
     simp only [execOp,hv,hy.qG,kO]
     have:=Aq r (neg:=neg) (x:=x) (y:=y) (a:=some ⟨b,k+off,none⟩) ht
     cases neg <;> simpa using this
    ·cases h
   have Ym : ∀ neg ks,op=(if neg then .neq else .eql)→oF P t=some ks→aW (.eqs neg ks x' y') tm s=some (d,s')→dq P M s w (execOp act.eval ⟨dst, .binOp op t x y yt,type,pos,after,guard⟩) d s':=by
    intro neg ks kO ht h
    simp only [aW]at h
    split at h
    ·rename_i p q hp hq
     split at h
     ·rename_i e' he'
      cases h
      rw [hp]at hx;rw [hq]at hy
      simp only [execOp,kO]
      exact QX r ht hx hy he'
     ·cases h
    ·cases h
   split at hc
   ·cases hc;exact Yj he
   ·cases hc;exact Yj he
   ·rename_i hu;cases hc;exact Yk false rfl hu he
   ·rename_i hu;cases hc;exact Yk true rfl hu he
   ·rename_i hu;cases hc;exact Yl false _ rfl hu he
   ·rename_i hu;cases hc;exact Yl true _ rfl hu he
   ·obtain⟨ks,hk,rfl⟩:=map_some hc;exact Ym false ks rfl hk he
   ·obtain⟨ks,hk,rfl⟩:=map_some hc;exact Ym true ks rfl hk he
   ·cases hc
  ·cases hc
 | unOp op t x=>
  obtain⟨y,hy,rfl⟩:=map_some hc
  have hx:=cj hy hr
  simp only [aW]at he
  split at he
  ·rename_i d' px
   cases he
   unfold Fz at px
   split at px
   ·rename_i k n hk
    cases px
    rw [hk]at hx
    exact dq.pure (v:= .int k (k.wrap (0 - n))) r (by simp [execOp,hx.iS,Op.unary,Op.intArith]) (.int _ _)
   ·rename_i b hb
    cases px
    rw [hb]at hx
    exact dq.pure (v:= .bool (!b)) r (by simp [execOp,hx.mA,Op.unary]) (.bool _)
   ·cases px
  ·cases he
 | convert src aub x=>
  simp only at hc
  split at hc
  ·rename_i y k1 k h1 h2 h3
   cases hc
   have hx:=cj h1 hr
   simp only [aW]at he
   split at he
   ·rename_i k2 n hn
    cases he
    rw [hn]at hx
    refine dq.pure (v:= .int k (k.wrap n)) r ?_ (.int _ _)
    simp [execOp,hx.iS,convert,run_underlying h2,run_underlying h3,Conv.intToInt]
   ·cases he
  ·rename_i y e h1 h2 h3
   split at hc
   ·rename_i h4
    cases hc
    have hx:=cj h1 hr
    simp only [aW]at he
    split at he
    ·rename_i g z rows kG
     split at he
     ·rename_i b hb
      cases he
      rw [kG]at hx
      exact J9 r h2 h4 h3 hx hb
     ·cases he
    ·cases he
   ·cases hc
  ·rename_i y e e2 h1 h2 h3
   split at hc
   ·rename_i h4
    split at hc
    ·rename_i Uq
     cases hc
     subst Uq
     have hx:=cj h1 hr
     simp only [aW]at he
     split at he
     ·rename_i t z rows kG
      split at he
      ·rename_i lq
       cases he
       rw [kG]at hx
       exact Q1 r h2 h4 hx lq.1 lq.2
      ·cases he
     ·cases he
    ·cases hc
   ·cases hc
  ·rename_i y e h1 h2 h3
   split at hc
   ·rename_i i h4 h5
    split at hc
    ·cases hc
     have hx:=cj h1 hr
     simp only [aW]at he
     split at he
     ·rename_i l hl
      cases he
      rw [hl]at hx
      simp only [execOp,hx.kh]
      exact FL r h2 h3 h4
     ·cases he
    ·cases hc
   ·cases hc
  ·cases hc
 | slice t x lo hi mx=>
  cases mx with
  | some m=>cases hc
  | none=>
   simp only at hc
   split at hc
   ·rename_i y DI gD h1 h2 h3 h4
    cases hc
    have hx:=cj h1 hr
    simp only [aW]at he
    split at he
    ·rename_i u hu
     rw [hu]at hx
     split at he
     ·rename_i l h hl hh
      split at he
      ·rename_i lq
       cases he
       have:=Nr r h4 (NA hr h2 hl) (NB hr h3 hh) lq.1 lq.2.1 lq.2.2
       simp only [execOp,hx.kh,Option.map_none]
       exact this
      ·cases he
     ·cases he
    ·cases he
   ·rename_i y DI gD e h1 h2 h3 h4
    split at hc
    ·rename_i i Ns
     cases hc
     have hx:=cj h1 hr
     simp only [aW]at he
     split at he
     ·rename_i g z rows kG
      rw [kG]at hx
      split at he
      ·rename_i l h hl hh
       split at he
       ·rename_i lq
        cases he
        have:=QZ r h4 Ns lq.1 hx (NA hr h2 hl) (NB hr h3 hh) lq.2.1 lq.2.2.1 lq.2.2.2
        simp only [execOp,Option.map_none]
        exact this
       ·cases he
      ·cases he
     ·cases he
    ·cases hc
   ·cases hc
 | fieldAddr t x f=>
  simp only at hc
  split at hc
  ·rename_i y off size a h1 h2
   cases hc
   have hx:=cj h1 hr
   simp only [aW]at he
   split at he
   ·rename_i o k ho
    cases he
    rw [ho]at hx
    have FM:=hx.yl
    obtain⟨hv,hC⟩:=hx.qH
    refine dq.pure (v:= .pointer (some ⟨M.mu o,k+off,none⟩)) r ?_ (.ptr _ _ hC FM)
    simp only [execOp,hv,Sem.run_bind,DD h2,Result.andThen_ok,Sem.run_pure]
   ·rename_i row k ho
    cases he
    rw [ho]at hx
    obtain⟨b,q,hv,g1,g2⟩:=hx.wS
    refine dq.pure (v:= .pointer (some ⟨b,q+(k+off),none⟩)) r ?_ (.dD _ _ _ _ g1 g2)
    simp only [execOp,hv,Sem.run_bind,DD h2,Result.andThen_ok,Sem.run_pure,Nat.add_assoc]
   ·cases he
  ·cases hc
 | field t x f=>
  simp only at hc
  split at hc
  ·rename_i y off size a h1 h2
   cases hc
   have hx:=cj h1 hr
   simp only [aW]at he
   split at he
   ·rename_i cs pT
    split at he
    ·rename_i d' px
     cases he
     rw [pT]at hx
     obtain⟨vs,hv,g1,g2,g3⟩:=hx.CC
     simp only [execOp,hv]
     exact Ke h2 g1 g2 g3 px r
    ·cases he
   ·cases he
  ·cases hc
 | indexAddr t x i=>
  simp only at hc
  split at hc
  ·rename_i y j e h1 h2 h3
   split at hc
   ·rename_i inf Q4
    split at hc
    ·cases hc
     have hx:=cj h1 hr
     have hj:=cj h2 hr
     simp only [aW]at he
     split at he
     ·rename_i g z rows k n kG hn
      split at he
      ·rename_i lq
       obtain⟨Bq,hz⟩:=lq
       subst hz
       split at he
       ·rename_i row dZ
        cases he
        rw [kG]at hx;rw [hn]at hj
        simp only [execOp,hj.iS]
        exact J2 r h3 Q4 hx Bq dZ
       ·cases he
      ·cases he
     ·cases he
    ·cases hc
   ·cases hc
  ·cases hc
 | index t x i=>
  simp only at hc
  split at hc
  ·rename_i y j h1 h2 h3
   cases hc
   have hx:=cj h1 hr
   have hj:=cj h2 hr
   simp only [aW]at he
   split at he
   ·rename_i l k n hl hn
    split at he
    ·rename_i Bq
     split at he
     ·rename_i c Br
      cases he
      rw [hl]at hx;rw [hn]at hj
      simp only [execOp,hj.iS,hx.kh]
      exact Nq r h3 Bq Br
     ·cases he
    ·cases he
   ·cases he
  ·cases hc
 | extract x i=>
  obtain⟨y,hy,rfl⟩:=map_some hc
  have hx:=cj hy hr
  simp only [aW]at he
  split at he
  ·rename_i ds Bs
   split at he
   ·rename_i d' px
    cases he
    rw [Bs]at hx
    obtain⟨vs,hv,g1,g2⟩:=hx.DC
    have hC:=(List.getElem?_eq_some_iff.1 px).1
    have FN:vs[i]? = some vs[i]:=Array.getElem?_eq_getElem (by omega)
    refine dq.pure (v:=vs[i]) r ?_ (g2 i _ _ px FN)
    simp [execOp,hv,Instr.extract,FN]
   ·cases he
  ·cases he
 | call c=>
  obtain⟨callee,args,mP⟩:=c
  cases callee with
  | value f=>cases hc
  | invoke f m=>cases hc
  | builtin bi=>
   have two : ∀ {x y:Operand} {x' y':X} {isMax:Bool},cX x=some x'→cX y=some y'→bi=(if isMax then .max else .min)→args.toList = [x,y]→aW (.mm isMax x' y') tm s=some (d,s')→
    dq P M s w (execOp act.eval ⟨dst, .call ⟨.builtin bi,args,mP⟩,type,pos,after,guard⟩) d s':=by
    intro x y x' y' isMax h1 h2 hb ha h
    have jy:args = #[x,y]:=by rw [← Array.toArray_toList (xs:=args),ha]
    subst jy
    have hx:=cj h1 hr
    have hy:=cj h2 hr
    simp only [aW]at h
    split at h
    ·rename_i k a k' b DJ FM
     split at h
     ·rename_i xJ
      subst xJ
      cases h
      rw [DJ]at hx;rw [FM]at hy
      refine dq.pure (v:= .int k (if isMax then(if b > a then b else a)else(if b<a then b else a))) r ?_ (.int _ _)
      subst hb
      cases isMax
      ·simp [execOp,resolve,invoke,builtin,Builtin.min_,Builtin.min2,hx.iS,hy.iS]
      ·simp [execOp,resolve,invoke,builtin,Builtin.max_,Builtin.max2,hx.iS,hy.iS]
     ·cases h
    ·cases h
   cases bi <;> simp only at hc <;> try (cases hc;done)
   case append=>
    split at hc
    ·rename_i x y t u ha sn
     split at hc
     ·rename_i e e' x' y' h1 h2 h3 h4
      split at hc
      ·rename_i i z hi hz
       split at hc
       ·rename_i vf
        cases hc
        have jy:args = #[x,y]:=by rw [← Array.toArray_toList (xs:=args),ha]
        have FO:mP = #[t,u]:=by rw [← Array.toArray_toList (xs:=mP),sn]
        subst jy;subst FO
        obtain⟨i',v,g1,g2,g3,g4⟩:=vg hz
        rw [hi]at g1;cases g1
        have Ur:=s9 (M:=M) (s:=s) g4
        split at he
        ·rename_i hb
         obtain⟨rfl,FP,Us⟩:=hb
         obtain⟨v',w',M',f1,f2,f3,f4⟩:=J5 (ty:=type) r h1 h2 hi g2 FP Us g3 Ur.2.1 (cj h3 hr) (cj h4 hr) he
         refine⟨v',w',M', .inl ?_,f2,f3,f4⟩
         simp [execOp,resolve,invoke,builtin,f1]
        ·obtain⟨v',w',M',f1,f2,f3,f4⟩:=Nx (ty:=type) r h1 h2 hi g2 g3 Ur.2.1 (cj h3 hr) (cj h4 hr) vf he
         refine⟨v',w',M', .inl ?_,f2,f3,f4⟩
         simp [execOp,resolve,invoke,builtin,f1]
       ·cases hc
      ·cases hc
     ·rename_i e x' y' h1 h2 h3 h4
      split at hc
      ·rename_i i z hi hz
       split at hc
       ·rename_i hb
        cases hc
        obtain⟨rfl,FP,Us⟩:=hb
        have jy:args = #[x,y]:=by rw [← Array.toArray_toList (xs:=args),ha]
        have FO:mP = #[t,u]:=by rw [← Array.toArray_toList (xs:=mP),sn]
        subst jy;subst FO
        obtain⟨i',v,g1,g2,g3,g4⟩:=vg hz
        rw [hi]at g1;cases g1
        have Ur:=s9 (M:=M) (s:=s) g4
        have hy:=cj h4 hr
        simp only [aW]at he
        split at he
        ·rename_i l hl
         rw [hl]at hy
         obtain⟨v',w',M',f1,f2,f3,f4⟩:=J6 (ty:=type) r h1 h2 hi g2 FP Us g3 Ur.2.1 (cj h3 hr) he
         refine⟨v',w',M', .inl ?_,f2,f3,f4⟩
         simp [execOp,resolve,invoke,builtin,hy.kh,f1]
        ·cases he
       ·cases hc
      ·cases hc
     ·cases hc
    ·cases hc
   case len=>
    split at hc
    ·rename_i x t ha sn
     have jy:args = #[x]:=by rw [← Array.toArray_toList (xs:=args),ha]
     have FO:mP = #[t]:=by rw [← Array.toArray_toList (xs:=mP),sn]
     subst jy;subst FO
     have hex:execOp act.eval ⟨dst, .call ⟨.builtin .len, #[x], #[t]⟩,type,pos,after,guard⟩=(do pure (.value (← Builtin.len_ #[t] type #[act.eval x]))):=by
      simp [execOp,resolve,invoke,builtin]
     rw [hex]
     split at hc
     ·rename_i ht
      obtain⟨y,hy,rfl⟩:=map_some hc
      have hx:=cj hy hr
      simp only [aW]at he
      split at he
      ·rename_i l hl
       cases he
       rw [hl]at hx
       rw [hx.kh]
       exact FE r ht
      ·cases he
     ·rename_i e ht
      obtain⟨y,hy,rfl⟩:=map_some hc
      have hx:=cj hy hr
      simp only [aW]at he
      split at he
      ·rename_i g z rows kG
       cases he
       rw [kG]at hx
       rcases hx.ic with ⟨h0,hv,_⟩ | ⟨h0,_,a,cap,hv⟩ | ⟨b,q,cap,hv,_⟩
       ·rw [hv,h0];exact qJ r ht
       ·rw [hv,h0];exact qJ r ht
       ·rw [hv];exact qJ r ht
      ·cases he
     ·cases hc
    ·cases hc
   case max=>
    split at hc
    ·rename_i x y ha
     split at hc
     ·rename_i x' y' h1 h2
      cases hc
      exact two (isMax:=true) h1 h2 rfl ha he
     ·cases hc
    ·cases hc
   case min=>
    split at hc
    ·rename_i x y ha
     split at hc
     ·rename_i x' y' h1 h2
      cases hc
      exact two (isMax:=false) h1 h2 rfl ha he
     ·cases hc
    ·cases hc
 | makeFunc fn first captured=>
  cases fn <;> simp only at hc <;> try (cases hc;done)
  split at hc
  ·rename_i f h0
   obtain⟨xs,nq,rfl⟩:=map_some hc
   simp only [aW,Option.some.injEq,Prod.mk.injEq]at he
   obtain⟨rfl,rfl⟩:=he
   obtain⟨c1,c2⟩:=IZ hr nq
   have hf:first = #[]:=Array.eq_empty_of_size_eq_zero h0
   subst hf
   refine dq.pure (v:= .func (.func f) #[] (captured.map act.eval)) r ?_ (.ga _ _ _ (by simp [c1]) (fun i d v e1 e2=>c2 i d v e1 (by simpa using e2)))
   simp [execOp,Instr.makeFunc]
  ·cases hc
 | makeMap t rv=>
  cases rv with
  | none=>
   simp only at hc
   split at hc
   ·rename_i ht
    cases hc
    simp only [aW,Option.some.injEq,Prod.mk.injEq]at he
    obtain⟨rfl,rfl⟩:=he
    simp only [execOp,Option.map_none]
    exact Kb r ht
   ·cases hc
  | some x=>cases hc
 | mapUpdate t m k v=>
  simp only at hc
  split at hc
  ·rename_i kt et m' k' v' ht h1 h2 h3
   split at hc
   ·rename_i Yn
    cases hc
    have hm:=cj h1 hr
    have hk:=cj h2 hr
    have hv:=cj h3 hr
    simp only [aW]at he
    split at he
    ·rename_i o key g z rows ho Q5 kG
     rw [ho]at hm;rw [Q5]at hk;rw [kG]at hv
     obtain⟨Yo,hC,vN⟩:=hm.FD
     split at he
     ·rename_i cs pT
      split at he
      ·rename_i oo afr
       cases he
       have Bp:(act.eval v).oneCell'=true:=by
        rcases hv.ic with ⟨_,h,_⟩ | ⟨_,_,a,cap,h⟩ | ⟨b,q,cap,h,_⟩ <;> rw [h] <;> rfl
       simp only [execOp,Yo,hk.kh]
       exact Nz r ht Yn vN pT hv Bp afr
      ·cases he
     ·cases he
    ·cases he
   ·cases hc
  ·cases hc
 | lookup t m k ok=>
  cases ok <;> simp only at hc <;> try (cases hc;done)
  split at hc
  ·rename_i kt et m' k' ht h1 h2
   split at hc
   ·rename_i i Yn hi
    split at hc
    ·rename_i z hz
     obtain⟨zd,Yi,rfl⟩:=map_some hc
     have hm:=cj h1 hr
     have hk:=cj h2 hr
     simp only [aW]at he
     split at he
     ·rename_i o key ho Q5
      rw [ho]at hm;rw [Q5]at hk
      obtain⟨Yo,hC,vN⟩:=hm.FD
      split at he
      ·rename_i cs pT
       split at he
       ·rename_i d' px
        cases he
        simp only [execOp,Yo,hk.kh]
        exact Kc r ht Yn hi hz Yi vN pT px
       ·cases he
      ·cases he
     ·cases he
    ·cases hc
   ·cases hc
  ·cases hc
 | _=>cases hc
theorem wU {o:Oper} {z:List D} {k n:Nat} {ps:List (Nat×X)} {tm:Tm} {act:Act} {d:D} {s':St} (hc:Bc P o=some (.cT z k n ps)) (r:Rel M s w) (hr:k5 M s tm act.tmps) (he:aW (.s5 z k n ps) tm s=some (d,s')) :
 dq P M s w (execOp act.eval o) d s':=by
 obtain⟨dst,op,type,pos,after,guard⟩:=o
 unfold Bc at hc
 simp only at hc
 cases op with
 | buildSlice t n' parts=>
  simp only at hc
  split at hc
  ·rename_i e hu
   split at hc
   ·rename_i i z ps h1 h2 h3
    split at hc
    ·rename_i lq
     cases hc
     simp only [aW]at he
     split at he
     ·rename_i rows kG
      cases he
      obtain⟨vs,T,g1,g2,g3,g4⟩:=zS r hr hu h1 h2 lq.1 lq.2 h3 kG
      obtain⟨M',f1,f2,f3⟩:=Ny r T g1 (by rw [g3,g2]) lq.1
      refine⟨_,_,_, .inl ?_,f2,f1,f3⟩
      simp only [Array.toArray_toList]at g4
      simp only [execOp,Sem.run_bind,g4,Result.andThen_ok,Sem.run_pure]
      rw [g2]
     ·cases he
    ·cases hc
   ·cases hc
  ·cases hc
 | _=>
  exfalso
  revert hc
  try simp only
  repeat' split
  all_goals (first | (intro h;cases h;done) | (intro h;obtain⟨_,_,h⟩:=map_some h;cases h;done) | contradiction | (simp;done) | (intro h;simp_all;done))
end
end Go.Abs

/-! Code -/

namespace Go.Abs
structure eU where
 M:Map
 s:St
 w:World
 laid:Laid M s w
 old : ∀ b o v,M.G b o=some v→b<w.heap.size
def Holds (B:eU) (nt:Nat) (tm:Tm) (s:St) (act:Act) (w:World):Prop:=
 ∃ M,Ext B.M B.s B.w M s w∧Rel M s w∧k5 M s tm act.tmps∧act.tmps.size=nt∧act.defers = []
def ox (B:eU) (nt:Nat) (Q:Exit→Tm→St→Prop):Exit→Act→World→Prop:=fun e act w=>∃ tm s,Q e tm s∧Holds B nt tm s act w
def dT (P:Program) (f:FuncId) (args:List D) (s:St) (Q:D→St→Prop):Prop:=
 ∀ (M:Map) (w:World) (fD:Array Value),Rel M s w→Laid M s w→fD.size=args.length→(∀ (i:Nat) (d:D) (v:Value),args[i]? = some d→fD[i]? = some v→RD M s d v)→
  Calls P f fD w fun e w'=>∃ M' d v s',e = .returned v∧Q d s'∧Ext M s w M' s' w'∧Rel M' s' w'∧RD M' s' d v
theorem dT.mono {P:Program} {f:FuncId} {args:List D} {s:St} {Q Q':D→St→Prop} (h:dT P f args s Q) (hq : ∀ d s',Q d s'→Q' d s'):dT P f args s Q':=
 fun M w fD r hd hl ha=>(h M w fD r hd hl ha).mono fun _ _ ⟨M',d,v,s',h1,h2,h3⟩=>⟨M',d,v,s',h1,hq _ _ h2,h3⟩
def guarded (g:Option (Nat×Bool)) (tm:Tm) (A B:Prop):Prop:=
 match g with
 | none=>A
 | some (t,want)=>
  match tm.get t with
  | .bool b=>(b=want→A)∧(b=(!want)→B)
  | .tuple _=>B
  | _=>False
def hS (P:Program):List AI→(Tm→St→Prop)→Tm→St→Prop
 | [],K,tm,s=>K tm s
 | .op dst g o::r,K,tm,s=>
  guarded g tm (match aW o tm s with | some (d,s')=>hS P r K (tm.put dst d) s' | none=>False) (hS P r K (tm.put dst (.tuple [])) s)
 | .call dst g f xs::r,K,tm,s=>
  guarded g tm (dT P f (xs.map (·.ev tm)) s fun d s'=>hS P r K (tm.put dst d) s') (hS P r K (tm.put dst (.tuple [])) s)
 | .nil dst g neg x::r,K,tm,s=>
  guarded g tm (match x.ev tm with
   | .slice _ _ rows=>∀ b:Bool,(rows≠ []→b=false)→hS P r K (tm.put dst (.bool (if neg then !b else b))) s
   | _=>False) (hS P r K (tm.put dst (.tuple [])) s)
 | .im dst g t xs::r,K,tm,s=>
  guarded g tm (match tm.get t with
   | .ga f my=>enters P f=true∧dT P f (xs.map (·.ev tm)++my) s fun d s'=>hS P r K (tm.put dst d) s'
   | _=>False) (hS P r K (tm.put dst (.tuple [])) s)
section
variable {P:Program}
theorem yu {f:FuncId} (h:enters P f=true) (args:Array Value) (w:World):(callFunc f args).run P w = .ok (.enter f args) w:=by
 unfold enters at h
 split at h
 ·rename_i fn hf
  simp only [Bool.and_eq_true,Bool.not_eq_true']at h
  obtain⟨h1,h2⟩:=h
  have h3:fn.body.isNone=false:=by cases hb:fn.body <;> simp_all
  simp only [callFunc,Sem.run_bind,run_program,Result.andThen_ok,hf,h2,h3]
  simp
 ·cases h
theorem vh (ρ:Operand→Value) (dst:Option Tmp) (f:FuncId) (args:Array Operand) (mP:Array TypeId) (ty:TypeId) (pos:String) (after:Array Edge) (g:Option (Nat×Bool))
 (hρ:ρ (.func f) = .func (.func f) #[] #[]) (h:enters P f=true) (w:World) :
 (execOp ρ ⟨dst, .call ⟨.value (.func f),args,mP⟩,ty,pos,after,g⟩).run P w = .ok (.enter f (args.map ρ)) w:=by
 simp [execOp,resolve,hρ,Deferred.ofValue,invoke,yu h]
theorem yv (ρ:Operand→Value) (dst:Option Tmp) (x:Operand) (f:FuncId) (my:Array Value) (args:Array Operand) (mP:Array TypeId) (ty:TypeId) (pos:String) (after:Array Edge) (g:Option (Nat×Bool))
 (hρ:ρ x = .func (.func f) #[] my) (h:enters P f=true) (w:World) :
 (execOp ρ ⟨dst, .call ⟨.value x,args,mP⟩,ty,pos,after,g⟩).run P w = .ok (.enter f (args.map ρ++my)) w:=by
 simp [execOp,resolve,hρ,Deferred.ofValue,invoke,yu h]
theorem uv {M:Map} {s:St} {tm:Tm} {act:Act} (hr:k5 M s tm act.tmps) : ∀ {l:List Operand} {xs:List X},vM l=some xs→
 xs.length=l.length∧∀ (i:Nat) (d:D) (v:Value),(xs.map (·.ev tm))[i]? = some d→(l.map act.eval)[i]? = some v→RD M s d v
 | [],xs,h=>by cases h;exact⟨rfl,by simp⟩
 | x::l,xs,h=>by
  unfold vM at h
  split at h
  ·rename_i x' r' h1 h2
   cases h
   obtain⟨g1,g2⟩:=uv hr h2
   refine⟨by simp [g1],fun i d v e1 e2=> ?_⟩
   cases i with
   | zero=>simp at e1 e2;subst e1;subst e2;exact cj h1 hr
   | succ i=>exact g2 i d v (by simpa using e1) (by simpa using e2)
  ·cases h
theorem DK {M:Map} {s:St} {tm:Tm} {act:Act} {args:Array Operand} {xs:List X} {my:List D} {vs:Array Value} (nq:vM args.toList=some xs) (ht:k5 M s tm act.tmps) (hlen:my.length=vs.size)
 (Bt : ∀ (i:Nat) (d:D) (v:Value),my[i]? = some d→vs[i]? = some v→RD M s d v) :
 (args.map act.eval++vs).size=(xs.map (·.ev tm)++my).length∧∀ (i:Nat) (d:D) (v:Value),(xs.map (·.ev tm)++my)[i]? = some d→(args.map act.eval++vs)[i]? = some v→RD M s d v:=by
 obtain⟨c1,c2⟩:=uv ht nq
 refine⟨by simp [c1,hlen],fun i d v e1 e2=> ?_⟩
 rcases Nat.lt_or_ge i args.size with py | py
 ·rw [List.getElem?_append_left (by simp [c1];exact py)]at e1
  rw [Array.getElem?_append_left (by simp;exact py)]at e2
  exact c2 i d v e1 (by simpa using e2)
 ·rw [List.getElem?_append_right (by simp [c1];exact py)]at e1
  rw [Array.getElem?_append_right (by simp;exact py)]at e2
  simp only [List.length_map,c1,Array.size_map,Array.length_toList]at e1 e2
  exact Bt _ d v e1 e2
theorem xL {M:Map} {s:St} {w:World} {o:Oper} {neg:Bool} {x:X} {tm:Tm} {act:Act} (hc:Cz P o=some (neg,x)) (hr:k5 M s tm act.tmps) {g:Tag} {z:Nat} {rows:List (List D)} (hx:x.ev tm = .slice g z rows) :
 ∃ b:Bool,(rows≠ []→b=false)∧(execOp act.eval o).run P w = .ok (.value (.bool (if neg then !b else b))) w:=by
 obtain⟨dst,op,type,pos,after,guard⟩:=o
 unfold Cz at hc
 split at hc
 ·rename_i op t y yt heq
  simp only at heq
  subst heq
  have fin : ∀ e,P.underlying t=some (.slice e)→cX y=some x→op=(if neg then .neq else .eql)→∃ b:Bool,(rows≠ []→b=false)∧
   (execOp act.eval ⟨dst, .binOp op t y (.const (.slice none 0 0)) yt,type,pos,after,guard⟩).run P w = .ok (.value (.bool (if neg then !b else b))) w:=by
   intro e ht hy kO
   have hv:=cj hy hr
   rw [hx]at hv
   have key : ∀ (a:Option Addr) (n c:Nat),act.eval y = .slice a n c→(execOp act.eval ⟨dst, .binOp op t y (.const (.slice none 0 0)) yt,type,pos,after,guard⟩).run P w = .ok (.value (.bool (if neg then !a.isNone else a.isNone))) w:=by
    intro a n c r5
    have hg:=mO (P:=P) (w:=w) (op:=op) (t:=t) (x:=y) (y:= .const (.slice none 0 0)) (a:= .slice a n c) (b:= .slice none 0 0) ⟨by simp,by simp⟩
    have he:(Op.equal t (.slice a n c) (.slice none 0 0)).run P w = .ok a.isNone w:=by
     have : ∀ d,(Op.equalIn (d+1) t (.slice a n c) (.slice none 0 0)).run P w = .ok a.isNone w:=by
      intro d
      cases a <;> simp [Op.equalIn,run_underlying ht]
     exact this 9999
    have aft:act.eval (.const (.slice none 0 0)) = .slice none 0 0:=rfl
    simp only [execOp,r5,aft]
    rw [kO]at hg ⊢
    cases neg
    ·simp only [Bool.false_eq_true,if_false]at hg ⊢
     simp [hg,binOp,he]
    ·simp only [if_true]at hg ⊢
     simp [hg,binOp,he]
   rcases hv.ic with ⟨h0,r5,_⟩ | ⟨_,_,a,cap,r5⟩ | ⟨b,q,cap,r5,_⟩
   ·exact⟨true,fun h=>(h h0).elim,key none 0 0 r5⟩
   ·exact⟨false,fun _=>rfl,key _ _ _ r5⟩
   ·exact⟨false,fun _=>rfl,key _ _ _ r5⟩
  split at hc
  ·cases hc
   exact fin _ ‹_› ‹_› rfl
  ·cases hc
   exact fin _ ‹_› ‹_› rfl
  ·cases hc
 ·cases hc
variable {B:eU} {nt:Nat}
theorem Holds.put {tm:Tm} {s:St} {act:Act} {w:World} {M':Map} {s':St} {w':World} {M:Map} (e:Ext B.M B.s B.w M s w) (ht:k5 M s tm act.tmps) (hn:act.tmps.size=nt) (hd:act.defers = [])
 {dst:Option Nat} (pd : ∀ t,dst=some t→t<nt) {d:D} {v:Value} (e':Ext M s w M' s' w') (r':Rel M' s' w') (hv:RD M' s' d v):Holds B nt (tm.put dst d) s' (act.put dst v) w':=by
 refine⟨M',e.trans e',r',(ht.mono e'.le).put (fun t h=>by rw [hn];exact pd t h) hv, ?_, ?_⟩
 ·cases dst <;> simp [Act.put,hn]
 ·cases dst <;> simp [Act.put,hd]
theorem vQ {ops:Array Oper} {o:Oper} {ai:AI} (h:cI P nt ops o=some ai) : ∀ t,o.dst=some t→t<nt:=by
 intro t ht
 unfold cI at h
 split at h
 ·cases h
 ·split at h
  ·rename_i hC;rw [ht]at hC;simpa [Ua]using hC
  ·cases h
theorem jb {ops:Array Oper} {o:Oper} {g:Option (Nat×Bool)} (hg:s7 ops o.guard=some g) {M:Map} {s:St} {tm:Tm} {act:Act} (hr:k5 M s tm act.tmps) {A C:Prop} (h:guarded g tm A C) :
 (Region.wanted o (yielded ops act.tmps)=true∧A)∨(Region.wanted o (yielded ops act.tmps)=false∧C):=by
 unfold s7 at hg
 split at hg
 ·rename_i hn
  cases hg
  exact .inl ⟨by simp [Region.wanted,hn],h⟩
 ·rename_i j want hn
  split at hg
  ·rename_i t ht
   cases hg
   have Ut:=hr t
   unfold guarded at h
   simp only at h
   split at h
   ·rename_i b hb
    rw [hb]at Ut
    have hv:=Ut.mA
    have ab7:act.tmps[t]? = some (.bool b):=by
     cases hc:act.tmps[t]? with
     | none=>simp [Array.getD_eq_getD_getElem?,hc,Go.undef]at hv
     | some v=>simp [Array.getD_eq_getD_getElem?,hc]at hv;rw [hv]
    have hy:yielded ops act.tmps j=some b:=by simp [yielded,ht,ab7]
    have hw:Region.wanted o (yielded ops act.tmps)=(some b==some want):=by simp [Region.wanted,hn,hy]
    by_cases Yp:b=want
    ·exact .inl ⟨by rw [hw,Yp];simp,h.1 Yp⟩
    ·refine .inr ⟨by rw [hw];simp [Yp],h.2 ?_⟩
     cases b <;> cases want <;> simp_all
   ·rename_i ds Bs
    rw [Bs]at Ut
    obtain⟨vs,hv,_⟩:=Ut.DC
    refine .inr ⟨?_,h⟩
    have hy:yielded ops act.tmps j=none:=by
     unfold yielded
     rw [ht]
     cases hc:act.tmps[t]? with
     | none=>simp [hc]
     | some v=>simp [Array.getD_eq_getD_getElem?,hc]at hv;simp [hc,hv]
    simp [Region.wanted,hn,hy]
   ·exact h.elim
  ·cases hg
theorem yw {ops:Array Oper} {Q:Exit→Tm→St→Prop} : ∀ (l:List Nat) (ol:List Oper) (is:List AI),l.map (ops[·]?)=ol.map some→pO P nt ops ol=some is→
 ∀ (tm:Tm) (s:St) (act:Act) (w:World),hS P is (Q .normal) tm s→Holds B nt tm s act w→wpOps P ops (ox B nt Q) l act w
 | [],[],is,_,hc,tm,s,act,w,h,hh=>by cases hc;exact⟨tm,s,h,hh⟩
 | [],_::_,_,hl,_,_,_,_,_,_,_=>by simp at hl
 | _::_,[],_,hl,_,_,_,_,_,_,_=>by simp at hl
 | i::l,o::ol,is,hl,hc,tm,s,act,w,h,hh=>by
  simp only [List.map_cons,List.cons.injEq]at hl
  obtain⟨hi,hl⟩:=hl
  unfold pO at hc
  split at hc
  ·rename_i ai NF h1 h2
   cases hc
   obtain⟨M,e,r,ht,hn,hd⟩:=hh
   have pd:=vQ h1
   have ih:=fun tm s act w=>yw (Q:=Q) l ol NF hl h2 tm s act w
   have skip : ∀ (x:Prop),hS P NF (Q .normal) (tm.put o.dst (.tuple [])) s→wpOps P ops (ox B nt Q) l (act.put o.dst Go.undef) w:=fun _ hk=>
    ih _ _ _ _ hk (Holds.put e ht hn hd pd (Ext.refl M s w) r .undef)
   simp only [wpOps,hi]
   unfold cI at h1
   split at h1
   ·cases h1
   ·rename_i g hg
    split at h1
    ·unfold qW at h1
     split at h1
     ·-- a call
      rename_i f args mP kO
      split at h1
      ·rename_i wV
       obtain⟨xs,nq,rfl⟩:=map_some h1
       unfold hS at h
       rcases jb hg ht h with ⟨hw,hA⟩ | ⟨hw,hB⟩
       ·simp only [hw,if_true]
        left
        have hex:(execOp act.eval o).run P w = .ok (.enter f (args.map act.eval)) w:=by
         obtain⟨dst,op,type,pos,after,guard⟩:=o
         simp only at kO
         subst kO
         exact vh act.eval dst f args mP type pos after guard rfl wV w
        obtain⟨c1,c2⟩:=uv ht nq
        unfold Oper.wp
        rw [hex,Oper.upon_enter]
        refine(hA M w (args.map act.eval) r (B.laid.ext e) (by simp [c1]) (fun i d v e1 e2=>c2 i d v e1 (by simpa using e2))).mono ?_
        rintro en w' ⟨M',d,v,s',rfl,hk,e',r',hv⟩
        exact ih _ _ _ _ hk (Holds.put e ht hn hd pd e' r' hv)
       ·simp only [hw]
        exact skip True hB
      ·cases h1
     ·-- what a slot holds is called
      rename_i t args mP kO
      obtain⟨xs,nq,rfl⟩:=map_some h1
      unfold hS at h
      rcases jb hg ht h with ⟨hw,hA⟩ | ⟨hw,hB⟩
      ·simp only [hw,if_true]
       left
       split at hA
       ·rename_i f my xM
        obtain⟨wV,hA⟩:=hA
        have NG:=ht t
        rw [xM]at NG
        obtain⟨vs,rA,hlen,Bt⟩:=NG.IT
        have hex:(execOp act.eval o).run P w = .ok (.enter f (args.map act.eval++vs)) w:=by
         obtain⟨dst,op,type,pos,after,guard⟩:=o
         simp only at kO
         subst kO
         exact yv act.eval dst (.tmp t) f vs args mP type pos after guard rA wV w
        unfold Oper.wp
        rw [hex,Oper.upon_enter]
        have cc:=DK nq ht hlen Bt
        refine(hA M w (args.map act.eval++vs) r (B.laid.ext e) cc.1 cc.2).mono ?_
        rintro en w' ⟨M',d,v,s',rfl,hk,e',r',hv⟩
        exact ih _ _ _ _ hk (Holds.put e ht hn hd pd e' r' hv)
       ·exact hA.elim
      ·simp only [hw]
       exact skip True hB
     ·split at h1
      ·-- a slice held against nil
       rename_i neg x FQ
       cases h1
       unfold hS at h
       rcases jb hg ht h with ⟨hw,hA⟩ | ⟨hw,hB⟩
       ·simp only [hw,if_true]
        left
        split at hA
        ·rename_i g' z rows hx
         obtain⟨b,hb,hex⟩:=xL (w:=w) FQ ht hx
         unfold Oper.wp
         rw [hex,Oper.upon_value]
         exact ih _ _ _ _ (hA b hb) (Holds.put e ht hn hd pd (Ext.refl M s w) r (.bool _))
        ·exact hA.elim
       ·simp only [hw]
        exact skip True hB
      ·-- any other operation
       have fin : ∀ ao,ai = .op o.dst g ao→(∀ d s',aW ao tm s=some (d,s')→dq P M s w (execOp act.eval o) d s')→
        (if Region.wanted o (yielded ops act.tmps)=true then o.wp P act w (wpOps P ops (ox B nt Q) l) (ox B nt Q)∨(o.asks P act w∧LetsOut (ox B nt Q))else wpOps P ops (ox B nt Q) l (act.put o.dst Go.undef) w):=by
        intro ao uw Yr
        subst uw
        unfold hS at h
        rcases jb hg ht h with ⟨hw,hA⟩ | ⟨hw,hB⟩
        ·simp only [hw,if_true]
         left
         split at hA
         ·rename_i d s' pz
          obtain⟨v,w',M',dA,r',hv,e'⟩:=Yr d s' pz
          unfold Oper.wp
          rcases dA with dA | ⟨dA,rfl⟩
          ·rw [dA,Oper.upon_value]
           exact ih _ _ _ _ hA (Holds.put e ht hn hd pd e' r' hv)
          ·rw [dA,Oper.upon_skip]
           exact ih _ _ _ _ hA (Holds.put e ht hn hd pd e' r' hv)
         ·exact hA.elim
        ·simp only [hw]
         exact skip True hB
       split at h1
       ·rename_i z k n ps mQ
        cases h1
        refine fin _ rfl (fun d s' pz=> ?_)
        split at pz
        ·exact wU mQ r ht pz
        ·exact qX mQ r ht pz
       ·rename_i ao mQ
        cases h1
        exact fin _ rfl (fun d s' pz=>qX mQ r ht pz)
       ·cases h1
    ·cases h1
  ·cases hc
end
end Go.Abs

/-! Flow -/

namespace Go.Abs
def Turned (P:Program) (nt:Nat):AC→Code→Prop
 | .skip,c=>c = .skip
 | .run is,c=>∃ id ops,c = .region id ops false∧pO P nt ops ops.toList=some is
 | .par is kR,c=>∃ id ops,c = .region id ops true∧pO P nt ops ops.toList=some is∧P.follows .mixedOrders=true∧∃ pt,Fx is (ops.toList.map lS) pt kR=true
 | .seq a b,c=>∃ x y,c = .seq x y∧cC P nt x=some a∧cC P nt y=some b
 | .cond x a b,c=>∃ o p q,c = .cond o p q∧cX o=some x∧cC P nt p=some a∧cC P nt q=some b
 | .block id a,c=>∃ x,c = .block id x∧cC P nt x=some a
 | .loop a,c=>∃ x,c = .loop x∧cC P nt x=some a
 | .exit id,c=>c = .exit id
 | .scope a,c=>∃ x,c = .scope x∧cC P nt x=some a
 | .label l,c=>c = .label l
 | .goto l,c=>c = .goto l
 | .ret,c=>c = .ret
theorem ku {P:Program} {nt:Nat} {c:Code} {ac:AC} (h:cC P nt c=some ac):Turned P nt ac c:=by
 cases c with
 | skip=>cases h;rfl
 | region id ops draw=>
  cases draw
  ·obtain⟨is,h1,rfl⟩:=map_some (x:=pO P nt ops ops.toList) (f:=AC.run) (by simpa [cC]using h)
   exact⟨id,ops,rfl,h1⟩
  ·simp only [cC]at h
   split at h
   ·rename_i hm
    obtain⟨is,h1,h2⟩:=Option.bind_eq_some_iff.1 h
    unfold Ub at h2
    split at h2
    ·rename_i hp
     cases h2
     exact⟨id,ops,rfl,h1,hm,_,hp⟩
    ·cases h2
   ·cases h
 | seq a b=>
  simp only [cC]at h
  split at h
  ·rename_i a' b' h1 h2;cases h;exact⟨a,b,rfl,h1,h2⟩
  ·cases h
 | cond x a b=>
  simp only [cC]at h
  split at h
  ·rename_i x' a' b' h1 h2 h3;cases h;exact⟨x,a,b,rfl,h1,h2,h3⟩
  ·cases h
 | block id a=>
  obtain⟨a',h1,rfl⟩:=map_some (x:=cC P nt a) (f:=AC.block id) (by simpa [cC]using h)
  exact⟨a,rfl,h1⟩
 | loop a=>
  obtain⟨a',h1,rfl⟩:=map_some (x:=cC P nt a) (f:=AC.loop) (by simpa [cC]using h)
  exact⟨a,rfl,h1⟩
 | rangeFunc f p a b=>simp [cC]at h
 | exit id=>cases h;rfl
 | scope a=>
  obtain⟨a',h1,rfl⟩:=map_some (x:=cC P nt a) (f:=AC.scope) (by simpa [cC]using h)
  exact⟨a,rfl,h1⟩
 | label l=>cases h;rfl
 | goto l=>cases h;rfl
 | ret=>cases h;rfl
 | refuse w=>simp [cC]at h
def Sem (P:Program) (B:eU) (nt:Nat) (ac:AC) (Q:Exit→Tm→St→Prop) (tm:Tm) (s:St):Prop:=
 ∀ c,cC P nt c=some ac→∀ act w,Holds B nt tm s act w→c.wp P (ox B nt Q) act w
def lP (next:Tm→St→Prop) (Q:Exit→Tm→St→Prop):Exit→Tm→St→Prop
 | .normal,tm,s=>next tm s
 | e,tm,s=>Q e tm s
def jz (id:Nat) (Q:Exit→Tm→St→Prop):Exit→Tm→St→Prop
 | .exit i,tm,s=>if i=id then Q .normal tm s else Q (.exit i) tm s
 | e,tm,s=>Q e tm s
section
variable {P:Program} {B:eU} {nt:Nat} {Q:Exit→Tm→St→Prop} {tm:Tm} {s:St}
theorem Sem.mono {ac:AC} {Q':Exit→Tm→St→Prop} (h:Sem P B nt ac Q tm s) (hq : ∀ e tm s,Q e tm s→Q' e tm s):Sem P B nt ac Q' tm s:=
 fun c hc act w hh=>wp_mono (h c hc act w hh) fun _ _ _ ⟨tm,s,h1,h2⟩=>⟨tm,s,hq _ _ _ h1,h2⟩
theorem Sem.skip (h:Q .normal tm s):Sem P B nt .skip Q tm s:=by
 intro c hc act w hh
 cases ku hc
 exact wp_skip ⟨tm,s,h,hh⟩
theorem Sem.label {l:Nat} (h:Q .normal tm s):Sem P B nt (.label l) Q tm s:=by
 intro c hc act w hh
 cases ku hc
 exact wp_label ⟨tm,s,h,hh⟩
theorem Sem.exit {id:Nat} (h:Q (.exit id) tm s):Sem P B nt (.exit id) Q tm s:=by
 intro c hc act w hh
 cases ku hc
 exact wp_exit ⟨tm,s,h,hh⟩
theorem Sem.goto {l:Nat} (h:Q (.goto l) tm s):Sem P B nt (.goto l) Q tm s:=by
 intro c hc act w hh
 cases ku hc
 exact wp_goto ⟨tm,s,h,hh⟩
theorem Sem.ret (h:Q .ret tm s):Sem P B nt .ret Q tm s:=by
 intro c hc act w hh
 cases ku hc
 exact wp_ret ⟨tm,s,h,hh⟩
theorem yx (ops:Array Oper):(List.range ops.size).map (ops[·]?)=ops.toList.map some:=by
 apply List.ext_getElem?
 intro i
 by_cases h:i<ops.size
 ·simp [h]
 ·simp [h]
theorem Sem.run {is:List AI} (h:hS P is (Q .normal) tm s):Sem P B nt (.run is) Q tm s:=by
 intro c hc act w hh
 obtain⟨id,ops,rfl,hi⟩:=ku hc
 exact wp_region (yw (Q:=Q) (List.range ops.size) ops.toList is (yx ops) hi tm s act w h hh)
theorem Sem.seq {a b:AC} (h:Sem P B nt a (lP (Sem P B nt b Q) Q) tm s):Sem P B nt (.seq a b) Q tm s:=by
 intro c hc act w hh
 obtain⟨x,y,rfl,h1,h2⟩:=ku hc
 refine wp_seq (wp_mono (h x h1 act w hh) fun e act w hp=> ?_)
 obtain⟨bK,s',hq,iZ⟩:=hp
 cases e with
 | normal=>exact hq y h2 act w iZ
 | exit id=>exact⟨bK,s',hq,iZ⟩
 | goto l=>exact⟨bK,s',hq,iZ⟩
 | ret=>exact⟨bK,s',hq,iZ⟩
 | panic ch=>exact⟨bK,s',hq,iZ⟩
 | outgrown=>exact⟨bK,s',hq,iZ⟩
theorem Sem.cond {x:X} {a b:AC} {t:Bool} (hx:x.ev tm = .bool t) (h1:t=true→Sem P B nt a Q tm s) (h2:t=false→Sem P B nt b Q tm s):Sem P B nt (.cond x a b) Q tm s:=by
 intro c hc act w hh
 obtain⟨o,p,q,rfl,g1,g2,g3⟩:=ku hc
 have iZ:=hh
 obtain⟨M,e,r,ht,hn,hd⟩:=hh
 have hv:=cj g1 ht
 rw [hx]at hv
 exact wp_cond_split hv.mA (fun h=>h1 h p g2 act w iZ) (fun h=>h2 h q g3 act w iZ)
theorem Sem.block {id:Nat} {a:AC} (h:Sem P B nt a (jz id Q) tm s):Sem P B nt (.block id a) Q tm s:=by
 intro c hc act w hh
 obtain⟨x,rfl,h1⟩:=ku hc
 refine wp_block (wp_mono (h x h1 act w hh) fun e act w hp=> ?_)
 obtain⟨bK,s',hq,iZ⟩:=hp
 cases e with
 | exit i=>
  simp only [jz]at hq
  simp only [Exit.inBlock]
  split at hq
  ·rename_i h;rw [if_pos h];exact⟨bK,s',hq,iZ⟩
  ·rename_i h;rw [if_neg h];exact⟨bK,s',hq,iZ⟩
 | normal=>exact⟨bK,s',hq,iZ⟩
 | goto l=>exact⟨bK,s',hq,iZ⟩
 | ret=>exact⟨bK,s',hq,iZ⟩
 | panic ch=>exact⟨bK,s',hq,iZ⟩
 | outgrown=>exact⟨bK,s',hq,iZ⟩
def wW (P:Program) (c:Code) (Q:Exit→Act→World→Prop) (a:Act) (w:World):Prop:=
 ∀ (b:Frame) (k:List Item) (cs:List Frame),∃ e a' w',Q e a' w'∧Arrives P (lone (b.at a (.code c:: .inLoop c::k)) cs w) b k cs e a' w'
theorem wW.wp {c:Code} {Q:Exit→Act→World→Prop} {a:Act} {w:World} (h:wW P c Q a w):(Code.loop c).wp P Q a w:=fun b k cs=>
 let ⟨e,a',w',hq,jy⟩:=h b k cs
 ⟨e,a',w',hq, .of_steps (.one step_loop) jy⟩
theorem wW.once {c:Code} {Q:Exit→Act→World→Prop} {a:Act} {w:World} (h:c.wp P (Exit.then (wW P c Q) Q) a w):wW P c Q a w:=by
 intro b k cs
 obtain⟨e,a₁,w₁,hq,jy⟩:=h b (.inLoop c::k) cs
 cases e with
 | normal=>
  obtain⟨e₂,a₂,w₂,Ys,Kf⟩:=hq b k cs
  exact⟨e₂,a₂,w₂,Ys, .of_steps (Steps.trans jy (.one step_inLoop)) Kf⟩
 | exit id=>exact⟨_,a₁,w₁,hq, .pass (x:= .inLoop c) rfl (fun _ _=> .inl (by simp)) jy⟩
 | goto l=>exact⟨_,a₁,w₁,hq, .pass (x:= .inLoop c) rfl (fun _ _=> .inl (by simp)) jy⟩
 | ret=>exact⟨_,a₁,w₁,hq, .pass (x:= .inLoop c) rfl (fun _ _=> .inl (by simp)) jy⟩
 | panic ch=>exact⟨_,a₁,w₁,hq, .pass (x:= .inLoop c) rfl (fun _ _=> .inl (by simp)) jy⟩
 | outgrown=>exact⟨_,a₁,w₁,hq, .pass (x:= .inLoop c) rfl (fun _ _=> .inl (by simp)) jy⟩
def bw (P:Program) (B:eU) (nt:Nat) (ac:AC) (Q:Exit→Tm→St→Prop) (tm:Tm) (s:St):Prop:=
 ∀ c,cC P nt c=some ac→∀ act w,Holds B nt tm s act w→wW P c (ox B nt Q) act w
theorem Sem.loop {a:AC} (h:bw P B nt a Q tm s):Sem P B nt (.loop a) Q tm s:=by
 intro c hc act w hh
 obtain⟨x,rfl,h1⟩:=ku hc
 exact(h x h1 act w hh).wp
theorem bw.once {a:AC} (h:Sem P B nt a (lP (bw P B nt a Q) Q) tm s):bw P B nt a Q tm s:=by
 intro c hc act w hh
 refine wW.once (wp_mono (h c hc act w hh) fun e act w hp=> ?_)
 obtain⟨bK,s',hq,iZ⟩:=hp
 cases e with
 | normal=>exact hq c hc act w iZ
 | exit id=>exact⟨bK,s',hq,iZ⟩
 | goto l=>exact⟨bK,s',hq,iZ⟩
 | ret=>exact⟨bK,s',hq,iZ⟩
 | panic ch=>exact⟨bK,s',hq,iZ⟩
 | outgrown=>exact⟨bK,s',hq,iZ⟩
def td (P:Program) (c r:Code) (Q:Exit→Act→World→Prop) (a:Act) (w:World):Prop:=
 ∀ (b:Frame) (k:List Item) (cs:List Frame),∃ e a' w',Q e a' w'∧Arrives P (lone (b.at a (.code r:: .inScope c::k)) cs w) b k cs e a' w'
def ab8 (P:Program) (c:Code) (Q:Exit→Act→World→Prop):Exit→Act→World→Prop
 | .goto l,a,w=>∃ rest,findLabel c l=some rest∧td P c rest Q a w
 | e,a,w=>Q e a w
theorem td.wp {c:Code} {Q:Exit→Act→World→Prop} {a:Act} {w:World} (h:td P c c Q a w):(Code.scope c).wp P Q a w:=fun b k cs=>
 let ⟨e,a',w',hq,jy⟩:=h b k cs
 ⟨e,a',w',hq, .of_steps (.one step_scope) jy⟩
theorem td.once {c r:Code} {Q:Exit→Act→World→Prop} {a:Act} {w:World} (h:r.wp P (ab8 P c Q) a w):td P c r Q a w:=by
 intro b k cs
 obtain⟨e,a₁,w₁,hq,jy⟩:=h b (.inScope c::k) cs
 cases e with
 | normal=>exact⟨.normal,a₁,w₁,hq,Steps.trans jy (.one step_inScope)⟩
 | exit id=>exact⟨.exit id,a₁,w₁,hq,fun k' hk=>jy k' (by simp [exitTo,hk])⟩
 | goto l=>
  obtain⟨rest,hf,hs⟩:=hq
  obtain⟨e₂,a₂,w₂,Ys,Kf⟩:=hs b k cs
  exact⟨e₂,a₂,w₂,Ys, .of_steps (jy _ (by simp [gotoIn,hf])) Kf⟩
 | ret=>exact⟨_,a₁,w₁,hq,jy⟩
 | panic ch=>exact⟨_,a₁,w₁,hq,jy⟩
 | outgrown=>exact⟨_,a₁,w₁,hq,jy⟩
def qY:AC→Nat→Option AC
 | .seq a b,l=>
  match qY a l with
  | some r=>some (.seq r b)
  | none=>qY b l
 | .label l',l=>if l'==l then some .skip else none
 | _,_=>none
theorem HX : ∀ {c:Code} {ac:AC},cC P nt c=some ac→∀ l,(qY ac l=none→findLabel c l=none)∧∀ r,qY ac l=some r→∃ rest,findLabel c l=some rest∧cC P nt rest=some r:=by
 intro c
 induction c with
 | seq a b NK NL=>
  intro ac h l
  simp only [cC]at h
  split at h
  ·rename_i a' b' h1 h2
   cases h
   obtain⟨n1,s1⟩:=NK h1 l
   obtain⟨n2,s2⟩:=NL h2 l
   simp only [qY,findLabel]
   cases hf:qY a' l with
   | none=>
    rw [n1 hf]
    exact⟨n2,s2⟩
   | some r=>
    obtain⟨rest,g1,g2⟩:=s1 r hf
    rw [g1]
    refine⟨(by intro h;cases h),fun r' h=> ?_⟩
    cases h
    exact⟨_,rfl,by simp [cC,g2,h2]⟩
  ·cases h
 | label l'=>
  intro ac h l
  cases h
  simp only [qY,findLabel]
  split
  ·exact⟨(by intro h;cases h),(by intro r h;cases h;exact⟨_,rfl,rfl⟩)⟩
  ·exact⟨fun _=>rfl,(by intro r h;cases h)⟩
 | _=>
  intro ac h l
  have:=ku h
  cases ac <;> simp only [Turned]at this <;> first
   | (exfalso;obtain⟨_,_,this⟩:=this;cases this.1;done)
   | exact⟨fun _=>rfl,(by intro r h;cases h)⟩
   | (exfalso;cases this;done)
   | (exfalso;obtain⟨_,this⟩:=this;cases this.1;done)
   | (exfalso;obtain⟨_,_,_,_,this⟩:=this;cases this.1;done)
def nf (P:Program) (B:eU) (nt:Nat) (ac r:AC) (Q:Exit→Tm→St→Prop) (tm:Tm) (s:St):Prop:=
 ∀ c rest,cC P nt c=some ac→cC P nt rest=some r→∀ act w,Holds B nt tm s act w→td P c rest (ox B nt Q) act w
def jc (P:Program) (B:eU) (nt:Nat) (ac:AC) (Q:Exit→Tm→St→Prop):Exit→Tm→St→Prop
 | .goto l,tm,s=>∃ r,qY ac l=some r∧nf P B nt ac r Q tm s
 | e,tm,s=>Q e tm s
theorem Sem.scope {a:AC} (h:nf P B nt a a Q tm s):Sem P B nt (.scope a) Q tm s:=by
 intro c hc act w hh
 obtain⟨x,rfl,h1⟩:=ku hc
 exact(h x x h1 h1 act w hh).wp
theorem nf.once {a r:AC} (h:Sem P B nt r (jc P B nt a Q) tm s):nf P B nt a r Q tm s:=by
 intro c rest hc E7 act w hh
 refine td.once (wp_mono (h rest E7 act w hh) fun e act w hp=> ?_)
 obtain⟨bK,s',hq,iZ⟩:=hp
 cases e with
 | normal=>exact⟨bK,s',hq,iZ⟩
 | exit id=>exact⟨bK,s',hq,iZ⟩
 | goto l=>
  obtain⟨r',hf,hs⟩:=hq
  obtain⟨oZ,g1,g2⟩:=(HX hc l).2 r' hf
  exact⟨oZ,g1,hs c oZ hc g2 act w iZ⟩
 | ret=>exact⟨bK,s',hq,iZ⟩
 | panic ch=>exact⟨bK,s',hq,iZ⟩
 | outgrown=>exact⟨bK,s',hq,iZ⟩
def Tag.fg (m:Nat):Tag→Tag
 | .tok t y=>if t<m then .tok t y else .shared
 | g=>g
mutual
def D.fg (n m:Nat):D→D
 | .ptr o off=>if o<n then .ptr o off else .junk
 | .dD row off=> .dD (D.gE n m row) off
 | .slice g z rows=> .slice (g.fg m) z (D.jv n m rows)
 | .agg cs=> .agg (D.gE n m cs)
 | .tuple ds=> .tuple (D.gE n m ds)
 | .junk=> .junk
 | .int k x=> .int k x
 | .bool b=> .bool b
 | .str l=> .str l
 | .eM=> .eM
 | .val v=> .val v
 | .fc T o=>if o<n then .fc T o else .junk
 | .ga f cs=> .ga f (D.gE n m cs)
 | .fZ o=>if o<n then .fZ o else .junk
def D.gE (n m:Nat):List D→List D
 | []=> []
 | d::r=>D.fg n m d::D.gE n m r
def D.jv (n m:Nat):List (List D)→List (List D)
 | []=> []
 | d::r=>D.gE n m d::D.jv n m r
end
theorem mR (n m:Nat) : ∀ l,D.gE n m l=l.map (D.fg n m)
 | []=>by simp [D.gE]
 | d::r=>by simp [D.gE,mR n m r]
theorem NM (n m:Nat) : ∀ l,D.jv n m l=l.map (D.gE n m)
 | []=>by simp [D.jv]
 | d::r=>by simp [D.jv,NM n m r]
def St.cut (s:St) (n m:Nat):St:=⟨(s.az.take n).map (D.gE n m),s.aC.take m⟩
def Tm.fg (n m:Nat) (tm:Tm):Tm:=tm.map fun p=>(p.1,p.2.fg n m)
def Tm.keep (ks:List Nat) (tm:Tm):Tm:=tm.filter fun p=>ks.contains p.1
theorem pe (s:St) (n m:Nat):(s.cut n m).az.length=min n s.az.length:=by simp [St.cut]
theorem gW.fg {M:Map} {g:Tag} {z len cap:Nat} {base:Option (Nat×Nat)} (n m:Nat) (h:gW M s g z len base cap):gW M (s.cut n m) (g.fg m) z len base cap:=by
 cases g with
 | full=>exact h
 | shared=>exact h
 | tok t y=>
  simp only [Tag.fg]
  split
  ·rename_i ht
   obtain⟨h1,h2⟩:=h
   refine⟨by simp [St.cut];omega,fun k hk=>h2 k ?_⟩
   simpa [St.cut,List.getElem?_take_of_lt ht]using hk
  ·trivial
theorem RD.fg {M:Map} {d:D} {v:Value} (n m:Nat) (h:RD M s d v):RD M (s.cut n m) (d.fg n m) v:=by
 induction h with
 | junk v=>simp only [D.fg];exact .junk v
 | int k x=>simp only [D.fg];exact .int k x
 | bool b=>simp only [D.fg];exact .bool b
 | str l=>simp only [D.fg];exact .str l
 | eM=>simp only [D.fg];exact .eM
 | val v hv=>simp only [D.fg];exact .val v hv
 | fc T o v h ht hv=>
  simp only [D.fg]
  split
  ·exact .fc T o v (by rw [pe];omega) ht hv
  ·exact .junk _
 | fZ o h hm=>
  simp only [D.fg]
  split
  ·exact .fZ o (by rw [pe];omega) hm
  ·exact .junk _
 | ga f ds vs hl _ ih=>
  simp only [D.fg,mR]
  refine .ga f _ vs (by simpa using hl) (fun i d v e1 e2=> ?_)
  simp only [List.getElem?_map,Option.map_eq_some_iff]at e1
  obtain⟨d',e1,rfl⟩:=e1
  exact ih i d' v e1 e2
 | ptr o off h hm=>
  simp only [D.fg]
  split
  ·exact .ptr o off (by rw [pe];omega) hm
  ·exact .junk _
 | dD row off b k h1 h2 ih=>
  simp only [D.fg,mR]
  refine .dD _ off b k (fun i d e=> ?_) (fun i d u e eu=> ?_)
  ·simp only [List.getElem?_map,Option.map_eq_some_iff]at e
   obtain⟨d',e,rfl⟩:=e
   exact h1 i d' e
  ·simp only [List.getElem?_map,Option.map_eq_some_iff]at e
   obtain⟨d',e,rfl⟩:=e
   exact ih i d' u e eu
 | jf g z cap hc ht=>simp only [D.fg,D.jv];exact .jf _ z cap hc (ht.fg n m)
 | na z a cap=>simp only [D.fg,D.jv,Tag.fg];exact .na z a cap
 | slice g z rows b k cap hl hs h1 h2 ht ih=>
  simp only [D.fg,NM]
  have hlen:(rows.map (D.gE n m)).length=rows.length:=by simp
  have key:=RD.slice (M:=M) (s:=s.cut n m) (g.fg m) z (rows.map (D.gE n m)) b k cap (by rw [hlen];exact hl) (fun row hr=>by
   obtain⟨kS,h',rfl⟩:=List.mem_map.1 hr
   rw [mR,List.length_map];exact hs kS h')
   (fun i row j d e1 e2=>by
    simp only [List.getElem?_map,Option.map_eq_some_iff]at e1
    obtain⟨kS,e1,rfl⟩:=e1
    rw [mR]at e2
    simp only [List.getElem?_map,Option.map_eq_some_iff]at e2
    obtain⟨d',e2,rfl⟩:=e2
    exact h1 i kS j d' e1 e2)
   (fun i row j d u e1 e2 eu=>by
    simp only [List.getElem?_map,Option.map_eq_some_iff]at e1
    obtain⟨kS,e1,rfl⟩:=e1
    rw [mR]at e2
    simp only [List.getElem?_map,Option.map_eq_some_iff]at e2
    obtain⟨d',e2,rfl⟩:=e2
    exact ih i kS j d' u e1 e2 eu)
   (by rw [hlen];exact ht.fg n m)
  rw [hlen]at key
  exact key
 | agg cells vs hl h1 _ ih=>
  simp only [D.fg,mR]
  refine .agg _ vs (by simpa using hl) h1 (fun i d v e1 e2=> ?_)
  simp only [List.getElem?_map,Option.map_eq_some_iff]at e1
  obtain⟨d',e1,rfl⟩:=e1
  exact ih i d' v e1 e2
 | tuple ds vs hl _ ih=>
  simp only [D.fg,mR]
  refine .tuple _ vs (by simpa using hl) (fun i d v e1 e2=> ?_)
  simp only [List.getElem?_map,Option.map_eq_some_iff]at e1
  obtain⟨d',e1,rfl⟩:=e1
  exact ih i d' v e1 e2
theorem CI {t k n m:Nat} (h:(s.cut n m).aC[t]? = some (some k)):s.aC[t]? = some (some k):=by
 simp only [St.cut,List.getElem?_take]at h
 split at h
 ·exact h
 ·cases h
theorem tf {t n m:Nat} (h:(s.cut n m).live t):s.live t:=by
 obtain⟨k,hk⟩:=h
 exact⟨k,CI hk⟩
theorem Rel.cut {M:Map} {w:World} (n m:Nat) (r:Rel M s w):Rel M (s.cut n m) w:=by
 have hC : ∀ o,o<(s.cut n m).az.length→o<s.az.length:=fun o h=>by rw [pe]at h;omega
 refine⟨r.comm,fun o ds e=> ?_,fun o ho=>r.ko o (hC o ho),fun o o' h h'=>r.inj o o' (hC o h) (hC o' h'),fun t k e=>r.tok t k (CI e),
  fun t b c z o hl e ho=>r.eX t b c z o (tf hl) e (hC o ho),fun t t' b c z c' z' h h' e e'=>r.fz t t' b c z c' z' (tf h) (tf h') e e'⟩
 simp only [St.cut,List.getElem?_map,Option.map_eq_some_iff,List.getElem?_take]at e
 obtain⟨qz,e,rfl⟩:=e
 split at e
 ·obtain⟨vs,T,h1,h2,h3,h4⟩:=r.obj o qz e
  refine⟨vs,T,h1,by rw [mR];simpa using h2,h3,fun i d v e1 e2=> ?_⟩
  rw [mR]at e1
  simp only [List.getElem?_map,Option.map_eq_some_iff]at e1
  obtain⟨d',e1,rfl⟩:=e1
  exact(h4 i d' v e1 e2).fg n m
 ·cases e
theorem Ext.cut {M0 M:Map} {s0:St} {w0 w:World} {n m:Nat} (e:Ext M0 s0 w0 M s w) (hn:s0.az.length≤n) (hm:s0.aC.length≤m):Ext M0 s0 w0 M (s.cut n m) w:=by
 have hC : ∀ o,o<(s.cut n m).az.length→o<s.az.length:=fun o h=>by rw [pe]at h;omega
 refine⟨⟨e.le.G,by rw [pe];have:=e.le.n;omega,e.le.loc,by simp [St.cut];have:=e.le.t;omega,fun t k h1 h2=>e.le.tk t k h1 (CI h2)⟩,e.kept,fun o h1 h2=>e.pL o h1 (hC o h2),fun t b c z h=>e.pM t b c z (tf h),e.rX,e.size,e.os,e.tape,e.output⟩
end
end Go.Abs

/-! Call -/

namespace Go.Abs
def nu:Nat→List D→Tm
 | _,[]=> []
 | n,d::r=>(n,d)::nu (n+1) r
def aA:List (Nat×Option (Bool×Nat))→Tm→St→Option (List D)
 | [],_,_=>some []
 | (t,none)::r,tm,s=>match aA r tm s with | some l=>some (tm.get t::l) | none=>none
 | (t,some (agg,size))::r,tm,s=>
  match tm.get t with
  | .ptr o off=>
   match s.az[o]? with
   | some cs=>match part cs off agg size,aA r tm s with | some d,some l=>some (d::l) | _,_=>none
   | none=>none
  | _=>none
def aB:List D→D
 | [d]=>d
 | l=> .tuple l
def afx (B:eU) (res:List (Nat×Option (Bool×Nat))) (Q:D→St→Prop):Exit→Tm→St→Prop
 | .normal,tm,s | .ret,tm,s=>∃ l,aA res tm s=some l∧∃ n m,B.s.az.length≤n∧B.s.aC.length≤m∧Q ((aB l).fg n m) (s.cut n m)
 | _,_,_=>False
section
variable {P:Program} {M:Map} {s:St} {w:World}
theorem DL : ∀ (l:List D) (n t:Nat),(nu n l).get t=if n≤t then(l[t - n]?).getD .junk else .junk
 | [],n,t=>by simp [nu,Tm.get]
 | d::r,n,t=>by
  simp only [nu,Tm.get,DL r (n+1) t]
  by_cases h:n=t
  ·subst h;simp
  ·rw [if_neg h]
   by_cases h2:n+1≤t
   ·rw [if_pos h2,if_pos (by omega),show t - n=(t - (n+1))+1 by omega];simp
   ·rw [if_neg h2,if_neg (by omega)]
def yy (tmps:Array Value):ResultVar→Go.Sem Value
 | .tmp t=>pure (tmps.getD t Go.undef)
 | .cell a t=>do loadVar t (← asAddr (tmps.getD a Go.undef))
theorem Aw (r:Rel M s w) {tm:Tm} {tmps:Array Value} (ht:k5 M s tm tmps) : ∀ {rs:List ResultVar} {res:List (Nat×Option (Bool×Nat))} {l:List D},Ao P rs=some res→aA res tm s=some l→
 ∃ vs:List Value,(rs.mapM (yy tmps)).run P w = .ok vs w∧vs.length=l.length∧
  ∀ (i:Nat) (d:D) (v:Value),l[i]? = some d→vs[i]? = some v→RD M s d v
 | [],res,l,hc,hl=>by cases hc;cases hl;exact⟨[],rfl,rfl,by simp⟩
 | .tmp t::rs,res,l,hc,hl=>by
  obtain⟨afy,h1,rfl⟩:=map_some (by simpa [Ao]using hc)
  simp only [aA]at hl
  split at hl
  ·rename_i l' jg
   cases hl
   obtain⟨vs,g1,g2,g3⟩:=Aw r ht h1 jg
   refine⟨tmps.getD t Go.undef::vs, ?_,by simp [g2],fun i d v e1 e2=> ?_⟩
   ·rw [List.mapM_cons]
    simp only [yy,Go.Sem.run_bind,Go.Sem.run_pure,Result.andThen_ok,g1]
   ·cases i with
    | zero=>simp only [List.getElem?_cons_zero,Option.some.injEq]at e1 e2;subst e1;subst e2;exact ht t
    | succ i=>exact g3 i d v (by simpa using e1) (by simpa using e2)
  ·cases hl
 | .cell a t::rs,res,l,hc,hl=>by
  simp only [Ao]at hc
  split at hc
  ·rename_i g i afy h1 h2 h3
   cases hc
   simp only [aA]at hl
   split at hl
   ·rename_i o off ho
    split at hl
    ·rename_i cs pT
     split at hl
     ·rename_i d l' hd jg
      cases hl
      obtain⟨vs,g1,g2,g3⟩:=Aw r ht h3 jg
      have hv:=ht a
      rw [ho]at hv
      have hk:=hv.yl
      obtain⟨hv,_⟩:=hv.qH
      have ab9 : ∃ v,(loadVar t ⟨M.mu o,off,none⟩).run P w = .ok v w∧RD M s d v:=by
       obtain⟨fj,T,hh,ep,⟨jO,_⟩,Av⟩:=r.obj o cs pT
       replace hh:=hh.cells hk
       let n:=if g then i.size else 1
       have kq:off+n≤fj.size:=by
        rcases rr hd with ⟨rfl,hq,_⟩ | ⟨rfl,hq⟩
        ·simp [n];omega
        ·have:=(List.getElem?_eq_some_iff.1 hq).1;simp [n];omega
       have hlen:((fj.toList.drop off).take n).length=n:=by simp;omega
       have hE : ∀ (j:Nat) (u:Value),((fj.toList.drop off).take n)[j]? = some u→fj[off+j]? = some u:=by
        intro j u h
        rw [List.getElem?_take]at h
        split at h
        ·rw [List.getElem?_drop]at h;simpa using h
        ·cases h
       refine⟨_,Ap (w:=w) P h2 h1 (M.mu o) off ((fj.toList.drop off).take n) hlen (fun j u h=>by rw [jY hh];exact hE j u h), ?_⟩
       exact sF hd _ hlen (fun _ u hu=>jO u (Array.mem_toList_iff.1 (List.mem_of_mem_drop (List.mem_of_mem_take hu)))) (fun j d u e1 e2=>Av _ d u e1 (hE j u e2))
      obtain⟨v,hlv,hvd⟩:=ab9
      refine⟨v::vs, ?_,by simp [g2],fun i d' v' e1 e2=> ?_⟩
      ·rw [List.mapM_cons]
       have jO:(yy tmps (.cell a t)).run P w = .ok v w:=by
        simp only [yy,Go.Sem.run_bind,hv,asAddr,Go.Sem.run_pure,Result.andThen_ok,hlv]
       simp only [Go.Sem.run_bind,jO,Result.andThen_ok,g1,Go.Sem.run_pure]
      ·cases i with
       | zero=>simp only [List.getElem?_cons_zero,Option.some.injEq]at e1 e2;subst e1;subst e2;exact hvd
       | succ i=>exact g3 i d' v' (by simpa using e1) (by simpa using e2)
     ·cases hl
    ·cases hl
   ·cases hl
  ·cases hc
theorem EK (r:Rel M s w) {tm:Tm} {tmps:Array Value} (ht:k5 M s tm tmps) {fn:Func} {res:List (Nat×Option (Bool×Nat))} {l:List D} (hc:Ao P fn.results.toList=some res) (hl:aA res tm s=some l) :
 ∃ v,(results fn tmps).run P w = .ok v w∧RD M s (aB l) v:=by
 obtain⟨vs,g1,g2,g3⟩:=Aw (P:=P) r ht hc hl
 have dA:(results fn tmps).run P w = .ok (if h:vs.toArray.size=1 then vs.toArray[0]else .tuple vs.toArray) w:=by
  have e:results fn tmps=(do let vs ← fn.results.mapM (yy tmps);pure (if h:vs.size=1 then vs[0]else .tuple vs)):=by
   unfold results
   rfl
  rw [e,Array.mapM_eq_mapM_toList]
  simp only [Go.Sem.run_bind,Go.Sem.run_map,g1,Result.andThen_ok,Go.Sem.run_pure]
 refine⟨_,dA, ?_⟩
 clear dA g1 hl
 match l,vs,g2,g3 with
 | [],[],_,_=>exact .tuple [] #[] rfl (by simp)
 | [d],[v],_,g3=>exact g3 0 d v rfl rfl
 | d::d'::l,v::v'::vs,h,g3=>
  have : ¬ ((v::v'::vs).toArray.size=1):=by simp
  rw [dif_neg this]
  exact .tuple _ _ (by simpa using h.symm) (fun i d v e1 e2=>g3 i d v e1 (by simpa using e2))
theorem dT.intro {f:FuncId} {fn:Func} {af:AF} {args:List D} {Q:D→St→Prop} (hf:P.funcs[f]? = some fn) (hc:cF P fn=some af) (hl:args.length≤af.ntmps)
 (h : ∀ B:eU,B.s=s→Sem P B af.ntmps af.body (afx B af.results Q) (nu 0 args) s):dT P f args s Q:=by
 intro M w fD r kH ep ha
 unfold cF at hc
 split at hc
 ·rename_i c Kg
  split at hc
  ·rename_i b res h1 h2
   cases hc
   simp only at h hl
   refine calls_of_wp hf Kg ?_
   have hs:=h ⟨M,s,w,kH,fun b o v e=>r.CA e⟩ rfl c h1 {tmps:=fD++Array.replicate (fn.ntmps - fD.size) Go.undef,defers:= []} w
    ⟨M,Ext.refl M s w,r,fun t=>by
     rw [DL]
     simp only [Nat.zero_le,if_true,Nat.sub_zero]
     cases hd:args[t]? with
     | none=>exact .junk _
     | some d=>
      have hC:=(List.getElem?_eq_some_iff.1 hd).1
      have hv:fD[t]? = some fD[t]:=Array.getElem?_eq_getElem (by omega)
      have:(fD++Array.replicate (fn.ntmps - fD.size) Go.undef).getD t Go.undef=fD[t]:=by
       rw [Array.getD_eq_getD_getElem?,Array.getElem?_append_left (by omega),hv];rfl
      rw [this]
      exact ha t d _ hd hv,by simp;omega,rfl⟩
   refine wp_mono hs fun e act w' hp=> ?_
   obtain⟨tm,s',hq,M',afz,r',ht,_,hdf⟩:=hp
   have fin:(∃ l,aA res tm s'=some l∧∃ n m,s.az.length≤n∧s.aC.length≤m∧Q ((aB l).fg n m) (s'.cut n m))→act.defers = []∧∃ v,(results fn act.tmps).run P w' = .ok v w'∧
    ∃ M' d v' s',Ending.returned v = .returned v'∧Q d s'∧Ext M s w M' s' w'∧Rel M' s' w'∧RD M' s' d v':=by
    rintro⟨l,hl,n,m,hn,hm,hQ⟩
    obtain⟨v,dA,oG⟩:=EK (P:=P) r' ht h2 hl
    exact⟨hdf,v,dA,M',_,v,_,rfl,hQ,afz.cut hn hm,r'.cut n m,oG.fg n m⟩
   cases e with
   | normal=>exact fin hq
   | ret=>exact fin hq
   | exit id=>exact hq.elim
   | goto l=>exact hq.elim
   | panic ch=>exact hq.elim
   | outgrown=>exact hq.elim
  ·cases hc
 ·cases hc
end
end Go.Abs

/-! Frame -/

namespace Go.Abs
def Tag.ok (m:Nat):Tag→Bool
 | .tok t _=>decide (t<m)
 | _=>true
def Tag.dF (ts:List Nat):Tag→Tag
 | .tok t y=>match ts[t]? with | some t'=> .tok t' y | none=> .shared
 | g=>g
mutual
def D.ok (n m:Nat):D→Bool
 | .ptr o _=>decide (o<n)
 | .dD row _=>D.bT n m row
 | .slice g _ rows=>g.ok m && D.ja n m rows
 | .agg cs=>D.bT n m cs
 | .tuple ds=>D.bT n m ds
 | .fc _ o=>decide (o<n)
 | .ga _ cs=>D.bT n m cs
 | .fZ o=>decide (o<n)
 | _=>true
def D.bT (n m:Nat):List D→Bool
 | []=>true
 | d::r=>D.ok n m d && D.bT n m r
def D.ja (n m:Nat):List (List D)→Bool
 | []=>true
 | d::r=>D.bT n m d && D.ja n m r
end
mutual
def D.dF (os ts:List Nat):D→D
 | .ptr o off=>match os[o]? with | some o'=> .ptr o' off | none=> .junk
 | .dD row off=> .dD (D.fK os ts row) off
 | .slice g z rows=> .slice (g.dF ts) z (D.r6 os ts rows)
 | .agg cs=> .agg (D.fK os ts cs)
 | .tuple ds=> .tuple (D.fK os ts ds)
 | .junk=> .junk
 | .int k x=> .int k x
 | .bool b=> .bool b
 | .str l=> .str l
 | .eM=> .eM
 | .val v=> .val v
 | .fc T o=>match os[o]? with | some o'=> .fc T o' | none=> .junk
 | .ga f cs=> .ga f (D.fK os ts cs)
 | .fZ o=>match os[o]? with | some o'=> .fZ o' | none=> .junk
def D.fK (os ts:List Nat):List D→List D
 | []=> []
 | d::r=>D.dF os ts d::D.fK os ts r
def D.r6 (os ts:List Nat):List (List D)→List (List D)
 | []=> []
 | d::r=>D.fK os ts d::D.r6 os ts r
end
theorem fe (os ts:List Nat) : ∀ l,D.fK os ts l=l.map (D.dF os ts)
 | []=>by simp [D.fK]
 | d::r=>by simp [D.fK,fe os ts r]
theorem zm (os ts:List Nat) : ∀ l,D.r6 os ts l=l.map (D.fK os ts)
 | []=>by simp [D.r6]
 | d::r=>by simp [D.r6,zm os ts r]
theorem yz (n m:Nat) : ∀ l,D.bT n m l=l.all (D.ok n m)
 | []=>by simp [D.bT]
 | d::r=>by simp [D.bT,yz n m r]
theorem Bu (n m:Nat) : ∀ l,D.ja n m l=l.all (D.bT n m)
 | []=>by simp [D.ja]
 | d::r=>by simp [D.ja,Bu n m r]
theorem tg {n m:Nat} {l:List D} (h:D.bT n m l=true) {i:Nat} {d:D} (e:l[i]? = some d):D.ok n m d=true:=by
 rw [yz]at h;exact List.all_eq_true.1 h d (List.mem_of_getElem? e)
theorem VW {n m:Nat} {l:List (List D)} (h:D.ja n m l=true) {i:Nat} {d:List D} (e:l[i]? = some d):D.bT n m d=true:=by
 rw [Bu]at h;exact List.all_eq_true.1 h d (List.mem_of_getElem? e)
section
variable {M M0:Map} {s s0:St} {os ts:List Nat}
theorem gW.E8 (jL : ∀ (i:Nat) t,ts[i]? = some t→M0.be i=M.be t) (ht : ∀ (i t:Nat),ts[i]? = some t→s0.aC[i]? = s.aC[t]?) (hlen:s0.aC.length=ts.length) {g:Tag} {z len cap:Nat} {base:Option (Nat×Nat)} (nQ:g.ok ts.length=true) (h:gW M s (g.dF ts) z len base cap):gW M0 s0 g z len base cap:=by
 cases g with
 | full=>exact h
 | shared=>exact h
 | tok t y=>
  have hC:t<ts.length:=by simpa [Tag.ok]using nQ
  have e:ts[t]? = some ts[t]:=List.getElem?_eq_getElem hC
  simp only [Tag.dF,e]at h
  obtain⟨h1,h2⟩:=h
  refine⟨by omega,fun n hn=> ?_⟩
  rw [ht t _ e]at hn
  rw [jL t _ e]
  exact h2 n hn
theorem RD.E8 (hG:M0.G=M.G) (yA : ∀ (i:Nat) o,os[i]? = some o→M0.loc i=M.loc o) (oH:s0.az.length=os.length)
 (jL : ∀ (i:Nat) t,ts[i]? = some t→M0.be i=M.be t) (ht : ∀ (i t:Nat),ts[i]? = some t→s0.aC[i]? = s.aC[t]?) (hlen:s0.aC.length=ts.length) {d:D} {v:Value} (h:RD M s d v) :
 ∀ d0:D,d0.dF os ts=d→d0.ok os.length ts.length=true→RD M0 s0 d0 v:=by
 have pw : ∀ (i:Nat) o,os[i]? = some o→M0.mu i=M.mu o:=fun i o h=>congrArg Prod.fst (yA i o h)
 have tag:=fun {g z len cap base}=>@gW.E8 M M0 s s0 ts jL ht hlen g z len cap base
 induction h with
 | junk v=>
  intro d0 e ok
  cases d0 <;> simp only [D.dF]at e <;> try (cases e;done)
  ·exact .junk v
  ·rename_i o off
   have hC:o<os.length:=by simpa [D.ok]using ok
   rw [List.getElem?_eq_getElem hC]at e;cases e
  ·rename_i T o
   have hC:o<os.length:=by simpa [D.ok]using ok
   rw [List.getElem?_eq_getElem hC]at e;cases e
  ·rename_i o
   have hC:o<os.length:=by simpa [D.ok]using ok
   rw [List.getElem?_eq_getElem hC]at e;cases e
 | val v hv=>intro d0 e ok;cases d0 <;> simp only [D.dF]at e <;> first | (cases e;exact .val _ hv) | (split at e <;> cases e) | cases e
 | fc T o v ho ht hv=>
  intro d0 e ok
  cases d0 <;> simp only [D.dF]at e <;> first | (split at e <;> cases e;done) | skip
  all_goals try (cases e;done)
  rename_i T0 o0
  have hC:o0<os.length:=by simpa [D.ok]using ok
  rw [List.getElem?_eq_getElem hC]at e
  cases e
  have hl:=yA o0 _ (List.getElem?_eq_getElem hC)
  exact .fc _ o0 v (by omega) ((congrArg (fun x=>x.2.ty?) hl).trans ht) (by rw [pw o0 _ (List.getElem?_eq_getElem hC)];exact hv)
 | int k x=>intro d0 e ok;cases d0 <;> simp only [D.dF]at e <;> first | (cases e;exact .int _ _) | (split at e <;> cases e) | cases e
 | bool b=>intro d0 e ok;cases d0 <;> simp only [D.dF]at e <;> first | (cases e;exact .bool _) | (split at e <;> cases e) | cases e
 | str l=>intro d0 e ok;cases d0 <;> simp only [D.dF]at e <;> first | (cases e;exact .str _) | (split at e <;> cases e) | cases e
 | eM=>intro d0 e ok;cases d0 <;> simp only [D.dF]at e <;> first | (cases e;exact .eM) | (split at e <;> cases e) | cases e
 | fZ o ho hm=>
  intro d0 e ok
  cases d0 <;> simp only [D.dF]at e <;> first | (cases e;done) | skip
  all_goals try (split at e <;> cases e;done)
  rename_i o0
  have hC:o0<os.length:=by simpa [D.ok]using ok
  rw [List.getElem?_eq_getElem hC]at e
  cases e
  rw [← pw o0 _ (List.getElem?_eq_getElem hC)]
  exact RD.fZ (s:=s0) o0 (by omega) ((congrArg Prod.snd (yA o0 _ (List.getElem?_eq_getElem hC))).trans hm)
 | ga f ds vs hl _ ih=>
  intro d0 e ok
  cases d0 <;> simp only [D.dF]at e <;> first | (split at e <;> cases e;done) | skip
  all_goals try (cases e;done)
  rename_i f0 NO
  simp only [D.ga.injEq]at e
  obtain⟨rfl,rfl⟩:=e
  simp only [D.ok]at ok
  rw [fe]at hl ih
  refine .ga _ NO vs (by simpa using hl) (fun i d v e1 e2=>ih i _ v (by rw [List.getElem?_map,e1];rfl) e2 d rfl (tg ok e1))
 | ptr o off ho hm=>
  intro d0 e ok
  cases d0 <;> simp only [D.dF]at e <;> first | (cases e;done) | skip
  all_goals try (split at e <;> cases e;done)
  rename_i o0 Yt
  have hC:o0<os.length:=by simpa [D.ok]using ok
  rw [List.getElem?_eq_getElem hC]at e
  cases e
  rw [← pw o0 _ (List.getElem?_eq_getElem hC)]
  exact RD.ptr (s:=s0) o0 _ (by omega) (by rw [show M0.ob o0=_ from congrArg Prod.snd (yA o0 _ (List.getElem?_eq_getElem hC))];exact hm)
 | dD row off b k h1 h2 ih=>
  intro d0 e ok
  cases d0 <;> simp only [D.dF]at e <;> first | (split at e <;> cases e;done) | skip
  all_goals try (cases e;done)
  rename_i afA Yt
  simp only [D.dD.injEq]at e
  obtain⟨rfl,rfl⟩:=e
  simp only [D.ok]at ok
  rw [fe]at h1 ih
  refine .dD afA Yt b k (fun i d e=> ?_) (fun i d u e eu=> ?_)
  ·rw [hG];exact h1 i _ (by rw [List.getElem?_map,e];rfl)
  ·rw [hG]at eu;exact ih i _ u (by rw [List.getElem?_map,e];rfl) eu d rfl (tg ok e)
 | jf g z cap hc oq=>
  intro d0 e ok
  cases d0 <;> simp only [D.dF]at e <;> first | (split at e <;> cases e;done) | skip
  all_goals try (cases e;done)
  rename_i g0 z0 sI
  simp only [D.slice.injEq]at e
  obtain⟨rfl,rfl,e⟩:=e
  have:sI = []:=by cases sI <;> simp [D.r6]at e;rfl
  subst this
  simp only [D.ok,Bool.and_eq_true]at ok
  exact .jf g0 z0 cap hc (tag ok.1 oq)
 | na z a cap=>
  intro d0 e ok
  cases d0 <;> simp only [D.dF]at e <;> first | (split at e <;> cases e;done) | skip
  all_goals try (cases e;done)
  rename_i g0 z0 sI
  simp only [D.slice.injEq]at e
  obtain⟨hg,rfl,e⟩:=e
  have:sI = []:=by cases sI <;> simp [D.r6]at e;rfl
  subst this
  simp only [D.ok,Bool.and_eq_true]at ok
  have:g0 = .shared:=by
   cases g0 with
   | tok t y=>
    have ht:t<ts.length:=by simpa [Tag.ok]using ok.1
    simp [Tag.dF,ht]at hg
   | shared=>rfl
   | _=>simp [Tag.dF]at hg
  subst this
  exact .na _ a cap
 | slice g z rows b k cap hl hs h1 h2 oq ih=>
  intro d0 e ok
  cases d0 <;> simp only [D.dF]at e <;> first | (split at e <;> cases e;done) | skip
  all_goals try (cases e;done)
  rename_i g0 z0 sI
  simp only [D.slice.injEq]at e
  obtain⟨rfl,rfl,rfl⟩:=e
  simp only [D.ok,Bool.and_eq_true]at ok
  rw [zm]at hl hs h1 ih oq
  simp only [zm,List.length_map]at hl oq ⊢
  have dZ : ∀ (i:Nat) (row:List D),sI[i]? = some row→(sI.map (D.fK os ts))[i]? = some (D.fK os ts row):=fun i row e=>by rw [List.getElem?_map,e];rfl
  have zj : ∀ (row:List D) (j:Nat) (d:D),row[j]? = some d→(D.fK os ts row)[j]? = some (D.dF os ts d):=fun row j d e=>by rw [fe,List.getElem?_map,e];rfl
  refine .slice g0 z0 sI b k cap hl (fun row hr=> ?_) (fun i row j d e1 e2=> ?_) (fun i row j d u e1 e2 eu=> ?_) (tag ok.1 oq)
  ·have:=hs (D.fK os ts row) (List.mem_map.2 ⟨row,hr,rfl⟩)
   rwa [fe,List.length_map]at this
  ·rw [hG];exact h1 i _ j _ (dZ i row e1) (zj row j d e2)
  ·rw [hG]at eu;exact ih i _ j _ u (dZ i row e1) (zj row j d e2) eu d rfl (tg (VW ok.2 e1) e2)
 | agg cells vs hl h1 _ ih=>
  intro d0 e ok
  cases d0 <;> simp only [D.dF]at e <;> first | (split at e <;> cases e;done) | skip
  all_goals try (cases e;done)
  rename_i NO
  simp only [D.agg.injEq]at e
  subst e
  simp only [D.ok]at ok
  rw [fe]at hl ih
  refine .agg NO vs (by simpa using hl) h1 (fun i d v e1 e2=>ih i _ v (by rw [List.getElem?_map,e1];rfl) e2 d rfl (tg ok e1))
 | tuple ds vs hl _ ih=>
  intro d0 e ok
  cases d0 <;> simp only [D.dF]at e <;> first | (split at e <;> cases e;done) | skip
  all_goals try (cases e;done)
  rename_i NO
  simp only [D.tuple.injEq]at e
  subst e
  simp only [D.ok]at ok
  rw [fe]at hl ih
  refine .tuple NO vs (by simpa using hl) (fun i d v e1 e2=>ih i _ v (by rw [List.getElem?_map,e1];rfl) e2 d rfl (tg ok e1))
theorem RD.dF (hG:M0.G=M.G) (yA : ∀ i,i<s0.az.length→∃ o,os[i]? = some o∧o<s.az.length∧M.loc o=M0.loc i)
 (jL : ∀ i,i<s0.aC.length→∃ t,ts[i]? = some t∧t<s.aC.length∧s.aC[t]? = s0.aC[i]? ∧M.be t=M0.be i) {d:D} {v:Value} (h:RD M0 s0 d v):RD M s (d.dF os ts) v:=by
 have tag : ∀ {g:Tag} {z len cap:Nat} {base:Option (Nat×Nat)},gW M0 s0 g z len base cap→gW M s (g.dF ts) z len base cap:=by
  intro g z len cap base h
  cases g with
  | full=>exact h
  | shared=>exact h
  | tok t y=>
   obtain⟨h1,h2⟩:=h
   obtain⟨t',e,hC,htk,hb⟩:=jL t h1
   simp only [Tag.dF,e]
   refine⟨hC,fun n hn=> ?_⟩
   rw [hb]
   exact h2 n (htk ▸ hn)
 induction h with
 | junk v=>simp only [D.dF];exact .junk v
 | int k x=>simp only [D.dF];exact .int k x
 | bool b=>simp only [D.dF];exact .bool b
 | str l=>simp only [D.dF];exact .str l
 | eM=>simp only [D.dF];exact .eM
 | ptr o off ho hk=>
  obtain⟨o',e,hC,hm⟩:=yA o ho
  simp only [D.dF,e]
  have hb:M.ob o'=M0.ob o:=congrArg Prod.snd hm
  have hm:M.mu o'=M0.mu o:=congrArg Prod.fst hm
  rw [← hm]
  exact .ptr o' off hC (by rw [hb];exact hk)
 | fZ o ho hk=>
  obtain⟨o',e,hC,hm⟩:=yA o ho
  simp only [D.dF,e]
  have hb:M.ob o'=M0.ob o:=congrArg Prod.snd hm
  have hm:M.mu o'=M0.mu o:=congrArg Prod.fst hm
  rw [← hm]
  exact .fZ o' hC (by rw [hb];exact hk)
 | ga f ds vs hl _ ih=>
  simp only [D.dF,fe]
  refine .ga f _ vs (by simpa using hl) (fun i d v e1 e2=> ?_)
  simp only [List.getElem?_map,Option.map_eq_some_iff]at e1
  obtain⟨d',e1,rfl⟩:=e1
  exact ih i d' v e1 e2
 | val v hv=>simp only [D.dF];exact .val v hv
 | fc T o v ho ht hv=>
  obtain⟨o',e,hC,hm⟩:=yA o ho
  simp only [D.dF,e]
  have h1:M.mu o'=M0.mu o:=congrArg Prod.fst hm
  have h2:M.ty o'=M0.ty o:=congrArg (fun x=>x.2.ty?) hm
  exact .fc T o' v hC (by rw [h2];exact ht) (by rw [h1];exact hv)
 | dD row off b k h1 h2 ih=>
  simp only [D.dF,fe]
  refine .dD _ off b k (fun i d e=> ?_) (fun i d u e eu=> ?_)
  ·simp only [List.getElem?_map,Option.map_eq_some_iff]at e
   obtain⟨d',e,rfl⟩:=e
   rw [← hG];exact h1 i d' e
  ·simp only [List.getElem?_map,Option.map_eq_some_iff]at e
   obtain⟨d',e,rfl⟩:=e
   rw [← hG]at eu;exact ih i d' u e eu
 | jf g z cap hc ht=>simp only [D.dF,D.r6];exact .jf _ z cap hc (tag ht)
 | na z a cap=>simp only [D.dF,D.r6,Tag.dF];exact .na z a cap
 | slice g z rows b k cap hl hs h1 h2 ht ih=>
  simp only [D.dF,zm]
  have hlen:(rows.map (D.fK os ts)).length=rows.length:=by simp
  have key:=RD.slice (M:=M) (s:=s) (g.dF ts) z (rows.map (D.fK os ts)) b k cap (by rw [hlen];exact hl) (fun row hr=>by
   obtain⟨kS,h',rfl⟩:=List.mem_map.1 hr
   rw [fe,List.length_map];exact hs kS h')
   (fun i row j d e1 e2=>by
    simp only [List.getElem?_map,Option.map_eq_some_iff]at e1
    obtain⟨kS,e1,rfl⟩:=e1
    rw [fe]at e2
    simp only [List.getElem?_map,Option.map_eq_some_iff]at e2
    obtain⟨d',e2,rfl⟩:=e2
    rw [← hG];exact h1 i kS j d' e1 e2)
   (fun i row j d u e1 e2 eu=>by
    simp only [List.getElem?_map,Option.map_eq_some_iff]at e1
    obtain⟨kS,e1,rfl⟩:=e1
    rw [fe]at e2
    simp only [List.getElem?_map,Option.map_eq_some_iff]at e2
    obtain⟨d',e2,rfl⟩:=e2
    rw [← hG]at eu;exact ih i kS j d' u e1 e2 eu)
   (by rw [hlen];exact tag ht)
  rw [hlen]at key
  exact key
 | agg cells vs hl h1 _ ih=>
  simp only [D.dF,fe]
  refine .agg _ vs (by simpa using hl) h1 (fun i d v e1 e2=> ?_)
  simp only [List.getElem?_map,Option.map_eq_some_iff]at e1
  obtain⟨d',e1,rfl⟩:=e1
  exact ih i d' v e1 e2
 | tuple ds vs hl _ ih=>
  simp only [D.dF,fe]
  refine .tuple _ vs (by simpa using hl) (fun i d v e1 e2=> ?_)
  simp only [List.getElem?_map,Option.map_eq_some_iff]at e1
  obtain⟨d',e1,rfl⟩:=e1
  exact ih i d' v e1 e2
def jA {α:Type} : List Nat→List α→List α→List α
 | [],new,l=>l++new
 | _::_,[],l=>l
 | o::os,x::xs,l=>jA os xs (l.set o x)
def jw (os:List Nat) (n k:Nat):List Nat:=os++(List.range k).map (n + ·)
theorem vi {α:Type} : ∀ (os:List Nat) (xs l:List α),os.length≤xs.length→(jA os xs l).length=l.length+(xs.length - os.length)
 | [],xs,l,_=>by simp [jA]
 | o::os,[],l,h=>by simp at h
 | o::os,x::xs,l,h=>by
  simp only [jA]
  rw [vi os xs _ (by simpa using h)]
  simp
theorem Ax {α:Type} : ∀ (os:List Nat) (xs l:List α),os.length≤xs.length→os.Nodup→(∀ o∈os,o<l.length)→
 (∀ (i:Nat) (o:Nat),os[i]? = some o→(jA os xs l)[o]? = xs[i]?)∧(∀ o,o<l.length→o∉os→(jA os xs l)[o]? = l[o]?)∧
 (∀ k,(jA os xs l)[l.length+k]? = xs[os.length+k]?)
 | [],xs,l,_,_,_=>by
  refine⟨by simp,fun o ho _=>by simp only [jA];rw [List.getElem?_append_left ho],fun k=>by simp only [jA];rw [List.getElem?_append_right (by omega)];simp⟩
 | o::os,[],l,h,_,_=>by simp at h
 | o::os,x::xs,l,h,hn,hC=>by
  simp only [List.nodup_cons]at hn
  have zT : ∀ q∈os,q<(l.set o x).length:=fun q hq=>by simpa using hC q (by simp [hq])
  obtain⟨h1,h2,h3⟩:=Ax os xs (l.set o x) (by simpa using h) hn.2 zT
  have ho:o<l.length:=hC o (by simp)
  simp only [jA]
  refine⟨fun i q e=> ?_,fun q hq I0=> ?_,fun k=> ?_⟩
  ·cases i with
   | zero=>
    simp only [List.getElem?_cons_zero,Option.some.injEq]at e
    subst e
    rw [h2 o (by simpa using ho) hn.1]
    simp [ho]
   | succ i=>simpa using h1 i q (by simpa using e)
  ·have Uu:q≠o:=fun e=>I0 (by simp [e])
   rw [h2 q (by simpa using hq) (fun h=>I0 (by simp [h])),List.getElem?_set_ne (Ne.symm Uu)]
  ·have:=h3 k
   simp only [List.length_set]at this
   rw [this]
   simp only [List.length_cons]
   rw [show os.length+1+k=(os.length+k)+1 by omega];simp
theorem zU (os:List Nat) (n k i:Nat):(jw os n k)[i]? = if i<os.length then os[i]? else if i<os.length+k then some (n+(i - os.length))else none:=by
 unfold jw
 split
 ·rename_i h;rw [List.getElem?_append_left h]
 ·rename_i h
  rw [List.getElem?_append_right (by omega)]
  split
  ·rename_i h2
   rw [List.getElem?_map,List.getElem?_range (by omega)];rfl
  ·rename_i h2
   rw [List.getElem?_eq_none]
   simp;omega
def posOf:List Nat→Nat→Option Nat
 | [],_=>none
 | x::r,o=>if x=o then some 0 else(posOf r o).map (· + 1)
theorem gX : ∀ {l:List Nat} {o i:Nat},posOf l o=some i→l[i]? = some o
 | x::r,o,i,h=>by
  simp only [posOf]at h
  split at h
  ·rename_i e;cases h;simp [e]
  ·cases hp:posOf r o with
   | none=>rw [hp]at h;cases h
   | some j=>rw [hp]at h;cases h;simpa using gX hp
theorem la : ∀ {l:List Nat} {o i:Nat},l.Nodup→l[i]? = some o→posOf l o=some i
 | x::r,o,i,hn,h=>by
  simp only [List.nodup_cons]at hn
  simp only [posOf]
  cases i with
  | zero=>simp at h;simp [h]
  | succ i=>
   simp at h
   have:x≠o:=fun e=>hn.1 (by rw [e];exact List.mem_of_getElem? h)
   rw [if_neg this,la hn.2 h];rfl
end
end Go.Abs

/-! Frame2 -/

namespace Go.Abs
theorem xN {l:List Nat} {n k:Nat} (h:l.Nodup) (hl : ∀ o∈l,o<n):(jw l n k).Nodup:=by
 unfold jw
 rw [List.nodup_append]
 refine⟨h, ?_,fun a ha b hb=> ?_⟩
 ·rw [List.nodup_iff_pairwise_ne,List.pairwise_map]
  exact List.Pairwise.imp (fun h=>by omega) (List.nodup_iff_pairwise_ne.1 List.nodup_range)
 ·obtain⟨c,hc,rfl⟩:=List.mem_map.1 hb
  have:=hl a ha
  omega
def ji (M:Map) (os ts:List Nat):Map:=⟨M.G,fun i=>M.loc (os.getD i 0),fun i=>M.be (ts.getD i 0)⟩
def vR (M M0:Map) (os ts:List Nat):Map:=
 ⟨M0.G,fun o=>match posOf os o with | some i=>M0.loc i | none=>M.loc o,fun t=>match posOf ts t with | some i=>M0.be i | none=>M.be t⟩
section
variable {P:Program} {M:Map} {s s0:St} {w:World} {os ts:List Nat}
theorem zn {l:List Nat} {i o:Nat} (h:l[i]? = some o):l.getD i 0=o:=by simp [List.getD,h]
theorem Rel.sub (r:Rel M s w) (DM:os.Nodup) (I1:ts.Nodup) (oH : ∀ o∈os,o<s.az.length)
 (ho:s0.az.length=os.length) (Q6 : ∀ (i o:Nat) (ds:List D),os[i]? = some o→s0.az[i]? = some ds→s.az[o]? = some (D.fK os ts ds)∧D.bT os.length ts.length ds=true)
 (ht:s0.aC.length=ts.length) (rY : ∀ (i t:Nat),ts[i]? = some t→s0.aC[i]? = s.aC[t]?):Rel (ji M os ts) s0 w:=by
 have nth : ∀ i,i<s0.az.length→∃ o,os[i]? = some o∧o<s.az.length:=fun i hi=>⟨os[i],List.getElem?_eq_getElem (by omega),oH _ (List.getElem_mem _)⟩
 have loc : ∀ (i:Nat) o,os[i]? = some o→(ji M os ts).loc i=M.loc o:=fun i o h=>by simp only [ji,zn h]
 have mu : ∀ (i:Nat) o,os[i]? = some o→(ji M os ts).mu i=M.mu o:=fun i o h=>congrArg Prod.fst (loc i o h)
 have be : ∀ (i:Nat) t,ts[i]? = some t→(ji M os ts).be i=M.be t:=fun i t h=>by simp only [ji,zn h]
 have Uv : ∀ t,s0.live t→∃ t',ts[t]? = some t'∧s.live t':=fun t ⟨n,hn⟩=>by
  have hC:=(List.getElem?_eq_some_iff.1 hn).1
  have e:ts[t]? = some ts[t]:=List.getElem?_eq_getElem (by omega)
  exact⟨_,e,n,by rw [← rY t _ e];exact hn⟩
 refine⟨r.comm,fun i ds e=> ?_,fun i hi off=> ?_,fun i i' hi gD e=> ?_,fun t n e=> ?_,fun t b c z i hl e hi=> ?_,fun t t' b c z c' z' h h' e e'=> ?_⟩
 ·obtain⟨o,h1,_⟩:=nth i (List.getElem?_eq_some_iff.1 e).1
  obtain⟨h2,h3⟩:=Q6 i o ds h1 e
  obtain⟨vs,T,g1,g2,g3,g4⟩:=r.obj o _ h2
  refine⟨vs,T,by rw [mu i o h1,show(ji M os ts).ob i=M.ob o from congrArg Prod.snd (loc i o h1)];exact g1,by rw [fe]at g2;simpa using g2,⟨g3.1,by rw [show(ji M os ts).ty i=M.ty o from congrArg (fun x=>x.2.ty?) (loc i o h1)];exact g3.2⟩,fun j d v e1 e2=> ?_⟩
  exact RD.E8 (M:=M) (M0:=ji M os ts) (s:=s) rfl loc ho be rY ht (g4 j (d.dF os ts) v (by rw [fe,List.getElem?_map,e1];rfl) e2) d rfl (tg h3 e1)
 ·obtain⟨o,h1,h2⟩:=nth i hi
  rw [mu i o h1];exact r.ko o h2 off
 ·obtain⟨o,h1,h2⟩:=nth i hi
  obtain⟨o',qD,vS⟩:=nth i' gD
  rw [mu i o h1,mu i' o' qD]at e
  have:=r.inj o o' h2 vS e
  subst this
  have a:=la DM h1
  have b:=la DM qD
  rw [a]at b;cases b;rfl
 ·obtain⟨t',h1,h2⟩:=Uv t ⟨n,e⟩
  rw [be t t' h1]
  exact r.tok t' n (by rw [← rY t t' h1];exact e)
 ·obtain⟨t',h1,h2⟩:=Uv t hl
  obtain⟨o,h3,h4⟩:=nth i hi
  rw [be t t' h1]at e
  rw [mu i o h3]
  exact r.eX t' b c z o h2 e h4
 ·obtain⟨q,h1,h2⟩:=Uv t h
  obtain⟨q',qD,vS⟩:=Uv t' h'
  rw [be t q h1]at e
  rw [be t' q' qD]at e'
  have:=r.fz q q' b c z c' z' h2 vS e e'
  subst this
  have a:=la I1 h1
  have b:=la I1 qD
  rw [a]at b;cases b;rfl
end
def St.back (s:St) (os ts:List Nat) (s':St):St:=
 ⟨jA os (s'.az.map (D.fK (jw os s.az.length (s'.az.length - os.length)) (jw ts s.aC.length (s'.aC.length - ts.length)))) s.az,jA ts s'.aC s.aC⟩
def D.back (s:St) (os ts:List Nat) (s':St) (d:D):D:=
 d.dF (jw os s.az.length (s'.az.length - os.length)) (jw ts s.aC.length (s'.aC.length - ts.length))
theorem dT.frame {P:Program} {f:FuncId} {Kh args:List D} {s s0:St} {Q0 Q:D→St→Prop} (os ts:List Nat) (h:dT P f Kh s0 Q0) (DM:os.Nodup) (I1:ts.Nodup) (oH : ∀ o∈os,o<s.az.length) (Nl : ∀ t∈ts,t<s.aC.length)
 (ho:s0.az.length=os.length) (Q6 : ∀ (i o:Nat) (ds:List D),os[i]? = some o→s0.az[i]? = some ds→s.az[o]? = some (D.fK os ts ds)∧D.bT os.length ts.length ds=true)
 (ht:s0.aC.length=ts.length) (rY : ∀ (i t:Nat),ts[i]? = some t→s0.aC[i]? = s.aC[t]?)
 (E9:args=D.fK os ts Kh) (nQ:D.bT os.length ts.length Kh=true) (k : ∀ d s',Q0 d s'→Q (d.back s os ts s') (s.back os ts s')):dT P f args s Q:=by
 intro M w fD r kH ep ha
 have r0:=r.sub DM I1 oH ho Q6 ht rY
 have loc : ∀ (i:Nat) o,os[i]? = some o→(ji M os ts).loc i=M.loc o:=fun i o h=>by simp only [ji,zn h]
 have mu : ∀ (i:Nat) o,os[i]? = some o→(ji M os ts).mu i=M.mu o:=fun i o h=>congrArg Prod.fst (loc i o h)
 have be : ∀ (i:Nat) t,ts[i]? = some t→(ji M os ts).be i=M.be t:=fun i t h=>by simp only [ji,zn h]
 subst E9
 have Yu:Laid (ji M os ts) s0 w:=by
  intro g cs hg
  obtain⟨h1,h2,h3⟩:=kH g cs hg
  refine⟨h1,fun o hC=> ?_,fun t c z hl hb=> ?_⟩
  ·obtain⟨o',lH⟩ : ∃ o',os[o]? = some o':=⟨_,List.getElem?_eq_getElem (by omega)⟩
   rw [mu o o' lH]
   exact h2 o' (oH o' (List.mem_of_getElem? lH))
  ·obtain⟨n,hn⟩:=hl
   have hC:=(List.getElem?_eq_some_iff.1 hn).1
   obtain⟨t',nw⟩ : ∃ t',ts[t]? = some t':=⟨_,List.getElem?_eq_getElem (by omega)⟩
   rw [be t t' nw]at hb
   exact h3 t' c z ⟨n,by rw [← rY t t' nw];exact hn⟩ hb
 have hc:=h (ji M os ts) w fD r0 Yu (by rw [ep,fe,List.length_map]) (fun i d v e1 e2=>
  RD.E8 (M:=M) (M0:=ji M os ts) (s:=s) rfl loc ho be rY ht (ha i (d.dF os ts) v (by rw [fe,List.getElem?_map,e1];rfl) e2) d rfl (tg nQ e1))
 refine hc.mono ?_
 rintro en w' ⟨ux,d,v,s',rfl,hq,e,r',hv⟩
 have Bq:=e.le.n
 have Bd:=e.le.t
 generalize Ki:jw os s.az.length (s'.az.length - os.length)=kP
 generalize Kj:jw ts s.aC.length (s'.aC.length - ts.length)=nR
 have nd:kP.Nodup:=by rw [← Ki];exact xN DM oH
 have ndt:nR.Nodup:=by rw [← Kj];exact xN I1 Nl
 have Kk : ∀ i,kP[i]? = if i<os.length then os[i]? else if i<s'.az.length then some (s.az.length+(i - os.length))else none:=fun i=>by
  rw [← Ki,zU];split
  ·rfl
  ·rw [show os.length+(s'.az.length - os.length)=s'.az.length by omega]
 have Kl : ∀ i,nR[i]? = if i<ts.length then ts[i]? else if i<s'.aC.length then some (s.aC.length+(i - ts.length))else none:=fun i=>by
  rw [← Kj,zU];split
  ·rfl
  ·rw [show ts.length+(s'.aC.length - ts.length)=s'.aC.length by omega]
 have hsb:s.back os ts s' = ⟨jA os (s'.az.map (D.fK kP nR)) s.az,jA ts s'.aC s.aC⟩:=by simp only [St.back,Ki,Kj]
 have hdb:d.back s os ts s'=d.dF kP nR:=by simp only [D.back,Ki,Kj]
 have qA:=k d s' hq
 rw [hsb,hdb]at qA
 obtain⟨p1,p2,p3⟩:=Ax os (s'.az.map (D.fK kP nR)) s.az (by simp;omega) DM oH
 obtain⟨q1,q2,q3⟩:=Ax ts s'.aC s.aC (by omega) I1 Nl
 have FU:=vi os (s'.az.map (D.fK kP nR)) s.az (by simp;omega)
 have FV:=vi ts s'.aC s.aC (by omega)
 simp only [List.length_map]at FU
 generalize DG:(⟨jA os (s'.az.map (D.fK kP nR)) s.az,jA ts s'.aC s.aC⟩:St)=s2 at qA
 have so:s2.az=jA os (s'.az.map (D.fK kP nR)) s.az:=by rw [← DG]
 have st:s2.aC=jA ts s'.aC s.aC:=by rw [← DG]
 -- the framed objects
 have fo : ∀ (i o:Nat),kP[i]? = some o→o<s2.az.length∧s2.az[o]? = (s'.az[i]?).map (D.fK kP nR)∧i<s'.az.length∧(i<os.length→o<s.az.length∧os[i]? = some o)∧(os.length≤i→s.az.length≤o):=by
  intro i o hi
  rw [Kk]at hi
  split at hi
  ·rename_i h1
   have hC:=oH o (List.mem_of_getElem? hi)
   refine⟨by rw [so,FU];omega,by rw [so,p1 i o hi,List.getElem?_map],by omega,fun _=>⟨hC,hi⟩,fun h=>by omega⟩
  ·split at hi
   ·rename_i h1 h2
    cases hi
    refine⟨by rw [so,FU];omega, ?_,h2,fun h=>by omega,fun _=>by omega⟩
    rw [so,p3,List.getElem?_map,show os.length+(i - os.length)=i by omega]
   ·cases hi
 have ft : ∀ (i t:Nat),nR[i]? = some t→t<s2.aC.length∧s2.aC[t]? = s'.aC[i]? ∧i<s'.aC.length∧(i<ts.length→t<s.aC.length∧ts[i]? = some t)∧(ts.length≤i→s.aC.length≤t):=by
  intro i t hi
  rw [Kl]at hi
  split at hi
  ·rename_i h1
   have hC:=Nl t (List.mem_of_getElem? hi)
   refine⟨by rw [st,FV];omega,by rw [st,q1 i t hi],by omega,fun _=>⟨hC,hi⟩,fun h=>by omega⟩
  ·split at hi
   ·rename_i h1 h2
    cases hi
    refine⟨by rw [st,FV];omega, ?_,h2,fun h=>by omega,fun _=>by omega⟩
    rw [st,q3,show ts.length+(i - ts.length)=i by omega]
   ·cases hi
 -- all others
 have uo : ∀ o,o<s2.az.length→posOf kP o=none→o<s.az.length∧o∉os∧s2.az[o]? = s.az[o]? :=by
  intro o hC hp
  have nS : ∀ i,kP[i]? ≠some o:=fun i hi=>by rw [la nd hi]at hp;cases hp
  have h1:o<s.az.length:=by
   rcases Nat.lt_or_ge o s.az.length with h | h
   ·exact h
   ·exfalso
    rw [so,FU]at hC
    refine nS (os.length+(o - s.az.length)) ?_
    rw [Kk,if_neg (by omega),if_pos (by omega)]
    congr 1;omega
  have h2:o∉os:=fun hm=>by
   obtain⟨i,hi⟩:=List.mem_iff_getElem?.1 hm
   have pA:=(List.getElem?_eq_some_iff.1 hi).1
   exact nS i (by rw [Kk,if_pos pA];exact hi)
  exact⟨h1,h2,by rw [so,p2 o h1 h2]⟩
 have ut : ∀ t,t<s2.aC.length→posOf nR t=none→t<s.aC.length∧t∉ts∧s2.aC[t]? = s.aC[t]? :=by
  intro t hC hp
  have nS : ∀ i,nR[i]? ≠some t:=fun i hi=>by rw [la ndt hi]at hp;cases hp
  have h1:t<s.aC.length:=by
   rcases Nat.lt_or_ge t s.aC.length with h | h
   ·exact h
   ·exfalso
    rw [st,FV]at hC
    refine nS (ts.length+(t - s.aC.length)) ?_
    rw [Kl,if_neg (by omega),if_pos (by omega)]
    congr 1;omega
  have h2:t∉ts:=fun hm=>by
   obtain⟨i,hi⟩:=List.mem_iff_getElem?.1 hm
   have pA:=(List.getElem?_eq_some_iff.1 hi).1
   exact nS i (by rw [Kl,if_pos pA];exact hi)
  exact⟨h1,h2,by rw [st,q2 t h1 h2]⟩
 generalize NQ:vR M ux kP nR=M2
 have mG:ux.G=M2.G:=by rw [← NQ];rfl
 have lo : ∀ (i o:Nat),kP[i]? = some o→M2.loc o=ux.loc i:=fun i o hi=>by rw [← NQ];simp only [vR,la nd hi]
 have Uw : ∀ o,posOf kP o=none→M2.loc o=M.loc o:=fun o hp=>by rw [← NQ];simp only [vR,hp]
 have mo : ∀ (i o:Nat),kP[i]? = some o→M2.mu o=ux.mu i:=fun i o hi=>congrArg Prod.fst (lo i o hi)
 have FW : ∀ o,posOf kP o=none→M2.mu o=M.mu o:=fun o hp=>congrArg Prod.fst (Uw o hp)
 have mt : ∀ (i t:Nat),nR[i]? = some t→M2.be t=ux.be i:=fun i t hi=>by rw [← NQ];simp only [vR,la ndt hi]
 have FX : ∀ t,posOf nR t=none→M2.be t=M.be t:=fun t hp=>by rw [← NQ];simp only [vR,hp]
 have le:Le M s M2 s2:=by
  refine⟨fun b o v hg=>by rw [← mG];exact e.le.G b o v hg,by rw [so,FU];omega,fun o hC=> ?_,by rw [st,FV];omega,fun t n' hC oI=> ?_⟩
  ·cases hp:posOf kP o with
   | none=>exact Uw o hp
   | some i=>
    have hi:=gX hp
    rw [lo i o hi]
    obtain⟨_,_,_,h1,h2⟩:=fo i o hi
    have pA:i<os.length:=by
     rcases Nat.lt_or_ge i os.length with h | h
     ·exact h
     ·have:=h2 h;omega
    rw [e.le.loc i (by omega),loc i o (h1 pA).2]
  ·cases hp:posOf nR t with
   | none=>
    obtain⟨_,_,h3⟩:=ut t (by rw [st,FV];omega) hp
    rw [h3]at oI
    exact⟨n',oI,Nat.le_refl _,fun _=>FX t hp⟩
   | some i=>
    have hi:=gX hp
    obtain⟨_,g1,_,h1,h2⟩:=ft i t hi
    have pA:i<ts.length:=by
     rcases Nat.lt_or_ge i ts.length with h | h
     ·exact h
     ·have:=h2 h;omega
    rw [g1]at oI
    obtain⟨n,h3,h4,h5⟩:=e.le.tk i n' (by omega) oI
    refine⟨n,by rw [← rY i t (h1 pA).2];exact h3,h4,fun eq=> ?_⟩
    rw [mt i t hi,h5 eq,be i t (h1 pA).2]
 have Yv : ∀ {d:D} {v:Value},RD ux s' d v→RD M2 s2 (d.dF kP nR) v:=fun hd=>RD.dF mG
  (fun i hi=>by
   obtain⟨o,ho⟩ : ∃ o,kP[i]? = some o:=by
    rw [Kk];split
    ·rename_i h1;exact⟨_,List.getElem?_eq_getElem h1⟩
    ·exact⟨_,rfl⟩
   exact⟨o,ho,(fo i o ho).1,lo i o ho⟩)
  (fun i hi=>by
   obtain⟨t,ht⟩ : ∃ t,nR[i]? = some t:=by
    rw [Kl];split
    ·rename_i h1;exact⟨_,List.getElem?_eq_getElem h1⟩
    ·exact⟨_,rfl⟩
   exact⟨t,ht,(ft i t ht).1,(ft i t ht).2.1,mt i t ht⟩) hd
 -- blocks that the callee did not know
 have Fa : ∀ i,s0.live i→∃ t,ts[i]? = some t∧s.live t:=fun i ⟨n,hn⟩=>by
  have hC:=(List.getElem?_eq_some_iff.1 hn).1
  have e1:ts[i]? = some ts[i]:=List.getElem?_eq_getElem (by omega)
  exact⟨_,e1,n,by rw [← rY i _ e1];exact hn⟩
 have Km : ∀ b,b<w.heap.size→(∀ (i o:Nat),os[i]? = some o→M.mu o≠b)→(∀ (i t:Nat) c z,ts[i]? = some t→s.live t→M.be t≠some (b,c,z))→
  w'.heap[b]? = w.heap[b]? ∧∀ off,ux.G b off=M.G b off:=by
  intro b hb h1 h2
  refine⟨e.kept b hb (fun i hi=> ?_) (fun i c z hl=> ?_),fun off=> ?_⟩
  ·have e1:os[i]? = some os[i]:=List.getElem?_eq_getElem (by omega)
   rw [mu i _ e1];exact h1 i _ e1
  ·obtain⟨t,e1,hC⟩:=Fa i hl
   rw [be i t e1];exact h2 i t c z e1 hC
  ·apply Classical.byContradiction
   intro fi
   rcases e.rX b off fi with h3 | ⟨i,c,z,hl,h3⟩
   ·omega
   ·obtain⟨t,e1,hC⟩:=Fa i hl
    rw [be i t e1]at h3
    exact h2 i t c z e1 hC h3
 have Ux : ∀ o,o<s.az.length→o∉os→w'.heap[M.mu o]? = w.heap[M.mu o]? ∧∀ off,ux.G (M.mu o) off=M.G (M.mu o) off:=fun o hC nS=>
  Km _ (r.pP hC) (fun i o' h1 h2=>nS (by rw [← r.inj o' o (oH o' (List.mem_of_getElem? h1)) hC h2];exact List.mem_of_getElem? h1))
   (fun i t c z _ hl h2=>r.eX t _ c z o hl h2 hC rfl)
 have aca : ∀ t b c z,s.live t→t∉ts→M.be t=some (b,c,z)→w'.heap[b]? = w.heap[b]? ∧∀ off,ux.G b off=M.G b off:=fun t b c z hl nS hb=>
  Km b (r.sE hl hb) (fun i o h1=>r.eX t b c z o hl hb (oH o (List.mem_of_getElem? h1)))
   (fun i t' c' z' h1 jg h2=>nS (by rw [r.fz t t' b c z c' z' hl jg hb h2];exact List.mem_of_getElem? h1))
 have lv : ∀ t,s2.live t→(∃ i,nR[i]? = some t∧s'.live i)∨(posOf nR t=none∧s.live t∧t∉ts):=by
  rintro t ⟨n,hn⟩
  cases hp:posOf nR t with
  | none=>
   obtain⟨h1,h2,h3⟩:=ut t (List.getElem?_eq_some_iff.1 hn).1 hp
   exact .inr ⟨rfl,⟨n,by rw [← h3];exact hn⟩,h2⟩
  | some i=>
   have hi:=gX hp
   exact .inl ⟨i,hi,n,by rw [← (ft i t hi).2.1];exact hn⟩
 -- where a framed object lies
 have Uy : ∀ (i o:Nat),kP[i]? = some o→(o<s.az.length∧o∈os∧ux.mu i=M.mu o)∨w.heap.size≤ux.mu i:=by
  intro i o hi
  obtain⟨_,_,h1,h2,h3⟩:=fo i o hi
  rcases Nat.lt_or_ge i os.length with h | h
  ·refine .inl ⟨(h2 h).1,List.mem_of_getElem? (h2 h).2, ?_⟩
   rw [e.le.mu i (by omega),mu i o (h2 h).2]
  ·exact .inr (e.pL i (by omega) h1)
 have Uz : ∀ (i t b c z:Nat),nR[i]? = some t→s'.live i→ux.be i=some (b,c,z)→(s.live t∧t∈ts∧∃ c' z',M.be t=some (b,c',z'))∨w.heap.size≤b:=by
  intro i t b c z hi hl hb
  rcases e.pM i b c z hl hb with ⟨h1,c',z',h2⟩ | h1
  ·obtain⟨t',e1,hC⟩:=Fa i h1
   have pA:=(List.getElem?_eq_some_iff.1 e1).1
   obtain⟨_,_,_,h3,_⟩:=ft i t hi
   have:=(h3 pA).2
   rw [e1]at this;cases this
   rw [be i _ e1]at h2
   exact .inl ⟨hC,List.mem_of_getElem? e1,c',z',h2⟩
  ·exact .inr h1
 refine⟨M2,d.dF kP nR,v,s2,rfl,qA, ?_, ?_,Yv hv⟩
 ·-- Ext
  refine⟨le,fun b hb h1 h2=> ?_,fun o h1 h2=> ?_,fun t b c z hl hb=> ?_,fun b off fi=> ?_,e.size,e.os,e.tape,e.output⟩
  ·exact(Km b hb (fun i o h3=>h1 o (oH o (List.mem_of_getElem? h3))) (fun i t c z _ hl=>h2 t c z hl)).1
  ·cases hp:posOf kP o with
   | none=>have:=(uo o h2 hp).1;omega
   | some i=>
    have hi:=gX hp
    rw [mo i o hi]
    rcases Uy i o hi with ⟨h3,_⟩ | h3
    ·omega
    ·exact h3
  ·rcases lv t hl with ⟨i,hi,jg⟩ | ⟨hp,jg,_⟩
   ·rw [mt i t hi]at hb
    rcases Uz i t b c z hi jg hb with ⟨h1,_,h2⟩ | h1
    ·exact .inl ⟨h1,h2⟩
    ·exact .inr h1
   ·rw [FX t hp]at hb
    exact .inl ⟨jg,c,z,hb⟩
  ·rw [← mG]at fi
   rcases e.rX b off fi with h1 | ⟨i,c,z,hl,hb⟩
   ·exact .inl h1
   ·obtain⟨t,e1,hC⟩:=Fa i hl
    rw [be i t e1]at hb
    exact .inr ⟨t,c,z,hC,hb⟩
 ·-- Rel
  refine⟨fun b o v hg=>r'.comm b o v (by rw [mG];exact hg),fun o ds Bs=> ?_,fun o hC off=> ?_,fun o o' hC zT heq=> ?_,fun t n hn=> ?_,fun t b c z o hl hb hC=> ?_,fun t t' b c z c' z' hl jg hb uy=> ?_⟩
  ·cases hp:posOf kP o with
   | some i=>
    have hi:=gX hp
    obtain⟨_,g1,_⟩:=fo i o hi
    rw [g1]at Bs
    obtain⟨qz,h1,rfl⟩:=Option.map_eq_some_iff.1 Bs
    obtain⟨vs,T,h2,h3,h4,h5⟩:=r'.obj i qz h1
    refine⟨vs,T,by rw [mo i o hi,show M2.ob o=ux.ob i from congrArg Prod.snd (lo i o hi)];exact h2,by rw [fe];simpa using h3,⟨h4.1,by rw [show M2.ty o=ux.ty i from congrArg (fun x=>x.2.ty?) (lo i o hi)];exact h4.2⟩,fun j d v e1 e2=> ?_⟩
    rw [fe]at e1
    simp only [List.getElem?_map,Option.map_eq_some_iff]at e1
    obtain⟨d',e1,rfl⟩:=e1
    exact Yv (h5 j d' v e1 e2)
   | none=>
    obtain⟨h1,h2,h3⟩:=uo o (List.getElem?_eq_some_iff.1 Bs).1 hp
    rw [h3]at Bs
    obtain⟨vs,T,g1,g2,g3,g4⟩:=r.obj o ds Bs
    exact⟨vs,T,by rw [FW o hp,(Ux o h1 h2).1,show M2.ob o=M.ob o from congrArg Prod.snd (Uw o hp)];exact g1,g2,⟨g3.1,by rw [show M2.ty o=M.ty o from congrArg (fun x=>x.2.ty?) (Uw o hp)];exact g3.2⟩,fun j d v e1 e2=>(g4 j d v e1 e2).mono le⟩
  ·cases hp:posOf kP o with
   | some i=>
    have hi:=gX hp
    rw [mo i o hi, ← mG];exact r'.ko i (fo i o hi).2.2.1 off
   | none=>
    obtain⟨h1,h2,h3⟩:=uo o hC hp
    rw [FW o hp, ← mG,(Ux o h1 h2).2 off];exact r.ko o h1 off
  ·cases hp:posOf kP o with
   | some i=>
    have hi:=gX hp
    rw [mo i o hi]at heq
    cases ny:posOf kP o' with
    | some i'=>
     have gD:=gX ny
     rw [mo i' o' gD]at heq
     have:=r'.inj i i' (fo i o hi).2.2.1 (fo i' o' gD).2.2.1 heq
     subst this
     rw [hi]at gD;cases gD;rfl
    | none=>
     obtain⟨h1,h2,_⟩:=uo o' zT ny
     rw [FW o' ny]at heq
     rcases Uy i o hi with ⟨h3,h4,h5⟩ | h3
     ·rw [h5]at heq
      have:=r.inj o o' h3 h1 heq
      subst this;exact(h2 h4).elim
     ·have:=r.pP h1;omega
   | none=>
    obtain⟨h1,h2,_⟩:=uo o hC hp
    rw [FW o hp]at heq
    cases ny:posOf kP o' with
    | some i'=>
     have gD:=gX ny
     rw [mo i' o' gD]at heq
     rcases Uy i' o' gD with ⟨h3,h4,h5⟩ | h3
     ·rw [h5]at heq
      have:=r.inj o o' h1 h3 heq
      subst this;exact(h2 h4).elim
     ·have:=r.pP h1;omega
    | none=>
     obtain⟨qD,_,_⟩:=uo o' zT ny
     rw [FW o' ny]at heq
     exact r.inj o o' h1 qD heq
  ·rcases lv t ⟨n,hn⟩with ⟨i,hi,hl⟩ | ⟨hp,hl,nS⟩
   ·rw [mt i t hi, ← mG]
    exact r'.tok i n (by rw [← (ft i t hi).2.1];exact hn)
   ·obtain⟨_,_,h3⟩:=ut t (List.getElem?_eq_some_iff.1 hn).1 hp
    rw [h3]at hn
    rw [FX t hp]
    rcases r.tok t n hn with h4 | ⟨b,cap,size,vs,T,g1,g2,g3,g4,g5⟩
    ·exact .inl h4
    ·obtain⟨k1,k2⟩:=aca t b cap size hl nS g1
     exact .inr ⟨b,cap,size,vs,T,g1,by rw [k1];exact g2,g3,g4,fun off ho=>by rw [← mG,k2 off];exact g5.1 off ho,g5.2⟩
  ·rcases lv t hl with ⟨i,hi,jg⟩ | ⟨hp,jg,nS⟩
   ·rw [mt i t hi]at hb
    cases FY:posOf kP o with
    | some j=>
     have hj:=gX FY
     rw [mo j o hj]
     exact r'.eX i b c z j jg hb (fo j o hj).2.2.1
    | none=>
     obtain⟨h1,h2,_⟩:=uo o hC FY
     rw [FW o FY]
     rcases Uz i t b c z hi jg hb with ⟨h3,_,c',z',h4⟩ | h3
     ·exact r.eX t b c' z' o h3 h4 h1
     ·have:=r.pP h1;omega
   ·rw [FX t hp]at hb
    cases FY:posOf kP o with
    | some j=>
     have hj:=gX FY
     rw [mo j o hj]
     rcases Uy j o hj with ⟨h3,_,h5⟩ | h3
     ·rw [h5];exact r.eX t b c z o jg hb h3
     ·have:=r.sE jg hb;omega
    | none=>
     obtain⟨h1,_,_⟩:=uo o hC FY
     rw [FW o FY];exact r.eX t b c z o jg hb h1
  ·rcases lv t hl with ⟨i,hi,xO⟩ | ⟨hp,hC,nS⟩
   ·rw [mt i t hi]at hb
    rcases lv t' jg with ⟨i',gD,Q8⟩ | ⟨ny,zT,UA⟩
    ·rw [mt i' t' gD]at uy
     have:=r'.fz i i' b c z c' z' xO Q8 hb uy
     subst this
     rw [hi]at gD;cases gD;rfl
    ·rw [FX t' ny]at uy
     rcases Uz i t b c z hi xO hb with ⟨h3,h4,c2,z2,h5⟩ | h3
     ·have:=r.fz t t' b c2 z2 c' z' h3 zT h5 uy
      subst this;exact(UA h4).elim
     ·have:=r.sE zT uy;omega
   ·rw [FX t hp]at hb
    rcases lv t' jg with ⟨i',gD,Q8⟩ | ⟨ny,zT,UA⟩
    ·rw [mt i' t' gD]at uy
     rcases Uz i' t' b c' z' gD Q8 uy with ⟨h3,h4,c2,z2,h5⟩ | h3
     ·have:=r.fz t t' b c z c2 z2 hC h3 hb h5
      subst this;exact(nS h4).elim
     ·have:=r.sE hC hb;omega
    ·rw [FX t' ny]at uy
     exact r.fz t t' b c z c' z' hC zT hb uy
end Go.Abs

/-! Walk -/

namespace Go.Abs
def Wk (d d':D):Prop:=∀ (M:Map) (s:St) (v:Value),RD M s d v→RD M s d' v
inductive lV:List D→List D→Prop where
 | nil:lV [] []
 | cons {d d':D} {l l':List D} (h:Wk d d') (t:lV l l'):lV (d::l) (d'::l')
inductive gS:List (List D)→List (List D)→Prop where
 | nil:gS [] []
 | cons {r r':List D} {l l':List (List D)} (h:lV r r') (t:gS l l'):gS (r::l) (r'::l')
theorem Wk.refl (d:D):Wk d d:=fun _ _ _ h=>h
theorem Wk.trans {a b c:D} (h:Wk a b) (k:Wk b c):Wk a c:=fun M s v r=>k M s v (h M s v r)
theorem Wk.junk (d:D):Wk d .junk:=fun _ _ v _=> .junk v
theorem lV.refl : ∀ l,lV l l
 | []=> .nil
 | d::l=> .cons (Wk.refl d) (lV.refl l)
theorem gS.refl : ∀ l,gS l l
 | []=> .nil
 | d::l=> .cons (lV.refl d) (gS.refl l)
theorem lV.len {l l':List D} (h:lV l l'):l.length=l'.length:=by
 induction h with
 | nil=>rfl
 | cons _ _ ih=>simp [ih]
theorem gS.len {l l':List (List D)} (h:gS l l'):l.length=l'.length:=by
 induction h with
 | nil=>rfl
 | cons _ _ ih=>simp [ih]
theorem lV.get {l l':List D} (h:lV l l') : ∀ {i:Nat} {d':D},l'[i]? = some d'→∃ d,l[i]? = some d∧Wk d d':=by
 induction h with
 | nil=>intro i d' e;simp at e
 | cons hd _ ih=>
  intro i d' e
  cases i with
  | zero=>simp at e;subst e;exact⟨_,rfl,hd⟩
  | succ i=>simp at e;simpa using ih e
theorem gS.get {l l':List (List D)} (h:gS l l') : ∀ {i:Nat} {d':List D},l'[i]? = some d'→∃ d,l[i]? = some d∧lV d d':=by
 induction h with
 | nil=>intro i d' e;simp at e
 | cons hd _ ih=>
  intro i d' e
  cases i with
  | zero=>simp at e;subst e;exact⟨_,rfl,hd⟩
  | succ i=>simp at e;simpa using ih e
theorem gS.append {a a' b b':List (List D)} (h:gS a a') (k:gS b b'):gS (a++b) (a'++b'):=by
 induction h with
 | nil=>exact k
 | cons hd _ ih=>exact .cons hd ih
theorem Wk.agg {l l':List D} (h:lV l l'):Wk (.agg l) (.agg l'):=by
 intro M s v r
 cases r with
 | agg _ vs hl h1 hr=>
  refine .agg _ vs (by rw [← hl,h.len]) h1 fun i d' u e e2=> ?_
  obtain⟨d,e1,hw⟩:=h.get e
  exact hw M s u (hr i d u e1 e2)
theorem Wk.tuple {l l':List D} (h:lV l l'):Wk (.tuple l) (.tuple l'):=by
 intro M s v r
 cases r with
 | tuple _ vs hl hr=>
  refine .tuple _ vs (by rw [← hl,h.len]) fun i d' u e e2=> ?_
  obtain⟨d,e1,hw⟩:=h.get e
  exact hw M s u (hr i d u e1 e2)
theorem Wk.rows {g:Tag} {z:Nat} {l l':List (List D)} (h:gS l l'):Wk (.slice g z l) (.slice g z l'):=by
 intro M s v r
 cases r with
 | jf _ _ cap hc ht=>cases h;exact .jf _ _ _ hc ht
 | na _ a cap=>cases h;exact .na _ a cap
 | slice _ _ _ b k cap hl hs h1 h2 ht=>
  rw [h.len]
  refine .slice g z l' b k cap (by rw [← h.len];exact hl) (fun row hm=> ?_) (fun i row j d e e2=> ?_) (fun i row j d u e e2 eu=> ?_) (by rw [← h.len];exact ht)
  ·obtain⟨i,hi,he⟩:=List.mem_iff_getElem.1 hm
   obtain⟨r0,g1,g2⟩:=h.get (i:=i) (by rw [List.getElem?_eq_getElem hi,he])
   rw [← g2.len];exact hs r0 (List.mem_of_getElem? g1)
  ·obtain⟨r0,g1,g2⟩:=h.get e
   obtain⟨d0,g3,_⟩:=g2.get e2
   exact h1 i r0 j d0 g1 g3
  ·obtain⟨r0,g1,g2⟩:=h.get e
   obtain⟨d0,g3,g4⟩:=g2.get e2
   exact g4 M s u (h2 i r0 j d0 u g1 g3 eu)
theorem Wk.shared (g:Tag) (z:Nat) (l:List (List D)):Wk (.slice g z l) (.slice .shared z l):=by
 intro M s v r
 cases r with
 | jf _ _ cap hc ht=>exact .jf _ _ _ hc trivial
 | na _ a cap=>exact .na _ a cap
 | slice _ _ _ b k cap hl hs h1 h2 ht=>exact .slice _ _ _ b k cap hl hs h1 h2 trivial
theorem Wk.slice {g:Tag} {z:Nat} {l l':List (List D)} (h:gS l l'):Wk (.slice g z l) (.slice .shared z l'):=(Wk.shared g z l).trans (Wk.rows h)
theorem Wk.nil (g:Tag) (z z':Nat):Wk (.slice g z []) (.slice .shared z' []):=by
 intro M s v r
 cases r with
 | jf _ _ cap hc ht=>exact .jf _ _ _ hc trivial
 | na _ a cap=>exact .na _ a cap
 | slice _ _ _ b k cap hl hs h1 h2 ht=>exact .slice _ _ [] b k cap hl (by simp) (by simp) (by simp) trivial
theorem Wk.afB (z z':Nat):Wk (.slice .full z []) (.slice .full z' []):=by
 intro M s v r
 cases r with
 | jf _ _ cap hc ht=>exact .jf _ _ _ hc ht
 | slice _ _ _ b k cap hl hs h1 h2 ht=>exact .slice _ _ [] b k cap hl (by simp) (by simp) (by simp) ht
theorem Rel.yC {M:Map} {s:St} {w:World} {az:List (List D)} (r:Rel M s w) (h:gS s.az az):Rel M ⟨az,s.aC⟩ w∧Le M s M ⟨az,s.aC⟩:=by
 have le:Le M s M ⟨az,s.aC⟩:=⟨fun _ _ _ h=>h,Nat.le_of_eq h.len,fun _ _=>rfl,Nat.le_refl _,fun t n' _ e=>⟨n',e,Nat.le_refl _,fun _=>rfl⟩⟩
 have hl:=h.len
 refine⟨⟨r.comm,fun o ds e=> ?_,fun o ho=>r.ko o (by rw [hl];exact ho),fun o o' ho lH=>r.inj o o' (by rw [hl];exact ho) (by rw [hl];exact lH),r.tok,
  fun t b c z o hv e ho=>r.eX t b c z o hv e (by rw [hl];exact ho),r.fz⟩,le⟩
 obtain⟨ds0,g1,g2⟩:=h.get e
 obtain⟨vs,T,h1,h2,h3,h4⟩:=r.obj o ds0 g1
 refine⟨vs,T,h1,by rw [h2,g2.len],h3,fun i d v e1 e2=> ?_⟩
 obtain⟨d0,k1,k2⟩:=g2.get e1
 exact(k2 _ _ _ (h4 i d0 v k1 e2)).mono le
theorem Rel.blank {M:Map} {s:St} {w:World} (r:Rel M s w) :
 Rel (M.ej s.aC.length none) {s with aC:=s.aC++ [some 0]} w∧Le M s (M.ej s.aC.length none) {s with aC:=s.aC++ [some 0]}:=by
 have gK : ∀ t,St.live {s with aC:=s.aC++ [some 0]} t→s.live t∨t=s.aC.length:=by
  rintro t ⟨k,hk⟩
  rcases Nat.lt_or_ge t s.aC.length with h | h
  ·rw [List.getElem?_append_left h]at hk;exact .inl ⟨k,hk⟩
  ·have:=(List.getElem?_eq_some_iff.1 hk).1
   simp at this;exact .inr (by omega)
 have hC : ∀ t,s.live t→t<s.aC.length:=fun t ⟨k,hk⟩=>(List.getElem?_eq_some_iff.1 hk).1
 have hold : ∀ t,t<s.aC.length→(M.ej s.aC.length none).be t=M.be t:=fun t h=>by simp [Map.ej];omega
 have dS:(M.ej s.aC.length none).be s.aC.length=none:=by simp [Map.ej]
 have le:Le M s (M.ej s.aC.length none) {s with aC:=s.aC++ [some 0]}:=
  ⟨fun _ _ _ h=>h,Nat.le_refl _,fun _ _=>rfl,by simp,fun t k h e=>by
   rw [List.getElem?_append_left h]at e
   exact⟨k,e,Nat.le_refl _,fun _=>hold t h⟩⟩
 refine⟨⟨r.comm,fun o ds e=> ?_,r.ko,r.inj,fun t k e=> ?_,fun t b' c z o hl e lH=> ?_,fun t t' b' c z c' z' h h' e e'=> ?_⟩,le⟩
 ·obtain⟨fj,T',h3,h4,h5,h6⟩:=r.obj o ds e
  exact⟨fj,T',h3,h4,h5,fun i d v e1 e2=>(h6 i d v e1 e2).mono le⟩
 ·rcases Nat.lt_or_ge t s.aC.length with h | h
  ·rw [List.getElem?_append_left h]at e
   rw [hold t h];exact r.tok t k e
  ·have:=(List.getElem?_eq_some_iff.1 e).1
   simp at this
   have:t=s.aC.length:=by omega
   subst this
   simp at e;subst e
   exact .inl ⟨dS,rfl⟩
 ·rcases gK t hl with h | h
  ·rw [hold t (hC t h)]at e;exact r.eX t b' c z o h e lH
  ·subst h;rw [dS]at e;cases e
 ·rcases gK t h with h | h <;> rcases gK t' h' with h' | h'
  ·rw [hold t (hC t h)]at e;rw [hold t' (hC t' h')]at e';exact r.fz t t' b' c z c' z' h h' e e'
  ·subst h';rw [dS]at e';cases e'
  ·subst h;rw [dS]at e;cases e
  ·omega
theorem RD.own {M:Map} {s:St} {z z':Nat} {v:Value} (h:RD M s (.slice .full z []) v):RD (M.ej s.aC.length none) {s with aC:=s.aC++ [some 0]} (.slice (.tok s.aC.length) z' []) v:=by
 have key : ∀ base:Option (Nat×Nat),gW (M.ej s.aC.length none) {s with aC:=s.aC++ [some 0]} (.tok s.aC.length) z' 0 base 0:=by
  intro base
  refine⟨by simp,fun n e=> ?_⟩
  simp at e
  subst e
  exact⟨Nat.le_refl _,fun _=> .inl ⟨by simp [Map.ej],rfl,fun h=>by cases h⟩⟩
 cases h with
 | jf _ _ cap hc ht=>subst hc;exact .jf _ _ _ rfl (key none)
 | slice _ _ _ b k cap hl hs h1 h2 ht=>
  have:cap=0:=ht
  subst this
  exact .slice _ _ [] b k 0 (Nat.le_refl _) (by simp) (by simp) (by simp) (key _)
section
variable {P:Program} {B:eU} {nt:Nat} {Q:Exit→Tm→St→Prop} {tm:Tm} {s:St}
theorem yD {M0 M:Map} {s0 s:St} {w0 w:World} (e:Ext M0 s0 w0 M s w) (le:Le M s (M.ej s.aC.length none) {s with aC:=s.aC++ [some 0]}) :
 Ext M0 s0 w0 (M.ej s.aC.length none) {s with aC:=s.aC++ [some 0]} w:=by
 refine e.trans ⟨le,fun _ _ _ _=>rfl,fun o h1 h2=>absurd h2 (Nat.not_lt.2 h1),fun t b c z hl eq=> ?_,fun _ _ h=>(h rfl).elim,Nat.le_refl _,rfl,rfl,rfl⟩
 obtain⟨k,hk⟩:=hl
 rcases Nat.lt_or_ge t s.aC.length with h | h
 ·refine .inl ⟨⟨k,by rw [List.getElem?_append_left h]at hk;exact hk⟩,c,z, ?_⟩
  have:(M.ej s.aC.length none).be t=M.be t:=by simp [Map.ej];omega
  rw [← this];exact eq
 ·have:=(List.getElem?_eq_some_iff.1 hk).1
  simp at this
  have:t=s.aC.length:=by omega
  subst this
  simp [Map.ej]at eq
theorem Sem.pf {ac:AC} (t z':Nat) {z:Nat} (hw:tm.get t = .slice .full z []) (h:Sem P B nt ac Q (tm.set t (.slice (.tok s.aC.length) z' [])) {s with aC:=s.aC++ [some 0]}):Sem P B nt ac Q tm s:=by
 intro c hc act w ⟨M,e,r,ht,h1,h2⟩
 obtain⟨r',le⟩:=r.blank
 refine h c hc act w ⟨_,yD e le,r',fun k=> ?_,h1,h2⟩
 rw [Tm.zk]
 split
 ·rename_i hk;subst hk;have:=ht k;rw [hw]at this;exact this.own
 ·exact(ht k).mono le
end
def aD (P:Program) (f:Nat) (args:List D) (s:St) (d:D) (s':St):Prop:=dT P f args s fun x y=>x=d∧y=s'
def hZ (n m:Nat) (res:List (Nat×Option (Bool×Nat))) (d:D) (s':St):Exit→Tm→St→Prop
 | .normal,tm,s | .ret,tm,s=>∃ l,aA res tm s=some l∧Wk ((aB l).fg n m) d∧gS (s.cut n m).az s'.az∧(s.cut n m).aC=s'.aC
 | _,_,_=>False
theorem dT.yC {P:Program} {f:FuncId} {args nz:List D} {s:St} {Q:D→St→Prop} (ha:lV args nz) (h:dT P f nz s Q):dT P f args s Q:=
 fun M w fD r kH hl hr=>h M w fD r kH (by rw [hl,ha.len]) fun i d v e1 e2=>by
  obtain⟨d0,g1,g2⟩:=ha.get e1
  exact g2 _ _ _ (hr i d0 v g1 e2)
theorem dT.UB {P:Program} {f:FuncId} {args:List D} {s:St} {Q Q':D→St→Prop} (h:dT P f args s Q) (hq : ∀ d s1,Q d s1→∃ d' s',Wk d d'∧gS s1.az s'.az∧s1.aC=s'.aC∧Q' d' s'):dT P f args s Q':=
 fun M w fD r kH hl ha=>(h M w fD r kH hl ha).mono fun _ _ ⟨M',d,v,s1,h1,h2,h3,h4,h5⟩=>by
  obtain⟨d',s',g1,g2,g3,g4⟩:=hq d s1 h2
  obtain⟨r',le⟩:=h4.yC g2
  have hs:(⟨s'.az,s1.aC⟩:St)=s':=by rw [g3]
  rw [hs]at r' le
  refine⟨M',d',v,s',h1,g4,h3.trans ⟨le,fun _ _ _ _=>rfl,fun o h1 h2=> ?_,fun t b c z hl e=> .inl ⟨by obtain⟨n,hn⟩:=hl;exact⟨n,by rw [g3];exact hn⟩,c,z,e⟩,fun _ _ h=>(h rfl).elim,Nat.le_refl _,rfl,rfl,rfl⟩,r',(g1 _ _ _ h5).mono le⟩
  rw [← g2.len]at h2
  exact absurd h2 (Nat.not_lt.2 h1)
theorem aD.intro {P:Program} {f:FuncId} {af:AF} {args:List D} {s:St} {d:D} {s':St} (h0 : ∃ fn,P.funcs[f]? = some fn∧cF P fn=some af) (hl:args.length≤af.ntmps)
 (h : ∀ B:eU,B.s=s→Sem P B af.ntmps af.body (hZ s.az.length s.aC.length af.results d s') (nu 0 args) s):aD P f args s d s':=by
 obtain⟨fn,hf,hc⟩:=h0
 refine dT.UB (dT.intro (Q:=fun d1 s1=>Wk d1 d∧gS s1.az s'.az∧s1.aC=s'.aC) hf hc hl fun B hB=>(h B hB).mono fun e tm s1 hr=> ?_) fun d1 s1 ⟨h1,h2,h3⟩=>⟨d,s',h1,h2,h3,rfl,rfl⟩
 subst hB
 cases e with
 | normal=>obtain⟨l,h1,h2,h3,h4⟩:=hr;exact⟨l,h1,_,_,Nat.le_refl _,Nat.le_refl _,h2,h3,h4⟩
 | ret=>obtain⟨l,h1,h2,h3,h4⟩:=hr;exact⟨l,h1,_,_,Nat.le_refl _,Nat.le_refl _,h2,h3,h4⟩
 | exit id=>exact hr.elim
 | goto l=>exact hr.elim
 | panic ch=>exact hr.elim
 | outgrown=>exact hr.elim
theorem aD.use {P:Program} {f:FuncId} {args:List D} {s:St} {d:D} {s':St} {Q:D→St→Prop} (h:aD P f args s d s') (hq:Q d s'):dT P f args s Q:=
 dT.mono h fun x y ⟨h1,h2⟩=>by subst h1;subst h2;exact hq
mutual
theorem qM (os ts:List Nat) : ∀ d,D.ok 0 0 d=true→D.dF os ts d=d
 | .junk,_=>by simp [D.dF]
 | .int k n,_=>by simp [D.dF]
 | .bool b,_=>by simp [D.dF]
 | .str l,_=>by simp [D.dF]
 | .eM,_=>by simp [D.dF]
 | .val v,_=>by simp [D.dF]
 | .fc T o,h=>by simp [D.ok]at h
 | .fZ o,h=>by simp [D.ok]at h
 | .ga f cs,h=>by
  simp only [D.ok]at h
  simp only [D.dF,eR os ts cs h]
 | .ptr o f,h=>by simp [D.ok]at h
 | .dD r f,h=>by
  simp only [D.ok]at h
  simp only [D.dF,eR os ts r h]
 | .slice g z rows,h=>by
  simp only [D.ok,Bool.and_eq_true]at h
  simp only [D.dF,iF os ts rows h.2]
  cases g with
  | tok t y=>simp [Tag.ok]at h
  | full=>rfl
  | shared=>rfl
 | .agg cs,h=>by
  simp only [D.ok]at h
  simp only [D.dF,eR os ts cs h]
 | .tuple cs,h=>by
  simp only [D.ok]at h
  simp only [D.dF,eR os ts cs h]
theorem eR (os ts:List Nat) : ∀ l,D.bT 0 0 l=true→D.fK os ts l=l
 | [],_=>by simp [D.fK]
 | d::r,h=>by
  simp only [D.bT,Bool.and_eq_true]at h
  simp only [D.fK,qM os ts d h.1,eR os ts r h.2]
theorem iF (os ts:List Nat) : ∀ l,D.ja 0 0 l=true→D.r6 os ts l=l
 | [],_=>by simp [D.r6]
 | d::r,h=>by
  simp only [D.ja,Bool.and_eq_true]at h
  simp only [D.r6,eR os ts d h.1,iF os ts r h.2]
end
mutual
theorem CK {n m n' m':Nat} (hn:n≤n') (hm:m≤m') : ∀ d,D.ok n m d=true→D.ok n' m' d=true
 | .junk,_=>rfl
 | .int k n,_=>rfl
 | .bool b,_=>rfl
 | .str l,_=>rfl
 | .eM,_=>rfl
 | .val v,_=>rfl
 | .fc T o,h=>by simp [D.ok]at h ⊢;omega
 | .fZ o,h=>by simp [D.ok]at h ⊢;omega
 | .ga f cs,h=>by
  simp only [D.ok]at h ⊢
  exact gG hn hm cs h
 | .ptr o f,h=>by simp only [D.ok,decide_eq_true_eq]at h ⊢;omega
 | .dD r f,h=>by
  simp only [D.ok]at h ⊢
  exact gG hn hm r h
 | .slice g z rows,h=>by
  simp only [D.ok,Bool.and_eq_true]at h ⊢
  refine⟨?_,mB hn hm rows h.2⟩
  cases g with
  | tok t y=>simp only [Tag.ok,decide_eq_true_eq]at h ⊢;omega
  | full=>rfl
  | shared=>rfl
 | .agg cs,h=>by
  simp only [D.ok]at h ⊢
  exact gG hn hm cs h
 | .tuple cs,h=>by
  simp only [D.ok]at h ⊢
  exact gG hn hm cs h
theorem gG {n m n' m':Nat} (hn:n≤n') (hm:m≤m') : ∀ l,D.bT n m l=true→D.bT n' m' l=true
 | [],_=>rfl
 | d::r,h=>by
  simp only [D.bT,Bool.and_eq_true]at h ⊢
  exact⟨CK hn hm d h.1,gG hn hm r h.2⟩
theorem mB {n m n' m':Nat} (hn:n≤n') (hm:m≤m') : ∀ l,D.ja n m l=true→D.ja n' m' l=true
 | [],_=>rfl
 | d::r,h=>by
  simp only [D.ja,Bool.and_eq_true]at h ⊢
  exact⟨gG hn hm d h.1,mB hn hm r h.2⟩
end
def S0:St:=⟨[],[]⟩
section
variable {P:Program} {f:Nat}
theorem aD.pure {args:List D} {d:D} (h:aD P f args S0 d S0) (ha:D.bT 0 0 args=true) (hd:D.ok 0 0 d=true) (s:St):aD P f args s d s:=by
 refine dT.frame [] [] h List.nodup_nil List.nodup_nil (by simp) (by simp) rfl (by simp) rfl (by simp) (by rw [eR _ _ _ ha]) ha ?_
 rintro _ _ ⟨rfl,rfl⟩
 refine⟨qM _ _ _ hd, ?_⟩
 simp [St.back,jA,S0]
theorem aD.jB {args row kS:List D} {d:D} (h:aD P f (.ptr 0 0::args) ⟨[row],[]⟩ d ⟨[kS],[]⟩) (ha:D.bT 0 0 args=true) (hr:D.bT 0 0 row=true) (ur:D.bT 0 0 kS=true) (hd:D.ok 0 0 d=true)
 {s:St} {o:Nat} (ho:s.az[o]? = some row):aD P f (.ptr o 0::args) s d ⟨s.az.set o kS,s.aC⟩:=by
 refine dT.frame [o] [] h (by simp) List.nodup_nil (by simpa using (List.getElem?_eq_some_iff.1 ho).1) (by simp) rfl (fun i o' ds e1 e2=> ?_) rfl (by simp) (by simp [D.fK,D.dF,eR _ _ _ ha])
  (by simp [D.bT,D.ok,gG (Nat.zero_le 1) (Nat.le_refl 0) _ ha]) ?_
 ·cases i with
  | zero=>simp at e1 e2;subst e1;subst e2;exact⟨by rw [eR _ _ _ hr];exact ho,gG (Nat.zero_le 1) (Nat.le_refl 0) _ hr⟩
  | succ i=>simp at e1
 ·rintro _ _ ⟨rfl,rfl⟩
  refine⟨qM _ _ _ hd, ?_⟩
  simp [St.back,jA,eR _ _ _ ur]
end
end Go.Abs
