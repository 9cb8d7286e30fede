/-
  What is proved here: part 0 of the road to the claim (Globs, Abs, Lang, Rel, Sound, Sound2, Sound3, Sound4, Sound5, Sound6, Sound7, SoundM, RelA, SoundA, Sound8, Code, Flow, Call).
  No conditions.
-/
import GoSem.Core.Value
import Derived.Orders
import Derived.Calls
import Derived.Below
import Derived.Laws.AppendOwn
import Derived.Deep.AppendSrc
import Derived.Laws.StructEq
import Derived.Laws.Slices
import Derived.Laws.Strings
import Derived.Laws.IdiomStrings
import Derived.Laws.BytesString
import Derived.MapKept
import Derived.Laws.MakeOwn
import Derived.Scope

set_option linter.unusedSimpArgs false
set_option linter.unusedVariables false
namespace Go.Abs
def afl:Nat→Option (Array Value):=fun _=>none
def qW:TypeId:=1000000
inductive Tag where
 |full
 |shared
 |tok (t:Nat) (byte:Bool:=false) -- 'byte': its row's block bears the bytes' type
inductive D where
 |junk
 |int (k:IntKind) (n:Int)
 |bool (b:Bool)
 |str (s:List UInt8)
 |eY
 |ptr (o off:Nat)
 |dS (row:List D) (off:Nat)
 |slice (g:Tag) (size:Nat) (rows:List (List D))
 |agg (cells:List D)
 |tuple (vs:List D)
 |val (v:Value)
 |gf (T:TypeId) (o:Nat)
 |ix (f:Nat) (pB:List D) -- a function value with what it captured
 |gT (o:Nat) -- a map, kept as an object: keys and values by turns
 |dK (z o g len:Nat) -- a slice from an array's beginning: the object, its generation
 |gh (o g off:Nat) -- a pointer into an array
 |fk (z:Nat) -- an empty slice without room: what is laid behind it becomes an array
instance:Inhabited D:=⟨.junk⟩
inductive Ob where
 |any
 |ty (T:TypeId)
 |map
 |arr (z:Nat) (A:Nat→Option (Nat×Nat))
def Ob.plain:Ob→Prop
 | .any=>True
 | .ty _=>True
 |_=>False
inductive wP:Nat×Ob→Nat×Ob→Prop where
 |refl (x:Nat×Ob):wP x x
 |arr (b b' z:Nat) (A A':Nat→Option (Nat×Nat)) (h : ∀ g x,A g=some x→A' g=some x):wP (b, .arr z A) (b', .arr z A')
theorem wP.trans {x y z:Nat×Ob} (h:wP x y) (k:wP y z):wP x z:=by
 cases h with
 |refl=>exact k
 |arr b b' z A A' h=>
  cases k with
  |refl=>exact .arr b b' z A A' h
  |arr _ b'' _ _ A'' h'=>exact .arr b b'' z A A'' fun g x e=>h' g x (h g x e)
structure Map where
 G:Nat→Nat→Option Value
 loc:Nat→Nat×Ob
 be:Nat→Option (Nat×Nat×Nat)
def Map.mu (M:Map) (o:Nat):Nat:=(M.loc o).1
def Ob.ty? : Ob→Option TypeId
 | .ty T=>some T
 |_=>none
def Map.ob (M:Map) (o:Nat):Ob:=(M.loc o).2
def Map.ty (M:Map) (o:Nat):Option TypeId:=(M.loc o).2.ty?
structure St where
 al:List (List D)
 aA:List (Option Nat)
def zs (z:Nat):Nat:=if z=0 then 1 else z
def bz (byte:Bool) (size:Nat):Nat:=match byte with|true=>0|false=>size
def jN (M:Map) (s:St) (g:Tag) (size len:Nat) (base:Option (Nat×Nat)) (cap:Nat):Prop:=
 match g with
 | .full=>cap=len
 | .shared=>True
 | .tok t y=>t<s.aA.length∧∀ n,s.aA[t]? = some (some n)→len≤n∧
  (len=n→(M.be t=none∧cap=0∧(y=true→base=none))∨∃ b,base=some (b,0)∧M.be t=some (b,cap,bz y size))
inductive RD (M:Map) (s:St):D→Value→Prop where
 |junk (v:Value):RD M s .junk v
 |int (k:IntKind) (n:Int):RD M s (.int k n) (.int k n)
 |bool (b:Bool):RD M s (.bool b) (.bool b)
 |str (l:List UInt8):RD M s (.str l) (.string ⟨⟨l⟩⟩)
 |eY:RD M s .eY (.pointer none)
 |ptr (o off:Nat) (h:o<s.al.length) (hm:(M.ob o).plain):RD M s (.ptr o off) (.pointer (some ⟨M.mu o,off,none⟩))
 |dS (row:List D) (off b k:Nat) (h1 : ∀ (i:Nat) (d:D),row[i]? = some d→∃ u,M.G b (k+i)=some u)
  (h2 : ∀ (i:Nat) (d:D) (u:Value),row[i]? = some d→M.G b (k+i)=some u→RD M s d u) :
  RD M s (.dS row off) (.pointer (some ⟨b,k+off,none⟩))
 |jI (g:Tag) (size cap:Nat) (hc:cap=0) (ht:jN M s g size 0 none cap):RD M s (.slice g size []) (.slice none 0 cap)
 |mS (size:Nat) (a:Addr) (cap:Nat):RD M s (.slice .shared size []) (.slice (some a) 0 cap)
 |slice (g:Tag) (size:Nat) (rows:List (List D)) (b k cap:Nat) (hl:rows.length≤cap)
  (hs : ∀ row∈rows,row.length=size)
  (h1 : ∀ (i:Nat) (row:List D) (j:Nat) (d:D),rows[i]? = some row→row[j]? = some d→∃ u,M.G b (k+(i*size+j))=some u)
  (h2 : ∀ (i:Nat) (row:List D) (j:Nat) (d:D) (u:Value),rows[i]? = some row→row[j]? = some d→M.G b (k+(i*size+j))=some u→RD M s d u)
  (ht:jN M s g size rows.length (some (b,k)) cap) :
  RD M s (.slice g size rows) (.slice (some ⟨b,k,none⟩) rows.length cap)
 |agg (cells:List D) (vs:Array Value) (hl:cells.length=vs.size) (h1 : ∀ v∈vs,v.oneCell'=true)
  (h : ∀ (i:Nat) (d:D) (v:Value),cells[i]? = some d→vs[i]? = some v→RD M s d v):RD M s (.agg cells) (.agg vs)
 |tuple (ds:List D) (vs:Array Value) (hl:ds.length=vs.size)
  (h : ∀ (i:Nat) (d:D) (v:Value),ds[i]? = some d→vs[i]? = some v→RD M s d v):RD M s (.tuple ds) (.tuple vs)
 |val (v:Value) (h:v.oneCell'=true):RD M s (.val v) v
 |gf (T:TypeId) (o:Nat) (v:Value) (h:o<s.al.length) (ht:M.ty o=some T) (hv:v = .pointer none∨v = .pointer (some ⟨M.mu o,0,none⟩)):RD M s (.gf T o) v
 |ix (f:Nat) (ds:List D) (vs:Array Value) (hl:ds.length=vs.size)
  (h : ∀ (i:Nat) (d:D) (v:Value),ds[i]? = some d→vs[i]? = some v→RD M s d v):RD M s (.ix f ds) (.func (.func f) #[] vs)
 |gT (o:Nat) (h:o<s.al.length) (hm:M.ob o = .map):RD M s (.gT o) (.map (some (M.mu o)))
 |dK (z o g len b cap:Nat) (A:Nat→Option (Nat×Nat)) (h:o<s.al.length) (hm:M.ob o = .arr z A) (ha:A g=some (b,cap)) (hl:len≤cap):RD M s (.dK z o g len) (.slice (some ⟨b,0,none⟩) len cap)
 |gh (z o g off b cap:Nat) (A:Nat→Option (Nat×Nat)) (h:o<s.al.length) (hm:M.ob o = .arr z A) (ha:A g=some (b,cap)):RD M s (.gh o g off) (.pointer (some ⟨b,off,none⟩))
 |fk (z:Nat) (a:Option Addr):RD M s (.fk z) (.slice a 0 0)
structure Le (M:Map) (s:St) (M':Map) (s':St):Prop where
 G : ∀ b o v,M.G b o=some v→M'.G b o=some v
 n:s.al.length≤s'.al.length
 loc : ∀ o,o<s.al.length→wP (M.loc o) (M'.loc o)
 t:s.aA.length≤s'.aA.length
 tk : ∀ t n',t<s.aA.length→s'.aA[t]? = some (some n')→∃ n,s.aA[t]? = some (some n)∧n≤n'∧(n'=n→M'.be t=M.be t)
theorem Le.same {M:Map} {s:St} {M':Map} {s':St} (h:Le M s M' s') {o:Nat} (ho:o<s.al.length) (hk : ∀ z A,M.ob o≠ .arr z A):M'.loc o=M.loc o:=by
 have:=h.loc o ho
 have wD : ∀ z A,(M.loc o).2≠ .arr z A:=hk
 generalize M.loc o=x at *
 generalize M'.loc o=y at *
 cases this with
 |refl=>rfl
 |arr b b' z A A' h=>exact(wD z A rfl).elim
theorem Ob.JQ {x:Ob} (h:x.plain) : ∀ z A,x≠ .arr z A:=fun z A e=>by subst e;exact h
theorem Le.mu {M:Map} {s:St} {M':Map} {s':St} (h:Le M s M' s') {o:Nat} (ho:o<s.al.length) (hk : ∀ z A,M.ob o≠ .arr z A):M'.mu o=M.mu o:=congrArg Prod.fst (h.same ho hk)
theorem Le.ob {M:Map} {s:St} {M':Map} {s':St} (h:Le M s M' s') {o:Nat} (ho:o<s.al.length) (hk : ∀ z A,M.ob o≠ .arr z A):M'.ob o=M.ob o:=congrArg Prod.snd (h.same ho hk)
theorem wP.ty {x y:Nat×Ob} (h:wP x y):y.2.ty? = x.2.ty? :=by cases h<;>rfl
theorem Le.ty {M:Map} {s:St} {M':Map} {s':St} (h:Le M s M' s') : ∀ o,o<s.al.length→M'.ty o=M.ty o:=fun o ho=>(h.loc o ho).ty
theorem Le.arr {M:Map} {s:St} {M':Map} {s':St} (h:Le M s M' s') {o z:Nat} {A:Nat→Option (Nat×Nat)} (ho:o<s.al.length) (hm:M.ob o = .arr z A) : ∃ A',M'.ob o = .arr z A'∧∀ g x,A g=some x→A' g=some x:=by
 have:=h.loc o ho
 have xe:(M.loc o).2 = .arr z A:=hm
 show ∃ A',(M'.loc o).2=_∧_
 generalize M.loc o=x at *
 generalize M'.loc o=y at *
 cases this with
 |refl=>exact⟨A,xe,fun _ _ h=>h⟩
 |arr b b' z A A' h=>cases xe;exact⟨A',rfl,h⟩
theorem Le.refl (M:Map) (s:St):Le M s M s:=⟨fun _ _ _ h=>h,Nat.le_refl _,fun _ _=> .refl _,Nat.le_refl _,fun _ n _ h=>⟨n,h,Nat.le_refl _,fun _=>rfl⟩⟩
theorem Le.trans {M M' PB:Map} {s s' Uq:St} (h:Le M s M' s') (k:Le M' s' PB Uq):Le M s PB Uq:=
 ⟨fun b o v e=>k.G b o v (h.G b o v e),Nat.le_trans h.n k.n,fun o ho=>(h.loc o ho).trans (k.loc o (Nat.lt_of_lt_of_le ho h.n)),Nat.le_trans h.t k.t,
  fun t n'' ht e=>by
   obtain⟨n',e',l,b⟩:=k.tk t n'' (Nat.lt_of_lt_of_le ht h.t) e
   obtain⟨n,PC,l',b'⟩:=h.tk t n' ht e'
   refine⟨n,PC,Nat.le_trans l' l,fun eq=>?_⟩
   have h1:n'=n:=by omega
   have h2:n''=n':=by omega
   rw[b h2,b' h1]⟩
theorem jN.mono {M M':Map} {s s':St} (h:Le M s M' s') {g:Tag} {size len cap:Nat} {base:Option (Nat×Nat)} (ht:jN M s g size len base cap) :
 jN M' s' g size len base cap:=by
 cases g with
 |full=>exact ht
 |shared=>trivial
 |tok t y=>
  obtain⟨hD,ht⟩:=ht
  refine⟨Nat.lt_of_lt_of_le hD h.t,fun n' e'=>?_⟩
  obtain⟨n,e,l,b⟩:=h.tk t n' hD e'
  obtain⟨l',b'⟩:=ht n e
  refine⟨Nat.le_trans l' l,fun eq=>?_⟩
  have h1:n'=n:=by omega
  have h2:len=n:=by omega
  rw[b h1]
  exact b' h2
theorem RD.mono {M M':Map} {s s':St} (h:Le M s M' s') {d:D} {v:Value} (r:RD M s d v):RD M' s' d v:=by
 induction r with
 |junk v=>exact .junk v
 |int k n=>exact .int k n
 |bool b=>exact .bool b
 |str l=>exact .str l
 |eY=>exact .eY
 |ptr o off ho hm=>rw[← h.mu ho (Ob.JQ hm)];exact .ptr o off (Nat.lt_of_lt_of_le ho h.n) (by rw[h.ob ho (Ob.JQ hm)];exact hm)
 | dS row off b k h1 h2 ih=>
  refine .dS row off b k (fun i d e=>?_) (fun i d u e eu=>?_)
  ·obtain⟨u,hu⟩:=h1 i d e;exact⟨u,h.G _ _ _ hu⟩
  ·obtain⟨u',hu⟩:=h1 i d e
   have:=h.G _ _ _ hu
   rw[eu]at this
   cases this
   exact ih i d u e hu
 |jI g size cap hc ht=>exact .jI g size cap hc (ht.mono h)
 |mS size a cap=>exact .mS size a cap
 | slice g size rows b k cap hl hs h1 h2 ht ih=>
  refine .slice g size rows b k cap hl hs (fun i row j d e e2=>?_) (fun i row j d u e e2 eu=>?_) (ht.mono h)
  ·obtain⟨u,hu⟩:=h1 i row j d e e2;exact⟨u,h.G _ _ _ hu⟩
  ·obtain⟨u',hu⟩:=h1 i row j d e e2
   have:=h.G _ _ _ hu
   rw[eu]at this
   cases this
   exact ih i row j d u e e2 hu
 |agg cells vs hl h1 _ ih=>exact .agg cells vs hl h1 ih
 |tuple ds vs hl _ ih=>exact .tuple ds vs hl ih
 |val v hv=>exact .val v hv
 |gf T o v ho ht hv=>exact .gf T o v (Nat.lt_of_lt_of_le ho h.n) (by rw[h.ty o ho];exact ht) (by rw[h.mu ho (fun z A e=>by rw[Map.ty,show(M.loc o).2=_ from e]at ht;cases ht)];exact hv)
 |ix f ds vs hl _ ih=>exact .ix f ds vs hl ih
 |gT o ho hm=>
  have hk : ∀ z A,M.ob o≠ .arr z A:=fun z A e=>by rw[hm]at e;cases e
  rw[← h.mu ho hk];exact .gT o (Nat.lt_of_lt_of_le ho h.n) (by rw[h.ob ho hk];exact hm)
 |dK z o g len b cap A ho hm ha hl=>
  obtain⟨A',h1,h2⟩:=h.arr ho hm
  exact .dK z o g len b cap A' (Nat.lt_of_lt_of_le ho h.n) h1 (h2 g _ ha) hl
 |gh z o g off b cap A ho hm ha=>
  obtain⟨A',h1,h2⟩:=h.arr ho hm
  exact .gh z o g off b cap A' (Nat.lt_of_lt_of_le ho h.n) h1 (h2 g _ ha)
 |fk z a=>exact .fk z a
def St.live (s:St) (t:Nat):Prop:=∃ n,s.aA[t]? = some (some n)
def iS:List MapEntry→List Value
 | []=> []
 |e::l=>e.key::e.val::iS l
def jz (hp:Array Obj) (l:Nat×Ob) (vs:Array Value) (T:TypeId):Prop:=
 match l.2 with
 | .map=>∃ es ck,hp[l.1]? = some (.map es ck)∧vs.toList=iS es.toList
 | .arr z A=>∃ (us:Array Value) (g n cap:Nat),hp[l.1]? = some (.cells us T (0,0))∧A g=some (l.1,cap)∧(∀ g',g<g'→A g'=none)∧us.size=cap*z∧n≤us.size∧
  vs.toList = .int .i64 g::us.toList.take n∧∀ u∈us,u.oneCell'=true
 |_=>hp[l.1]? = some (.cells vs T (0,0))
theorem jz.cells {hp:Array Obj} {l:Nat×Ob} {vs:Array Value} {T:TypeId} (h:jz hp l vs T) (hk:l.2.plain):hp[l.1]? = some (.cells vs T (0,0)):=by
 obtain⟨b,k⟩:=l
 cases k with
 |map=>exact hk.elim
 |arr _ _=>exact hk.elim
 |any=>exact h
 |ty _=>exact h
theorem jz.of {hp:Array Obj} {l:Nat×Ob} {vs:Array Value} {T:TypeId} (h:hp[l.1]? = some (.cells vs T (0,0))) (hk:l.2.plain):jz hp l vs T:=by
 obtain⟨b,k⟩:=l
 cases k with
 |map=>exact hk.elim
 |arr _ _=>exact hk.elim
 |any=>exact h
 |ty _=>exact h
theorem jz.QO {hp:Array Obj} {l:Nat×Ob} {vs:Array Value} {T:TypeId} (h:jz hp l vs T) (hk:l.2 = .map) : ∃ es ck,hp[l.1]? = some (.map es ck)∧vs.toList=iS es.toList:=by
 unfold jz at h
 rw[hk]at h
 exact h
theorem jz.ofMap {hp:Array Obj} {l:Nat×Ob} {vs:Array Value} {T:TypeId} (hk:l.2 = .map) (h : ∃ es ck,hp[l.1]? = some (.map es ck)∧vs.toList=iS es.toList):jz hp l vs T:=by
 unfold jz
 rw[hk]
 exact h
theorem jz.some {hp:Array Obj} {l:Nat×Ob} {vs:Array Value} {T:TypeId} (h:jz hp l vs T) : ∃ o,hp[l.1]? = some o:=by
 obtain⟨b,k⟩:=l
 cases k with
 |map=>obtain⟨es,ck,h,_⟩:=h;exact⟨_,h⟩
 |arr _ _=>obtain⟨us,g,n,cap,h,_⟩:=h;exact⟨_,h⟩
 |any=>exact⟨_,h⟩
 |ty _=>exact⟨_,h⟩
theorem jz.lt {hp:Array Obj} {l:Nat×Ob} {vs:Array Value} {T:TypeId} (h:jz hp l vs T):l.1<hp.size:=by
 obtain⟨o,h⟩:=h.some
 exact(Array.getElem?_eq_some_iff.1 h).1
theorem jz.keep {hp oy:Array Obj} {l:Nat×Ob} {vs:Array Value} {T:TypeId} (h:jz hp l vs T) (e:oy[l.1]? = hp[l.1]?):jz oy l vs T:=by
 unfold jz at h ⊢
 rw[e];exact h
structure Rel (M:Map) (s:St) (w:World):Prop where
 comm : ∀ b o v,M.G b o=some v→w.cell? ⟨b,o,none⟩=some v∧v.oneCell'=true
 obj : ∀ (o:Nat) (ds:List D),s.al[o]? = some ds→∃ (vs:Array Value) (T:TypeId),jz w.heap (M.loc o) vs T∧vs.size=ds.length∧
  ((∀ v∈vs,v.oneCell'=true)∧∀ T',M.ty o=some T'→T'=T)∧∀ (i:Nat) (d:D) (v:Value),ds[i]? = some d→vs[i]? = some v→RD M s d v
 kl : ∀ o,o<s.al.length→∀ off,M.G (M.mu o) off=none
 inj : ∀ o o',o<s.al.length→o'<s.al.length→M.mu o=M.mu o'→o=o'
 tok : ∀ t n,s.aA[t]? = some (some n)→(M.be t=none∧n=0)∨∃ (b cap z:Nat) (vs:Array Value) (T:TypeId),M.be t=some (b,cap,z)∧
  w.heap[b]? = some (.cells vs T (0,0))∧vs.size=cap*zs z∧n≤cap∧(∀ off,n*zs z≤off→M.G b off=none)∧(z=0→T=qW)
 fO : ∀ t b c z o,s.live t→M.be t=some (b,c,z)→o<s.al.length→M.mu o≠b
 gR : ∀ t t' b c z c' z',s.live t→s.live t'→M.be t=some (b,c,z)→M.be t'=some (b,c',z')→t=t'
structure Ext (M:Map) (s:St) (w:World) (M':Map) (s':St) (w':World):Prop where
 le:Le M s M' s'
 kept : ∀ b,b<w.heap.size→(∀ o,o<s.al.length→M.mu o≠b)→(∀ t c z,s.live t→M.be t≠some (b,c,z))→w'.heap[b]? = w.heap[b]?
 sj : ∀ o,(s.al.length≤o∨M'.mu o≠M.mu o)→o<s'.al.length→w.heap.size≤M'.mu o
 ry : ∀ t b c z,s'.live t→M'.be t=some (b,c,z)→(s.live t∧∃ c' z',M.be t=some (b,c',z'))∨w.heap.size≤b
 sk : ∀ b o,M'.G b o≠M.G b o→w.heap.size≤b∨∃ t c z,s.live t∧M.be t=some (b,c,z)
 size:w.heap.size≤w'.heap.size
 os:w'.os=w.os
 tape:w'.tape=w.tape
 output:w'.output=w.output
theorem Ext.refl (M:Map) (s:St) (w:World):Ext M s w M s w:=
 ⟨Le.refl M s,fun _ _ _ _=>rfl,fun o h h'=>by rcases h with h|h;omega;exact(h rfl).elim,fun t b c z h e=> .inl ⟨h,c,z,e⟩,fun _ _ h=>(h rfl).elim,Nat.le_refl _,rfl,rfl,rfl⟩
theorem Ext.mo {M M':Map} {s s':St} {w w':World} (h:Ext M s w M' s' w') {o:Nat} (ho:o<s'.al.length):(o<s.al.length∧M'.mu o=M.mu o)∨w.heap.size≤M'.mu o:=by
 by_cases h1:s.al.length≤o
 ·exact .inr (h.sj o (.inl h1) ho)
 ·by_cases h2:M'.mu o=M.mu o
  ·exact .inl ⟨by omega,h2⟩
  ·exact .inr (h.sj o (.inr h2) ho)
theorem Ext.trans {M M' PB:Map} {s s' Uq:St} {w w' w'':World} (h:Ext M s w M' s' w') (k:Ext M' s' w' PB Uq w''):Ext M s w PB Uq w'':=by
 refine⟨h.le.trans k.le,fun b hb ho ht=>?_,fun o h1 h2=>?_,fun t b c z h1 e=>?_,fun b o fu=>?_,Nat.le_trans h.size k.size,
  k.os.trans h.os,k.tape.trans h.tape,k.output.trans h.output⟩
 ·rw [k.kept b (Nat.lt_of_lt_of_le hb h.size) (fun o hD e=> ?_) (fun t c z hD e=> ?_),h.kept b hb ho ht]
  ·rcases h.mo hD with ⟨h1,h2⟩ | h1
   ·exact ho o h1 (h2.symm.trans e)
   ·omega
  ·rcases h.ry t b c z hD e with ⟨h1,c',z',e'⟩ | h1
   ·exact ht t c' z' h1 e'
   ·omega
 ·rcases k.mo h2 with ⟨h3,h4⟩ | h3
  ·rw [h4]
   refine h.sj o ?_ h3
   rcases h1 with h1|h1
   ·exact .inl h1
   ·exact .inr (by rw[h4]at h1;exact h1)
  ·exact Nat.le_trans h.size h3
 ·rcases k.ry t b c z h1 e with ⟨h2,c',z',e'⟩ | h2
  ·exact h.ry t b c' z' h2 e'
  ·exact .inr (Nat.le_trans h.size h2)
 ·by_cases e:M'.G b o=M.G b o
  ·have:PB.G b o≠M'.G b o:=fun e'=>fu (e'.trans e)
   rcases k.sk b o this with h1|⟨t,c,z,h1,h2⟩
   ·exact .inl (Nat.le_trans h.size h1)
   ·rcases h.ry t b c z h1 h2 with ⟨h3,c',z',e'⟩ | h3
    ·exact .inr ⟨t,c',z',h3,e'⟩
    ·exact .inl h3
  ·exact h.sk b o e
def Laid (M:Map) (s:St) (w:World):Prop:=∀ g cs,afl g=some cs→
 (∃ T fr,w.heap[g]? = some (.cells cs T fr))∧(∀ o,o<s.al.length→M.mu o≠g)∧∀ t c z,s.live t→M.be t≠some (g,c,z)
theorem Laid.ext {M M':Map} {s s':St} {w w':World} (h:Laid M s w) (e:Ext M s w M' s' w'):Laid M' s' w':=by
 intro g cs hg
 obtain⟨⟨T,fr,h1⟩,h2,h3⟩:=h g cs hg
 have hD:g<w.heap.size:=(Array.getElem?_eq_some_iff.1 h1).1
 refine⟨⟨T,fr,by rw[e.kept g hD h2 h3];exact h1⟩,fun o ho=>?_,fun t c z hl hb=>?_⟩
 ·rcases e.mo ho with ⟨h4,h5⟩ | h4
  ·rw[h5];exact h2 o h4
  ·omega
 ·rcases e.ry t g c z hl hb with ⟨h4,c',z',h5⟩ | h4
  ·exact h3 t c' z' h4 h5
  ·omega
abbrev Tm:=List (Nat×D)
def Tm.get:Tm→Nat→D
 | [],_=> .junk
 |(k,d)::r,t=>if k=t then d else Tm.get r t
def Tm.set:Tm→Nat→D→Tm
 | [],t,d=> [(t,d)]
 |(k,e)::r,t,d=>if k=t then(k,d)::r else(k,e)::Tm.set r t d
def Tm.put (tm:Tm) (dst:Option Nat) (d:D):Tm:=
 match dst with
 |some t=>tm.set t d
 |none=>tm
inductive X where
 |s (t:Nat)
 |k (d:D)
def X.ev (tm:Tm):X→D
 | .s t=>tm.get t
 | .k d=>d
inductive FO where
 |ofInt (k:FloatKind)
 |toInt (k:IntKind)
 |LO
 |real
 |imag
 |eq
 |LP
 |Ur
inductive AO where
 |mv (x:X)
 |pick (c a b:X)
 |alloc (zero:List D)
 |box (x:X)
 |build (zero:List D) (parts:List (Nat×Nat×X))
 |du (zero:List D) (size n:Nat) (parts:List (Nat×X))
 |xf (zero:List D) (size n:Nat) (parts:List (Nat×X))
 |C8 (x:X)
 |load (x:X) (agg:Bool) (size:Nat)
 |store (p x:X) (size:Nat)
 |cz (x:X)
 |bin (op:BinOp) (x y:X)
 |JR (neg:Bool) (x y:X)
 |eqs (neg:Bool) (ks:List Nat) (x y:X) -- the fields' kinds: 0 an integer, 1 a bool, 2 a text
 |JS (neg:Bool) (x y:X)
 |un (op:UnOp) (x:X)
 |conv (k:IntKind) (x:X)
 |GQ (x:X)
 |Ak (x:X)
 |GR (size:Nat) (x:X) (lo hi:Option X)
 |LQ (x:X) (lo hi:Option X)
 |aw (x:X) (off:Nat)
 |Fl (x:X) (off:Nat) (agg:Bool) (size:Nat)
 |cu (x i:X) (size:Nat)
 |C9 (x i:X)
 |ext (x:X) (i:Nat)
 |len (x:X)
 |xg (x:X)
 |app (size bytes:Nat) (x y:X)
 |mm (isMax:Bool) (x y:X)
 |vu (zero:List D) (T:TypeId) -- a new object whose first cell is to hold its own address
 |Da (x:X) (T:TypeId)
 |Db (x y:X) -- bytes behind others
 |apps (x y:X) -- a text's bytes behind others
 |wQ (f:Nat) (xs:List X) -- a function value
 |wR
 |Bg (m k v:X) -- a text's slice in a map
 |yu (m k:X) (zero:D)
 |Dc (size bytes:Nat) (zero:List D) (l c:X) -- a new array of zeros
 |sV (o:FO) (x y:X)
inductive AI where
 |kx (dst:Option Nat) (g:Option (Nat×Bool)) (t:Nat) (xs:List X) -- what a slot holds is called
 |nil (dst:Option Nat) (g:Option (Nat×Bool)) (neg:Bool) (x:X) -- is a slice nil? (of an empty one nothing is known)
 |op (dst:Option Nat) (g:Option (Nat×Bool)) (o:AO)
 |call (dst:Option Nat) (g:Option (Nat×Bool)) (f:Nat) (xs:List X)
inductive AC where
 |skip
 |run (is:List AI)
 |par (is:List AI) (ny:List (Nat×Nat))
 |seq (a b:AC)
 |cond (x:X) (a b:AC)
 |block (id:Nat) (a:AC)
 |loop (a:AC)
 |exit (id:Nat)
 |scope (a:AC)
 |label (l:Nat)
 |goto (l:Nat)
 |ret
structure AF where
 ntmps:Nat
 results:List (Nat×Option (Bool×Nat)) -- a slot; or a slot that holds the address, whether an aggregate, how many cells
 body:AC
inductive AK where
 |pure
 |load
 |alloc
 |core
 deriving DecidableEq
def AO.kind:AO→AK
 | .alloc _=> .core
 | .box _=> .core
 | .xf .. => .core
 | .C8 _=> .core
 | .store .. => .core
 | .app .. => .core
 | .vu .. => .core
 | .Da .. => .core
 | .Db .. => .core
 | .apps .. => .core
 | .wR=> .core
 | .Bg .. => .core
 | .Dc .. => .core
 | .yu .. => .load
 | .load .. => .load
 |_=> .pure
def AI.kind:AI→AK
 | .op (some _) none (.alloc _)=> .alloc
 | .op _ _ o=>o.kind
 |_=> .core
def AI.dst:AI→Option Nat
 | .op d _ _=>d
 | .call d _ _ _=>d
 | .nil d _ _ _=>d
 | .kx d _ _ _=>d
def X.reads:X→List Nat
 | .s t=> [t]
 | .k _=> []
def pT:List X→List Nat
 | []=> []
 |x::r=>x.reads++pT r
def Dd:Option X→List Nat
 |none=> []
 |some x=>x.reads
def AO.reads:AO→List Nat
 | .mv x=>x.reads
 | .pick c a b=>c.reads++(a.reads++b.reads)
 | .alloc _=> []
 | .box x=>x.reads
 | .build _ ps=>pT (ps.map (·.2.2))
 | .du _ _ _ ps=>pT (ps.map (·.2))
 | .xf _ _ _ ps=>pT (ps.map (·.2))
 | .C8 x=>x.reads
 | .load x _ _=>x.reads
 | .store p x _=>p.reads++x.reads
 | .cz x=>x.reads
 | .bin _ x y=>x.reads++y.reads
 | .JR _ x y=>x.reads++y.reads
 | .eqs _ _ x y=>x.reads++y.reads
 | .JS _ x y=>x.reads++y.reads
 | .un _ x=>x.reads
 | .conv _ x=>x.reads
 | .GQ x=>x.reads
 | .Ak x=>x.reads
 | .GR _ x lo hi=>x.reads++(Dd lo++Dd hi)
 | .LQ x lo hi=>x.reads++(Dd lo++Dd hi)
 | .aw x _=>x.reads
 | .Fl x _ _ _=>x.reads
 | .cu x i _=>x.reads++i.reads
 | .C9 x i=>x.reads++i.reads
 | .ext x _=>x.reads
 | .len x=>x.reads
 | .xg x=>x.reads
 | .app _ _ x y=>x.reads++y.reads
 | .mm _ x y=>x.reads++y.reads
 | .vu _ _=> []
 | .Da x _=>x.reads
 | .Db x y=>x.reads++y.reads
 | .apps x y=>x.reads++y.reads
 | .wQ _ xs=>pT xs
 | .wR=> []
 | .Bg m k v=>m.reads++(k.reads++v.reads)
 | .yu m k _=>m.reads++k.reads
 | .Dc _ _ _ l c=>l.reads++c.reads
 | .sV _ x y=>x.reads++y.reads
def xh:Option (Nat×Bool)→List Nat
 |none=> []
 |some (t,_)=> [t]
def AI.reads:AI→List Nat
 | .op _ g o=>xh g++o.reads
 | .call _ g _ xs=>xh g++pT xs
 | .nil _ g _ x=>xh g++x.reads
 | .kx _ g t xs=>xh g++(t::pT xs)
def GV (d:Option Nat) (l:List Nat):Bool:=
 match d with
 |none=>true
 |some t=> !l.contains t
def AI.apart (a q:AI):Bool:=
 GV a.dst q.reads && GV q.dst a.reads && (match a.dst,q.dst with|some x,some y=>x != y|_,_=>true)
def jf (l:List (List Nat)) (i:Nat):List Nat:=l.getD i []
def ky (is:List AI) (i:Nat):AK:=
 match is[i]? with
 |some a=>a.kind
 |none=> .core
def mK (is:List AI) (i j:Nat):Bool:=
 match is[i]?,is[j]? with
 |some a,some b=>a.apart b
 |_,_=>false
def iT:AK→Bool
 | .core=>true
 | .alloc=>true
 |_=>false
def kO (is:List AI) (l:List Nat):Nat:=(l.filter fun i=>iT (ky is i)).length
def mB (is:List AI) (pq:List Nat):List Nat→Bool
 | []=>true
 |a::r=>(!(ky is a == .alloc && pq.contains a) ||r.all pq.contains) && mB is pq r
def qz (is:List AI) (pt:List (List Nat)) (pre:List Nat) (q b:Nat):Bool:=
 match ky is q with
 | .core=>pre.all (jf pt q).contains
 | .alloc=>pre.all fun a=>mK is a q
 | .pure=>(pre.all fun a=>(jf pt q).contains a ||mK is a q) && mB is (jf pt q) pre
 | .load=>(pre.all fun a=>(jf pt q).contains a ||mK is a q) && mB is (jf pt q) pre &&
  decide (kO is (pre.filter fun a=> !(jf pt q).contains a)≤b)
def wE (is:List AI) (af pt:List (List Nat)):List Nat→List (Nat×Nat)→Bool
 |_,[]=>true
 |pre,(q,b)::r=>qz is pt pre q b && !pre.contains q && ((jf af q).all fun j=>j != q && !(r.map (·.1)).contains j) && wE is af pt (q::pre) r
def Al (af pt:List (List Nat)):Nat→Bool
 | 0=>true
 |i+1=>((jf pt i).all fun j=>(jf af i).contains j ||(jf af i).any fun k=>(jf pt k).contains j) && Al af pt i
def LR (is:List AI) (af pt:List (List Nat)) (ny:List (Nat×Nat)):Bool:=
 Al af pt is.length && wE is af pt [] ny && (List.range is.length).all (ny.map (·.1)).contains && ny.all (fun p=>decide (p.1<is.length)) &&
  (List.range is.length).all fun i=>(jf af i).all fun j=>decide (j<is.length)
def oz (o:Oper):List Nat:=(o.after.toList.filter (Region.binds .any)).map (·.on)
def LS:List (List Nat)→List (List Nat)→List (List Nat)
 |done,[]=>done
 |done,es::r=>LS (done++ [(es.flatMap fun k=>jf done k).foldl (fun l j=>if l.contains j then l else l++ [j]) es]) r
def aaT (is:List AI) (pt:List (List Nat)):List Nat→List Nat→List Nat→List Nat
 | [],rest,out=>out++((rest.filter fun j=>ky is j == .alloc)++rest.filter fun j=> !(ky is j == .alloc))
 |c::cs,rest,out=>
  let XL:=rest.filter fun j=>(jf pt c).contains j
  aaT is pt cs (rest.filter fun j=> !(XL.contains j) && j != c) (out++((XL.filter fun j=>ky is j == .alloc)++(XL.filter fun j=> !(ky is j == .alloc))++ [c]))
def aaU (is:List AI) (pt:List (List Nat)):List Nat→List Nat→List (Nat×Nat)
 |_,[]=> []
 |pre,q::r=>(q,if ky is q == .load then kO is (pre.filter fun a=> !(jf pt q).contains a)else 0)::aaU is pt (q::pre) r
def Us (is:List AI) (af:List (List Nat)):List (Nat×Nat):=
 let pt:=LS [] af
 let all:=List.range is.length
 aaU is pt [] (aaT is pt (all.filter fun i=>ky is i == .core) all [])
def D.row:D→Option (List D)
 | .agg cs=>some cs
 | .junk=>none
 | .tuple _=>none
 |d=>some [d]
def part (cs:List D) (off:Nat) (agg:Bool) (size:Nat):Option D:=
 match agg with
 |true=>if off+size≤cs.length then some (.agg ((cs.drop off).take size))else none
 |false=>cs[off]?
def gS (cs:List D) (off:Nat) (r:List D):List D:=cs.take off++r++cs.drop (off+r.length)
def sW (cells:List D):List (Nat×Nat×D)→Option (List D)
 | []=>some cells
 |(off,size,d)::rest=>
  match d.row with
  |none=>none
  |some r=>if r.length=size∧off+size≤cells.length then sW (gS cells off r) rest else none
def gV (zero:List D):Nat→List (List D)
 | 0=> []
 |n+1=>zero::gV zero n
def ld (size:Nat) (rows:List (List D)):List (Nat×D)→Option (List (List D))
 | []=>some rows
 |(i,d)::rest=>
  match d.row with
  |none=>none
  |some r=>if r.length=size∧i<rows.length then ld size (rows.set i r) rest else none
def bytesLess:List UInt8→List UInt8→Bool:=Op.bytesLess
def bD:Nat:=1099511627776
def iy (op:BinOp) (k:IntKind) (a b:Int):Option D:=
 match op with
 | .add=>some (.int k (k.wrap (a+b)))
 | .sub=>some (.int k (k.wrap (a - b)))
 | .mul=>some (.int k (k.wrap (a*b)))
 | .quo=>if b=0 then none else some (.int k (k.wrap (a.tdiv b)))
 | .rem=>if b=0 then none else some (.int k (a.tmod b))
 | .eql=>some (.bool (a==b))
 | .neq=>some (.bool (a != b))
 | .lss=>some (.bool (decide (a<b)))
 | .leq=>some (.bool (decide (a≤b)))
 | .gtr=>some (.bool (decide (a > b)))
 | .geq=>some (.bool (decide (a≥b)))
 |_=>none
def pU (op:BinOp) (a b:List UInt8):Option D:=
 match op with
 | .add=>if a.length+b.length≤bD then some (.str (a++b))else none
 | .eql=>some (.bool (a==b))
 | .neq=>some (.bool (!(a==b)))
 | .lss=>some (.bool (bytesLess a b))
 |_=>none
def zz (op:BinOp) (x y:D):Option D:=
 match x,y with
 | .int k a, .int k' b=>if k=k' then iy op k a b else none
 | .str a, .str b=>pU op a b
 |_,_=>none
def oA:Nat→D→D→Option Bool
 | 0, .int k a, .int k' b=>if k=k' then some (a==b)else none
 | 1, .bool a, .bool b=>some (a==b)
 | 2, .str a, .str b=>some (a==b)
 |_,_,_=>none
def mL:List Nat→List D→List D→Option Bool
 | [],[],[]=>some true
 |k::ks,x::xs,y::ys=>
  match oA k x y with
  |none=>none
  |some true=>mL ks xs ys
  |some false=>some false
 |_,_,_=>none
def LU (op:UnOp) (x:D):Option D:=
 match op,x with
 | .neg, .int k n=>some (.int k (k.wrap (0 - n)))
 | .not, .bool b=>some (.bool (!b))
 |_,_=>none
def JT:List D→Option UInt8
 | [.int .u8 n]=>some (UInt8.ofNat n.toNat)
 |_=>none
def qb:List (List D)→Option (List UInt8)
 | []=>some []
 |r::rs=>
  match JT r,qb rs with
  |some b,some bs=>some (b::bs)
  |_,_=>none
def Tag.cut (g:Tag) (whole:Bool):Tag:=
 match g with
 | .full=>if whole then .full else .shared
 |g=>g
def vv (lo:Option D):Option Int:=
 match lo with
 |none=>some 0
 |some (.int _ n)=>some n
 |_=>none
def vw (hi:Option D) (len:Nat):Option Int:=
 match hi with
 |none=>some len
 |some (.int _ n)=>some n
 |_=>none
def jv (size bytes:Nat) (x y:D) (s:St):Option (D×St):=
 match x,y with
 | .slice g z rows, .slice _ z' new=>
  if(rows = []∨z=size)∧(new = []∨z'=size)∧(rows.length+new.length)*(bytes+1)≤bD then
   match new with
   | []=>some (.slice g z rows,s)
   |_::_=>
    match g with
    | .full=>some (.slice (.tok s.aA.length) size (rows++new),{s with aA:=s.aA++ [some (rows.length+new.length)]})
    | .shared=>none
    | .tok _ true=>none
    | .tok t false=>if z=size∧s.aA[t]? = some (some rows.length)then some (.slice (.tok t) size (rows++new),{s with aA:=s.aA.set t (some (rows.length+new.length))})else none
  else none
 |_,_=>none
def De (x y:D) (s:St):Option (D×St):=
 match x,y with
 | .slice g z rows, .slice _ z' new=>
  if(rows = []∨z=1)∧(new = []∨z'=1)∧(rows.length+new.length)*2≤bD then
   match new with
   | []=>some (.slice g z rows,s)
   |_::_=>
    match g with
    | .full=>some (.slice (.tok s.aA.length true) 1 (rows++new),{s with aA:=s.aA++ [some (rows.length+new.length)]})
    | .shared=>none
    | .tok t y=>if z=1∧s.aA[t]? = some (some rows.length)then some (.slice (.tok t y) 1 (rows++new),{s with aA:=s.aA.set t (some (rows.length+new.length))})else none
  else none
 |_,_=>none
def Bh (key:List UInt8) (zero:D):List D→Option D
 | []=>some zero
 | .str k::d::r=>if k==key then some d else Bh key zero r
 |_=>none
def zA (key:List UInt8) (v:D):List D→Option (List D)
 | []=>some [.str key,v]
 | .str k::d::r=>if k==key then some (.str k::v::r)else match zA key v r with|some r'=>some (.str k::d::r')|none=>none
 |_=>none
def l5 (s:St) (o g:Nat):Option (List D):=
 match s.al[o]? with
 |some (.int .i64 n::cells)=>if n=(g:Int)then some cells else none
 |_=>none
def Bi (d:D) (agg:Bool) (size:Nat) (s:St):Option (D×St):=
 match d with
 | .gh o g off=>
  match l5 s o g with
  |some cells=>(match part cells off agg size with|some d=>some (d,s)|none=>none)
  |none=>none
 |_=>none
def Df (d:D) (r:Option (List D)) (size:Nat) (s:St):Option (D×St):=
 match d,r with
 | .gh o g off,some r=>match l5 s o g with
  |some cells=>if r.length=size∧off+size≤cells.length then some (.tuple [],{s with al:=s.al.set o (.int .i64 g::gS cells off r)})else none
  |none=>none
 |_,_=>none
def QP (d:D):Option D:=
 match d with
 | .gh o g off=>some (.gh o g off)
 |_=>none
def GX (d:D) (off:Nat):Option D:=
 match d with
 | .gh o g k=>some (.gh o g (k+off))
 |_=>none
def Am (d e:D) (size:Nat):Option D:=
 match d,e with
 | .dK z o g len, .int _ n=>if 0≤n∧n<len∧z=size then some (.gh o g (n.toNat*z))else none
 |_,_=>none
def zB (d:D) (lo hi:Option D):Option D:=
 match d with
 | .dK z o g len=>
  match vv lo,vw hi len with
  |some l,some h=>if l=0∧0≤h∧h≤len then some (.dK z o g h.toNat)else none
  |_,_=>none
 | .fk z=>
  match vv lo,vw hi 0 with
  |some l,some h=>if l=0∧h=0 then some (.fk z)else none
  |_,_=>none
 |_=>none
def IY (d:D):Option D:=
 match d with
 | .dK _ _ _ len=>some (.int .i64 len)
 | .fk _=>some (.int .i64 0)
 |_=>none
def zC (size bytes:Nat) (x y:D) (s:St):Option (D×St):=
 match x,y with
 | .dK z o g len, .slice _ z' new=>
  if z=size∧(new = []∨z'=size)∧(len+new.length)*(bytes+1)≤bD then
   match new with
   | []=>some (.dK z o g len,s)
   |_::_=>match l5 s o g with
    |some cells=>if len*z≤cells.length then some (.dK z o (g+1) (len+new.length),{s with al:=s.al.set o (.int .i64 ((g+1:Nat):Int)::(cells.take (len*z)++new.flatten))})else none
    |none=>none
  else none
 | .fk z, .slice _ z' new=>
  if z=size∧(new = []∨z'=size)∧new.length*(bytes+1)≤bD then
   match new with
   | []=>some (.fk z,s)
   |_::_=>some (.dK z s.al.length 0 new.length,{s with al:=s.al++ [.int .i64 ((0:Nat):Int)::new.flatten]})
  else none
 |_,_=>none
def XM (k:FloatKind) (a b:Nat):Option Nat:=k.format.add a b
def sm (o:FO) (x y:D):Option D:=
 match o,x,y with
 | .ofInt k, .int _ n,_=>some (.val (.float k (k.nearest n)))
 | .toInt k, .val (.float s b),_=>match (s.decode b).toInt .zero with|some n=>if k.min≤n∧n≤k.max then some (.int k n)else none|none=>none
 | .LO, .val (.float k a), .val (.float k' b)=>if k=k' then some (.val (.complex k a b))else none
 | .real, .val (.complex k a _),_=>some (.val (.float k a))
 | .imag, .val (.complex k _ b),_=>some (.val (.float k b))
 | .eq, .val (.float k a), .val (.float k' b)=>if k=k' then some (.bool (k.format.order a b==some .eq))else none
 | .LP, .val (.complex k a b), .val (.complex k' c d)=>if k=k' then(match XM k a c,XM k b d with|some e,some f=>some (.val (.complex k e f))|_,_=>none)else none
 | .Ur, .val (.complex k a b), .val (.complex k' c d)=>if k=k' then some (.bool (k.format.order a c==some .eq && k.format.order b d==some .eq))else none
 |_,_,_=>none
def aY (o:AO) (tm:Tm) (s:St):Option (D×St):=
 match o with
 | .mv x=>some (x.ev tm,s)
 | .pick c a b=>
  match c.ev tm with
  | .bool t=>some (if t then a.ev tm else b.ev tm,s)
  |_=>none
 | .alloc zero=>some (.ptr s.al.length 0,{s with al:=s.al++ [zero]})
 | .box x=>
  match (x.ev tm).row with
  |some r=>some (.ptr s.al.length 0,{s with al:=s.al++ [r]})
  |none=>none
 | .build zero parts=>
  match sW zero (parts.map fun p=>(p.1,p.2.1,p.2.2.ev tm))with
  |some cs=>some (.agg cs,s)
  |none=>none
 | .du zero size n parts=>
  match ld size (gV zero n) (parts.map fun p=>(p.1,p.2.ev tm))with
  |some rows=>some (.slice .full size rows,s)
  |none=>none
 | .xf zero size n parts=>
  match ld size (gV zero n) (parts.map fun p=>(p.1,p.2.ev tm))with
  |some rows=>some (.slice (.tok s.aA.length) size rows,{s with aA:=s.aA++ [some rows.length]})
  |none=>none
 | .C8 x=>
  match x.ev tm with
  | .slice (.tok t _) z rows=>if rows≠ []∧s.aA[t]? = some (some rows.length)then some (.slice .shared z rows,{s with aA:=s.aA.set t none})else none
  |_=>none
 | .load x agg size=>
  match x.ev tm with
  | .ptr o off=>
   match s.al[o]? with
   |some cs=>match part cs off agg size with|some d=>some (d,s)|none=>none
   |none=>none
  | .dS row off=>match part row off agg size with|some d=>some (d,s)|none=>none
  |d=>Bi d agg size s
 | .store p x size=>
  match p.ev tm,(x.ev tm).row with
  | .ptr o off,some r=>
   match s.al[o]? with
   |some cs=>if r.length=size∧off+size≤cs.length then some (.tuple [],{s with al:=s.al.set o (gS cs off r)})else none
   |none=>none
  |d,r=>Df d r size s
 | .cz x=>
  match x.ev tm with
  | .ptr o off=>some (.ptr o off,s)
  | .dS row off=>some (.dS row off,s)
  |d=>match QP d with|some d=>some (d,s)|none=>none
 | .bin op x y=>match zz op (x.ev tm) (y.ev tm)with|some d=>some (d,s)|none=>none
 | .JR neg x y=>
  match x.ev tm,y.ev tm with
  | .bool a, .bool b=>some (.bool (if neg then !(a==b)else a==b),s)
  |_,_=>none
 | .eqs neg ks x y=>
  match x.ev tm,y.ev tm with
  | .agg a, .agg b=>match mL ks a b with|some e=>some (.bool (if neg then !e else e),s)|none=>none
  |_,_=>none
 | .JS neg x y=>
  match x.ev tm,y.ev tm with
  | .eY, .eY=>some (.bool (!neg),s)
  | .ptr _ _, .eY=>some (.bool neg,s)
  | .dS _ _, .eY=>some (.bool neg,s)
  |_,_=>none
 | .un op x=>match LU op (x.ev tm)with|some d=>some (d,s)|none=>none
 | .conv k x=>match x.ev tm with| .int _ n=>some (.int k (k.wrap n),s)|_=>none
 | .GQ x=>
  match x.ev tm with
  | .slice _ _ rows=>match qb rows with|some b=>some (.str b,s)|none=>none
  |_=>none
 | .Ak x=>
  match x.ev tm with
  | .str l=>some (.slice .shared 1 (l.map fun c=> [.int .u8 c.toNat]),s)
  |_=>none
 | .GR size x lo hi=>
  match x.ev tm with
  | .slice g z rows=>
   match vv (lo.map (·.ev tm)),vw (hi.map (·.ev tm)) rows.length with
   | some l,some h=>
    if(rows = []∨z=size)∧0≤l∧l≤h∧h≤rows.length then
     some (.slice (if l=0 then g.cut (h=rows.length)else .shared) z ((rows.take h.toNat).drop l.toNat),s)else none
   |_,_=>none
  |d=>match zB d (lo.map (·.ev tm)) (hi.map (·.ev tm))with|some d=>some (d,s)|none=>none
 | .LQ x lo hi=>
  match x.ev tm with
  | .str t=>
   match vv (lo.map (·.ev tm)),vw (hi.map (·.ev tm)) t.length with
   |some l,some h=>if 0≤l∧l≤h∧h≤t.length then some (.str ((t.take h.toNat).drop l.toNat),s)else none
   |_,_=>none
  |_=>none
 | .aw x off=>
  match x.ev tm with
  | .ptr o k=>some (.ptr o (k+off),s)
  | .dS row k=>some (.dS row (k+off),s)
  |d=>match GX d off with|some d=>some (d,s)|none=>none
 | .Fl x off agg size=>
  match x.ev tm with
  | .agg cs=>match part cs off agg size with|some d=>some (d,s)|none=>none
  |_=>none
 | .cu x i size=>
  match x.ev tm,i.ev tm with
  | .slice _ z rows, .int _ n=>
   if 0≤n∧z=size then
    match rows[n.toNat]? with
    |some row=>some (.dS row 0,s)
    |none=>none
   else none
  |d,e=>match Am d e size with|some d=>some (d,s)|none=>none
 | .C9 x i=>
  match x.ev tm,i.ev tm with
  | .str t, .int _ n=>
   if 0≤n then
    match t[n.toNat]? with
    |some c=>some (.int .u8 c.toNat,s)
    |none=>none
   else none
  |_,_=>none
 | .ext x i=>
  match x.ev tm with
  | .tuple ds=>match ds[i]? with|some d=>some (d,s)|none=>none
  |_=>none
 | .xg x=>
  match x.ev tm with
  | .str t=>some (.int .i64 t.length,s)
  |_=>none
 | .len x=>
  match x.ev tm with
  | .slice _ _ rows=>some (.int .i64 rows.length,s)
  |d=>match IY d with|some d=>some (d,s)|none=>none
 | .app size bytes x y=>
  match x.ev tm with
  | .slice g z rows=>jv size bytes (.slice g z rows) (y.ev tm) s
  |d=>zC size bytes d (y.ev tm) s
 | .mm isMax x y=>
  match x.ev tm,y.ev tm with
  | .int k a, .int k' b=>if k=k' then some (.int k (if isMax then(if b > a then b else a)else(if b<a then b else a)),s)else none
  |_,_=>none
 | .vu zero T=>
  match zero with
  | .eY::r=>some (.ptr s.al.length 0,{s with al:=s.al++ [.gf T s.al.length::r]})
  |_=>none
 | .Da x T=>
  match (x.ev tm).row with
  |some (.eY::r)=>some (.ptr s.al.length 0,{s with al:=s.al++ [.gf T s.al.length::r]})
  |_=>none
 | .Db x y=>De (x.ev tm) (y.ev tm) s
 | .apps x y=>
  match y.ev tm with
  | .str l=>De (x.ev tm) (.slice .shared 1 (l.map fun c=> [.int .u8 c.toNat])) s
  |_=>none
 | .wQ f xs=>some (.ix f (xs.map (·.ev tm)),s)
 | .wR=>some (.gT s.al.length,{s with al:=s.al++ [[]]})
 | .Bg m k v=>
  match m.ev tm,k.ev tm,v.ev tm with
  | .gT o, .str key, .slice g z rows=>
   match s.al[o]? with
   |some cs=>match zA key (.slice g z rows) cs with|some kR=>some (.tuple [],{s with al:=s.al.set o kR})|none=>none
   |none=>none
  |_,_,_=>none
 | .yu m k zero=>
  match m.ev tm,k.ev tm with
  | .gT o, .str key=>
   match s.al[o]? with
   |some cs=>match Bh key zero cs with|some d=>some (d,s)|none=>none
   |none=>none
  |_,_=>none
 | .Dc size bytes zero l c=>
  match l.ev tm,c.ev tm with
  | .int .i64 n, .int .i64 m=>if n=m∧0≤n∧n*((bytes:Int)+1)≤bD then some (.dK size s.al.length 0 n.toNat,{s with al:=s.al++ [.int .i64 ((0:Nat):Int)::(gV zero n.toNat).flatten]})else none
  |_,_=>none
 | .sV o x y=>match sm o (x.ev tm) (y.ev tm)with|some d=>some (d,s)|none=>none
def XN (b:ByteArray):List UInt8:=b.data.toList
def uy:Value→Option D
 | .int k n=>some (.int k n)
 | .bool b=>some (.bool b)
 | .string b=>some (.str (XN b))
 | .pointer none=>some .eY
 | .slice none 0 0=>some (.slice .full 0 [])
 | .nilIface=>some (.val .nilIface)
 | .float k b=>some (.val (.float k b))
 | .complex k a b=>some (.val (.complex k a b))
 |_=>none
def pD:List Value→Option (List D)
 | []=>some []
 |v::r=>match uy v,pD r with|some d,some ds=>some (d::ds)|_,_=>none
def FM:Value→Option D
 | .slice none 0 0=>some (.val (.slice none 0 0))
 |v=>uy v
def yv:List Value→Option (List D)
 | []=>some []
 |v::r=>match FM v,yv r with|some d,some ds=>some (d::ds)|_,_=>none
def QQ:Value→Option D
 | .agg cs=>(pD cs.toList).map .agg
 | .tuple ⟨[]⟩=>some (.tuple [])
 |v=>uy v
def cX:Operand→Option X
 | .tmp t=>some (.s t)
 | .const v=>(QQ v).map .k
 | .func f=>some (.k (.ix f []))
 |_=>none
def An:List Operand→Option (List X)
 | []=>some []
 |x::r=>match cX x,An r with|some d,some ds=>some (d::ds)|_,_=>none
def cXo:Option Operand→Option (Option X)
 |none=>some none
 |some x=>(cX x).map some
section
variable (P:Program)
def sX (t:TypeId):Option Bool:=
 match P.underlying t with
 |some (.struct _)|some (.array _ _)=>some true
 |some _=>some false
 |none=>none
def zeroOf (t:TypeId):Option (List D):=
 match P.info? t with
 |some i=>match i.zero with|some z=>if z.cells.size=i.size then pD z.cells.toList else none|none=>none
 |none=>none
def nZ (t:TypeId) (f:Nat):Option (Nat×Nat×Bool):=
 match P.underlying t with
 | some (.struct fs)=>
  match fs[f]? with
  |some fd=>match P.info? fd.type,sX P fd.type with
   |some i,some a=>if i.size=0 then none else some (fd.offset,i.size,a)
   |_,_=>none
  |none=>none
 |_=>none
def Ut (t u:TypeId):Bool:=
 match P.underlying u with
 |some (.pointer e)=>e==t
 |_=>false
def afm (t:TypeId):Bool:=
 match P.underlying t with
 |some (.struct fs)=>
  match fs[0]? with
  |some f=>Ut P t f.type
  |none=>false
 |_=>false
def QR (t:TypeId):Bool:=
 match P.underlying t with
 |some (.struct fs)=>
  match fs[0]? with
  |some f=>Ut P t f.type ||afm P f.type
  |none=>false
 |_=>false
def QS (self:Bool) (l:List Value):Option (List D):=if self then yv l else pD l
def Bj (t:TypeId):Option (List D):=
 match P.info? t with
 |some i=>match i.zero with|some z=>if z.cells.size=i.size then QS (QR P t) z.cells.toList else none|none=>none
 |none=>none
def Dg (t:TypeId):List (Nat×Operand)→Option (List (Nat×Nat×X))
 | []=>some []
 |(i,x)::r=>match nZ P t i,cX x,Dg t r with
  |some (off,size,_),some x',some r'=>some ((off,size,x')::r')
  |_,_,_=>none
def LV:List (Nat×Operand)→Option (List (Nat×X))
 | []=>some []
 |(i,x)::r=>match cX x,LV r with
  |some x',some r'=>some ((i,x')::r')
  |_,_=>none
def j9 (t:TypeId):Option Nat:=
 match P.underlying t with
 |some (.int _)=>some 0
 |some .bool=>some 1
 |some .string=>some 2
 |_=>none
def Ey:Nat→List Field→Option (List Nat)
 |_,[]=>some []
 | n,f::fs=>
  if f.offset=n∧f.name≠ "_" then
   match j9 P f.type,Ey (n+1) fs with
   |some k,some ks=>some (k::ks)
   |_,_=>none
  else none
def rK (t:TypeId):Option (List Nat):=
 match P.underlying t with
 |some (.struct fs)=>if P.eqGuardType P.depth t=false∧P.stoodInHeld t=false then Ey P 0 fs.toList else none
 |_=>none
def GY (o:Oper):Option AO:=
 match o.op with
 | .move x| .assign x=>(cX x).map .mv
 | .pick c a b=>match cX c,cX a,cX b with|some c,some a,some b=>some (.pick c a b)|_,_,_=>none
 | .alloc t=>if QR P t then(Bj P t).map (.vu · t)else(zeroOf P t).map .alloc
 | .box t x=>if QR P t then(cX x).map (.Da · t)else(cX x).map .box
 | .build t parts=>
  match P.underlying t,Bj P t,Dg P t parts.toList with
  |some (.struct fs),some z,some ps=>if fs.toList.all fun f=>(P.info? f.type).isSome then some (.build z ps)else none
  |_,_,_=>none
 | .buildSlice t n parts=>
  match P.underlying t with
  |some (.slice e)=>
   match P.info? e,zeroOf P e,LV parts.toList with
   |some i,some z,some ps=>if 0<i.size∧n*i.size≤65536 then some (.du z i.size n ps)else none
   |_,_,_=>none
  |_=>none
 | .load t x=>
  match cX x,sX P t,P.info? t with
  |some x,some a,some i=>some (.load x a i.size)
  |_,_,_=>none
 | .store t a x=>
  match cX a,cX x,P.info? t with
  |some a,some x,some i=>some (.store a x i.size)
  |_,_,_=>none
 | .nilCheck x=>(cX x).map .cz
 | .binOp op t x y _=>
  match cX x,cX y with
  |some x,some y=>
   match P.underlying t,op with
   |some (.int _),_=>some (.bin op x y)
   |some .string,_=>some (.bin op x y)
   |some .bool, .eql=>some (.JR false x y)
   |some .bool, .neq=>some (.JR true x y)
   |some (.pointer _), .eql=>some (.JS false x y)
   |some (.pointer _), .neq=>some (.JS true x y)
   |some (.struct _), .eql=>(rK P t).map (.eqs false · x y)
   |some (.struct _), .neq=>(rK P t).map (.eqs true · x y)
   |some (.float _), .eql=>some (.sV .eq x y)
   |some (.complex _), .add=>some (.sV .LP x y)
   |some (.complex _), .eql=>some (.sV .Ur x y)
   |_,_=>none
  |_,_=>none
 | .unOp op _ x=>(cX x).map (.un op)
 | .convert src dst x=>
  match cX x,P.underlying src,P.underlying dst with
  |some x,some (.int _),some (.int k)=>some (.conv k x)
  |some x,some (.slice e),some .string=>match P.underlying e with|some (.int .u8)=>some (.GQ x)|_=>none
  |some x,some (.slice e),some (.slice _)=>match P.underlying e with|some (.int .u8)=>if src=dst then some (.C8 x)else none|_=>none
  |some x,some .string,some (.slice e)=>match P.underlying e,P.info? e with|some (.int .u8),some i=>if i.size=1 then some (.Ak x)else none|_,_=>none
  |some x,some (.int _),some (.float k)=>some (.sV (.ofInt k) x x)
  |some x,some (.float _),some (.int k)=>some (.sV (.toInt k) x x)
  |_,_,_=>none
 | .slice t x lo hi none=>
  match cX x,cXo lo,cXo hi,P.underlying t with
  |some x,some lo,some hi,some .string=>some (.LQ x lo hi)
  |some x,some lo,some hi,some (.slice e)=>match P.info? e with|some i=>some (.GR i.size x lo hi)|none=>none
  |_,_,_,_=>none
 | .fieldAddr t x f=>match cX x,nZ P t f with|some x,some (off,_,_)=>some (.aw x off)|_,_=>none
 | .field t x f=>match cX x,nZ P t f with|some x,some (off,size,a)=>some (.Fl x off a size)|_,_=>none
 | .indexAddr t x i=>
  match cX x,cX i,P.underlying t with
  |some x,some i,some (.slice e)=>match P.info? e with|some j=>if 0<j.size then some (.cu x i j.size)else none|none=>none
  |_,_,_=>none
 | .index t x i=>match cX x,cX i,P.underlying t with|some x,some i,some .string=>some (.C9 x i)|_,_,_=>none
 | .extract x i=>(cX x).map (.ext · i)
 | .call {callee:= .builtin .len,args,argTypes}=>
  match args.toList,argTypes.toList with
  | [x],[t]=>match P.underlying t with
   |some .string=>(cX x).map .xg
   |some (.slice _)=>(cX x).map .len
   |_=>none
  |_,_=>none
 | .call {callee:= .builtin .append,args,argTypes}=>
  match args.toList,argTypes.toList with
  | [x,y],[t,u]=>match P.underlying t,P.underlying u,cX x,cX y with
   |some (.slice e),some (.slice _),some x,some y=>match P.info? e,zeroOf P e with
    |some i,some _=>if 0<i.size then some (if e=qW∧i.size=1∧i.bytes=1 then .Db x y else .app i.size i.bytes x y)else none
    |_,_=>none
   |some (.slice e),some .string,some x,some y=>match P.info? e,zeroOf P e with
    |some i,some _=>if e=qW∧i.size=1∧i.bytes=1 then some (.apps x y)else none
    |_,_=>none
   |_,_,_,_=>none
  |_,_=>none
 | .call {callee:= .builtin .max,args, ..}=>
  match args.toList with
  | [x,y]=>match cX x,cX y with|some x,some y=>some (.mm true x y)|_,_=>none
  |_=>none
 | .call {callee:= .builtin .min,args, ..}=>
  match args.toList with
  | [x,y]=>match cX x,cX y with|some x,some y=>some (.mm false x y)|_,_=>none
  |_=>none
 | .call {callee:= .builtin .complex,args, ..}=>
  match args.toList with
  | [x,y]=>match cX x,cX y with|some x,some y=>some (.sV .LO x y)|_,_=>none
  |_=>none
 | .call {callee:= .builtin .real,args, ..}=>
  match args.toList with
  | [x]=>(cX x).map fun x=> .sV .real x x
  |_=>none
 | .call {callee:= .builtin .imag,args, ..}=>
  match args.toList with
  | [x]=>(cX x).map fun x=> .sV .imag x x
  |_=>none
 | .makeSlice t l c=>
  match cX l,cX c,P.underlying t with
  |some l,some c,some (.slice e)=>match P.info? e,zeroOf P e with
   |some i,some z=>if 0<i.size then some (.Dc i.size i.bytes z l c)else none
   |_,_=>none
  |_,_,_=>none
 | .makeFunc (.func f) first captured=>if first.size=0 then(An captured.toList).map (.wQ f)else none
 | .makeMap t none=>match P.underlying t with|some (.map _ _)=>some .wR|_=>none
 | .mapUpdate t m k v=>
  match P.underlying t,cX m,cX k,cX v with
  |some (.map kt _),some m,some k,some v=>match P.underlying kt with|some .string=>some (.Bg m k v)|_=>none
  |_,_,_,_=>none
 | .lookup t m k false=>
  match P.underlying t,cX m,cX k with
  |some (.map kt e),some m,some k=>
   match P.underlying kt,P.info? e with
   |some .string,some i=>match i.zero with|some z=>(uy z).map (.yu m k)|none=>none
   |_,_=>none
  |_,_,_=>none
 |_=>none
def xi (ops:Array Oper):Option (Nat×Bool)→Option (Option (Nat×Bool))
 |none=>some none
 |some (j,b)=>
  match (ops[j]?).bind (·.dst)with
  |some t=>some (some (t,b))
  |none=>none
def enters (f:FuncId):Bool:=
 match P.funcs[f]? with
 |some fn=>fn.body.isSome && !(fn.name == "runtime.NumGoroutine")
 |none=>false
def frozenIn (ops:Array Oper) (dst:Option Nat):Bool:=
 ops.toList.any fun o=>match o.op,dst with
  | .convert s d (.tmp t),some t'=>t==t' && s==d
  |_,_=>false
def I0 (o:Oper):Option (Bool×X):=
 match o.op with
 | .binOp op t x (.const (.slice none 0 0)) _=>
  match P.underlying t,op,cX x with
  |some (.slice _), .eql,some x=>some (false,x)
  |some (.slice _), .neq,some x=>some (true,x)
  |_,_,_=>none
 |_=>none
def aaW (nt:Nat) (dst:Option Nat):Bool:=
 match dst with
 |some d=>decide (d<nt)
 |none=>true
def uZ (ops:Array Oper) (o:Oper) (g:Option (Nat×Bool)):Option AI:=
 match o.op with
 | .call {callee:= .value (.func f),args, ..}=>if enters P f then(An args.toList).map (.call o.dst g f)else none
 | .call {callee:= .value (.tmp t),args, ..}=>(An args.toList).map (.kx o.dst g t)
 | _=>
  match I0 P o with
  |some (neg,x)=>some (.nil o.dst g neg x)
  |none=>
   match GY P o with
   |some (.du z k n ps)=>some (.op o.dst g (if frozenIn ops o.dst then .xf z k n ps else .du z k n ps))
   |some ao=>some (.op o.dst g ao)
   |none=>none
def cI (nt:Nat) (ops:Array Oper) (o:Oper):Option AI:=
 match xi ops o.guard with
 |none=>none
 |some g=>if aaW nt o.dst=true then uZ P ops o g else none
def sY (nt:Nat) (ops:Array Oper):List Oper→Option (List AI)
 | []=>some []
 |o::r=>match cI P nt ops o,sY nt ops r with|some i,some is=>some (i::is)|_,_=>none
def aaX (is:List AI) (af:List (List Nat)):Option AC:=
 if LR is af (LS [] af) (Us is af)then some (.par is (Us is af))else none
def cC (nt:Nat):Code→Option AC
 | .skip=>some .skip
 | .region _ ops false=>(sY P nt ops ops.toList).map .run
 | .region _ ops true=>if P.follows .mixedOrders then(sY P nt ops ops.toList).bind (aaX · (ops.toList.map oz))else none
 | .seq a b=>match cC nt a,cC nt b with|some a,some b=>some (.seq a b)|_,_=>none
 | .cond x a b=>match cX x,cC nt a,cC nt b with|some x,some a,some b=>some (.cond x a b)|_,_,_=>none
 | .block id a=>(cC nt a).map (.block id)
 | .loop a=>(cC nt a).map .loop
 | .exit id=>some (.exit id)
 | .scope a=>(cC nt a).map .scope
 | .label l=>some (.label l)
 | .goto l=>some (.goto l)
 | .ret=>some .ret
 |_=>none
def FN:List ResultVar→Option (List (Nat×Option (Bool×Nat)))
 | []=>some []
 | .tmp t::r=>(FN r).map ((t,none):: ·)
 | .cell a t::r=>match sX P t,P.info? t,FN r with
  |some g,some i,some r'=>some ((a,some (g,i.size))::r')
  |_,_,_=>none
def cF (fn:Func):Option AF:=
 match fn.body with
 |some c=>match cC P fn.ntmps c,FN P fn.results.toList with
  |some b,some r=>some ⟨fn.ntmps,r,b⟩
  |_,_=>none
 |none=>none
end
end Go.Abs
namespace Go.Abs
theorem jA {w:World} {b:Nat} {vs:Array Value} {T:TypeId} {fr:Nat×Nat} (h:w.heap[b]? = some (.cells vs T fr)) (o:Nat):w.cell? ⟨b,o,none⟩=vs[o]? :=by
 simp[World.cell?,h]
theorem ln {w:World} {b:Nat} {o:Obj} (h:w.heap[b]? = some o):b<w.heap.size:=(Array.getElem?_eq_some_iff.1 h).1
section
variable {M:Map} {s:St} {w:World}
theorem Rel.Dh (r:Rel M s w) {b o:Nat} {v:Value} (h:M.G b o=some v):b<w.heap.size:=World.block_lt_of_cell? w _ (r.comm b o v h).1
theorem Rel.QT (r:Rel M s w) {b:Nat} (h:w.heap.size≤b) (o:Nat):M.G b o=none:=by
 cases e:M.G b o with
 |none=>rfl
 |some v=>have:=r.Dh e;omega
theorem Rel.rZ (r:Rel M s w) {o:Nat} (h:o<s.al.length):M.mu o<w.heap.size:=by
 obtain⟨vs,T,hh,_⟩:=r.obj o _ (List.getElem?_eq_getElem h)
 exact hh.lt
theorem Rel.u5 (r:Rel M s w) {t b c z:Nat} (h:s.live t) (e:M.be t=some (b,c,z)):b<w.heap.size:=by
 obtain⟨n,hn⟩:=h
 rcases r.tok t n hn with ⟨h1,_⟩|⟨b',cap,size,vs,T,h1,h2,_⟩
 ·rw[e]at h1;cases h1
 ·rw[e]at h1;cases h1;exact ln h2
theorem Rel.of_heap (r:Rel M s w) {w':World} (h:w'.heap=w.heap):Rel M s w':=by
 refine⟨fun b o v e=>?_,fun o ds e=>?_,r.kl,r.inj,fun t n e=>?_,r.fO,r.gR⟩
 ·obtain⟨h1,h2⟩:=r.comm b o v e
  refine⟨?_,h2⟩
  rw[← h1];simp[World.cell?,h]
 ·rw[h];exact r.obj o ds e
 ·rw[h];exact r.tok t n e
theorem Ext.of_heap {w':World} (h:w'.heap=w.heap) (h1:w'.os=w.os) (h2:w'.tape=w.tape) (h3:w'.output=w.output):Ext M s w M s w':=
 ⟨Le.refl M s,fun _ _ _ _=>by rw[h],fun o h h'=>by rcases h with h|h;omega;exact(h rfl).elim,fun t b c z h e=> .inl ⟨h,c,z,e⟩,fun _ _ h=>(h rfl).elim,by rw[h];exact Nat.le_refl _,h1,h2,h3⟩
def Map.eQ (M:Map) (n b:Nat) (x:Ob:= .any):Map:= {M with loc:=fun o=>if o=n then(b,x)else M.loc o}
theorem vx (M:Map) {n:Nat} (b:Nat) (x:Ob) {o:Nat} (ho:o<n):(M.eQ n b x).loc o=M.loc o:=by simp[Map.eQ];omega
theorem uz (s:St) (b:Nat) (ds:List D) (x:Ob:= .any):Le M s (M.eQ s.al.length b x) {s with al:=s.al++ [ds]}:=
 ⟨fun _ _ _ h=>h,by simp,fun o ho=>by rw[vx M b x ho];exact .refl _,Nat.le_refl _,fun t n _ h=>⟨n,h,Nat.le_refl _,fun _=>rfl⟩⟩
theorem Rel.LW (r:Rel M s w) (ds:List D) (ob:Obj) (vs:Array Value) (T:TypeId) (x:Ob) (Ao : ∀ hp:Array Obj,hp[w.heap.size]? = some ob→jz hp (w.heap.size,x) vs T) (hx : ∀ T',x.ty? = some T'→T'=T) (hl:vs.size=ds.length) (h1 : ∀ v∈vs,v.oneCell'=true)
 (h2 : ∀ (i:Nat) (d:D) (v:Value),ds[i]? = some d→vs[i]? = some v→RD (M.eQ s.al.length w.heap.size x) {s with al:=s.al++ [ds]} d v) :
 Rel (M.eQ s.al.length w.heap.size x) {s with al:=s.al++ [ds]} (w.alloc ob)∧
 Ext M s w (M.eQ s.al.length w.heap.size x) {s with al:=s.al++ [ds]} (w.alloc ob):=by
 have le:=uz (M:=M) s w.heap.size ds x
 have km : ∀ o,o<s.al.length→(M.eQ s.al.length w.heap.size x).loc o=M.loc o:=fun o ho=>vx M _ x ho
 have oB : ∀ o,o<s.al.length→(M.eQ s.al.length w.heap.size x).mu o=M.mu o:=fun o ho=>congrArg Prod.fst (km o ho)
 have dB:(M.eQ s.al.length w.heap.size x).mu s.al.length=w.heap.size:=by simp[Map.eQ,Map.mu]
 have ajT:(M.eQ s.al.length w.heap.size x).ty s.al.length=x.ty? :=by simp[Map.eQ,Map.ty]
 have ajU:(M.eQ s.al.length w.heap.size x).loc s.al.length=(w.heap.size,x):=by simp[Map.eQ]
 refine⟨⟨fun b o v e=>?_,fun o pj e=>?_,fun o ho off=>?_,fun o o' ho pk e=>?_,fun t n e=>?_,fun t b c z o hl e ho=>?_,fun t t' b c z c' z' h h' e e'=>r.gR t t' b c z c' z' h h' e e'⟩, ?_⟩
 ·obtain⟨h3,h4⟩:=r.comm b o v e
  refine⟨?_,h4⟩
  rw[World.cell?_alloc_lt]
  ·exact h3
  ·exact r.Dh e
 ·rcases Nat.lt_or_ge o s.al.length with ho | ho
  ·rw [List.getElem?_append_left ho]at e
   obtain⟨gv,T',h3,h4,h5,h6⟩:=r.obj o pj e
   refine⟨gv,T', ?_,h4,⟨h5.1,by rw[le.ty o ho];exact h5.2⟩,fun i d v e1 e2=>(h6 i d v e1 e2).mono le⟩
   rw[km o ho];exact h3.keep (heap_alloc_old w _ _ h3.lt)
  ·rw [List.getElem?_append_right ho]at e
   have:o=s.al.length:=by
    have:=(List.getElem?_eq_some_iff.1 e).1
    simp at this;omega
   subst this
   simp at e;subst e
   refine⟨vs,T, ?_,hl,⟨h1,by rw[ajT];exact hx⟩,fun i d v e1 e2=>h2 i d v e1 e2⟩
   rw[ajU];exact Ao _ (heap_alloc_new w _)
 ·simp at ho
  rcases Nat.lt_or_ge o s.al.length with h3|h3
  ·rw[oB o h3];exact r.kl o h3 off
  ·have:o=s.al.length:=by omega
   subst this
   rw[dB];exact r.QT (Nat.le_refl _) off
 ·simp at ho pk
  rcases Nat.lt_or_ge o s.al.length with h3|h3<;>rcases Nat.lt_or_ge o' s.al.length with h4|h4
  ·rw[oB o h3,oB o' h4]at e;exact r.inj o o' h3 h4 e
  ·have:o'=s.al.length:=by omega
   subst this
   rw[oB o h3,dB]at e
   have:=r.rZ h3;omega
  ·have:o=s.al.length:=by omega
   subst this
   rw[oB o' h4,dB]at e
   have:=r.rZ h4;omega
  ·omega
 ·rcases r.tok t n e with h3 | ⟨b,cap,size,gv,T',h3,h4,h5⟩
  ·exact .inl h3
  ·exact .inr ⟨b,cap,size,gv,T',h3,by rw[heap_alloc_old w _ _ (ln h4)];exact h4,h5⟩
 ·simp at ho
  rcases Nat.lt_or_ge o s.al.length with h3|h3
  ·rw[oB o h3];exact r.fO t b c z o hl e h3
  ·have:o=s.al.length:=by omega
   subst this
   rw[dB]
   have:=r.u5 hl e;omega
 ·refine⟨le,fun b hb _ _=>heap_alloc_old w _ b hb,fun o h3 h4=> ?_,fun t b c z h e=> .inl ⟨h,c,z,e⟩,fun _ _ h=>(h rfl).elim,by simp,rfl,rfl,rfl⟩
  simp at h4
  rcases Nat.lt_or_ge o s.al.length with h5|h5
  ·rcases h3 with h3 | h3
   ·omega
   ·exact(h3 (oB o h5)).elim
  have:o=s.al.length:=by omega
  subst this
  rw[dB];exact Nat.le_refl _
theorem Rel.LX (r:Rel M s w) (ds:List D) (vs:Array Value) (T:TypeId) (x:Ob) (hk:x.plain) (hx : ∀ T',x.ty? = some T'→T'=T) (hl:vs.size=ds.length) (h1 : ∀ v∈vs,v.oneCell'=true)
 (h2 : ∀ (i:Nat) (d:D) (v:Value),ds[i]? = some d→vs[i]? = some v→RD (M.eQ s.al.length w.heap.size x) {s with al:=s.al++ [ds]} d v) :
 Rel (M.eQ s.al.length w.heap.size x) {s with al:=s.al++ [ds]} (w.alloc (.cells vs T))∧
 Ext M s w (M.eQ s.al.length w.heap.size x) {s with al:=s.al++ [ds]} (w.alloc (.cells vs T)):=
 r.LW ds _ vs T x (fun hp e=>jz.of e hk) hx hl h1 h2
theorem Rel.eQ (r:Rel M s w) (ds:List D) (vs:Array Value) (T:TypeId) (hl:vs.size=ds.length) (h1 : ∀ v∈vs,v.oneCell'=true)
 (h2 : ∀ (i:Nat) (d:D) (v:Value),ds[i]? = some d→vs[i]? = some v→RD M s d v) :
 Rel (M.eQ s.al.length w.heap.size) {s with al:=s.al++ [ds]} (w.alloc (.cells vs T))∧
 Ext M s w (M.eQ s.al.length w.heap.size) {s with al:=s.al++ [ds]} (w.alloc (.cells vs T)):=
 r.LX ds vs T .any trivial (fun _ h=>by cases h) hl h1 fun i d v e1 e2=>(h2 i d v e1 e2).mono (uz s w.heap.size ds)
theorem sZ (cs:List D) (off:Nat) (r:List D) (h:off+r.length≤cs.length) (i:Nat) :
 (gS cs off r)[i]? = if i<off then cs[i]? else if i<off+r.length then r[i - off]? else cs[i]? :=by
 unfold gS
 have hl:(cs.take off).length=off:=by simp;omega
 split
 ·rename_i h1
  rw[List.append_assoc,List.getElem?_append_left (by omega),List.getElem?_take_of_lt h1]
 ·rename_i h1
  rw[List.append_assoc,List.getElem?_append_right (by omega),hl]
  split
  ·rename_i h2
   rw[List.getElem?_append_left (by omega)]
  ·rename_i h2
   rw[List.getElem?_append_right (by omega),List.getElem?_drop]
   congr 1;omega
theorem vX (cs:List D) (off:Nat) (r:List D) (h:off+r.length≤cs.length):(gS cs off r).length=cs.length:=by
 unfold gS;simp;omega
theorem Rel.QU (P:Program) (r:Rel M s w) {o off:Nat} {cs:List D} (he:s.al[o]? = some cs) (hk:(M.ob o).plain) (row:List D) (us:List Value) (hu:us.length=row.length) (kn:off+row.length≤cs.length)
 (h1 : ∀ u∈us,u.oneCell'=true) (h2 : ∀ (i:Nat) (d:D) (v:Value),row[i]? = some d→us[i]? = some v→RD M s d v) :
 ∃ w',(storeCells (⟨M.mu o,off,none⟩:Addr) us).run P w = .ok () w'∧Rel M {s with al:=s.al.set o (gS cs off row)} w'∧Ext M s w M {s with al:=s.al.set o (gS cs off row)} w':=by
 obtain⟨vs,T,hh,hs,⟨iM,hty⟩,jJ⟩:=r.obj o cs he
 replace hh:=hh.cells hk
 have ho:o<s.al.length:=(List.getElem?_eq_some_iff.1 he).1
 have jr:=run_storeCells_at P (M.mu o) off T us 0 vs w hh (by omega) h1
 simp only[Nat.add_zero]at jr
 have le:Le M s M {s with al:=s.al.set o (gS cs off row)}:=
  ⟨fun _ _ _ h=>h,by simp,fun _ _=> .refl _,Nat.le_refl _,fun t n _ h=>⟨n,h,Nat.le_refl _,fun _=>rfl⟩⟩
 generalize dB:(vs.toList.take off++us++vs.toList.drop (off+us.length)).toArray=jV at jr
 have s5:jV.size=vs.size:=by rw[← dB];simp;omega
 have gA : ∀ i,jV[i]? = if i<off then vs[i]? else if i<off+row.length then us[i - off]? else vs[i]? :=by
  intro i
  rw[← dB]
  simp only[List.getElem?_toArray]
  have hl:(vs.toList.take off).length=off:=by simp;omega
  split
  ·rename_i h3
   rw[List.append_assoc,List.getElem?_append_left (by omega),List.getElem?_take_of_lt h3];simp
  ·rename_i h3
   rw[List.append_assoc,List.getElem?_append_right (by omega),hl]
   split
   ·rename_i h4
    rw[List.getElem?_append_left (by omega)]
   ·rename_i h4
    rw[List.getElem?_append_right (by omega),List.getElem?_drop]
    rw[show off+us.length+(i - off - us.length)=i by omega];simp
 have nL : ∀ b,b≠M.mu o→(w.setRow (M.mu o) jV).heap[b]? = w.heap[b]? :=fun b hb=>setRow_other w (M.mu o) b _ hb
 refine⟨_,jr,⟨fun b q v e=>?_,fun o' ds e=>?_,fun q hq sn=>r.kl q (by simpa using hq) sn,fun q q' hq lk e=>r.inj q q' (by simpa using hq) (by simpa using lk) e,fun t n e=>?_,
  fun t b c z q hl e hq=>r.fO t b c z q hl e (by simpa using hq),fun t t' b c z c' z' h h' e e'=>r.gR t t' b c z c' z' h h' e e'⟩, ?_⟩
 ·obtain⟨h3,h4⟩:=r.comm b q v e
  refine⟨?_,h4⟩
  have hb:b≠M.mu o:=fun eq=>by subst eq;rw[r.kl o ho q]at e;cases e
  rw[← h3]
  simp[World.cell?,nL b hb]
 ·rw [List.getElem?_set]at e
  split at e
  ·rename_i heq
   subst heq
   simp at e
   obtain⟨_,rfl⟩:=e
   refine⟨jV,T,jz.of (l:=M.loc o) (setRow_heap w (M.mu o) vs jV T (0,0) hh) hk,by rw[s5,hs,vX cs off row kn],⟨fun v hv=>?_,hty⟩,fun i d v e1 e2=>?_⟩
   ·rw [← dB]at hv
    simp at hv
    rcases hv with hv|hv|hv
    ·exact iM v (Array.mem_toList_iff.1 (List.mem_of_mem_take hv))
    ·exact h1 v hv
    ·exact iM v (Array.mem_toList_iff.1 (List.mem_of_mem_drop hv))
   ·rw [sZ cs off row kn]at e1
    rw[gA]at e2
    split at e1
    ·rename_i h3;simp only[h3,if_true]at e2;exact(jJ i d v e1 e2).mono le
    ·rename_i h3
     simp only[h3,if_false]at e2
     split at e1
     ·rename_i h4;simp only[h4,if_true]at e2;exact(h2 _ d v e1 e2).mono le
     ·rename_i h4;simp only[h4,if_false]at e2;exact(jJ i d v e1 e2).mono le
  ·rename_i fu
   obtain⟨gv,T',h3,h4,h5,h6⟩:=r.obj o' ds e
   have pk:o'<s.al.length:=(List.getElem?_eq_some_iff.1 e).1
   refine⟨gv,T', ?_,h4,h5,fun i d v e1 e2=>(h6 i d v e1 e2).mono le⟩
   exact h3.keep (nL _ (fun eq=>fu (r.inj o o' ho pk eq.symm)))
 ·rcases r.tok t n e with h3 | ⟨b,cap,size,gv,T',h3,h4,h5⟩
  ·exact .inl h3
  ·refine .inr ⟨b,cap,size,gv,T',h3, ?_,h5⟩
   rw[nL b (fun eq=>r.fO t b cap size o ⟨n,e⟩ h3 ho eq.symm)];exact h4
 ·refine⟨le,fun b hb h3 _=>nL b (fun eq=>h3 o ho eq.symm),fun q h3 h4=> ?_,fun t b c z h e=> .inl ⟨h,c,z,e⟩,fun _ _ h=>(h rfl).elim,by simp,rfl,rfl,rfl⟩
  simp at h4;rcases h3 with h3|h3;omega;exact(h3 rfl).elim
def Map.gJ (M:Map) (b n:Nat) (vs:Array Value):Map:= {M with G:=fun b' o=>if b'=b then(if o<n then vs[o]? else none)else M.G b' o}
theorem Uu (r:Rel M s w) (n:Nat) (vs:Array Value):Le M s (M.gJ w.heap.size n vs) s:=
 ⟨fun b o v h=>by
  have hb:b≠w.heap.size:=fun e=>by have:=r.Dh h;omega
  simp[Map.gJ,hb,h],Nat.le_refl _,fun _ _=> .refl _,Nat.le_refl _,fun t n _ h=>⟨n,h,Nat.le_refl _,fun _=>rfl⟩⟩
theorem Rel.gJ (r:Rel M s w) (n:Nat) (vs:Array Value) (T:TypeId) (fr:Nat×Nat) (h1 : ∀ v∈vs,v.oneCell'=true) :
 Rel (M.gJ w.heap.size n vs) s (w.alloc (.cells vs T fr))∧Ext M s w (M.gJ w.heap.size n vs) s (w.alloc (.cells vs T fr)):=by
 have le:=Uu r n vs
 have hold : ∀ b,b<w.heap.size→∀ o,(M.gJ w.heap.size n vs).G b o=M.G b o:=fun b hb o=>by
  have:b≠w.heap.size:=by omega
  simp[Map.gJ,this]
 refine⟨⟨fun b o v e=>?_,fun o ds e=>?_,fun o ho off=>?_,r.inj,fun t k e=>?_,r.fO,r.gR⟩, ?_⟩
 ·by_cases hb:b=w.heap.size
  ·subst hb
   simp[Map.gJ]at e
   obtain⟨_,e⟩:=e
   refine⟨by rw[jA (heap_alloc_new w _)];exact e,h1 v (Array.mem_of_getElem? e)⟩
  ·simp [Map.gJ,hb]at e
   obtain⟨h3,h4⟩:=r.comm b o v e
   refine⟨?_,h4⟩
   rw[World.cell?_alloc_lt]
   ·exact h3
   ·exact r.Dh e
 ·obtain⟨gv,T',h3,h4,h5,h6⟩:=r.obj o ds e
  exact⟨gv,T',h3.keep (heap_alloc_old w _ _ h3.lt),h4,h5,fun i d v e1 e2=>(h6 i d v e1 e2).mono le⟩
 ·rw [hold]
  ·exact r.kl o ho off
  ·exact r.rZ ho
 ·rcases r.tok t k e with h3 | ⟨b,cap,size,gv,T',h3,h4,h5,h6,h7⟩
  ·exact .inl h3
  ·exact .inr ⟨b,cap,size,gv,T',h3,by rw[heap_alloc_old w _ _ (ln h4)];exact h4,h5,h6,fun off ho=>by rw[hold b (ln h4)];exact h7.1 off ho,h7.2⟩
 ·refine⟨le,fun b hb _ _=>heap_alloc_old w _ b hb,fun o h3 h4=>by rcases h3 with h3 | h3;omega;exact(h3 rfl).elim,fun t b c z h e=> .inl ⟨h,c,z,e⟩,fun b o h=> ?_,by simp,rfl,rfl,rfl⟩
  rcases Nat.lt_or_ge b w.heap.size with hb|hb
  ·exact(h (hold b hb o)).elim
  ·exact .inl hb
def Map.fP (M:Map) (t:Nat) (x:Option (Nat×Nat×Nat)):Map:= {M with be:=fun t'=>if t'=t then x else M.be t'}
theorem Rel.aaZ (r:Rel M s w) (n b cap size:Nat) (vs:Array Value) (T:TypeId) (hb:w.heap[b]? = some (.cells vs T (0,0))) (dU:vs.size=cap*zs size) (hn:n≤cap) (hy:size=0→T=qW)
 (hG : ∀ off,n*zs size≤off→M.G b off=none) (ho : ∀ o,o<s.al.length→M.mu o≠b) (ht : ∀ t c z,s.live t→M.be t≠some (b,c,z)) :
 Rel (M.fP s.aA.length (some (b,cap,size))) {s with aA:=s.aA++ [some n]} w∧Le M s (M.fP s.aA.length (some (b,cap,size))) {s with aA:=s.aA++ [some n]}:=by
 have jB : ∀ t,St.live {s with aA:=s.aA++ [some n]} t→s.live t∨t=s.aA.length:=by
  rintro t ⟨k,hk⟩
  rcases Nat.lt_or_ge t s.aA.length with h|h
  ·rw[List.getElem?_append_left h]at hk;exact .inl ⟨k,hk⟩
  ·have:=(List.getElem?_eq_some_iff.1 hk).1
   simp at this;exact .inr (by omega)
 have hD : ∀ t,s.live t→t<s.aA.length:=fun t ⟨k,hk⟩=>(List.getElem?_eq_some_iff.1 hk).1
 have hold : ∀ t,t<s.aA.length→(M.fP s.aA.length (some (b,cap,size))).be t=M.be t:=fun t h=>by simp[Map.fP];omega
 have dB:(M.fP s.aA.length (some (b,cap,size))).be s.aA.length=some (b,cap,size):=by simp[Map.fP]
 have le:Le M s (M.fP s.aA.length (some (b,cap,size))) {s with aA:=s.aA++ [some n]}:=
  ⟨fun _ _ _ h=>h,Nat.le_refl _,fun _ _=> .refl _,by simp,fun t k h e=>by
   rw[List.getElem?_append_left h]at e
   exact⟨k,e,Nat.le_refl _,fun _=>hold t h⟩⟩
 refine⟨⟨r.comm,fun o ds e=>?_,r.kl,r.inj,fun t k e=>?_,fun t b' c z o hl e pk=>?_,fun t t' b' c z c' z' h h' e e'=>?_⟩,le⟩
 ·obtain⟨gv,T',h3,h4,h5,h6⟩:=r.obj o ds e
  exact⟨gv,T',h3,h4,h5,fun i d v e1 e2=>(h6 i d v e1 e2).mono le⟩
 ·rcases Nat.lt_or_ge t s.aA.length with h | h
  ·rw [List.getElem?_append_left h]at e
   rw[hold t h];exact r.tok t k e
  ·have:=(List.getElem?_eq_some_iff.1 e).1
   simp at this
   have:t=s.aA.length:=by omega
   subst this
   simp at e;subst e
   exact .inr ⟨b,cap,size,vs,T,dB,hb,dU,hn,hG,hy⟩
 ·rcases jB t hl with h | h
  ·rw[hold t (hD t h)]at e;exact r.fO t b' c z o h e pk
  ·subst h;rw[dB]at e;cases e;exact ho o pk
 ·rcases jB t h with h | h <;> rcases jB t' h' with h' | h'
  ·rw[hold t (hD t h)]at e;rw[hold t' (hD t' h')]at e';exact r.gR t t' b' c z c' z' h h' e e'
  ·subst h';rw[dB]at e';cases e';rw[hold t (hD t h)]at e;exact(ht t c z h e).elim
  ·subst h;rw[dB]at e;cases e;rw[hold t' (hD t' h')]at e';exact(ht t' c' z' h' e').elim
  ·omega
theorem Rel.ajV (r:Rel M s w) (t n n' b cap size:Nat) (vs:Array Value) (T:TypeId) (G0:s.aA[t]? = some (some n)) (hnn:n<n') (hb:w.heap[b]? = some (.cells vs T (0,0))) (dU:vs.size=cap*zs size) (hn:n'≤cap) (hy:size=0→T=qW)
 (hG : ∀ off,n'*zs size≤off→M.G b off=none) (ho : ∀ o,o<s.al.length→M.mu o≠b) (ht : ∀ t c z,s.live t→M.be t≠some (b,c,z)) :
 Rel (M.fP t (some (b,cap,size))) {s with aA:=s.aA.set t (some n')} w∧Le M s (M.fP t (some (b,cap,size))) {s with aA:=s.aA.set t (some n')}:=by
 have wF:t<s.aA.length:=(List.getElem?_eq_some_iff.1 G0).1
 have jB : ∀ q,St.live {s with aA:=s.aA.set t (some n')} q→s.live q:=by
  rintro q ⟨k,hk⟩
  rw[List.getElem?_set]at hk
  split at hk
  ·rename_i h;subst h;exact⟨n,G0⟩
  ·exact⟨k,hk⟩
 have hold : ∀ q,q≠t→(M.fP t (some (b,cap,size))).be q=M.be q:=fun q h=>by simp[Map.fP,h]
 have dB:(M.fP t (some (b,cap,size))).be t=some (b,cap,size):=by simp[Map.fP]
 have le:Le M s (M.fP t (some (b,cap,size))) {s with aA:=s.aA.set t (some n')}:=
  ⟨fun _ _ _ h=>h,Nat.le_refl _,fun _ _=> .refl _,by simp,fun q k h e=>by
   rw[List.getElem?_set]at e
   split at e
   ·rename_i h2;subst h2
    simp at e;subst e
    exact⟨n,G0,by omega,fun h=>by omega⟩
   ·rename_i h2
    exact⟨k,e,Nat.le_refl _,fun _=>hold q (fun h=>h2 h.symm)⟩⟩
 refine⟨⟨r.comm,fun o ds e=>?_,r.kl,r.inj,fun q k e=>?_,fun q b' c z o hl e pk=>?_,fun q q' b' c z c' z' h h' e e'=>?_⟩,le⟩
 ·obtain⟨gv,T',h3,h4,h5,h6⟩:=r.obj o ds e
  exact⟨gv,T',h3,h4,h5,fun i d v e1 e2=>(h6 i d v e1 e2).mono le⟩
 ·rw [List.getElem?_set]at e
  split at e
  ·rename_i h2;subst h2
   simp at e;subst e
   exact .inr ⟨b,cap,size,vs,T,dB,hb,dU,hn,hG,hy⟩
  ·rename_i h2
   rw[hold q (fun h=>h2 h.symm)];exact r.tok q k e
 ·by_cases h:q=t
  ·subst h;rw[dB]at e;cases e;exact ho o pk
  ·rw[hold q h]at e;exact r.fO q b' c z o (jB q hl) e pk
 ·by_cases h1:q=t <;> by_cases h2:q'=t
  ·omega
  ·subst h1;rw[dB]at e;cases e;rw[hold q' h2]at e';exact(ht q' c' z' (jB q' h') e').elim
  ·subst h2;rw[dB]at e';cases e';rw[hold q h1]at e;exact(ht q c z (jB q h) e).elim
  ·rw[hold q h1]at e;rw[hold q' h2]at e';exact r.gR q q' b' c z c' z' (jB q h) (jB q' h') e e'
def Map.fix (M:Map) (b lo:Nat) (us:List Value):Map:=
 {M with G:=fun b' o=>if b'=b∧lo≤o∧o<lo+us.length then us[o - lo]? else M.G b' o}
theorem Rel.ajW (r:Rel M s w) (t n m b cap z size:Nat) (us:List Value) (hz:zs z=size) (G0:s.aA[t]? = some (some n)) (lV:M.be t=some (b,cap,z)) (Fm:us.length=m*size) (ij:n+m≤cap) (hm:0<m)
 (h1 : ∀ u∈us,u.oneCell'=true) (vs:Array Value) (T:TypeId) (hh:w.heap[b]? = some (.cells vs T (0,0))) (dU:vs.size=cap*size) (hy:z=0→T=qW) :
 Rel (M.fix b (n*size) us) {s with aA:=s.aA.set t (some (n+m))} (w.setRow b (vs.toList.take (n*size)++us++vs.toList.drop (n*size+us.length)).toArray)∧
 Ext M s w (M.fix b (n*size) us) {s with aA:=s.aA.set t (some (n+m))} (w.setRow b (vs.toList.take (n*size)++us++vs.toList.drop (n*size+us.length)).toArray):=by
 have wF:t<s.aA.length:=(List.getElem?_eq_some_iff.1 G0).1
 have Ap:s.live t:=⟨n,G0⟩
 have QV : ∀ off,n*size≤off→M.G b off=none:=by
  rcases r.tok t n G0 with ⟨h3,_⟩|⟨b',sq,Bk,gv,T',h3,h4,h5,h6,h7⟩
  ·rw[lV]at h3;cases h3
  ·rw[lV]at h3;cases h3;rw[← hz];exact h7.1
 have kn:n*size+us.length≤vs.size:=by rw[Fm,dU, ← Nat.add_mul];exact Nat.mul_le_mul_right _ ij
 have jB : ∀ q,St.live {s with aA:=s.aA.set t (some (n+m))} q→s.live q:=by
  rintro q ⟨k,hk⟩
  rw[List.getElem?_set]at hk
  split at hk
  ·rename_i h;subst h;exact Ap
  ·exact⟨k,hk⟩
 generalize dB:(vs.toList.take (n*size)++us++vs.toList.drop (n*size+us.length)).toArray=jV
 have s5:jV.size=vs.size:=by rw[← dB];simp;omega
 have gA : ∀ i,jV[i]? = if i<n*size then vs[i]? else if i<n*size+us.length then us[i - n*size]? else vs[i]? :=by
  intro i
  rw[← dB]
  simp only[List.getElem?_toArray]
  have hl:(vs.toList.take (n*size)).length=n*size:=by simp;omega
  split
  ·rename_i h3
   rw[List.append_assoc,List.getElem?_append_left (by omega),List.getElem?_take_of_lt h3];simp
  ·rename_i h3
   rw[List.append_assoc,List.getElem?_append_right (by omega),hl]
   split
   ·rename_i h4
    rw[List.getElem?_append_left (by omega)]
   ·rename_i h4
    rw[List.getElem?_append_right (by omega),List.getElem?_drop]
    rw[show n*size+us.length+(i - n*size - us.length)=i by omega];simp
 have eK:(w.setRow b jV).heap[b]? = some (.cells jV T (0,0)):=setRow_heap w b vs jV T (0,0) hh
 have nL : ∀ q,q≠b→(w.setRow b jV).heap[q]? = w.heap[q]? :=fun q hq=>setRow_other w b q _ hq
 have le:Le M s (M.fix b (n*size) us) {s with aA:=s.aA.set t (some (n+m))}:=by
  refine⟨fun b' o v h=>?_,Nat.le_refl _,fun _ _=> .refl _,by simp,fun q k h e=>?_⟩
  ·show(if b'=b∧n*size≤o∧o<n*size+us.length then us[o - n*size]? else M.G b' o)=some v
   rw[if_neg]
   ·exact h
   ·rintro⟨rfl,h3,_⟩;rw[QV o h3]at h;cases h
  ·rw [List.getElem?_set]at e
   split at e
   ·rename_i h2;subst h2
    simp at e;subst e
    exact⟨n,G0,by omega,fun h=>by omega⟩
   ·exact⟨k,e,Nat.le_refl _,fun _=>rfl⟩
 have mT : ∀ b' o,b'≠b→(M.fix b (n*size) us).G b' o=M.G b' o:=fun b' o h=>by simp[Map.fix,h]
 refine⟨⟨fun b' o v e=>?_,fun o ds e=>?_,fun o ho off=>?_,r.inj,fun q k e=>?_,fun q b' c z o hl e pk=>r.fO q b' c z o (jB q hl) e pk,
  fun q q' b' c z c' z' h h' e e'=>r.gR q q' b' c z c' z' (jB q h) (jB q' h') e e'⟩, ?_⟩
 ·by_cases hb:b'=b
  ·subst hb
   rw[jA eK,gA]
   have e':(if b'=b'∧n*size≤o∧o<n*size+us.length then us[o - n*size]? else M.G b' o)=some v:=e
   by_cases h3:n*size≤o
   ·by_cases h4:o<n*size+us.length
    ·rw [if_pos ⟨rfl,h3,h4⟩]at e'
     rw[if_neg (by omega),if_pos h4]
     exact⟨e',h1 v (List.mem_of_getElem? e')⟩
    ·rw[if_neg (fun h=>h4 h.2.2),QV o h3]at e';cases e'
   ·rw [if_neg (fun h=>h3 h.2.1)]at e'
    obtain⟨h5,h6⟩:=r.comm b' o v e'
    rw[jA hh]at h5
    rw[if_pos (by omega)]
    exact⟨h5,h6⟩
  ·rw [mT b' o hb]at e
   obtain⟨h5,h6⟩:=r.comm b' o v e
   refine⟨?_,h6⟩
   rw[← h5]
   simp[World.cell?,nL b' hb]
 ·obtain⟨gv,T',h3,h4,h5,h6⟩:=r.obj o ds e
  have ho:o<s.al.length:=(List.getElem?_eq_some_iff.1 e).1
  refine⟨gv,T', ?_,h4,h5,fun i d v e1 e2=>(h6 i d v e1 e2).mono le⟩
  exact h3.keep (nL _ (r.fO t b cap z o Ap lV ho))
 ·show(M.fix b (n*size) us).G (M.mu o) off=none
  rw[mT _ _ (r.fO t b cap z o Ap lV ho)];exact r.kl o ho off
 ·rw [List.getElem?_set]at e
  split at e
  ·rename_i h2;subst h2
   simp at e;subst e
   refine .inr ⟨b,cap,z,jV,T,lV,eK,by rw[s5,dU,hz],ij,fun off ho=>?_,hy⟩
   rw[hz]at ho
   show(if b=b∧n*size≤off∧off<n*size+us.length then us[off - n*size]? else M.G b off)=none
   rw[Nat.add_mul]at ho
   rw[if_neg (by rintro⟨_,_,h⟩;omega)]
   exact QV off (by omega)
  ·rename_i h2
   rcases r.tok q k e with h3|⟨b',sq,Bk,gv,T',h3,h4,h5,h6,h7⟩
   ·exact .inl h3
   ·have fu:b'≠b:=fun h=>h2 (r.gR t q b cap z sq Bk Ap ⟨k,e⟩ lV (by rw [h3,h]))
    exact .inr ⟨b',sq,Bk,gv,T',h3,by rw[nL b' fu];exact h4,h5,h6,fun off ho=>by rw[mT b' off fu];exact h7.1 off ho,h7.2⟩
 ·refine⟨le,fun q _ _ h4=>nL q (fun h=>h4 t cap z Ap (by rw [lV,h])),fun o h3 h4=>by simp at h4;rcases h3 with h3 | h3;omega;exact(h3 rfl).elim,fun q b' c z h e=> .inl ⟨jB q h,c,z,e⟩,fun b' o h=> ?_,by simp,rfl,rfl,rfl⟩
  by_cases hb:b'=b
  ·exact .inr ⟨t,cap,z,Ap,by rw[lV,hb]⟩
  ·exact(h (mT b' o hb)).elim
theorem Rel.freeze (r:Rel M s w) {b:Nat} (off n:Nat) (ho : ∀ o,o<s.al.length→M.mu o≠b) (ht : ∀ t c z,s.live t→M.be t≠some (b,c,z)) :
 Rel M s (w.freeze ⟨b,off,none⟩ n)∧(∀ q,q≠b→(w.freeze ⟨b,off,none⟩ n).heap[q]? = w.heap[q]?)∧(w.freeze ⟨b,off,none⟩ n).heap.size=w.heap.size∧
 (w.freeze ⟨b,off,none⟩ n).os=w.os∧(w.freeze ⟨b,off,none⟩ n).tape=w.tape∧(w.freeze ⟨b,off,none⟩ n).output=w.output:=by
 by_cases hn:n=0
 ·simp[World.freeze,hn,r]
 ·have hh : ∀ q,q≠b→(w.freeze ⟨b,off,none⟩ n).heap[q]? = w.heap[q]? :=fun q hq=>by
   simp[World.freeze,hn,Array.getElem?_modify,Ne.symm hq]
  have iU : ∀ q o,(w.freeze ⟨b,off,none⟩ n).cell? ⟨q,o,none⟩=w.cell? ⟨q,o,none⟩:=by
   intro q o
   by_cases hq:q=b
   ·subst hq
    unfold World.cell?
    simp only[World.freeze,hn,if_false,Array.getElem?_modify,if_true]
    cases h:w.heap[q]? with
    |none=>rfl
    |some x=>cases x<;>rfl
   ·simp[World.cell?,hh q hq]
  refine⟨⟨fun q o v e=>?_,fun o ds e=>?_,r.kl,r.inj,fun t k e=>?_,r.fO,r.gR⟩,hh,by simp[World.freeze,hn],by simp[World.freeze,hn],by simp[World.freeze,hn],by simp[World.freeze,hn]⟩
  ·rw[iU];exact r.comm q o v e
  ·obtain⟨vs,T,h1,h2⟩:=r.obj o ds e
   exact⟨vs,T,h1.keep (hh _ (ho o (List.getElem?_eq_some_iff.1 e).1)),h2⟩
  ·rcases r.tok t k e with h3 | ⟨b',cap,size,vs,T,h3,h4,h5⟩
   ·exact .inl h3
   ·refine .inr ⟨b',cap,size,vs,T,h3, ?_,h5⟩
    rw[hh]
    ·exact h4
    ·rintro rfl;exact ht t cap size ⟨k,e⟩ h3
theorem Rel.ajX (r:Rel M s w) (t:Nat):Rel M {s with aA:=s.aA.set t none} w∧Le M s M {s with aA:=s.aA.set t none}:=by
 have jB : ∀ q,St.live {s with aA:=s.aA.set t none} q→s.live q:=by
  rintro q ⟨k,hk⟩
  rw[List.getElem?_set]at hk
  split at hk
  ·split at hk<;>simp at hk
  ·exact⟨k,hk⟩
 have vY : ∀ (q k:Nat),(s.aA.set t none)[q]? = some (some k)→s.aA[q]? = some (some k):=by
  intro q k e
  rw[List.getElem?_set]at e
  split at e
  ·split at e<;>simp at e
  ·exact e
 have le:Le M s M {s with aA:=s.aA.set t none}:=
  ⟨fun _ _ _ h=>h,Nat.le_refl _,fun _ _=> .refl _,by simp,fun q k _ e=>⟨k,vY q k e,Nat.le_refl _,fun _=>rfl⟩⟩
 refine⟨⟨r.comm,fun o ds e=>?_,r.kl,r.inj,fun q k e=>r.tok q k (vY q k e),fun q b' c z o hl e pk=>r.fO q b' c z o (jB q hl) e pk,
  fun q q' b' c z c' z' h h' e e'=>r.gR q q' b' c z c' z' (jB q h) (jB q' h') e e'⟩,le⟩
 obtain⟨gv,T',h3,h4,h5,h6⟩:=r.obj o ds e
 exact⟨gv,T',h3,h4,h5,fun i d v e1 e2=>(h6 i d v e1 e2).mono le⟩
end
end Go.Abs
namespace Go.Abs
section
variable {M:Map} {s:St} {w:World}
theorem RD.jq {k:IntKind} {n:Int} {v:Value} (h:RD M s (.int k n) v):v = .int k n:=by cases h;rfl
theorem RD.pE {b:Bool} {v:Value} (h:RD M s (.bool b) v):v = .bool b:=by cases h;rfl
theorem RD.mM {l:List UInt8} {v:Value} (h:RD M s (.str l) v):v = .string ⟨⟨l⟩⟩:=by cases h;rfl
theorem RD.uA {v:Value} (h:RD M s .eY v):v = .pointer none:=by cases h;rfl
theorem RD.uB {o off:Nat} {v:Value} (h:RD M s (.ptr o off) v):v = .pointer (some ⟨M.mu o,off,none⟩)∧o<s.al.length:=by
 cases h with|ptr _ _ h hm=>exact⟨rfl,h⟩
theorem RD.Di {o off:Nat} {v:Value} (h:RD M s (.ptr o off) v):(M.ob o).plain:=by cases h with|ptr _ _ h hm=>exact hm
theorem RD.LY {o:Nat} {v:Value} (h:RD M s (.gT o) v):v = .map (some (M.mu o))∧o<s.al.length∧M.ob o = .map:=by cases h with|gT _ h hm=>exact⟨rfl,h,hm⟩
theorem RD.uC {z o g len:Nat} {v:Value} (h:RD M s (.dK z o g len) v) : ∃ b cap A,v = .slice (some ⟨b,0,none⟩) len cap∧o<s.al.length∧M.ob o = .arr z A∧A g=some (b,cap)∧len≤cap:=by
 cases h with|dK _ _ _ _ b cap A h hm ha hl=>exact⟨b,cap,A,rfl,h,hm,ha,hl⟩
theorem RD.FP {o g off:Nat} {v:Value} (h:RD M s (.gh o g off) v) : ∃ z b cap A,v = .pointer (some ⟨b,off,none⟩)∧o<s.al.length∧M.ob o = .arr z A∧A g=some (b,cap):=by
 cases h with|gh z _ _ _ b cap A h hm ha=>exact⟨z,b,cap,A,rfl,h,hm,ha⟩
theorem RD.FQ {z:Nat} {v:Value} (h:RD M s (.fk z) v) : ∃ a,v = .slice a 0 0:=by cases h with|fk _ a=>exact⟨a,rfl⟩
theorem RD.PD {f:Nat} {ds:List D} {v:Value} (h:RD M s (.ix f ds) v) : ∃ vs:Array Value,v = .func (.func f) #[] vs∧ds.length=vs.size∧
 ∀ (i:Nat) (d:D) (v:Value),ds[i]? = some d→vs[i]? = some v→RD M s d v:=by
 cases h with|ix _ _ vs h1 h2=>exact⟨vs,rfl,h1,h2⟩
theorem RD.Bl {row:List D} {off:Nat} {v:Value} (h:RD M s (.dS row off) v) : ∃ b k,v = .pointer (some ⟨b,k+off,none⟩)∧
 (∀ (i:Nat) (d:D),row[i]? = some d→∃ u,M.G b (k+i)=some u)∧(∀ (i:Nat) (d:D) (u:Value),row[i]? = some d→M.G b (k+i)=some u→RD M s d u):=by
 cases h with|dS _ _ b k h1 h2=>exact⟨b,k,rfl,h1,h2⟩
theorem RD.I1 {ds:List D} {v:Value} (h:RD M s (.agg ds) v) : ∃ vs:Array Value,v = .agg vs∧ds.length=vs.size∧(∀ v∈vs,v.oneCell'=true)∧
 ∀ (i:Nat) (d:D) (v:Value),ds[i]? = some d→vs[i]? = some v→RD M s d v:=by
 cases h with|agg _ vs h1 h2 h3=>exact⟨vs,rfl,h1,h2,h3⟩
theorem RD.JU {ds:List D} {v:Value} (h:RD M s (.tuple ds) v) : ∃ vs:Array Value,v = .tuple vs∧ds.length=vs.size∧
 ∀ (i:Nat) (d:D) (v:Value),ds[i]? = some d→vs[i]? = some v→RD M s d v:=by
 cases h with|tuple _ vs h1 h2=>exact⟨vs,rfl,h1,h2⟩
theorem RD.undef:RD M s (.tuple []) Go.undef:= .tuple [] #[] rfl (fun i d v h=>by simp at h)
theorem RD.kb {g:Tag} {z:Nat} {rows:List (List D)} {v:Value} (h:RD M s (.slice g z rows) v) :
 (rows = []∧v = .slice none 0 0∧jN M s g z 0 none 0)∨(rows = []∧g = .shared∧∃ a cap,v = .slice (some a) 0 cap)∨
 ∃ b k cap,v = .slice (some ⟨b,k,none⟩) rows.length cap∧rows.length≤cap∧(∀ row∈rows,row.length=z)∧
  (∀ (i:Nat) (row:List D) (j:Nat) (d:D),rows[i]? = some row→row[j]? = some d→∃ u,M.G b (k+(i*z+j))=some u)∧
  (∀ (i:Nat) (row:List D) (j:Nat) (d:D) (u:Value),rows[i]? = some row→row[j]? = some d→M.G b (k+(i*z+j))=some u→RD M s d u)∧
  jN M s g z rows.length (some (b,k)) cap:=by
 cases h with
 |jI _ _ cap hc ht=>subst hc;exact .inl ⟨rfl,rfl,ht⟩
 |mS _ a cap=>exact .inr (.inl ⟨rfl,rfl,a,cap,rfl⟩)
 |slice _ _ _ b k cap hl hs h1 h2 ht=>exact .inr (.inr ⟨b,k,cap,rfl,hl,hs,h1,h2,ht⟩)
theorem RD.row {d:D} {v:Value} (h:RD M s d v) {r:List D} (hr:d.row=some r):v.cells.size=r.length∧(∀ u∈v.cells,u.oneCell'=true)∧
 ∀ (i:Nat) (d':D) (u:Value),r[i]? = some d'→v.cells[i]? = some u→RD M s d' u:=by
 have one : ∀ (x:Value),x.oneCell'=true→x.cells = #[x]:=by intro x hx;cases x<;>first|rfl|(simp[Value.oneCell']at hx)
 have go : ∀ (x:Value),x.oneCell'=true→RD M s d x→d.row=some [d]→x.cells.size=r.length∧(∀ u∈x.cells,u.oneCell'=true)∧
  ∀ (i:Nat) (d':D) (u:Value),r[i]? = some d'→x.cells[i]? = some u→RD M s d' u:=by
  intro x hx hd h1
  rw[h1]at hr;cases hr
  rw[one x hx]
  refine⟨rfl,by simp[hx],fun i d' u e1 e2=>?_⟩
  cases i with
  |zero=>simp at e1 e2;subst e1;subst e2;exact hd
  |succ i=>simp at e1
 cases h with
 |junk v=>cases hr
 |int k n=>exact go _ rfl (.int k n) rfl
 |bool b=>exact go _ rfl (.bool b) rfl
 |str l=>exact go _ rfl (.str l) rfl
 |eY=>exact go _ rfl .eY rfl
 |val v hv=>exact go _ hv (.val v hv) rfl
 |gf T o v h ht hv=>exact go _ (by rcases hv with rfl|rfl<;>rfl) (.gf T o v h ht hv) rfl
 |ptr o off h hm=>exact go _ rfl (.ptr o off h hm) rfl
 |ix f ds vs hl h=>exact go _ rfl (.ix f ds vs hl h) rfl
 |gT o h hm=>exact go _ rfl (.gT o h hm) rfl
 |dS row off b k h1 h2=>exact go _ rfl (.dS row off b k h1 h2) rfl
 |jI g z cap hc ht=>exact go _ rfl (.jI g z cap hc ht) rfl
 |mS z a cap=>exact go _ rfl (.mS z a cap) rfl
 |slice g z rows b k cap hl hs h1 h2 ht=>exact go _ rfl (.slice g z rows b k cap hl hs h1 h2 ht) rfl
 |dK z o g len b cap A h hm ha hl=>exact go _ rfl (.dK z o g len b cap A h hm ha hl) rfl
 |gh z o g off b cap A h hm ha=>exact go _ rfl (.gh z o g off b cap A h hm ha) rfl
 |fk z a=>exact go _ rfl (.fk z a) rfl
 |agg cells vs hl h1 h2=>cases hr;exact⟨hl.symm,h1,h2⟩
 |tuple ds vs hl h1=>cases hr
theorem sa {v:Value} {d:D} (h:uy v=some d):RD M s d v∧v.oneCell'=true:=by
 unfold uy at h
 split at h<;>first|(cases h;done)|skip
 ·cases h;exact⟨.int _ _,rfl⟩
 ·cases h;exact⟨.bool _,rfl⟩
 ·cases h;exact⟨.str _,rfl⟩
 ·cases h;exact⟨.eY,rfl⟩
 ·cases h;exact⟨.jI _ _ 0 rfl rfl,rfl⟩
 ·cases h;exact⟨.val _ rfl,rfl⟩
 ·cases h;exact⟨.val _ rfl,rfl⟩
 ·cases h;exact⟨.val _ rfl,rfl⟩
theorem mN : ∀ {vs:List Value} {ds:List D},pD vs=some ds→ds.length=vs.length∧(∀ v∈vs,v.oneCell'=true)∧
 ∀ (i:Nat) (d:D) (v:Value),ds[i]? = some d→vs[i]? = some v→RD M s d v
 | [],ds,h=>by cases h;exact⟨rfl,by simp,by simp⟩
 | v::r,ds,h=>by
  unfold pD at h
  split at h
  ·rename_i d pj h1 h2
   cases h
   obtain⟨a,b⟩:=sa (M:=M) (s:=s) h1
   obtain⟨i1,i2,i3⟩:=mN h2
   refine⟨by simp[i1],fun u hu=>?_,fun i d' u e1 e2=>?_⟩
   ·rcases List.mem_cons.1 hu with rfl | hu
    ·exact b
    ·exact i2 u hu
   ·cases i with
    |zero=>simp at e1 e2;subst e1;subst e2;exact a
    |succ i=>simp at e1 e2;exact i3 i d' u e1 e2
  ·cases h
theorem I2 {v:Value} {d:D} (h:FM v=some d):RD M s d v∧v.oneCell'=true:=by
 unfold FM at h
 split at h
 ·cases h;exact⟨.val _ rfl,rfl⟩
 ·exact sa h
theorem yw : ∀ {vs:List Value} {ds:List D},yv vs=some ds→ds.length=vs.length∧(∀ v∈vs,v.oneCell'=true)∧
 ∀ (i:Nat) (d:D) (v:Value),ds[i]? = some d→vs[i]? = some v→RD M s d v
 | [],ds,h=>by cases h;exact⟨rfl,by simp,by simp⟩
 | v::r,ds,h=>by
  unfold yv at h
  split at h
  ·rename_i d pj h1 h2
   cases h
   obtain⟨g1,g2⟩:=I2 (M:=M) (s:=s) h1
   obtain⟨k1,k2,k3⟩:=yw h2
   refine⟨by simp[k1],fun u hu=>?_,fun i d' u e1 e2=>?_⟩
   ·rcases List.mem_cons.1 hu with rfl | hu
    ·exact g2
    ·exact k2 u hu
   ·cases i with
    |zero=>simp at e1 e2;subst e1;subst e2;exact g1
    |succ i=>exact k3 i d' u (by simpa using e1) (by simpa using e2)
  ·cases h
theorem Fo {b:Bool} {vs:List Value} {ds:List D} (h:QS b vs=some ds):ds.length=vs.length∧(∀ v∈vs,v.oneCell'=true)∧
 ∀ (i:Nat) (d:D) (v:Value),ds[i]? = some d→vs[i]? = some v→RD M s d v:=by
 unfold QS at h
 split at h
 ·exact yw h
 ·exact mN h
theorem QW {v:Value} {d:D} (h:QQ v=some d):RD M s d v:=by
 unfold QQ at h
 split at h
 ·rename_i cs
  cases hc:pD cs.toList with
  |none=>rw[hc]at h;cases h
  |some ds=>
   rw[hc]at h;cases h
   obtain⟨h1,h2,h3⟩:=mN (M:=M) (s:=s) hc
   exact .agg ds cs (by simpa using h1) (fun v hv=>h2 v (by simpa using hv)) (fun i d v e1 e2=>h3 i d v e1 (by simpa using e2))
 ·cases h;exact .undef
 ·exact(sa h).1
def nM (M:Map) (s:St) (tm:Tm) (tmps:Array Value):Prop:=∀ t,RD M s (tm.get t) (tmps.getD t Go.undef)
theorem nM.mono {M':Map} {s':St} {tm:Tm} {tmps:Array Value} (h:nM M s tm tmps) (le:Le M s M' s'):nM M' s' tm tmps:=fun t=>(h t).mono le
theorem cv {x:Operand} {y:X} (h:cX x=some y) {tm:Tm} {act:Act} (hr:nM M s tm act.tmps):RD M s (y.ev tm) (act.eval x):=by
 unfold cX at h
 split at h
 ·cases h;exact hr _
 ·rename_i v
  cases hv:QQ v with
  |none=>rw[hv]at h;cases h
  |some d=>rw[hv]at h;cases h;exact QW hv
 ·cases h;exact .ix _ [] #[] rfl (by simp)
 ·cases h
theorem Tm.I3 (tm:Tm) (t:Nat) (d:D) (u:Nat):(tm.set t d).get u=if u=t then d else tm.get u:=by
 induction tm with
 |nil=>
  simp only[Tm.set,Tm.get]
  by_cases h:t=u
  ·simp[h]
  ·rw[if_neg h,if_neg (fun e=>h e.symm)]
 | cons p r ih=>
  obtain⟨k,e⟩:=p
  simp only[Tm.set]
  split
  ·rename_i h
   subst h
   simp only[Tm.get]
   by_cases h:k=u
   ·simp[h]
   ·rw[if_neg h,if_neg (fun e=>h e.symm),if_neg h]
  ·rename_i h
   simp only[Tm.get,ih]
   by_cases h1:k=u
   ·subst h1;simp[h]
   ·simp[h1]
theorem nM.put {tm:Tm} {act:Act} (h:nM M s tm act.tmps) {dst:Option Nat} (hd : ∀ t,dst=some t→t<act.tmps.size) {d:D} {v:Value} (hv:RD M s d v) :
 nM M s (tm.put dst d) (act.put dst v).tmps:=by
 intro u
 cases dst with
 |none=>exact h u
 | some t=>
  simp only[Tm.put,Act.put,Tm.I3]
  have ht:=hd t rfl
  by_cases hu:u=t
  ·subst hu
   simp[ht];exact hv
  ·rw [if_neg hu]
   have:=h u
   simpa[Array.getElem?_setIfInBounds_ne (fun e=>hu e.symm)]using this
theorem gX (P:Program) {t:TypeId} {i:TypeInfo} (h:P.info? t=some i) (w:World):(typeInfo t).run P w = .ok i w:=by
 simp[typeInfo,h]
theorem n7 (b o n:Nat):Addr.add ⟨b,o,none⟩ n = ⟨b,o+n,none⟩:=Addr.add_lit b o n
theorem Bm (P:Program) {t:TypeId} {i:TypeInfo} {agg:Bool} (hi:P.info? t=some i) (ha:sX P t=some agg) (b k:Nat) (us:List Value)
 (hl:us.length=if agg then i.size else 1) (h : ∀ (j:Nat) (u:Value),us[j]? = some u→w.cell? ⟨b,k+j,none⟩=some u) :
 (loadVar t ⟨b,k,none⟩).run P w = .ok (if agg then .agg us.toArray else us.getD 0 Go.undef) w:=by
 have Dj:(isAgg t).run P w = .ok agg w:=by
  unfold sX at ha
  unfold isAgg
  cases hu:P.underlying t with
  |none=>rw[hu]at ha;cases ha
  |some d=>
   rw[hu]at ha
   simp only[Sem.run_bind,run_underlying hu,Result.andThen_ok]
   cases d<;>simp_all
 cases agg with
 |true=>
  simp only[if_true]at hl ⊢
  have hc:=run_loadCells_list (P:=P) w ⟨b,k,none⟩ us (fun j v e=>by rw[n7];exact h j v e)
  simp[loadVar,Dj,sizeOf,gX P hi, ← hl,hc]
 | false=>
  simp only[Bool.false_eq_true,if_false]at hl ⊢
  match us,hl with
  | [u],_=>
   have:=h 0 u rfl
   simp only[Nat.add_zero]at this
   simp[loadVar,Dj,this]
theorem sI {cs:List D} {off:Nat} {agg:Bool} {size:Nat} {d:D} (h:part cs off agg size=some d) :
 (agg=true∧off+size≤cs.length∧d = .agg ((cs.drop off).take size))∨(agg=false∧cs[off]? = some d):=by
 unfold part at h
 split at h
 ·split at h
  ·cases h;exact .inl ⟨rfl, ‹_›,rfl⟩
  ·cases h
 ·exact .inr ⟨rfl,h⟩
theorem s6 {cs:List D} {off size:Nat} {agg:Bool} {d:D} (h:part cs off agg size=some d) (us:List Value) (hl:us.length=if agg then size else 1)
 (iM:agg=true→∀ u∈us,u.oneCell'=true)
 (hr : ∀ (j:Nat) (d:D) (u:Value),cs[off+j]? = some d→us[j]? = some u→RD M s d u):RD M s d (if agg then .agg us.toArray else us.getD 0 Go.undef):=by
 rcases sI h with ⟨rfl,h1,rfl⟩|⟨rfl,h1⟩
 ·simp only [if_true]at hl ⊢
  refine .agg _ _ (by simp[hl];omega) (fun v hv=>iM rfl v (by simpa using hv)) (fun i d v e1 e2=>?_)
  rw[List.getElem?_take]at e1
  split at e1
  ·rw [List.getElem?_drop]at e1
   exact hr i d v e1 (by simpa using e2)
  ·cases e1
 ·simp only [Bool.false_eq_true,if_false]at hl ⊢
  match us,hl with
  | [u],_=>exact hr 0 d u (by simpa using h1) rfl
end
end Go.Abs
namespace Go.Abs
def dq (P:Program) (M:Map) (s:St) (w:World) (x:Sem Next) (d:D) (s':St):Prop:=
 ∃ v w' M',(x.run P w = .ok (.value v) w'∨(x.run P w = .ok .skip w'∧v=Go.undef))∧Rel M' s' w'∧RD M' s' d v∧Ext M s w M' s' w'
section
variable {P:Program} {M:Map} {s:St} {w:World}
theorem dq.pure {x:Sem Next} {d:D} {v:Value} (r:Rel M s w) (h:x.run P w = .ok (.value v) w) (hd:RD M s d v):dq P M s w x d s:=
 ⟨v,w,M, .inl h,r,hd,Ext.refl M s w⟩
theorem QX (r:Rel M s w) {t:TypeId} {z:List D} (hz:zeroOf P t=some z) :
 dq P M s w (do pure (.value (← Instr.alloc t true (.tuple #[])))) (.ptr s.al.length 0) {s with al:=s.al++ [z]}:=by
 unfold zeroOf at hz
 split at hz
 ·rename_i i hi
  split at hz
  ·rename_i v hv
   split at hz
   ·rename_i dU
    obtain⟨h1,h2,h3⟩:=mN (M:=M) (s:=s) hz
    obtain⟨r',e'⟩:=r.eQ z v.cells t (by rw[h1];simp) (fun u hu=>h2 u (by simpa using hu)) (fun i d u e1 e2=>h3 i d u e1 (by simpa using e2))
    refine⟨_,_,_, .inl ?_,r', .ptr _ _ (by simp) (by simp[Map.eQ,Map.ob,Ob.plain]),e'⟩
    simp[Instr.alloc,zeroValue,gX P hi,hv,newVar,newRow,Map.eQ,Map.mu]
   ·cases hz
  ·cases hz
 ·cases hz
theorem ON (r:Rel M s w) {t:TypeId} {z:List D} (hz:Bj P t=some (.eY::z)) :
 dq P M s w (do pure (.value (← Instr.alloc t true (.tuple #[])))) (.ptr s.al.length 0) {s with al:=s.al++ [.gf t s.al.length::z]}:=by
 unfold Bj at hz
 split at hz
 ·rename_i i hi
  split at hz
  ·rename_i v hv
   split at hz
   ·rename_i dU
    obtain⟨h1,h2,h3⟩:=Fo (M:=M) (s:=s) hz
    obtain⟨r',e'⟩:=r.LX (.gf t s.al.length::z) v.cells t (.ty t) trivial (fun _ h=>by cases h;rfl) (by simp at h1 ⊢;omega) (fun u hu=>h2 u (by simpa using hu)) (fun i d u e1 e2=>by
     cases i with
     |zero=>
      simp at e1;subst e1
      have:=(h3 0 .eY u rfl (by simpa using e2)).uA
      exact .gf t _ u (by simp) (by simp[Map.eQ,Map.ty,Ob.ty?]) (.inl this)
     |succ i=>exact(h3 (i+1) d u (by simpa using e1) (by simpa using e2)).mono (uz s w.heap.size _ _))
    refine⟨_,_,_, .inl ?_,r', .ptr _ _ (by simp) (by simp[Map.eQ,Map.ob,Ob.plain]),e'⟩
    simp[Instr.alloc,zeroValue,gX P hi,hv,newVar,newRow,Map.eQ,Map.mu]
   ·cases hz
  ·cases hz
 ·cases hz
theorem XP (r:Rel M s w) {t:TypeId} {d:D} {v:Value} {row:List D} (hd:RD M s d v) (hr:d.row=some row) :
 dq P M s w (do pure (.value (← Instr.box t v))) (.ptr s.al.length 0) {s with al:=s.al++ [row]}:=by
 obtain⟨h1,h2,h3⟩:=hd.row hr
 obtain⟨r',e'⟩:=r.eQ row v.cells t h1 h2 h3
 refine⟨_,_,_, .inl ?_,r', .ptr _ _ (by simp) (by simp[Map.eQ,Map.ob,Ob.plain]),e'⟩
 simp[Instr.box,newVar,newRow,Map.eQ,Map.mu]
theorem Uv (r:Rel M s w) {t:TypeId} {d:D} {v:Value} {row:List D} (hd:RD M s d v) (hr:d.row=some (.eY::row)) :
 dq P M s w (do pure (.value (← Instr.box t v))) (.ptr s.al.length 0) {s with al:=s.al++ [.gf t s.al.length::row]}:=by
 obtain⟨h1,h2,h3⟩:=hd.row hr
 obtain⟨r',e'⟩:=r.LX (.gf t s.al.length::row) v.cells t (.ty t) trivial (fun _ h=>by cases h;rfl) (by simp at h1 ⊢;omega) h2 (fun i d u e1 e2=>by
  cases i with
  |zero=>
   simp at e1;subst e1
   have:=(h3 0 .eY u rfl e2).uA
   exact .gf t _ u (by simp) (by simp[Map.eQ,Map.ty,Ob.ty?]) (.inl this)
  |succ i=>exact(h3 (i+1) d u (by simpa using e1) e2).mono (uz s w.heap.size _ _))
 refine⟨_,_,_, .inl ?_,r', .ptr _ _ (by simp) (by simp[Map.eQ,Map.ob,Ob.plain]),e'⟩
 simp[Instr.box,newVar,newRow,Map.eQ,Map.mu]
theorem K6 (r:Rel M s w) {t:TypeId} {i:TypeInfo} {agg:Bool} (hi:P.info? t=some i) (ha:sX P t=some agg) {o off:Nat} {cs:List D} {d:D}
 (ho:s.al[o]? = some cs) (hk:(M.ob o).plain) (hp:part cs off agg i.size=some d) :
 dq P M s w (do pure (.value (← Instr.loadAt t (.pointer (some ⟨M.mu o,off,none⟩))))) d s:=by
 obtain⟨vs,T,hh,dU,⟨iM,_⟩,jJ⟩:=r.obj o cs ho
 replace hh:w.heap[M.mu o]? = some (.cells vs T (0,0)):=hh.cells hk
 let n:=if agg then i.size else 1
 have kn:off+n≤vs.size:=by
  rcases sI hp with ⟨rfl,h1,_⟩|⟨rfl,h1⟩
  ·simp[n];omega
  ·have:=(List.getElem?_eq_some_iff.1 h1).1;simp[n];omega
 have hlen:((vs.toList.drop off).take n).length=n:=by simp;omega
 have gA : ∀ (j:Nat) (u:Value),((vs.toList.drop off).take n)[j]? = some u→vs[off+j]? = some u:=by
  intro j u h
  rw[List.getElem?_take]at h
  split at h
  ·rw[List.getElem?_drop]at h;simpa using h
  ·cases h
 have ew:=Bm (w:=w) P hi ha (M.mu o) off ((vs.toList.drop off).take n) hlen (fun j u h=>by rw[jA hh];exact gA j u h)
 refine dq.pure (v:=if agg then .agg ((vs.toList.drop off).take n).toArray else((vs.toList.drop off).take n).getD 0 Go.undef) r (by simp[Instr.loadAt,Instr.sureAddr,ew]) ?_
 refine s6 hp _ hlen (fun _ u hu=>iM u ?_) (fun j d u e1 e2=>jJ _ d u e1 (gA j u e2))
 exact Array.mem_toList_iff.1 (List.mem_of_mem_drop (List.mem_of_mem_take hu))
theorem Bn {b:Nat} : ∀ (n k:Nat),(∀ j,j<n→∃ u,M.G b (k+j)=some u)→∃ us:List Value,us.length=n∧∀ (j:Nat) (u:Value),us[j]? = some u→M.G b (k+j)=some u
 | 0,_,_=>⟨[],rfl,fun j u h=>by simp at h⟩
 |n+1,k,h=>by
  obtain⟨u0,h0⟩:=h 0 (by omega)
  obtain⟨us,h1,h2⟩:=Bn n (k+1) (fun j hj=>by obtain⟨u,hu⟩:=h (j+1) (by omega);exact⟨u,by rw[show k+1+j=k+(j+1) by omega];exact hu⟩)
  refine⟨u0::us,by simp[h1],fun j u hj=>?_⟩
  cases j with
  |zero=>simp at hj;subst hj;exact h0
  |succ j=>simp at hj;have:=h2 j u hj;rw[show k+(j+1)=k+1+j by omega];exact this
theorem K7 (r:Rel M s w) {t:TypeId} {i:TypeInfo} {agg:Bool} (hi:P.info? t=some i) (ha:sX P t=some agg) {row:List D} {off b k:Nat} {d:D}
 (h1 : ∀ (i:Nat) (d:D),row[i]? = some d→∃ u,M.G b (k+i)=some u) (h2 : ∀ (i:Nat) (d:D) (u:Value),row[i]? = some d→M.G b (k+i)=some u→RD M s d u)
 (hp:part row off agg i.size=some d) :
 dq P M s w (do pure (.value (← Instr.loadAt t (.pointer (some ⟨b,k+off,none⟩))))) d s:=by
 let n:=if agg then i.size else 1
 have kn:off+n≤row.length:=by
  rcases sI hp with ⟨rfl,h1,_⟩|⟨rfl,h1⟩
  ·simp[n];omega
  ·have:=(List.getElem?_eq_some_iff.1 h1).1;simp[n];omega
 obtain⟨us,hl,Fm⟩:=Bn (M:=M) (b:=b) n (k+off) (fun j hj=>by
  obtain⟨d,hd⟩ : ∃ d,row[off+j]? = some d:=⟨_,List.getElem?_eq_getElem (by omega)⟩
  obtain⟨u,hu⟩:=h1 _ d hd
  exact⟨u,by rw[show k+off+j=k+(off+j) by omega];exact hu⟩)
 have ew:=Bm (w:=w) P hi ha b (k+off) us hl (fun j u h=>(r.comm _ _ _ (Fm j u h)).1)
 refine dq.pure (v:=if agg then .agg us.toArray else us.getD 0 Go.undef) r (by simp[Instr.loadAt,Instr.sureAddr,ew]) ?_
 refine s6 hp us hl (fun _ u hu=>?_) (fun j d u e1 e2=>h2 _ d u e1 (by rw[show k+(off+j)=k+off+j by omega];exact Fm j u e2))
 obtain⟨j,hj⟩:=List.mem_iff_getElem?.1 hu
 exact(r.comm _ _ _ (Fm j u hj)).2
theorem QY (r:Rel M s w) {t:TypeId} {i:TypeInfo} (hi:P.info? t=some i) {o off:Nat} {cs row:List D} {d:D} {v:Value} (ho:s.al[o]? = some cs) (hk:(M.ob o).plain)
 (hd:RD M s d v) (hr:d.row=some row) (hl:row.length=i.size) (kn:off+i.size≤cs.length) :
 dq P M s w (do Instr.storeAt t (.pointer (some ⟨M.mu o,off,none⟩)) v;pure .skip) (.tuple []) {s with al:=s.al.set o (gS cs off row)}:=by
 obtain⟨h1,h2,h3⟩:=hd.row hr
 obtain⟨w',ew,r',e'⟩:=r.QU P ho hk row v.cells.toList (by simpa using h1) (by rw[hl];exact kn) (fun u hu=>h2 u (by simpa using hu)) (fun i d u e1 e2=>h3 i d u e1 (by simpa using e2))
 refine⟨Go.undef,w',M, .inr ⟨?_,rfl⟩,r', .undef,e'⟩
 have dU:v.cells.size=i.size:=by omega
 simp[Instr.storeAt,Instr.sureAddr,storeVar,sizeOf,gX P hi,dU,ew]
theorem Bo (r:Rel M s w) {d:D} {a:Addr} (hd:RD M s d (.pointer (some a))) :
 dq P M s w (pure (.value (.pointer (some a)))) d s:=dq.pure r rfl hd
theorem Dk {t:TypeId} {f off size:Nat} {agg:Bool} (h:nZ P t f=some (off,size,agg)) (b k:Nat) :
 (Instr.fieldAt t (.pointer (some ⟨b,k,none⟩)) f).run P w = .ok (.pointer (some ⟨b,k+off,none⟩)) w:=by
 unfold nZ at h
 split at h
 ·rename_i fs hu
  split at h
  ·rename_i fd hf
   split at h
   ·rename_i i a hi ha
    split at h
    ·cases h
    ·rename_i fu
     cases h
     simp[Instr.fieldAt,run_underlying hu,hf,Instr.sureAddr,fieldPlace,sizeOf,gX P hi,fu,n7]
   ·cases h
  ·cases h
 ·cases h
theorem Uw {t:TypeId} {f off size:Nat} {agg:Bool} (h:nZ P t f=some (off,size,agg)) (vs:Array Value) (us:List Value) (hl:us.length=if agg then size else 1)
 (hg : ∀ j,j<us.length→vs[off+j]? = us[j]?) :
 (Instr.field t (.agg vs) f).run P w = .ok (if agg then .agg us.toArray else us.getD 0 Go.undef) w:=by
 unfold nZ at h
 split at h
 ·rename_i fs hu
  split at h
  ·rename_i fd hf
   split at h
   ·rename_i i a hi ha
    split at h
    ·cases h
    ·rename_i fu
     cases h
     have Dj:(isAgg fd.type).run P w = .ok agg w:=by
      unfold sX at ha
      unfold isAgg
      cases hu:P.underlying fd.type with
      |none=>rw[hu]at ha;cases ha
      |some d=>
       rw[hu]at ha
       simp only[Sem.run_bind,run_underlying hu,Result.andThen_ok]
       cases d<;>simp_all
     cases agg with
     | true=>
      simp only[if_true]at hl ⊢
      have:vs.extract fd.offset (fd.offset+i.size)=us.toArray:=by
       apply Array.ext_getElem?
       intro j
       rw[Array.getElem?_extract]
       by_cases hj:j<us.length
       ·rw [← hl,if_pos (by
         have h1:=hg j hj
         rw[List.getElem?_eq_getElem hj]at h1
         have:=(Array.getElem?_eq_some_iff.1 h1).1
         have h2:=hg (us.length - 1) (by omega)
         rw[List.getElem?_eq_getElem (by omega)]at h2
         have:=(Array.getElem?_eq_some_iff.1 h2).1
         omega),hg j hj]
        simp
       ·have hn:us.toArray[j]? = none:=by simp;omega
        rw[hn,if_neg (by omega)]
      simp[Instr.field,run_underlying hu,hf,asAgg,Go.part,Dj,sizeOf,gX P hi,this]
     | false=>
      simp only[Bool.false_eq_true,if_false]at hl ⊢
      match us,hl with
      | [u],_=>
       have:=hg 0 (by simp)
       simp at this
       simp[Instr.field,run_underlying hu,hf,asAgg,Go.part,Dj,this]
   ·cases h
  ·cases h
 ·cases h
end
end Go.Abs
namespace Go.Abs
section
variable {P:Program} {M:Map} {s:St} {w:World}
theorem QZ {op : BinOp} {t : TypeId} {k : IntKind} {a b : Int} {d : D} (h : iy op k a b = some d) :
   ∃ v, (binOp op t (.int k a) (.int k b)).run P w = .ok v w ∧ RD M s d v := by
 cases op<;>simp only[iy]at h<;>first
   |(cases h; done)
   | (split at h
      · cases h
      · cases h
        exact ⟨_, by simp[binOp, Op.intDiv, *], .int _ _⟩)
   |(cases h; exact ⟨_, by simp[binOp, Op.intArith], .int _ _⟩)
   |(cases h; exact ⟨_, by simp[binOp, Op.intCmp], .bool _⟩)
theorem Q1 {op:BinOp} {t:TypeId} {a b:List UInt8} {d:D} (h:pU op a b=some d) :
 ∃ v,(binOp op t (.string ⟨⟨a⟩⟩) (.string ⟨⟨b⟩⟩)).run P w = .ok v w∧RD M s d v:=by
 have sz : ∀ l:List UInt8,(⟨⟨l⟩⟩:ByteArray).size=l.length:=fun _=>rfl
 cases op<;>simp only[pU]at h<;>first
  |(cases h;done)
  |skip
 case add=>
  split at h
  ·rename_i hl
   cases h
   refine⟨.string ⟨⟨a++b⟩⟩, ?_, .str _⟩
   have h1 : ¬ ((((⟨⟨a⟩⟩:ByteArray).size+(⟨⟨b⟩⟩:ByteArray).size:Nat):Int) > IntKind.i64.max):=by
    rw[sz,sz,IntKind.max_i64];simp only[bD]at hl;omega
   simp only[binOp,Op.stringOp,h1,if_false]
   simp only[Sem.run_pure]
   congr 2
  ·cases h
 case eql=>cases h;exact⟨_,by simp[binOp,Op.stringOp], .bool _⟩
 case neq=>cases h;exact⟨_,by simp[binOp,Op.stringOp], .bool _⟩
 case lss=>cases h;exact⟨_,by simp[binOp,Op.stringOp,bytesLess], .bool _⟩
theorem kS {op:BinOp} {t:TypeId} {x y:Operand} {a b:Value} (h:(∀ vs,a≠ .agg vs)∧a≠ .nilIface):(eqGuard op t x y a b).run P w = .ok () w:=by
 obtain⟨h1,h2⟩:=h
 cases a<;>first
  |exact(h2 rfl).elim
  |exact(h1 _ rfl).elim
  |(cases op<;>simp[eqGuard])
theorem XQ (r:Rel M s w) {op:BinOp} {t:TypeId} {x y:Operand} {dx dy d:D} {a b:Value} (ha:RD M s dx a) (hb:RD M s dy b) (h:zz op dx dy=some d) :
 dq P M s w (do pure (.value (← (do eqGuard op t x y a b;binOp op t a b)))) d s:=by
 unfold zz at h
 split at h
 ·rename_i k n k' m
  split at h
  ·rename_i hk;subst hk
   rw[ha.jq,hb.jq]
   obtain⟨v,hv,hd⟩:=QZ (P:=P) (M:=M) (s:=s) (w:=w) (t:=t) h
   exact dq.pure r (by simp[kS (P:=P) (w:=w) (op:=op) (t:=t) (x:=x) (y:=y) (a:= .int k n) (b:= .int k m) ⟨by simp,by simp⟩,hv]) hd
  ·cases h
 ·rename_i l m
  rw[ha.mM,hb.mM]
  obtain⟨v,hv,hd⟩:=Q1 (P:=P) (M:=M) (s:=s) (w:=w) (t:=t) h
  exact dq.pure r (by simp[kS (P:=P) (w:=w) (op:=op) (t:=t) (x:=x) (y:=y) (a:= .string ⟨⟨l⟩⟩) (b:= .string ⟨⟨m⟩⟩) ⟨by simp,by simp⟩,hv]) hd
 ·cases h
theorem RD.oD {v u:Value} (h:RD M s (.val v) u):u=v:=by cases h;rfl
theorem Q2 {k:FloatKind} {x y d:D} (h:sm (.ofInt k) x y=some d) : ∃ j n,x = .int j n∧d = .val (.float k (k.nearest n)):=by
 cases x<;>first|(cases h;done)|(cases h;exact⟨_,_,rfl,rfl⟩)
theorem Q3 {k:IntKind} {x y d:D} (h:sm (.toInt k) x y=some d) : ∃ s b n,x = .val (.float s b)∧(s.decode b).toInt .zero=some n∧(k.min≤n∧n≤k.max)∧d = .int k n:=by
 cases x with
 | val v=>
  cases v with
  | float s b=>
   simp only[sm]at h
   split at h
   ·rename_i n hn
    split at h
    ·rename_i hr;cases h;exact⟨_,_,_,rfl,hn,hr,rfl⟩
    ·cases h
   ·cases h
  |_=>cases h
 |_=>cases h
theorem Ux {x y d:D} (h:sm .LO x y=some d) : ∃ k a b,x = .val (.float k a)∧y = .val (.float k b)∧d = .val (.complex k a b):=by
 unfold sm at h
 split at h<;>first|(cases h;done)|skip
 all_goals (first|(rename_i heq;cases heq;done)|skip)
 all_goals
  split at h
  ·rename_i hk;subst hk;cases h;first|exact⟨_,_,_,rfl,rfl,rfl⟩|(rename_i heq _ _;cases heq)
  ·cases h
theorem Uy {x y d:D} (h:sm .real x y=some d) : ∃ k a b,x = .val (.complex k a b)∧d = .val (.float k a):=by
 cases x with
 |val v=>cases v<;>first|(cases h;done)|(cases h;exact⟨_,_,_,rfl,rfl⟩)
 |_=>cases h
theorem Uz {x y d:D} (h:sm .imag x y=some d) : ∃ k a b,x = .val (.complex k a b)∧d = .val (.float k b):=by
 cases x with
 |val v=>cases v<;>first|(cases h;done)|(cases h;exact⟨_,_,_,rfl,rfl⟩)
 |_=>cases h
theorem UA (r:Rel M s w) {op:BinOp} {o:FO} (ho:(o = .eq∧op = .eql)∨(o = .LP∧op = .add)∨(o = .Ur∧op = .eql)) {t:TypeId} {x y:Operand} {dx dy d:D} {a b:Value} (ha:RD M s dx a) (hb:RD M s dy b) (h:sm o dx dy=some d) :
 dq P M s w (do pure (.value (← (do eqGuard op t x y a b;binOp op t a b)))) d s:=by
 unfold sm at h
 split at h<;>(try simp only[reduceCtorEq,false_and,true_and,false_or,or_false]at ho)
 ·rename_i k p k' q
  split at h<;>cases h
  rename_i hk;subst hk;subst ho
  cases ha.oD;cases hb.oD
  exact dq.pure r (by simp[kS (P:=P) (w:=w) (op:= .eql) (t:=t) (x:=x) (y:=y) (a:= .float k p) (b:= .float k q) ⟨by simp,by simp⟩,binOp,Op.floatCmp]) (.bool _)
 ·rename_i k p p' k' q q'
  split at h
  ·rename_i hk;subst hk;subst ho
   cases ha.oD;cases hb.oD
   split at h
   ·rename_i e f h1 h2
    cases h
    simp only[XM]at h1 h2
    exact dq.pure r (by simp[kS (P:=P) (w:=w) (op:= .add) (t:=t) (x:=x) (y:=y) (a:= .complex k p p') (b:= .complex k q q') ⟨by simp,by simp⟩,binOp,Op.complexOp,Op.Complex.arith,Op.floatArith,h1,h2]) (.val _ rfl)
   ·cases h
  ·cases h
 ·rename_i k p p' k' q q'
  split at h<;>cases h
  rename_i hk;subst hk;subst ho
  cases ha.oD;cases hb.oD
  exact dq.pure r (by simp[kS (P:=P) (w:=w) (op:= .eql) (t:=t) (x:=x) (y:=y) (a:= .complex k p p') (b:= .complex k q q') ⟨by simp,by simp⟩,binOp,Op.complexOp,Op.Complex.cmp,Op.floatCmp,asBool]) (.bool _)
 ·cases h
theorem XR (r:Rel M s w) {neg:Bool} {t:TypeId} {x y:Operand} {p q:Bool} (ht:P.underlying t=some .bool) :
 dq P M s w (do pure (.value (← (do eqGuard (if neg then .neq else .eql) t x y (.bool p) (.bool q);binOp (if neg then .neq else .eql) t (.bool p) (.bool q))))) (.bool (if neg then !(p==q)else p==q)) s:=by
 refine dq.pure (v:= .bool (if neg then !(p==q)else p==q)) r ?_ (.bool _)
 have hg:=kS (P:=P) (w:=w) (op:=if neg then .neq else .eql) (t:=t) (x:=x) (y:=y) (a:= .bool p) (b:= .bool q) ⟨by simp,by simp⟩
 have he:(Op.equal t (.bool p) (.bool q)).run P w = .ok (p==q) w:=by
  exact run_equalIn_bool w 9999 t p q ht
 cases neg
 ·simp only [Bool.false_eq_true,if_false]at hg ⊢
  simp[hg,binOp,he]
 ·simp only [if_true]at hg ⊢
  simp[hg,binOp,he]
theorem OO (n:Nat) {t e:TypeId} {a:Option Addr} (ht:P.underlying t=some (.pointer e)):(Op.equalIn (n+1) t (.pointer a) (.pointer none)).run P w = .ok a.isNone w:=by
 cases a<;>simp[Op.equalIn,run_underlying ht]
theorem FR (r:Rel M s w) {neg:Bool} {t e:TypeId} {x y:Operand} {a:Option Addr} (ht:P.underlying t=some (.pointer e)) :
 dq P M s w (do pure (.value (← (do eqGuard (if neg then .neq else .eql) t x y (.pointer a) (.pointer none);binOp (if neg then .neq else .eql) t (.pointer a) (.pointer none))))) (.bool (if neg then !a.isNone else a.isNone)) s:=by
 refine dq.pure (v:= .bool (if neg then !a.isNone else a.isNone)) r ?_ (.bool _)
 have hg:=kS (P:=P) (w:=w) (op:=if neg then .neq else .eql) (t:=t) (x:=x) (y:=y) (a:= .pointer a) (b:= .pointer none) ⟨by simp,by simp⟩
 have he:(Op.equal t (.pointer a) (.pointer none)).run P w = .ok a.isNone w:=by
  exact OO 9999 ht
 cases neg
 ·simp only [Bool.false_eq_true,if_false]at hg ⊢
  simp[hg,binOp,he]
 ·simp only [if_true]at hg ⊢
  simp[hg,binOp,he]
theorem Q4 (n:Nat) {t:TypeId} {k:Nat} (hk:j9 P t=some k) {x y:D} {v u:Value} (rv:RD M s x v) (ru:RD M s y u) {b:Bool} (h:oA k x y=some b) :
 (Op.equalIn (n+1) t v u).run P w = .ok b w:=by
 unfold j9 at hk
 split at hk<;>first|(cases hk;done)|skip
 ·rename_i kk hu
  cases hk
  cases x<;>cases y<;>simp[oA]at h
  obtain⟨rfl,rfl⟩:=h
  rw[rv.jq,ru.jq]
  exact run_equalIn_int w n t _ _ _ _ hu
 ·rename_i hu
  cases hk
  cases x<;>cases y<;>simp[oA]at h
  subst h
  rw[rv.pE,ru.pE]
  exact run_equalIn_bool w n t _ _ hu
 ·rename_i hu
  cases hk
  cases x<;>cases y<;>simp[oA]at h
  subst h
  rw[rv.mM,ru.mM]
  rw[run_equalIn_string w n t _ _ hu]
  simp
theorem Dl (n:Nat) : ∀ (fs:List Field) (off:Nat) (ks:List Nat) (xs ys:List D) (vs us:Array Value) (e:Bool),
 Ey P off fs=some ks→(∀ (i:Nat) (d:D) (v:Value),xs[i]? = some d→vs[off+i]? = some v→RD M s d v)→(∀ i,i<xs.length→(vs[off+i]?).isSome)→
 (∀ (i:Nat) (d:D) (v:Value),ys[i]? = some d→us[off+i]? = some v→RD M s d v)→(∀ i,i<ys.length→(us[off+i]?).isSome)→
 mL ks xs ys=some e→(Op.eqFields (n+1) vs us fs).run P w = .ok e w
 | [],off,ks,xs,ys,vs,us,e,hk,_,_,_,_,h=>by
  cases hk
  cases xs<;>cases ys<;>simp[mL]at h
  subst h;rfl
 | f::fs,off,ks,xs,ys,vs,us,e,hk,h1,h2,h3,h4,h=>by
  unfold Ey at hk
  split at hk
  ·rename_i hf
   obtain⟨ho,ajY⟩:=hf
   split at hk
   ·rename_i k ks' yx ct
    cases hk
    match xs,ys with
    | [],[]=>cases h
    | [],_::_=>cases h
    |_::_,[]=>cases h
    | x::xs,y::ys=>
     obtain⟨v,hv⟩:=Option.isSome_iff_exists.1 (h2 0 (by simp))
     obtain⟨u,hu⟩:=Option.isSome_iff_exists.1 (h4 0 (by simp))
     simp only[Nat.add_zero]at hv hu
     have rv:=h1 0 x v rfl hv
     have ru:=h3 0 y u rfl hu
     have Dj:(isAgg f.type).run P w = .ok false w:=by
      unfold isAgg
      unfold j9 at yx
      cases hu:P.underlying f.type with
      |none=>rw[hu]at yx;simp at yx
      |some d=>simp only[Sem.run_bind,run_underlying hu,Result.andThen_ok];rw[hu]at yx;cases d<;>simp_all
     have pv:(Go.part f.type vs f.offset).run P w = .ok v w:=by simp[Go.part,Dj,ho,hv]
     have pu:(Go.part f.type us f.offset).run P w = .ok u w:=by simp[Go.part,Dj,ho,hu]
     cases hc:oA k x y with
     |none=>simp[mL,hc]at h
     | some b=>
      have hb:=Q4 (w:=w) n yx rv ru hc
      simp only[mL,hc]at h
      simp only[Op.eqFields,if_pos ajY,Sem.run_bind,pv,pu,hb,Result.andThen_ok,Sem.run_ite,Sem.run_pure]
      cases b with
      |false=>cases h;rfl
      | true=>
       have:=Dl n fs (off+1) ks' xs ys vs us e ct
        (fun i d v e1 e2=>h1 (i+1) d v (by simpa using e1) (by rw[show off+(i+1)=off+1+i by omega];exact e2))
        (fun i hi=>by have:=h2 (i+1) (by simpa using hi);rwa [show off+(i+1)=off+1+i by omega]at this)
        (fun i d v e1 e2=>h3 (i+1) d v (by simpa using e1) (by rw[show off+(i+1)=off+1+i by omega];exact e2))
        (fun i hi=>by have:=h4 (i+1) (by simpa using hi);rwa [show off+(i+1)=off+1+i by omega]at this) h
       simp[this]
   ·cases hk
  ·cases hk
theorem XT (r:Rel M s w) {neg:Bool} {t:TypeId} {x y:Operand} {ks:List Nat} {xs ys:List D} {a b:Value} {e:Bool} (ht:rK P t=some ks) (ha:RD M s (.agg xs) a) (hb:RD M s (.agg ys) b) (he:mL ks xs ys=some e) :
 dq P M s w (do pure (.value (← (do eqGuard (if neg then .neq else .eql) t x y a b;binOp (if neg then .neq else .eql) t a b)))) (.bool (if neg then !e else e)) s:=by
 obtain⟨vs,rfl,hl,_,h1⟩:=ha.I1
 obtain⟨us,rfl,mU,_,h2⟩:=hb.I1
 unfold rK at ht
 split at ht
 ·rename_i fs hu
  split at ht
  ·rename_i hg
   obtain⟨uk,Dm⟩:=hg
   have hf:P.fieldsOf t=fs:=by simp[Program.fieldsOf,hu]
   have ew:(Op.equalIn 10000 t (.agg vs) (.agg us)).run P w = .ok e w:=by
    rw[run_equalIn_struct w 9999 t vs us (by rw[hf];exact hu) Dm,hf]
    exact Dl 9998 fs.toList 0 ks xs ys vs us e ht (fun i d v e1 e2=>h1 i d v e1 (by simpa using e2)) (fun i hi=>by simp;omega)
     (fun i d v e1 e2=>h2 i d v e1 (by simpa using e2)) (fun i hi=>by simp;omega) he
   have JV:=run_eqGuard_agg (P:=P) w (if neg then .neq else .eql) t x y vs us uk
   refine dq.pure (v:= .bool (if neg then !e else e)) r ?_ (.bool _)
   cases neg
   ·simp only [Bool.false_eq_true,if_false]at JV ⊢
    simp only[Sem.run_bind,JV,Result.andThen_ok,run_eql_struct,ew,Sem.run_pure]
   ·simp only [if_true]at JV ⊢
    simp only[Sem.run_bind,JV,Result.andThen_ok,run_neq_struct,ew,Sem.run_pure]
  ·cases ht
 ·cases ht
end
end Go.Abs
namespace Go.Abs
section
variable {P:Program} {M:Map} {s:St} {w:World}
theorem Ez (l:List UInt8):(⟨⟨l⟩⟩:ByteArray).size=l.length:=rfl
theorem extract_mk (l:List UInt8) (a b:Nat):(⟨⟨l⟩⟩:ByteArray).extract a b = ⟨⟨(l.take b).drop a⟩⟩:=by
 apply ByteArray.ext
 rw[ByteArray.data_extract]
 apply Array.ext'
 simp[List.drop_take]
theorem getElem?_mk (l:List UInt8) (n:Nat):(⟨⟨l⟩⟩:ByteArray)[n]? = l[n]? :=by
 by_cases h:n<l.length
 ·rw[getElem?_pos (⟨⟨l⟩⟩:ByteArray) n h,List.getElem?_eq_getElem h];rfl
 ·rw [List.getElem?_eq_none (by omega)]
  rw[getElem?_neg (c:=(⟨⟨l⟩⟩:ByteArray)) (i:=n)]
  show ¬ n<(⟨⟨l⟩⟩:ByteArray).size
  rw[Ez];omega
theorem UC (r:Rel M s w) {t:TypeId} {l:List UInt8} {k:IntKind} {n:Int} {c:UInt8} (ht:P.underlying t=some .string) (h0:0≤n) (hc:l[n.toNat]? = some c) :
 dq P M s w (do pure (.value (← Instr.index t (.string ⟨⟨l⟩⟩) (.int k n)))) (.int .u8 c.toNat) s:=by
 refine dq.pure (v:= .int .u8 c.toNat) r ?_ (.int _ _)
 simp[Instr.index,asIntOf,run_underlying ht,h0,getElem?_mk,hc]
theorem LZ (r:Rel M s w) {t ty:TypeId} {l:List UInt8} (ht:P.underlying t=some .string) :
 dq P M s w (do pure (.value (← Builtin.len_ #[t] ty #[.string ⟨⟨l⟩⟩]))) (.int .i64 l.length) s:=by
 refine dq.pure (v:= .int .i64 l.length) r ?_ (.int _ _)
 simp[Builtin.len_,run_underlying ht,goInt,Ez]
theorem oE (r:Rel M s w) {t ty e:TypeId} {a:Option Addr} {n c:Nat} (ht:P.underlying t=some (.slice e)) :
 dq P M s w (do pure (.value (← Builtin.len_ #[t] ty #[.slice a n c]))) (.int .i64 n) s:=by
 refine dq.pure (v:= .int .i64 n) r ?_ (.int _ _)
 simp[Builtin.len_,run_underlying ht,goInt]
theorem Q5 (r:Rel M s w) {t e:TypeId} {i:TypeInfo} {g:Tag} {rows:List (List D)} {row:List D} {v:Value} {k:IntKind} {n:Int} (ht:P.underlying t=some (.slice e)) (hi:P.info? e=some i)
 (hd:RD M s (.slice g i.size rows) v) (h0:0≤n) (hr:rows[n.toNat]? = some row) :
 dq P M s w (do pure (.value (← Instr.indexAt t v (.int k n)))) (.dS row 0) s:=by
 have hD:=(List.getElem?_eq_some_iff.1 hr).1
 rcases hd.kb with ⟨rfl,_,_⟩|⟨rfl,_,_⟩|⟨b,q,cap,rfl,hl,hs,h1,h2,_⟩
 ·simp at hr
 ·simp at hr
 ·refine dq.pure (v:= .pointer (some ⟨b,q+n.toNat*i.size+0,none⟩)) r ?_ ?_
  ·have:n<(rows.length:Int):=by omega
   simp[Instr.indexAt,asIntOf,run_underlying ht,h0,this,sizeOf,gX P hi,n7]
  ·refine .dS row 0 b (q+n.toNat*i.size) (fun j d hj=> ?_) (fun j d u hj hu=> ?_)
   ·obtain⟨u,hu⟩:=h1 n.toNat row j d hr hj
    exact⟨u,by rw[Nat.add_assoc];exact hu⟩
   ·exact h2 n.toNat row j d u hr hj (by rw[← Nat.add_assoc];exact hu)
def UD (lv:Option Value) (l:Int):Prop:=(lv=none∧l=0)∨∃ k,lv=some (.int k l)
def UE (hv:Option Value) (len:Nat) (h:Int):Prop:=(hv=none∧h=len)∨∃ k,hv=some (.int k h)
theorem qX {isSlice:Bool} {lv hv:Option Value} {len cap:Nat} {l h:Int} (h1:UD lv l) (h2:UE hv len h) (a:0≤l) (b:l≤h) (c:h≤len) (d:len≤cap) :
 (Instr.sliceBounds isSlice len cap lv hv none).run P w = .ok (l.toNat,h.toNat,cap) w:=by
 have h0:0≤h:=by omega
 have hc:h≤cap:=by omega
 rcases h1 with ⟨rfl,rfl⟩|⟨k,rfl⟩<;>rcases h2 with ⟨rfl,rfl⟩|⟨k',rfl⟩
 ·simp[Instr.sliceBounds]
 ·simp[Instr.sliceBounds,run_sliceBound w _ _ _ _ h0 hc]
 ·simp[Instr.sliceBounds,run_sliceBound w _ _ _ _ a b]
 ·have e:(h.toNat:Int)=h:=Int.toNat_of_nonneg h0
  simp[Instr.sliceBounds,run_sliceBound w _ _ _ _ h0 hc,run_sliceBound w _ _ _ _ a (show l≤(h.toNat:Int) by omega)]
theorem UF (r:Rel M s w) {t:TypeId} {lv hv:Option Value} {x:List UInt8} {l h:Int} (ht:P.underlying t=some .string) (h1:UD lv l) (h2:UE hv x.length h) (a:0≤l) (b:l≤h) (c:h≤x.length) :
 dq P M s w (do pure (.value (← Instr.sliceAt t (.string ⟨⟨x⟩⟩) lv hv none))) (.str ((x.take h.toNat).drop l.toNat)) s:=by
 have hb:=qX (P:=P) (w:=w) (isSlice:=false) (cap:=x.length) h1 h2 a b c (Nat.le_refl _)
 refine dq.pure (v:= .string ⟨⟨(x.take h.toNat).drop l.toNat⟩⟩) r ?_ (.str _)
 simp[Instr.sliceAt,run_underlying ht,Instr.slice,Ez,hb,extract_mk]
theorem jN.cut {g:Tag} {z len XU cap:Nat} {base:Option (Nat×Nat)} (h:jN M s g z len base cap) (hl:XU≤len) (whole:Bool) (hw:whole=true→XU=len):jN M s (g.cut whole) z XU base cap:=by
 cases g with
 |full=>
  cases whole with
  |true=>rw[hw rfl];exact h
  |false=>trivial
 |shared=>trivial
 |tok t y=>
  obtain⟨x1,x2⟩:=h
  refine⟨x1,fun n hn=>⟨Nat.le_trans hl (x2 n hn).1,fun e=>?_⟩⟩
  have:len=n:=by have:=(x2 n hn).1;omega
  exact(x2 n hn).2 this
theorem XV (r:Rel M s w) {t e:TypeId} {i:TypeInfo} {g:Tag} {z:Nat} {lv hv:Option Value} {rows:List (List D)} {v:Value} {l h:Int} (ht:P.underlying t=some (.slice e)) (G1:P.info? e=some i) (hz:rows = []∨z=i.size)
 (hd:RD M s (.slice g z rows) v) (h1:UD lv l) (h2:UE hv rows.length h) (a:0≤l) (b:l≤h) (c:h≤rows.length) :
 dq P M s w (do pure (.value (← Instr.sliceAt t v lv hv none))) (.slice (if l=0 then g.cut (h=rows.length)else .shared) z ((rows.take h.toNat).drop l.toNat)) s:=by
 have hlen:((rows.take h.toNat).drop l.toNat).length=h.toNat - l.toNat:=by simp;omega
 have tag : ∀ base cap,jN M s g z rows.length base cap→jN M s (if l=0 then g.cut (h=rows.length)else .shared) z ((rows.take h.toNat).drop l.toNat).length base cap:=by
  intro base cap qg
  split
  ·exact qg.cut (by omega) _ (fun hh=>by simp at hh;omega)
  ·trivial
 rcases hd.kb with ⟨rfl,rfl,qg⟩|⟨rfl,rfl,a',cap,rfl⟩|⟨b',q,cap,rfl,hl,hs,g1,g2,qg⟩
 ·have hb:=qX (P:=P) (w:=w) (isSlice:=true) (cap:=0) h1 h2 a b c (Nat.le_refl _)
  have sJ:l=0:=by simp at c;omega
  have hh0:h=0:=by simp at c;omega
  subst sJ;subst hh0
  refine dq.pure (v:= .slice none 0 0) r ?_ ?_
  ·simp at hb
   simp[Instr.sliceAt,run_underlying ht,Instr.slice,hb,sizeOf,gX P G1]
  ·have:=tag _ _ qg
   simp only[Int.toNat_zero,List.take_nil,List.drop_nil,List.length_nil]at this ⊢
   exact .jI _ _ 0 rfl this
 ·have hb:=qX (P:=P) (w:=w) (isSlice:=true) (cap:=cap) h1 h2 a b c (Nat.zero_le _)
  have sJ:l=0:=by simp at c;omega
  have hh0:h=0:=by simp at c;omega
  subst sJ;subst hh0
  simp only[List.length_nil]at hb
  have ew : ∃ a2:Addr,(Instr.sliceAt t (.slice (some a') 0 cap) lv hv none).run P w = .ok (.slice (some a2) 0 cap) w:=by
   refine⟨if cap=(0:Int).toNat then a' else a'.add ((0:Int).toNat*i.size), ?_⟩
   simp only[Instr.sliceAt,Sem.run_bind,run_underlying ht,Result.andThen_ok,Instr.slice,hb,sizeOf,gX P G1,Sem.run_pure]
   split<;>simp
  obtain⟨a2,ew⟩:=ew
  refine dq.pure (v:= .slice (some a2) 0 cap) r (by simp[ew]) ?_
  simp only[↓reduceIte,Int.toNat_zero,List.take_nil,List.drop_nil]
  have:Tag.cut .shared (decide ((0:Int)=(([] : List (List D)).length:Int))) = .shared:=rfl
  rw[this]
  exact .mS _ a2 cap
 ·have hb:=qX (P:=P) (w:=w) (isSlice:=true) (cap:=cap) h1 h2 a b c hl
  have ew:(Instr.sliceAt t (.slice (some ⟨b',q,none⟩) rows.length cap) lv hv none).run P w = .ok (.slice (some (if cap=l.toNat then⟨b',q,none⟩else⟨b',q+l.toNat*i.size,none⟩)) (h.toNat - l.toNat) (cap - l.toNat)) w:=by
   simp only[Instr.sliceAt,Sem.run_bind,run_underlying ht,Result.andThen_ok,Instr.slice,hb,sizeOf,gX P G1,Sem.run_pure]
   split<;>simp[n7]
  by_cases sJ:l=0
  ·subst sJ
   have e:(if cap=(0:Int).toNat then(⟨b',q,none⟩:Addr)else⟨b',q+(0:Int).toNat*i.size,none⟩) = ⟨b',q,none⟩:=by simp
   rw[e]at ew
   refine dq.pure (v:= .slice (some ⟨b',q,none⟩) ((rows.take h.toNat).drop (0:Int).toNat).length cap) r (by simp[ew];omega) ?_
   refine .slice _ z _ b' q cap (by omega) (fun row hr=>hs row ?_) (fun i row j d e1 e2=>?_) (fun i row j d u e1 e2 eu=>?_) (tag _ _ qg)
   ·simp at hr;exact List.mem_of_mem_take hr
   ·simp[List.getElem?_take]at e1;exact g1 i row j d e1.2 e2
   ·simp[List.getElem?_take]at e1;exact g2 i row j d u e1.2 e2 eu
  ·rw [if_neg sJ]
   by_cases vZ:cap=l.toNat
   ·have:(rows.take h.toNat).drop l.toNat = []:=List.eq_nil_of_length_eq_zero (by omega)
    rw[this]
    rw[if_pos vZ]at ew
    refine dq.pure (v:= .slice (some ⟨b',q,none⟩) ([] : List (List D)).length (cap - l.toNat)) r (by simp[ew];omega) ?_
    exact .slice _ z [] b' q _ (by simp) (by simp) (by simp) (by simp) trivial
   ·rw [if_neg vZ]at ew
    refine dq.pure (v:= .slice (some ⟨b',q+l.toNat*i.size,none⟩) ((rows.take h.toNat).drop l.toNat).length (cap - l.toNat)) r (by simp[ew];omega) ?_
    have eK : ∀ (k:Nat) (row:List D),((rows.take h.toNat).drop l.toNat)[k]? = some row→rows[l.toNat+k]? = some row:=by
     intro k row e
     rw[List.getElem?_drop,List.getElem?_take]at e
     split at e
     ·exact e
     ·cases e
    have hzz : ∀ (k:Nat) (row:List D),((rows.take h.toNat).drop l.toNat)[k]? = some row→z=i.size:=by
     intro k row e
     rcases hz with rfl|hz
     ·simp at e
     ·exact hz
    refine .slice _ z _ b' _ _ (by omega) (fun row hr=>hs row (List.mem_of_mem_take (List.mem_of_mem_drop hr))) (fun k row j d e1 e2=>?_) (fun k row j d u e1 e2 eu=>?_) trivial
    ·obtain⟨u,hu⟩:=g1 _ row j d (eK k row e1) e2
     refine⟨u, ?_⟩
     rw[← hu, ← hzz k row e1]
     congr 1
     rw[Nat.add_mul];omega
    ·refine g2 _ row j d u (eK k row e1) e2 ?_
     rw[← eu, ← hzz k row e1]
     congr 1
     rw[Nat.add_mul];omega
theorem yy (off:Nat) : ∀ (l:List Value) (k:Nat) (cells:Array Value) (i:Nat),
 ((l.zipIdx k).foldl (fun cs p=>cs.setIfInBounds (off+p.2) p.1) cells).size=cells.size∧
 (off+k+l.length≤cells.size→((l.zipIdx k).foldl (fun cs p=>cs.setIfInBounds (off+p.2) p.1) cells)[i]? = if off+k≤i∧i<off+k+l.length then l[i - (off+k)]? else cells[i]?)
 | [],k,cells,i=>by simp;intro _ h1 h2;omega
 | v::l,k,cells,i=>by
  obtain⟨h1,h2⟩:=yy off l (k+1) (cells.setIfInBounds (off+k) v) i
  simp only[List.zipIdx_cons,List.foldl_cons]
  refine⟨by rw[h1];simp,fun kn=>?_⟩
  simp only[List.length_cons]at kn
  rw[h2 (by simp;omega)]
  rw[Array.getElem?_setIfInBounds]
  by_cases hi:off+k=i
  ·subst hi
   rw[if_neg (by omega),if_pos rfl,if_pos (by omega),if_pos (by simp)]
   simp
  ·rw [if_neg hi]
   by_cases hr:off+(k+1)≤i∧i<off+(k+1)+l.length
   ·rw [if_pos hr,if_pos (by simp;omega)]
    rw[show i - (off+k)=(i - (off+(k+1)))+1 by omega]
    simp
   ·rw[if_neg hr,if_neg (by simp;omega)]
def vy (M:Map) (s:St) (ds:List D) (vs:Array Value):Prop:=vs.size=ds.length∧(∀ v∈vs,v.oneCell'=true)∧∀ (i:Nat) (d:D) (v:Value),ds[i]? = some d→vs[i]? = some v→RD M s d v
theorem vy.gS {ds:List D} {vs:Array Value} (h:vy M s ds vs) {d:D} {v:Value} {row:List D} (hd:RD M s d v) (hr:d.row=some row) {off:Nat} (kn:off+row.length≤ds.length) :
 vy M s (gS ds off row) (v.cells.zipIdx.foldl (fun cs (p:Value×Nat)=>cs.setIfInBounds (off+p.2) p.1) vs):=by
 obtain⟨h1,h2,h3⟩:=hd.row hr
 obtain⟨g1,g2,g3⟩:=h
 have e:v.cells.zipIdx.foldl (fun cs (p:Value×Nat)=>cs.setIfInBounds (off+p.2) p.1) vs=(v.cells.toList.zipIdx 0).foldl (fun cs p=>cs.setIfInBounds (off+p.2) p.1) vs:=by
  rw[← Array.foldl_toList];simp
 rw[e]
 have hl:v.cells.toList.length=row.length:=by simpa using h1
 have fs:=fun i=>yy off v.cells.toList 0 vs i
 have get : ∀ i,((v.cells.toList.zipIdx 0).foldl (fun cs p=>cs.setIfInBounds (off+p.2) p.1) vs)[i]? = if off≤i∧i<off+row.length then v.cells.toList[i - off]? else vs[i]? :=by
  intro i
  have:=(fs i).2 (by omega)
  rw[hl]at this
  simpa using this
 refine⟨by rw[(fs 0).1,g1,vX ds off row kn],fun u hu=>?_,fun i d' u e1 e2=>?_⟩
 ·obtain⟨i,hi⟩:=Array.mem_iff_getElem?.1 hu
  rw[get]at hi
  split at hi
  ·exact h2 u (Array.mem_toList_iff.1 (List.mem_of_getElem? hi))
  ·exact g2 u (Array.mem_of_getElem? hi)
 ·rw [sZ ds off row kn]at e1
  rw[get]at e2
  by_cases h5:off≤i
  ·by_cases h6:i<off+row.length
   ·rw [if_pos ⟨h5,h6⟩]at e2
    rw[if_neg (by omega),if_pos h6]at e1
    exact h3 _ d' u e1 (by simpa using e2)
   ·rw [if_neg (fun h=>h6 h.2)]at e2
    rw[if_neg (by omega),if_neg h6]at e1
    exact g3 i d' u e1 e2
  ·rw [if_neg (fun h=>h5 h.1)]at e2
   rw[if_pos (by omega)]at e1
   exact g3 i d' u e1 e2
theorem L0 {place:Nat→Option (Nat×Nat)} : ∀ (vp:List (Nat×Value)) (dp:List (Nat×Nat×D)) (ds:List D) (vs:Array Value) (pj:List D),vy M s ds vs→
 dp.length=vp.length→(∀ (j:Nat) (i:Nat) (v:Value) (off size:Nat) (d:D),vp[j]? = some (i,v)→dp[j]? = some (off,size,d)→place i=some (off,size)∧RD M s d v)→
 sW ds dp=some pj→∃ gv,Instr.fill place vs vp=some gv∧vy M s pj gv
 | [],[],ds,vs,pj,h,_,_,e=>by cases e;exact⟨vs,rfl,h⟩
 | [],_::_,_,_,_,_,hl,_,_=>by simp at hl
 |_::_,[],_,_,_,_,hl,_,_=>by simp at hl
 | (i,v)::vp,(off,size,d)::dp,ds,vs,pj,h,hl,hp,e=>by
  obtain⟨h1,h2⟩:=hp 0 i v off size d rfl rfl
  unfold sW at e
  split at e
  ·cases e
  ·rename_i row hr
   split at e
   ·rename_i hc
    obtain⟨c1,c2⟩:=hc
    have dU:=(h2.row hr).1
    obtain⟨gv,f1,f2⟩:=L0 vp dp (gS ds off row) _ pj (h.gS h2 hr (by omega)) (by simpa using hl)
     (fun j i v off size d e1 e2=>hp (j+1) i v off size d (by simpa using e1) (by simpa using e2)) e
    refine⟨gv, ?_,f2⟩
    unfold Instr.fill
    simp only[h1]
    rw[if_neg]
    ·exact f1
    ·simp;exact⟨by omega,by have:=h.1;omega⟩
   ·cases e
end
end Go.Abs
namespace Go.Abs
section
variable {P:Program} {M:Map} {s:St} {w:World}
def nO (M:Map) (s:St) (size:Nat) (rows:List (List D)) (vs:Array Value):Prop:=
 rows.length*size≤vs.size∧(∀ row∈rows,row.length=size)∧(∀ v∈vs,v.oneCell'=true)∧
 ∀ (i:Nat) (row:List D) (j:Nat) (d:D) (v:Value),rows[i]? = some row→row[j]? = some d→vs[i*size+j]? = some v→RD M s d v
theorem Dn {size:Nat} {rows:List (List D)} (hs : ∀ row∈rows,row.length=size) {i:Nat} {row:List D} {j:Nat} {d:D} (h1:rows[i]? = some row) (h2:row[j]? = some d):i*size+j<rows.length*size:=by
 have hi:=(List.getElem?_eq_some_iff.1 h1).1
 have hj:=(List.getElem?_eq_some_iff.1 h2).1
 have:=hs row (List.mem_of_getElem? h1)
 have:i*size+size≤rows.length*size:=by rw[← Nat.succ_mul];exact Nat.mul_le_mul_right _ hi
 omega
theorem nO.fixed {size:Nat} {rows:List (List D)} {vs:Array Value} (h:nO M s size rows vs) {M':Map} {s':St} (le:Le M s M' s') {b:Nat}
 (hG : ∀ o,o<rows.length*size→M'.G b o=vs[o]?) :
 (∀ (i:Nat) (row:List D) (j:Nat) (d:D),rows[i]? = some row→row[j]? = some d→∃ u,M'.G b (0+(i*size+j))=some u)∧
 (∀ (i:Nat) (row:List D) (j:Nat) (d:D) (u:Value),rows[i]? = some row→row[j]? = some d→M'.G b (0+(i*size+j))=some u→RD M' s' d u):=by
 obtain⟨h1,h2,h3,h4⟩:=h
 refine⟨fun i row j d e1 e2=>?_,fun i row j d u e1 e2 eu=>?_⟩
 ·have hD:=Dn h2 e1 e2
  rw[Nat.zero_add,hG _ hD]
  exact⟨_,Array.getElem?_eq_getElem (by omega)⟩
 ·have hD:=Dn h2 e1 e2
  rw[Nat.zero_add,hG _ hD]at eu
  exact(h4 i row j d u e1 e2 eu).mono le
theorem nP (z:List D) : ∀ n,(gV z n).length=n
 | 0=>rfl
 |n+1=>by simp[gV,nP z n]
theorem qA (z:List D) : ∀ n,∀ row∈gV z n,row=z
 | 0,_,h=>by cases h
 |n+1,row,h=>by
  rcases List.mem_cons.1 h with rfl|h
  ·rfl
  ·exact qA z n row h
theorem nO.zero {z:List D} {zs:Array Value} (h:vy M s z zs) (hp:0<z.length) (n:Nat):nO M s z.length (gV z n) ((Array.range (n*z.length)).map (zs[· % zs.size]!)):=by
 obtain⟨h1,h2,h3⟩:=h
 have get : ∀ q,q<n*z.length→((Array.range (n*z.length)).map (zs[· % zs.size]!))[q]? = zs[q % z.length]? :=by
  intro q hq
  have:q % z.length<zs.size:=by rw[h1];exact Nat.mod_lt _ hp
  simp only[Array.getElem?_map,Array.getElem?_range,hq,if_true,Option.map_some]
  rw[h1,getElem!_pos zs (q % z.length) this,Array.getElem?_eq_getElem this]
 refine⟨by simp[nP],fun row hr=>by rw[qA z n row hr],fun v hv=>?_,fun i row j d v e1 e2 e3=>?_⟩
 ·obtain⟨q,hq⟩:=Array.mem_iff_getElem?.1 hv
  have hD:q<n*z.length:=by have:=(Array.getElem?_eq_some_iff.1 hq).1;simpa using this
  rw[get q hD]at hq
  exact h2 v (Array.mem_of_getElem? hq)
 ·have eK:=qA z n row (List.mem_of_getElem? e1)
  subst eK
  have hD:=Dn (size:=row.length) (fun r hr=>by rw[qA row n r hr]) e1 e2
  rw[nP]at hD
  rw[get _ hD]at e3
  have hj:=(List.getElem?_eq_some_iff.1 e2).1
  rw[Nat.mul_comm,Nat.mul_add_mod,Nat.mod_eq_of_lt hj]at e3
  exact h3 j d v e2 e3
theorem nO.set {size:Nat} {rows:List (List D)} {vs:Array Value} (h:nO M s size rows vs) {d:D} {v:Value} {row:List D} (hd:RD M s d v) (hr:d.row=some row) (hl:row.length=size) {i:Nat} (hi:i<rows.length) :
 nO M s size (rows.set i row) (v.cells.zipIdx.foldl (fun cs (p:Value×Nat)=>cs.setIfInBounds (i*size+p.2) p.1) vs):=by
 obtain⟨h1,h2,h3⟩:=hd.row hr
 obtain⟨g1,g2,g3,g4⟩:=h
 have e:v.cells.zipIdx.foldl (fun cs (p:Value×Nat)=>cs.setIfInBounds (i*size+p.2) p.1) vs=(v.cells.toList.zipIdx 0).foldl (fun cs p=>cs.setIfInBounds (i*size+p.2) p.1) vs:=by
  rw[← Array.foldl_toList];simp
 rw[e]
 have jn:v.cells.toList.length=size:=by simp[h1,hl]
 have kn:i*size+size≤vs.size:=by
  have:(i+1)*size≤rows.length*size:=Nat.mul_le_mul_right _ hi
  rw[Nat.succ_mul]at this;omega
 have fs:=fun q=>yy (i*size) v.cells.toList 0 vs q
 have get : ∀ q,((v.cells.toList.zipIdx 0).foldl (fun cs p=>cs.setIfInBounds (i*size+p.2) p.1) vs)[q]? = if i*size≤q∧q<i*size+size then v.cells.toList[q - i*size]? else vs[q]? :=by
  intro q
  have:=(fs q).2 (by omega)
  rw[jn]at this
  simpa using this
 refine⟨by rw[(fs 0).1];simpa using g1,fun r UG=>?_,fun u hu=>?_,fun i' lA j d' u e1 e2 e3=>?_⟩
 ·rcases List.mem_or_eq_of_mem_set UG with h | rfl
  ·exact g2 r h
  ·exact hl
 ·obtain⟨q,hq⟩:=Array.mem_iff_getElem?.1 hu
  rw[get]at hq
  split at hq
  ·exact h2 u (Array.mem_toList_iff.1 (List.mem_of_getElem? hq))
  ·exact g3 u (Array.mem_of_getElem? hq)
 ·rw [List.getElem?_set]at e1
  rw[get]at e3
  split at e1
  ·rename_i heq;subst heq
   simp at e1
   obtain⟨_,rfl⟩:=e1
   have hj:=(List.getElem?_eq_some_iff.1 e2).1
   rw[if_pos (by omega)]at e3
   rw[show i*size+j - i*size=j by omega]at e3
   exact h3 j d' u e2 (by simpa using e3)
  ·rename_i fu
   have hj:=(List.getElem?_eq_some_iff.1 e2).1
   have Dp:=g2 lA (List.mem_of_getElem? e1)
   rw[if_neg]at e3
   ·exact g4 i' lA j d' u e1 e2 e3
   ·rintro⟨a,b⟩
    rcases Nat.lt_or_gt_of_ne fu with h|h
    ·have:(i+1)*size≤i'*size:=Nat.mul_le_mul_right _ h
     rw[Nat.succ_mul]at this;omega
    ·have:(i'+1)*size≤i*size:=Nat.mul_le_mul_right _ h
     rw[Nat.succ_mul]at this;omega
theorem Dq {size:Nat} : ∀ (vp:List (Nat×Value)) (dp:List (Nat×D)) (rows:List (List D)) (vs:Array Value) (qo:List (List D)),nO M s size rows vs→
 dp.length=vp.length→(∀ (j:Nat) (i:Nat) (v:Value) (i':Nat) (d:D),vp[j]? = some (i,v)→dp[j]? = some (i',d)→i'=i∧RD M s d v)→
 ld size rows dp=some qo→∃ gv,Instr.fill (fun i=>some (i*size,size)) vs vp=some gv∧nO M s size qo gv∧qo.length=rows.length∧gv.size=vs.size
 | [],[],rows,vs,qo,h,_,_,e=>by cases e;exact⟨vs,rfl,h,rfl,rfl⟩
 | [],_::_,_,_,_,_,hl,_,_=>by simp at hl
 |_::_,[],_,_,_,_,hl,_,_=>by simp at hl
 | (i,v)::vp,(i',d)::dp,rows,vs,qo,h,hl,hp,e=>by
  obtain⟨h1,h2⟩:=hp 0 i v i' d rfl rfl
  subst h1
  unfold ld at e
  split at e
  ·cases e
  ·rename_i row hr
   split at e
   ·rename_i hc
    obtain⟨c1,c2⟩:=hc
    have dU:=(h2.row hr).1
    have ajZ:=h.set h2 hr c1 c2
    obtain⟨gv,f1,f2,f3,f4⟩:=Dq vp dp (rows.set i' row) _ qo ajZ (by simpa using hl)
     (fun j i v i' d e1 e2=>hp (j+1) i v i' d (by simpa using e1) (by simpa using e2)) e
    have kn:i'*size+size≤vs.size:=by
     have:(i'+1)*size≤rows.length*size:=Nat.mul_le_mul_right _ c2
     have:=h.1
     rw[Nat.succ_mul]at *;omega
    refine⟨gv, ?_,f2,by rw[f3];simp, ?_⟩
    ·unfold Instr.fill
     simp only
     rw[if_neg]
     ·exact f1
     ·simp;exact⟨by omega,by omega⟩
    ·rw [f4]
     have:=(yy (i'*size) v.cells.toList 0 vs 0).1
     rw[← this, ← Array.foldl_toList];simp
   ·cases e
theorem Q6 (r:Rel M s w) {size:Nat} {rows:List (List D)} {vs:Array Value} (T:TypeId) (h:nO M s size rows vs) :
 RD (M.gJ w.heap.size vs.size vs) s (.slice .full size rows) (.slice (some ⟨w.heap.size,0,none⟩) rows.length rows.length)∧
 Rel (M.gJ w.heap.size vs.size vs) s (w.alloc (.cells vs T))∧Ext M s w (M.gJ w.heap.size vs.size vs) s (w.alloc (.cells vs T)):=by
 obtain⟨r',e'⟩:=r.gJ vs.size vs T (0,0) h.2.2.1
 obtain⟨g1,g2⟩:=h.fixed e'.le (b:=w.heap.size) (fun o ho=>by
  have:o<vs.size:=Nat.lt_of_lt_of_le ho h.1
  simp[Map.gJ,this])
 exact⟨.slice .full size rows w.heap.size 0 rows.length (Nat.le_refl _) h.2.1 g1 g2 rfl,r',e'⟩
theorem mV {t u ty e:TypeId} {i:TypeInfo} (ht:P.underlying t=some (.slice e)) (hi:P.info? e=some i) {base:Option Addr} {len cap:Nat} {y:Value} (hs:Src P i.size u y 0 [] w) (hc:len≤cap) :
 (Builtin.append_ #[t,u] ty #[.slice base len cap,y]).run P w = .ok (.slice base len cap) w:=by
 have nQ:=hs.cells
 rcases hs.kind with ⟨e',hk⟩|hk<;>cases base<;>simp[Builtin.append_,run_underlying ht,run_underlying hk,sizeOf,typeInfo,hi,hs.len,hc,nQ,storeCells]
theorem JW (r:Rel M s w) {u e':TypeId} (hu:P.underlying u=some (.slice e')) {g:Tag} {size:Nat} {rows:List (List D)} {y:Value} (hy:RD M s (.slice g size rows) y) :
 ∃ news:List Value,Src P size u y rows.length news w∧
  (∀ (i:Nat) (row:List D) (j:Nat) (d:D) (v:Value),rows[i]? = some row→row[j]? = some d→news[i*size+j]? = some v→RD M s d v)∧
  ∀ (b q n c:Nat),y = .slice (some ⟨b,q,none⟩) n c→∀ o,o<rows.length*size→M.G b (q+o)=news[o]? :=by
 rcases hy.kb with ⟨rfl,rfl,_⟩|⟨rfl,_,a,cap,rfl⟩|⟨b,q,cap,rfl,hl,hs,g1,g2,_⟩
 ·exact⟨[],Src.ofNil w hu 0,by simp,by simp⟩
 ·exact⟨[],Src.ofSlice w hu a 0 cap [] (by simp) (by simp) (by simp),by simp,by simp⟩
 ·obtain⟨us,hlen,Fm⟩:=Bn (M:=M) (b:=b) (rows.length*size) q (fun k hk=>by
   have hz:0<size:=by
    rcases Nat.eq_zero_or_pos size with h|h
    ·subst h;simp at hk
    ·exact h
   have hi:k / size<rows.length:=by rw[Nat.div_lt_iff_lt_mul hz];exact hk
   obtain⟨row,eK⟩ : ∃ row,rows[k / size]? = some row:=⟨_,List.getElem?_eq_getElem hi⟩
   have Dp:=hs row (List.mem_of_getElem? eK)
   have hj:k % size<row.length:=by rw[Dp];exact Nat.mod_lt _ hz
   obtain⟨u,hu⟩:=g1 _ row _ _ eK (List.getElem?_eq_getElem hj)
   refine⟨u, ?_⟩
   rw[← hu,Nat.mul_comm (k / size) size,Nat.div_add_mod])
  refine⟨us,Src.ofSlice w hu ⟨b,q,none⟩ rows.length cap us hlen (fun j u h=>by rw[n7];exact(r.comm _ _ _ (Fm j u h)).1) (fun u hu=>?_),fun i row j d v e1 e2 e3=>g2 i row j d v e1 e2 (Fm _ v e3),
   fun b' q' n c heq o ho=>by
    cases heq
    rw[Fm o _ (List.getElem?_eq_getElem (by omega)),List.getElem?_eq_getElem (by omega)]⟩
  obtain⟨j,hj⟩:=List.mem_iff_getElem?.1 hu
  exact(r.comm _ _ _ (Fm j u hj)).2
theorem G2 {size:Nat} {rows new:List (List D)} {rz news:List Value} (xk : ∀ row∈rows,row.length=size) (Ct : ∀ row∈new,row.length=size)
 (l1:rz.length=rows.length*size) (l2:news.length=new.length*size) (o1 : ∀ u∈rz,u.oneCell'=true) (o2 : ∀ u∈news,u.oneCell'=true)
 (h1 : ∀ (i:Nat) (row:List D) (j:Nat) (d:D) (v:Value),rows[i]? = some row→row[j]? = some d→rz[i*size+j]? = some v→RD M s d v)
 (h2 : ∀ (i:Nat) (row:List D) (j:Nat) (d:D) (v:Value),new[i]? = some row→row[j]? = some d→news[i*size+j]? = some v→RD M s d v)
 (z:Array Value) (hz : ∀ v∈z,v.oneCell'=true):nO M s size (rows++new) ((rz++news).toArray++z):=by
 have hs : ∀ row∈rows++new,row.length=size:=fun row h=>(List.mem_append.1 h).elim (xk row) (Ct row)
 refine⟨by simp[l1,l2,Nat.add_mul],hs,fun v hv=>?_,fun i row j d v e1 e2 e3=>?_⟩
 ·simp at hv
  rcases hv with (h|h)|h
  ·exact o1 v h
  ·exact o2 v h
  ·exact hz v h
 ·have hD:=Dn hs e1 e2
  rw[List.length_append,Nat.add_mul]at hD
  rw[Array.getElem?_append_left (by simp[l1,l2];omega),List.getElem?_toArray]at e3
  by_cases hi:i<rows.length
  ·rw [List.getElem?_append_left hi]at e1
   have:=Dn xk e1 e2
   rw[List.getElem?_append_left (by omega)]at e3
   exact h1 i row j d v e1 e2 e3
  ·rw [List.getElem?_append_right (by omega)]at e1
   have wG:rows.length*size≤i*size:=Nat.mul_le_mul_right _ (by omega)
   rw[List.getElem?_append_right (by omega),l1]at e3
   refine h2 (i - rows.length) row j d v e1 e2 ?_
   rw[← e3]
   congr 1
   rw[Nat.sub_mul];omega
theorem v8 {z:Array Value} (h : ∀ v∈z,v.oneCell'=true) (n:Nat) : ∀ v∈Builtin.zeroCells z n,v.oneCell'=true:=by
 intro v hv
 unfold Builtin.zeroCells at hv
 obtain⟨q,hq,rfl⟩:=Array.mem_map.1 hv
 have hD:q<n*z.size:=by simpa using hq
 have hz:0<z.size:=by
  rcases Nat.eq_zero_or_pos z.size with h|h
  ·rw[h]at hD;simp at hD
  ·exact h
 have:=Nat.mod_lt q hz
 rw[getElem!_pos z (q % z.size) this]
 exact h _ (Array.getElem_mem this)
def I4 (eb:Bool) (size bytes:Nat) (x y:D) (s:St):Option (D×St):=
 match x,y with
 | .slice g z rows, .slice _ z' new=>
  if(rows = []∨z=size)∧(new = []∨z'=size)∧(rows.length+new.length)*(bytes+1)≤bD then
   match new with
   | []=>some (.slice g z rows,s)
   |_::_=>
    match g with
    | .full=>some (.slice (.tok s.aA.length eb) size (rows++new),{s with aA:=s.aA++ [some (rows.length+new.length)]})
    | .shared=>none
    | .tok t y=>if(y=true→eb=true)∧z=size∧s.aA[t]? = some (some rows.length)then some (.slice (.tok t y) size (rows++new),{s with aA:=s.aA.set t (some (rows.length+new.length))})else none
  else none
 |_,_=>none
theorem afp {size bytes:Nat} {x y d:D} {s s':St} (h:jv size bytes x y s=some (d,s')):I4 false size bytes x y s=some (d,s'):=by
 unfold jv at h
 unfold I4
 split at h
 ·split at h
  ·rename_i hc
   simp only[hc,and_self,if_true]
   split at h
   ·exact h
   ·split at h
    ·exact h
    ·exact h
    ·cases h
    ·split at h
     ·rename_i hq
      simp only[hq,and_self,Bool.false_eq_true,false_imp_iff,if_true]
      exact h
     ·cases h
  ·cases h
 ·cases h
theorem UH {x y d:D} {s s':St} (h:De x y s=some (d,s')):I4 true 1 1 x y s=some (d,s'):=by
 unfold De at h
 unfold I4
 split at h
 ·split at h
  ·rename_i hc
   simp only[hc,and_self,if_true]
   split at h
   ·exact h
   ·split at h
    ·exact h
    ·exact h
    ·split at h
     ·rename_i hq
      simp only[hq,and_self,imp_true_iff,if_true]
      exact h
     ·cases h
  ·cases h
 ·cases h
theorem aa0 {b:Bool} {n:Nat} (h:b=true→n=1) (hn:0<n):zs (bz b n)=n:=by
 cases b
 ·show(if n=0 then 1 else n)=n
  rw[if_neg (by omega)]
 ·simp[zs,bz,h rfl]
theorem FT (eb:Bool) (r:Rel M s w) {t u ty e:TypeId} {i:TypeInfo} {z:Value} (ht:P.underlying t=some (.slice e)) (hi:P.info? e=some i) (hz:i.zero=some z)
 (Au:z.cells.size=i.size) (Av : ∀ v∈z.cells,v.oneCell'=true) {dx dy d:D} {x y:Value} {s':St} (hx:RD M s dx x) (heb:eb=true→e=qW∧i.size=1) (uE:0<i.size) (he:I4 eb i.size i.bytes dx dy s=some (d,s'))
 (src : ∀ (g:Tag) (size:Nat) (rows:List (List D)),dy = .slice g size rows→(rows = []→Src P i.size u y 0 [] w)∧(rows≠ []→size=i.size→(∀ row∈rows,row.length=i.size)∧∃ news:List Value,Src P i.size u y rows.length news w∧
  (∀ (k:Nat) (row:List D) (j:Nat) (d:D) (v:Value),rows[k]? = some row→row[j]? = some d→news[k*i.size+j]? = some v→RD M s d v))) :
 ∃ v w' M',(Builtin.append_ #[t,u] ty #[x,y]).run P w = .ok v w'∧Rel M' s' w'∧RD M' s' d v∧Ext M s w M' s' w':=by
 unfold I4 at he
 split at he
 case h_2=>cases he
 rename_i g zx rows g' zy new
 split at he
 case isFalse=>cases he
 rename_i hc
 obtain⟨ri,L4,yz⟩:=hc
 cases new with
 | nil=>
  simp only at he
  cases he
  have xl:Src P i.size u y 0 [] w:=(src _ _ _ rfl).1 rfl
  rcases hx.kb with ⟨_,hv,_⟩|⟨_,_,a,cap,hv⟩|⟨b,q,cap,hv,hl,_⟩
  ·refine⟨x,w,M, ?_,r,hx,Ext.refl M s w⟩
   rw[hv]
   exact mV ht hi xl (Nat.le_refl _)
  ·refine⟨x,w,M, ?_,r,hx,Ext.refl M s w⟩
   rw[hv]
   exact mV ht hi xl (Nat.zero_le _)
  ·refine⟨x,w,M, ?_,r,hx,Ext.refl M s w⟩
   rw[hv]
   exact mV ht hi xl hl
 | cons n0 new=>
  have fu:(n0::new)≠ []:=by simp
  generalize dB:n0::new=e9 at *
  have UI:zy=i.size:=L4.resolve_left fu
  subst UI
  obtain⟨Fp,news,hs,EA⟩:=(src _ _ _ rfl).2 fu rfl
  have hm:0<e9.length:=List.length_pos_iff.2 fu
  have vA:(rows.length+e9.length)*i.bytes≤140737488355328:=by rw[Nat.mul_succ]at yz;simp only[bD]at yz;omega
  have UJ:rows.length+e9.length≤1099511627776:=by rw[Nat.mul_succ]at yz;simp only[bD]at yz;omega
  -- what the first argument reads as
  obtain⟨base,cap,rz,hxv,hle,jC,hod,aa2,afr,hsx,hoG,qg⟩ : ∃ (base:Option Addr) (cap:Nat) (rz:List Value),x = .slice base rows.length cap∧rows.length≤cap∧rz.length=rows.length*i.size∧
   (Builtin.firstCells i.size rows.length (.slice base rows.length cap)).run P w.drew = .ok rz.toArray w.drew∧(∀ u∈rz,u.oneCell'=true)∧
   (∀ (k:Nat) (row:List D) (j:Nat) (d:D) (v:Value),rows[k]? = some row→row[j]? = some d→rz[k*i.size+j]? = some v→RD M s d v)∧(∀ row∈rows,row.length=i.size)∧
   (∀ b q,base=some ⟨b,q,none⟩→∀ o,o<rows.length*i.size→M.G b (q+o)=rz[o]?)∧
   ((base=none∧rows = []∧jN M s g zx 0 none cap)∨∃ b q,base=some ⟨b,q,none⟩∧jN M s g zx rows.length (some (b,q)) cap):=by
   rcases ri with h0|h0
   ·subst h0
    rcases hx.kb with ⟨_,hv,qg⟩|⟨_,rfl,_⟩|⟨b,q,cap,hv,hl,_,_,_,qg⟩
    ·exact⟨none,0,[],hv,Nat.le_refl _,by simp,by simp[Builtin.firstCells],by simp,by simp,by simp,by simp, .inl ⟨rfl,rfl,qg⟩⟩
    ·exfalso;simp only[← dB]at he;cases he
    ·exact⟨some ⟨b,q,none⟩,cap,[],hv,hl,by simp,by simp[Builtin.firstCells,loadCells,loadCellsFrom],by simp,by simp,by simp,by simp, .inr ⟨b,q,rfl,qg⟩⟩
   ·subst h0
    obtain⟨rz,Dr,ho2,ho3⟩:=JW r ht hx
    rcases hx.kb with ⟨h0,hv,qg⟩|⟨_,rfl,_⟩|⟨b,q,cap,hv,hl,oG,_,_,qg⟩
    ·subst h0
     refine⟨none,0,rz,hv,Nat.le_refl _,Dr.newsLen, ?_,Dr.one,ho2,by simp,by simp, .inl ⟨rfl,rfl,qg⟩⟩
     have:=Dr.cellsD;rw[hv]at this;exact this
    ·exfalso;simp only[← dB]at he;cases he
    ·refine⟨some ⟨b,q,none⟩,cap,rz,hv,hl,Dr.newsLen, ?_,Dr.one,ho2,oG,fun b' q' heq o ho=> ?_, .inr ⟨b,q,rfl,qg⟩⟩
     ·have:=Dr.cellsD;rw[hv]at this;exact this
     ·cases heq;exact ho3 b q _ cap hv o ho
  subst hxv
  -- the way that makes a new row
  have grow : ∀ (hg:cap<rows.length+e9.length),∃ (w':World) (M1:Map) (vs:Array Value) (qB:Nat),
   (Builtin.append_ #[t,u] ty #[.slice base rows.length cap,y]).run P w = .ok (.slice (some ⟨w.heap.size,0,none⟩) (rows.length+e9.length) qB) w'∧
   w'.heap[w.heap.size]? = some (.cells vs e (0,0))∧vs.size=qB*i.size∧rows.length+e9.length≤qB∧M1=M.gJ w.heap.size ((rows.length+e9.length)*i.size) vs∧
   nO M s i.size (rows++e9) vs∧Rel M1 s w'∧Ext M s w M1 s w':=by
   intro hg
   have wG:=grownCap_ge w (rows.length+e9.length) cap e
   have ew:=run_append_grow_src (P:=P) w t u ty e i z ht hi hz base rows.length cap rz hod y e9.length news hs hg (by omega) (growslice_fits hg vA)
   have eK:=G2 (M:=M) (s:=s) hsx Fp jC hs.newsLen aa2 hs.one afr EA (Builtin.zeroCells z.cells (grownCap w (rows.length+e9.length) cap e - (rows.length+e9.length))) (v8 Av _)
   obtain⟨r1,e1⟩:=(r.of_heap (w':=w.drew) rfl).gJ ((rows.length+e9.length)*i.size) _ e (0,0) eK.2.2.1
   refine⟨_,_,_,_,ew,heap_alloc_new w.drew _, ?_,wG,rfl,eK,r1,(Ext.of_heap (M:=M) (s:=s) (w:=w) (w':=w.drew) rfl rfl rfl rfl).trans e1⟩
   simp only[Array.size_append,List.size_toArray,List.length_append,size_zeroCells,Au,jC,hs.newsLen, ← Nat.add_mul]
   congr 1;omega
  have hlen:(rows++e9).length=rows.length+e9.length:=by simp
  cases g with
  |shared=>simp only[← dB]at he;cases he
  | full=>
   have vZ:cap=rows.length:=by
    rcases qg with ⟨_,h0,h1⟩|⟨_,_,_,h1⟩
    ·subst h0;exact h1
    ·exact h1
   obtain⟨w',M1,vs,qB,ew,hh,dU,hn,G3,eK,r1,e1⟩:=grow (by omega)
   simp only[← dB]at he
   simp only[dB]at he
   cases he
   have L5:zs (bz eb i.size)=i.size:=aa0 (fun h=>(heb h).2) uE
   have hyb:bz eb i.size=0→e=qW:=fun h0=>by
    cases eb with
    |true=>exact(heb rfl).1
    |false=>simp[bz]at h0;omega
   obtain⟨r2,l2⟩:=r1.aaZ (rows.length+e9.length) w.heap.size qB (bz eb i.size) vs e hh (by rw[L5];exact dU) hn hyb
    (fun off ho=>by rw[L5]at ho;rw[G3];simp[Map.gJ];omega)
    (fun o ho=>by have:=r.rZ ho;rw [G3];show M.mu o≠_;omega) (fun q c z' hl heq=>by
     have:M.be q=some (w.heap.size,c,z'):=by rw[G3]at heq;exact heq
     have:=r.u5 hl this;omega)
   refine⟨_,w',_,ew,r2, ?_, ?_⟩
   ·obtain⟨f1,f2⟩:=eK.fixed (e1.le.trans l2) (b:=w.heap.size) (fun o ho=>by
     rw[G3,hlen]at *
     simp[Map.fP,Map.gJ,ho])
    have key:=RD.slice (M:=M1.fP s.aA.length (some (w.heap.size,qB,bz eb i.size))) (s:= {s with aA:=s.aA++ [some (rows.length+e9.length)]}) (.tok s.aA.length eb) i.size (rows++e9) w.heap.size 0 qB (by rw[hlen];exact hn) eK.2.1 f1 f2
     ⟨by simp,fun n rj=>by
      simp at rj
      subst rj
      exact⟨by rw[hlen];exact Nat.le_refl _,fun _=> .inr ⟨_,rfl,by simp[Map.fP]⟩⟩⟩
    rw[hlen]at key
    exact key
   ·refine⟨e1.le.trans l2,e1.kept,e1.sj,fun q b c z' hl heq=> ?_,e1.sk,e1.size,e1.os,e1.tape,e1.output⟩
    obtain⟨k,hk⟩:=hl
    rcases Nat.lt_or_ge q s.aA.length with h|h
    ·have L6:M1.be q=some (b,c,z'):=by
      have:(M1.fP s.aA.length (some (w.heap.size,qB,bz eb i.size))).be q=M1.be q:=by simp[Map.fP];omega
      rw[this]at heq;exact heq
     simp only[List.getElem?_append_left h]at hk
     exact e1.ry q b c z' ⟨k,hk⟩ L6
    ·have:=(List.getElem?_eq_some_iff.1 hk).1
     simp at this
     have:q=s.aA.length:=by omega
     subst this
     have:(M1.fP s.aA.length (some (w.heap.size,qB,bz eb i.size))).be s.aA.length=some (w.heap.size,qB,bz eb i.size):=by simp[Map.fP]
     rw[this]at heq;cases heq
     exact .inr (Nat.le_refl _)
  | tok q yb=>
   simp only[← dB]at he
   simp only[dB]at he
   split at he
   case isFalse=>cases he
   rename_i hq
   obtain⟨hyb,hzx,hq⟩:=hq
   cases he
   have L5:zs (bz yb i.size)=i.size:=aa0 (fun h=>(heb (hyb h)).2) uE
   have aou:bz yb i.size=0→e=qW:=fun h0=>by
    cases yb with
    |true=>exact(heb (hyb rfl)).1
    |false=>simp[bz]at h0;omega
   have Q7 : ∀ (hg:cap<rows.length+e9.length),∃ v w' M',(Builtin.append_ #[t,u] ty #[.slice base rows.length cap,y]).run P w = .ok v w'∧Rel M' {s with aA:=s.aA.set q (some (rows.length+e9.length))} w'∧
    RD M' {s with aA:=s.aA.set q (some (rows.length+e9.length))} (.slice (.tok q yb) i.size (rows++e9)) v∧Ext M s w M' {s with aA:=s.aA.set q (some (rows.length+e9.length))} w':=by
    intro hg
    obtain⟨w',M1,vs,qB,ew,hh,dU,hn,G3,eK,r1,e1⟩:=grow hg
    have Fq:q<s.aA.length:=(List.getElem?_eq_some_iff.1 hq).1
    obtain⟨r2,l2⟩:=r1.ajV q rows.length (rows.length+e9.length) w.heap.size qB (bz yb i.size) vs e hq (by omega) hh (by rw[L5];exact dU) hn aou
     (fun off ho=>by rw[L5]at ho;rw[G3];simp[Map.gJ];omega)
     (fun o ho=>by have:=r.rZ ho;rw [G3];show M.mu o≠_;omega) (fun q c z' hl heq=>by
      have:M.be q=some (w.heap.size,c,z'):=by rw[G3]at heq;exact heq
      have:=r.u5 hl this;omega)
    refine⟨_,w',_,ew,r2, ?_, ?_⟩
    ·obtain⟨f1,f2⟩:=eK.fixed (e1.le.trans l2) (b:=w.heap.size) (fun o ho=>by
      rw[G3,hlen]at *
      simp[Map.fP,Map.gJ,ho])
     have key:=RD.slice (M:=M1.fP q (some (w.heap.size,qB,bz yb i.size))) (s:= {s with aA:=s.aA.set q (some (rows.length+e9.length))}) (.tok q yb) i.size (rows++e9) w.heap.size 0 qB (by rw[hlen];exact hn) eK.2.1 f1 f2
      ⟨by simp [Fq],fun n rj=>by
       simp[Fq]at rj
       subst rj
       exact⟨by rw[hlen];exact Nat.le_refl _,fun _=> .inr ⟨_,rfl,by simp[Map.fP]⟩⟩⟩
     rw[hlen]at key
     exact key
    ·refine⟨e1.le.trans l2,e1.kept,e1.sj,fun q' b c z' hl heq=> ?_,e1.sk,e1.size,e1.os,e1.tape,e1.output⟩
     obtain⟨k,hk⟩:=hl
     by_cases h:q'=q
     ·subst h
      have:(M1.fP q' (some (w.heap.size,qB,bz yb i.size))).be q'=some (w.heap.size,qB,bz yb i.size):=by simp[Map.fP]
      rw[this]at heq;cases heq
      exact .inr (Nat.le_refl _)
     ·have L6:M1.be q'=some (b,c,z'):=by
       have:(M1.fP q (some (w.heap.size,qB,bz yb i.size))).be q'=M1.be q':=by simp[Map.fP,h]
       rw[this]at heq;exact heq
      simp only[List.getElem?_set_ne (Ne.symm h)]at hk
      exact e1.ry q' b c z' ⟨k,hk⟩ L6
   rcases qg with ⟨rfl,rfl,h1⟩|⟨b,k,rfl,h1⟩
   ·obtain⟨_,h2⟩:=h1
    obtain⟨_,h3⟩:=h2 _ hq
    rcases h3 rfl with ⟨_,h4⟩|⟨b,h4,_⟩
    ·exact Q7 (by simp;omega)
    ·cases h4
   ·obtain⟨_,h2⟩:=h1
    obtain⟨_,h3⟩:=h2 _ hq
    rcases h3 rfl with ⟨_,h4⟩|⟨b2,h4,lV⟩
    ·exact Q7 (by omega)
    cases h4
    subst hzx
    by_cases ij:rows.length+e9.length≤cap
    ·rcases r.tok q rows.length hq with ⟨h4,_⟩ | ⟨b',sq,Bk,vs,T,h4,h5,h6,h7,h8⟩
     ·rw[lV]at h4;cases h4
     ·rw [lV]at h4;cases h4
      rw[L5]at h6
      obtain⟨r2,e2⟩:=r.ajW q rows.length e9.length b cap (bz yb i.size) i.size news L5 hq lV hs.newsLen ij hm hs.one vs T h5 h6 h8.2
      have kn:rows.length*i.size+news.length≤vs.size:=by rw[hs.newsLen,h6, ← Nat.add_mul];exact Nat.mul_le_mul_right _ ij
      have jr:=run_storeCells_at P b (rows.length*i.size) T news 0 vs w h5 (by simpa using kn) hs.one
      simp only[Nat.add_zero]at jr
      have ew:(Builtin.append_ #[t,u] ty #[.slice (some ⟨b,0,none⟩) rows.length cap,y]).run P w = .ok (.slice (some ⟨b,0,none⟩) (rows.length+e9.length) cap) (w.setRow b (vs.toList.take (rows.length*i.size)++news++vs.toList.drop (rows.length*i.size+news.length)).toArray):=by
       rcases hs.kind with ⟨PC,hk⟩|hk<;>simp[Builtin.append_,run_underlying ht,run_underlying hk,sizeOf,typeInfo,hi,hs.len,ij,hs.cells,Addr.add_lit,jr]
      refine⟨_,_,_,ew,r2, ?_,e2⟩
      have hG : ∀ o,o<(rows++e9).length*i.size→(M.fix b (rows.length*i.size) news).G b o=(rz++news).toArray[o]? :=by
       intro o ho
       rw[hlen,Nat.add_mul]at ho
       rw[List.getElem?_toArray]
       by_cases h9:o<rows.length*i.size
       ·rw [List.getElem?_append_left (by omega)]
        have:(M.fix b (rows.length*i.size) news).G b o=M.G b o:=by simp[Map.fix];omega
        rw[this]
        have:=hoG b 0 rfl o h9
        rwa [Nat.zero_add]at this
       ·rw [List.getElem?_append_right (by omega),jC]
        have:(M.fix b (rows.length*i.size) news).G b o=news[o - rows.length*i.size]? :=by
         simp only[Map.fix];rw[if_pos ⟨trivial,by omega,by rw[hs.newsLen];omega⟩]
        rw[this]
      have eK:=G2 (M:=M) (s:=s) hsx Fp jC hs.newsLen aa2 hs.one afr EA #[] (by simp)
      rw[Array.append_empty]at eK
      obtain⟨f1,f2⟩:=eK.fixed e2.le (b:=b) hG
      have Fq:q<s.aA.length:=(List.getElem?_eq_some_iff.1 hq).1
      have key:=RD.slice (M:=M.fix b (rows.length*i.size) news) (s:= {s with aA:=s.aA.set q (some (rows.length+e9.length))}) (.tok q yb) i.size (rows++e9) b 0 cap (by rw[hlen];exact ij) eK.2.1 f1 f2
       ⟨by simp [Fq],fun n rj=>by
        simp[Fq]at rj
        subst rj
        exact⟨by rw[hlen];exact Nat.le_refl _,fun _=> .inr ⟨_,rfl,lV⟩⟩⟩
      rw[hlen]at key
      exact key
    ·exact Q7 (by omega)
theorem I5 (r:Rel M s w) {u e':TypeId} {i:TypeInfo} (hu:P.underlying u=some (.slice e')) {y:Value} {dy:D} (hy:RD M s dy y) (g:Tag) (size:Nat) (rows:List (List D)) (hdy:dy = .slice g size rows) :
 (rows = []→Src P i.size u y 0 [] w)∧(rows≠ []→size=i.size→(∀ row∈rows,row.length=i.size)∧∃ news:List Value,Src P i.size u y rows.length news w∧
  (∀ (k:Nat) (row:List D) (j:Nat) (d:D) (v:Value),rows[k]? = some row→row[j]? = some d→news[k*i.size+j]? = some v→RD M s d v)):=by
 subst hdy
 refine⟨fun h0=>?_,fun fu dU=>?_⟩
 ·subst h0
  rcases hy.kb with ⟨_,rfl,_⟩|⟨_,_,a,cap,rfl⟩|⟨b,q,cap,rfl,_⟩
  ·exact Src.ofNil w hu 0
  ·exact Src.ofSlice w hu a 0 cap [] (by simp) (by simp) (by simp)
  ·exact Src.ofSlice w hu ⟨b,q,none⟩ 0 cap [] (by simp) (by simp) (by simp)
 ·subst dU
  obtain⟨news,h1,h2,_⟩:=JW r hu hy
  refine⟨?_,news,h1,h2⟩
  rcases hy.kb with ⟨h0,_⟩|⟨h0,_⟩|⟨_,_,_,_,_,h,_⟩
  ·exact(fu h0).elim
  ·exact(fu h0).elim
  ·exact h
theorem UK (r:Rel M s w) {t u ty e e':TypeId} {i:TypeInfo} {z:Value} (ht:P.underlying t=some (.slice e)) (hu:P.underlying u=some (.slice e')) (hi:P.info? e=some i) (hz:i.zero=some z)
 (Au:z.cells.size=i.size) (Av : ∀ v∈z.cells,v.oneCell'=true) {dx dy d:D} {x y:Value} {s':St} (hx:RD M s dx x) (hy:RD M s dy y) (uE:0<i.size) (he:jv i.size i.bytes dx dy s=some (d,s')) :
 ∃ v w' M',(Builtin.append_ #[t,u] ty #[x,y]).run P w = .ok v w'∧Rel M' s' w'∧RD M' s' d v∧Ext M s w M' s' w':=
 FT false r ht hi hz Au Av hx (fun h=>by cases h) uE (afp he) (I5 r hu hy)
theorem Q8 (r:Rel M s w) {t u ty e':TypeId} {i:TypeInfo} {z:Value} (ht:P.underlying t=some (.slice qW)) (hu:P.underlying u=some (.slice e')) (hi:P.info? qW=some i) (hz:i.zero=some z) (h1:i.size=1) (h2:i.bytes=1)
 (Au:z.cells.size=i.size) (Av : ∀ v∈z.cells,v.oneCell'=true) {dx dy d:D} {x y:Value} {s':St} (hx:RD M s dx x) (hy:RD M s dy y) (he:De dx dy s=some (d,s')) :
 ∃ v w' M',(Builtin.append_ #[t,u] ty #[x,y]).run P w = .ok v w'∧Rel M' s' w'∧RD M' s' d v∧Ext M s w M' s' w':=
 FT true r ht hi hz Au Av hx (fun _=>⟨rfl,h1⟩) (by omega) (by rw[h1,h2];exact UH he) (I5 r hu hy)
theorem Q9 (r:Rel M s w) {t u ty:TypeId} {i:TypeInfo} {z:Value} (ht:P.underlying t=some (.slice qW)) (hu:P.underlying u=some .string) (hi:P.info? qW=some i) (hz:i.zero=some z) (h1:i.size=1) (h2:i.bytes=1)
 (Au:z.cells.size=i.size) (Av : ∀ v∈z.cells,v.oneCell'=true) {dx d:D} {x:Value} {l:List UInt8} {s':St} (hx:RD M s dx x) (he:De dx (.slice .shared 1 (l.map fun c=> [.int .u8 c.toNat])) s=some (d,s')) :
 ∃ v w' M',(Builtin.append_ #[t,u] ty #[x, .string ⟨⟨l⟩⟩]).run P w = .ok v w'∧Rel M' s' w'∧RD M' s' d v∧Ext M s w M' s' w':=by
 have hs:Src P i.size u (.string ⟨⟨l⟩⟩) l.length (l.map fun c=> .int .u8 c.toNat) w:=by
  rw[h1]
  exact Src.ofString w hu ⟨⟨l⟩⟩
 refine FT true r ht hi hz Au Av hx (fun _=>⟨rfl,h1⟩) (by omega) (by rw[h1,h2];exact UH he) fun g size rows hdy=>?_
 cases hdy
 refine⟨fun h0=>?_,fun fu dU=>?_⟩
 ·have:l = []:=by simpa using h0
  subst this
  exact hs
 ·refine⟨fun row hr=> ?_,_,by simpa using hs,fun k row j d v e1 e2 e3=> ?_⟩
  ·obtain⟨c,_,rfl⟩:=List.mem_map.1 hr
   rw[h1];rfl
  ·rw [List.getElem?_map,Option.map_eq_some_iff]at e1
   obtain⟨c,e1,rfl⟩:=e1
   cases j with
   |zero=>
    simp at e2
    subst e2
    simp[h1,e1]at e3
    subst e3
    exact .int _ _
   |succ j=>simp at e2
end
end Go.Abs
namespace Go.Abs
section
variable {P:Program} {M:Map} {s:St} {w:World}
theorem map_some {α β:Type} {f:α→β} {x:Option α} {y:β} (h:x.map f=some y) : ∃ a,x=some a∧y=f a:=by
 cases x with
 |none=>cases h
 |some a=>cases h;exact⟨a,rfl,rfl⟩
theorem u6 {t:TypeId} {z:List D} (h:zeroOf P t=some z) : ∃ i v,P.info? t=some i∧i.zero=some v∧v.cells.size=i.size∧pD v.cells.toList=some z:=by
 unfold zeroOf at h
 split at h
 ·rename_i i hi
  split at h
  ·rename_i v hv
   split at h
   ·exact⟨i,v,hi,hv, ‹_›,h⟩
   ·cases h
  ·cases h
 ·cases h
theorem s8 {z:List D} {v:Value} (h:pD v.cells.toList=some z):vy M s z v.cells:=by
 obtain⟨h1,h2,h3⟩:=mN (M:=M) (s:=s) h
 exact⟨by simpa using h1.symm,fun u hu=>h2 u (by simpa using hu),fun i d u e1 e2=>h3 i d u e1 (by simpa using e2)⟩
theorem Ra {t:TypeId} {z:List D} (h:Bj P t=some z) : ∃ i v,P.info? t=some i∧i.zero=some v∧v.cells.size=i.size∧vy M s z v.cells:=by
 unfold Bj at h
 split at h
 ·rename_i i hi
  split at h
  ·rename_i v hv
   split at h
   ·refine⟨i,v,hi,hv, ‹_›, ?_⟩
    obtain⟨h1,h2,h3⟩:=Fo (M:=M) (s:=s) h
    exact⟨by simpa using h1.symm,fun u hu=>h2 u (by simpa using hu),fun i d u e1 e2=>h3 i d u e1 (by simpa using e2)⟩
   ·cases h
  ·cases h
 ·cases h
theorem Ds {t:TypeId} {tm:Tm} {act:Act} (hr:nM M s tm act.tmps) : ∀ {l:List (Nat×Operand)} {ps:List (Nat×Nat×X)},Dg P t l=some ps→
 (ps.map fun p=>(p.1,p.2.1,p.2.2.ev tm)).length=(l.map fun p=>(p.1,act.eval p.2)).length∧
 ∀ (j:Nat) (i:Nat) (v:Value) (off size:Nat) (d:D),(l.map fun p=>(p.1,act.eval p.2))[j]? = some (i,v)→(ps.map fun p=>(p.1,p.2.1,p.2.2.ev tm))[j]? = some (off,size,d)→
  (∃ a,nZ P t i=some (off,size,a))∧RD M s d v
 | [],ps,h=>by cases h;exact⟨rfl,by simp⟩
 | (i0,x)::l,ps,h=>by
  unfold Dg at h
  split at h
  ·rename_i off size a x' r' h1 h2 h3
   cases h
   obtain⟨g1,g2⟩:=Ds hr h3
   refine⟨by simpa using g1,fun j i v sn Bk d e1 e2=>?_⟩
   cases j with
   |zero=>
    simp at e1 e2
    obtain⟨rfl,rfl⟩:=e1
    obtain⟨rfl,rfl,rfl⟩:=e2
    exact⟨⟨a,h1⟩,cv h2 hr⟩
   |succ j=>exact g2 j i v sn Bk d (by simpa using e1) (by simpa using e2)
  ·cases h
theorem G6 {tm:Tm} {act:Act} (hr:nM M s tm act.tmps) : ∀ {l:List (Nat×Operand)} {ps:List (Nat×X)},LV l=some ps→
 (ps.map fun p=>(p.1,p.2.ev tm)).length=(l.map fun p=>(p.1,act.eval p.2)).length∧
 ∀ (j:Nat) (i:Nat) (v:Value) (i':Nat) (d:D),(l.map fun p=>(p.1,act.eval p.2))[j]? = some (i,v)→(ps.map fun p=>(p.1,p.2.ev tm))[j]? = some (i',d)→i'=i∧RD M s d v
 | [],ps,h=>by cases h;exact⟨rfl,by simp⟩
 | (i0,x)::l,ps,h=>by
  unfold LV at h
  split at h
  ·rename_i x' r' h1 h2
   cases h
   obtain⟨g1,g2⟩:=G6 hr h2
   refine⟨by simpa using g1,fun j i v i' d e1 e2=>?_⟩
   cases j with
   |zero=>
    simp at e1 e2
    obtain⟨rfl,rfl⟩:=e1
    obtain⟨rfl,rfl⟩:=e2
    exact⟨rfl,cv h1 hr⟩
   |succ j=>exact g2 j i v i' d (by simpa using e1) (by simpa using e2)
  ·cases h
theorem G7 : ∀ (l:List Field),(∀ f∈l,(P.info? f.type).isSome)→
 ∃ ps:List (Nat×Nat),(l.mapM fun f=>do pure (f.offset, ← sizeOf f.type):Sem (List (Nat×Nat))).run P w = .ok ps w∧
  ∀ (j:Nat) (f:Field) (i:TypeInfo),l[j]? = some f→P.info? f.type=some i→ps[j]? = some (f.offset,i.size)
 | [],_=>⟨[],rfl,by simp⟩
 | f::l,h=>by
  obtain⟨i,hi⟩:=Option.isSome_iff_exists.1 (h f (by simp))
  obtain⟨ps,h1,h2⟩:=G7 l (fun g hg=>h g (by simp[hg]))
  refine⟨(f.offset,i.size)::ps, ?_,fun j g i' e1 e2=>?_⟩
  ·rw [List.mapM_cons]
   simp only[Sem.run_bind,sizeOf,gX P hi,Result.andThen_ok,Sem.run_pure]at h1 ⊢
   simp only[h1,Result.andThen_ok]
  ·cases j with
   |zero=>simp at e1;subst e1;rw[hi]at e2;cases e2;rfl
   |succ j=>exact h2 j g i' (by simpa using e1) e2
theorem Rb (r:Rel M s w) {t:TypeId} {fs:Array Field} {z:List D} {l:List (Nat×Operand)} {ps:List (Nat×Nat×X)} {tm:Tm} {act:Act} {cs:List D} (hr:nM M s tm act.tmps)
 (ht:P.underlying t=some (.struct fs)) (G8:(fs.toList.all fun f=>(P.info? f.type).isSome)=true) (hz:Bj P t=some z) (hp:Dg P t l=some ps) (hf:sW z (ps.map fun p=>(p.1,p.2.1,p.2.2.ev tm))=some cs) :
 dq P M s w (do pure (.value (← Instr.build t (l.toArray.map fun(i,x)=>(i,act.eval x))))) (.agg cs) s:=by
 obtain⟨i,v,h1,h2,h3,hc⟩:=Ra (M:=M) (s:=s) hz
 obtain⟨g1,g2⟩:=Ds hr hp
 obtain⟨pl,p1,p2⟩:=G7 (P:=P) (w:=w) fs.toList (fun f JX=>by simpa using List.all_eq_true.1 G8 f JX)
 have ac5:(fs.mapM fun f=>do pure (f.offset, ← sizeOf f.type):Sem (Array (Nat×Nat))).run P w = .ok pl.toArray w:=by
  rw[Array.mapM_eq_mapM_toList,Sem.run_map,p1];rfl
 obtain⟨vs,f1,f2⟩:=L0 (place:=(pl.toArray[·]?)) (l.map fun p=>(p.1,act.eval p.2)) _ z v.cells cs hc g1 (fun j i v off size d e1 e2=>by
  obtain⟨⟨a,ha⟩,hd⟩:=g2 j i v off size d e1 e2
  refine⟨?_,hd⟩
  unfold nZ at ha
  rw[ht]at ha
  simp only at ha
  split at ha
  ·rename_i fd hfd
   split at ha
   ·rename_i i' a' iI _
    split at ha
    ·cases ha
    ·cases ha
     simpa using p2 i fd i' (by simpa using hfd) iI
   ·cases ha
  ·cases ha) hf
 refine dq.pure (v:= .agg vs) r ?_ (.agg _ _ f2.1.symm f2.2.1 f2.2.2)
 have s9:(l.toArray.map fun(i,x)=>(i,act.eval x)).toList=l.map fun p=>(p.1,act.eval p.2):=by simp
 unfold Instr.build
 simp only[Sem.run_bind,zeroValue,gX P h1,h2,Result.andThen_ok,Sem.run_pure,run_underlying ht,ac5,s9,f1]
theorem Fs (r:Rel M s w) {t e:TypeId} {i:TypeInfo} {z:List D} {n:Nat} {l:List (Nat×Operand)} {ps:List (Nat×X)} {tm:Tm} {act:Act} {rows:List (List D)} (hr:nM M s tm act.tmps)
 (ht:P.underlying t=some (.slice e)) (hi:P.info? e=some i) (hz:zeroOf P e=some z) (uE:0<i.size) (hn:n*i.size≤65536) (hp:LV l=some ps)
 (hf:ld i.size (gV z n) (ps.map fun p=>(p.1,p.2.ev tm))=some rows) :
 ∃ (vs:Array Value) (T:TypeId),nO M s i.size rows vs∧rows.length=n∧vs.size=n*i.size∧
  (Instr.buildSlice t n (l.toArray.map fun(i,x)=>(i,act.eval x))).run P w = .ok (.slice (some ⟨w.heap.size,0,none⟩) n n) (w.alloc (.cells vs T)):=by
 obtain⟨i',v,h1,h2,h3,h4⟩:=u6 hz
 rw[hi]at h1;cases h1
 have hc:=s8 (M:=M) (s:=s) h4
 have hzl:z.length=i.size:=by rw[← hc.1,h3]
 have JY:=nO.zero hc (by omega) n
 rw[hzl]at JY
 obtain⟨g1,g2⟩:=G6 hr hp
 obtain⟨vs,f1,f2,f3,f4⟩:=Dq (l.map fun p=>(p.1,act.eval p.2)) _ _ _ rows JY g1 g2 hf
 have hzr:=nP z n
 refine⟨vs,e,f2,by rw[f3,hzr],by rw[f4];simp, ?_⟩
 have vA : ¬ (n*i.size > 2 ^ 24):=by omega
 have s9:(l.toArray.map fun(i,x)=>(i,act.eval x)).toList=l.map fun p=>(p.1,act.eval p.2):=by simp
 by_cases h0:n*i.size=0
 ·have nQ:(Array.range (n*i.size)).map ((#[] : Array Value)[· % (#[] : Array Value).size]!)=(Array.range (n*i.size)).map (v.cells[· % v.cells.size]!):=by rw [h0];simp
  unfold Instr.buildSlice
  simp only[Sem.run_bind,run_underlying ht,Result.andThen_ok,sizeOf,gX P hi,Sem.run_pure,if_neg vA,if_pos h0,nQ,s9,f1,newRow,run_newObj]
  rfl
 ·unfold Instr.buildSlice
  simp only[Sem.run_bind,run_underlying ht,Result.andThen_ok,sizeOf,gX P hi,Sem.run_pure,if_neg vA,if_neg h0,zeroValue,h2,s9,f1,newRow,run_newObj]
  rfl
end
end Go.Abs
namespace Go.Abs
section
variable {P:Program} {M:Map} {s:St} {w:World}
theorem foldl_push (ns:List Int) : ∀ r:ByteArray,ns.foldl (fun r n=>r.push (UInt8.ofNat n.toNat)) r = ⟨r.data++(ns.map fun n=>UInt8.ofNat n.toNat).toArray⟩:=by
 induction ns with
 |nil=>intro r;simp
 |cons n ns ih=>intro r;simp only[List.foldl_cons];rw[ih];simp[ByteArray.push]
theorem xm : ∀ {rows:List (List D)} {l:List UInt8},qb rows=some l→∃ ns:List Int,rows=ns.map (fun n=> [.int .u8 n])∧l=ns.map fun n=>UInt8.ofNat n.toNat
 | [],l,h=>by cases h;exact⟨[],rfl,rfl⟩
 | r::rs,l,h=>by
  unfold qb at h
  split at h
  ·rename_i b bs h1 h2
   cases h
   obtain⟨ns,g1,g2⟩:=xm h2
   unfold JT at h1
   split at h1
   ·rename_i n
    cases h1
    exact⟨n::ns,by rw[g1];rfl,by rw[g2];rfl⟩
   ·cases h1
  ·cases h
theorem Rc (r:Rel M s w) {src dst e:TypeId} {g:Tag} {z:Nat} {rows:List (List D)} {v:Value} {l:List UInt8} (hs:P.underlying src=some (.slice e)) (he:P.underlying e=some (.int .u8)) (hd:P.underlying dst=some .string)
 (hv:RD M s (.slice g z rows) v) (hb:qb rows=some l):dq P M s w (do pure (.value (← convert src dst v))) (.str l) s:=by
 obtain⟨ns,rfl,rfl⟩:=xm hb
 refine dq.pure (v:= .string ⟨⟨ns.map fun n=>UInt8.ofNat n.toNat⟩⟩) r ?_ (.str _)
 rcases hv.kb with ⟨h0,rfl,_⟩|⟨h0,_,a,cap,rfl⟩|⟨b,q,cap,rfl,hl,dU,g1,g2,_⟩
 ·have:ns = []:=by simpa using h0
  subst this
  have:=run_convert_bytes_string w src dst e none 0 0 hs he hd
  simp only[Sem.run_bind,this,Conv.bytesToString,Sem.run_pure,Result.andThen_ok]
  rfl
 ·have:ns = []:=by simpa using h0
  subst this
  have h2:=run_convert_bytes_string w src dst e (some a) 0 cap hs he hd
  simp only[Sem.run_bind,h2,Conv.bytesToString,Sem.run_pure,Result.andThen_ok]
  rfl
 ·have nQ:=run_loadCells_list (P:=P) w ⟨b,q,none⟩ (ns.map (Value.int .u8)) (fun j v hj=>by
   rw[n7]
   simp only[List.getElem?_map,Option.map_eq_some_iff]at hj
   obtain⟨n,hn,rfl⟩:=hj
   have eK:(ns.map (fun n=> [D.int .u8 n]))[j]? = some [.int .u8 n]:=by simp[hn]
   have hz:z=1:=by have:=dU [.int .u8 n] (List.mem_of_getElem? eK);simpa using this.symm
   subst hz
   obtain⟨u,hu⟩:=g1 j _ 0 _ eK rfl
   have:=g2 j _ 0 _ u eK rfl hu
   rw[this.jq]at hu
   have:=(r.comm _ _ _ hu).1
   simpa using this)
  simp only[List.length_map]at nQ ⊢
  have h1:=run_bytesToString (P:=P) w ⟨b,q,none⟩ ns.length cap ns nQ
  have h2:=run_convert_bytes_string w src dst e (some ⟨b,q,none⟩) ns.length cap hs he hd
  simp only[Sem.run_bind,h2,h1,Sem.run_pure,Result.andThen_ok,foldl_push]
  congr 3
  simp[ByteArray.empty,ByteArray.emptyWithCapacity]
  rfl
theorem L7 (r:Rel M s w) {src dst e:TypeId} {l:List UInt8} (hs:P.underlying src=some .string) (hd:P.underlying dst=some (.slice e)) (he:P.underlying e=some (.int .u8)) :
 dq P M s w (do pure (.value (← convert src dst (.string ⟨⟨l⟩⟩)))) (.slice .shared 1 (l.map fun c=> [.int .u8 c.toNat])) s:=by
 have ew:=run_bytes_of_string (P:=P) w src dst e ⟨⟨l⟩⟩ hs hd he
 generalize vZ:grownCap w (ByteArray.size ⟨⟨l⟩⟩) 0 e=cap at ew
 have wG:l.length≤cap:=by rw[← vZ];exact grownCap_ge w l.length 0 e
 have eK : ∀ j,j<l.length→(bytesRow ⟨⟨l⟩⟩ cap)[j]? = some (.int .u8 ((l[j]?.getD 0).toNat:Int)):=by
  intro j hj
  unfold bytesRow
  rw[Array.getElem?_append_left (by simpa using hj)]
  simp[hj]
 have dU:(bytesRow ⟨⟨l⟩⟩ cap).size=cap:=by simp[bytesRow,Ez];omega
 have iM : ∀ v∈bytesRow ⟨⟨l⟩⟩ cap,v.oneCell'=true:=by
  intro v hv
  unfold bytesRow at hv
  simp at hv
  rcases hv with ⟨a,_,rfl⟩|⟨_,rfl⟩<;>rfl
 have hR:nO M s 1 (l.map fun c=> [D.int .u8 c.toNat]) (bytesRow ⟨⟨l⟩⟩ cap):=by
  refine⟨by simp[dU];omega,by simp,iM,fun i row j d v e1 e2 e3=>?_⟩
  simp only[List.getElem?_map,Option.map_eq_some_iff]at e1
  obtain⟨c,hc,rfl⟩:=e1
  cases j with
  |zero=>
   simp at e2;subst e2
   have hi:=(List.getElem?_eq_some_iff.1 hc).1
   rw[show i*1+0=i by omega,eK i hi,hc]at e3
   cases e3
   exact .int _ _
  |succ j=>simp at e2
 obtain⟨r1,e1⟩:=(r.of_heap (w':=w.drew) rfl).gJ l.length (bytesRow ⟨⟨l⟩⟩ cap) e ((bytesRow ⟨⟨l⟩⟩ cap).size,(bytesRow ⟨⟨l⟩⟩ cap).size+1) iM
 obtain⟨f1,f2⟩:=hR.fixed e1.le (b:=w.heap.size) (fun o ho=>by simp at ho;simp[Map.gJ,ho])
 refine⟨.slice (some ⟨w.heap.size,0,none⟩) l.length cap,_,_, .inl (by simp only[Sem.run_bind,ew,Result.andThen_ok,Sem.run_pure];rfl),r1, ?_,(Ext.of_heap (M:=M) (s:=s) (w:=w) (w':=w.drew) rfl rfl rfl rfl).trans e1⟩
 have key:=RD.slice (M:=M.gJ w.heap.size l.length (bytesRow ⟨⟨l⟩⟩ cap)) (s:=s) .shared 1 (l.map fun c=> [D.int .u8 c.toNat]) w.heap.size 0 cap (by simpa using wG) hR.2.1 f1 f2 trivial
 simp only[List.length_map]at key
 exact key
theorem XW (r:Rel M s w) {t e:TypeId} {q z:Nat} {yb:Bool} {rows:List (List D)} {v:Value} (ht:P.underlying t=some (.slice e)) (he:P.underlying e=some (.int .u8)) (hv:RD M s (.slice (.tok q yb) z rows) v) (fu:rows≠ []) (hq:s.aA[q]? = some (some rows.length)) :
 dq P M s w (do pure (.value (← convert t t v))) (.slice .shared z rows) {s with aA:=s.aA.set q none}:=by
 rcases hv.kb with ⟨h0,_,_⟩|⟨h0,_,_⟩|⟨b,k,cap,rfl,hl,dU,g1,g2,qg⟩
 ·exact(fu h0).elim
 ·exact(fu h0).elim
 ·obtain⟨_,h2⟩:=qg
  obtain⟨_,h3⟩:=h2 _ hq
  rcases h3 rfl with ⟨_,h4,_⟩|⟨b2,h4,lV⟩
  ·subst h4
   exact(fu (List.eq_nil_of_length_eq_zero (Nat.le_zero.1 hl))).elim
  cases h4
  obtain⟨r1,l1⟩:=r.ajX q
  rcases r.tok q rows.length hq with ⟨h4,_⟩|⟨b',sq,Bk,vs,T,h4,h5,h6,h7,h8⟩
  ·rw[lV]at h4;cases h4
  ·rw [lV]at h4;cases h4
   have jB : ∀ p,St.live {s with aA:=s.aA.set q none} p→p≠q∧s.live p:=by
    rintro p ⟨n,hn⟩
    rw[List.getElem?_set]at hn
    split at hn
    ·simp at hn
    ·rename_i fu;exact⟨fun h=>fu h.symm,n,hn⟩
   obtain⟨r2,hh,oG,ho,G9,XX⟩:=r1.freeze (b:=b) vs.size 1 (fun o ho=>r.fO q b cap _ o ⟨_,hq⟩ lV ho)
    (fun p c y hp heq=>(jB p hp).1 (r.gR p q b c y cap _ (jB p hp).2 ⟨_,hq⟩ heq lV))
   have aft:w.shape? b=some (T,vs.size):=by simp[World.shape?,h5]
   refine⟨.slice (some ⟨b,0,none⟩) rows.length cap,_,M, .inl ?_,r2, ?_, ?_⟩
   ·simp[convert,run_underlying ht,run_underlying he,markStringish,aft]
   ·have h9:=(RD.slice (M:=M) (s:=s) .shared z rows b 0 cap hl dU g1 g2 trivial).mono l1
    exact h9
   ·refine⟨l1,fun p _ _ h4=>hh p (fun e=>h4 q cap (bz yb z) ⟨_,hq⟩ (by rw [lV,e])),fun o h3 h4=> ?_,fun p b' c y hp heq=> .inl ⟨(jB p hp).2,c,y,heq⟩,fun _ _ h=>(h rfl).elim,by rw [oG];exact Nat.le_refl _,ho,G9,XX⟩
    simp at h4;omega
theorem UL (r:Rel M s w) {size:Nat} {rows:List (List D)} {vs:Array Value} (T:TypeId) (h:nO M s size rows vs) (dU:vs.size=rows.length*size) (uE:0<size) :
 ∃ M',RD M' {s with aA:=s.aA++ [some rows.length]} (.slice (.tok s.aA.length) size rows) (.slice (some ⟨w.heap.size,0,none⟩) rows.length rows.length)∧
 Rel M' {s with aA:=s.aA++ [some rows.length]} (w.alloc (.cells vs T))∧Ext M s w M' {s with aA:=s.aA++ [some rows.length]} (w.alloc (.cells vs T)):=by
 obtain⟨r1,e1⟩:=r.gJ vs.size vs T (0,0) h.2.2.1
 have Au:zs size=size:=by show(if size=0 then 1 else size)=size;rw[if_neg (by omega)]
 obtain⟨r2,l2⟩:=r1.aaZ rows.length w.heap.size rows.length size vs T (heap_alloc_new w _) (by rw[Au];exact dU) (Nat.le_refl _) (fun h=>by omega)
  (fun off ho=>by rw[Au]at ho;simp[Map.gJ];omega) (fun o ho=>by have:=r.rZ ho;show M.mu o≠_;omega)
  (fun q c z' hl heq=>by have:=r.u5 hl (show M.be q=some (w.heap.size,c,z')from heq);omega)
 obtain⟨f1,f2⟩:=h.fixed (e1.le.trans l2) (b:=w.heap.size) (fun o ho=>by
  have:o<vs.size:=Nat.lt_of_lt_of_le ho h.1
  simp[Map.fP,Map.gJ,this])
 refine⟨_, ?_,r2, ?_⟩
 ·exact .slice _ size rows w.heap.size 0 rows.length (Nat.le_refl _) h.2.1 f1 f2 ⟨by simp,fun n hn=>by
   simp at hn;subst hn
   exact⟨Nat.le_refl _,fun _=> .inr ⟨_,rfl,by simp[Map.fP,bz]⟩⟩⟩
 ·refine⟨e1.le.trans l2,e1.kept,e1.sj,fun q b c z' hl heq=> ?_,e1.sk,e1.size,e1.os,e1.tape,e1.output⟩
  obtain⟨k,hk⟩:=hl
  rcases Nat.lt_or_ge q s.aA.length with h'|h'
  ·have L6:M.be q=some (b,c,z'):=by
    have:((M.gJ w.heap.size vs.size vs).fP s.aA.length (some (w.heap.size,rows.length,size))).be q=M.be q:=by simp[Map.fP,Map.gJ];omega
    rw[this]at heq;exact heq
   simp only[List.getElem?_append_left h']at hk
   exact .inl ⟨⟨k,hk⟩,c,z',L6⟩
  ·have:=(List.getElem?_eq_some_iff.1 hk).1
   simp at this
   have:q=s.aA.length:=by omega
   subst this
   have:((M.gJ w.heap.size vs.size vs).fP s.aA.length (some (w.heap.size,rows.length,size))).be s.aA.length=some (w.heap.size,rows.length,size):=by simp[Map.fP]
   rw[this]at heq;cases heq
   exact .inr (Nat.le_refl _)
end
end Go.Abs
namespace Go.Abs
open Go.MapKept
section
variable {P:Program} {M:Map} {s:St} {w:World}
theorem yA : ∀ (a b:List MapEntry),iS (a++b)=iS a++iS b
 | [],b=>rfl
 |e::a,b=>by simp only[List.cons_append,iS,yA a b]
theorem JZ : ∀ (a:List MapEntry) (j:Nat) (e:MapEntry) (k v:Value),a[j]? = some e→e.key=k→iS (a.set j {e with key:=k,val:=v})=(iS a).set (2*j+1) v
 | [],j,e,k,v,h,_=>by simp at h
 |x::a,0,e,k,v,h,hk=>by
  simp at h;subst h;subst hk
  simp[iS]
 |x::a,j+1,e,k,v,h,hk=>by
  have:=JZ a j e k v (by simpa using h) hk
  simp only[List.set_cons_succ,iS,this]
  rw[show 2*(j+1)=(2*j+1)+1 by omega,List.set_cons_succ]
theorem XY (a b:List UInt8):((⟨⟨a⟩⟩:ByteArray) == ⟨⟨b⟩⟩)=(a==b):=by
 show((⟨a⟩:Array UInt8) == ⟨b⟩)=(a==b)
 simp
theorem find_spec {key:List UInt8} : ∀ (es:List MapEntry) (cs:List D) (i:Nat),(iS es).length=cs.length→(∀ (i:Nat) (d:D) (v:Value),cs[i]? = some d→(iS es)[i]? = some v→RD M s d v)→
 (∀ z d,Bh key z cs=some d→(Instr.findNow .string (.string ⟨⟨key⟩⟩) es i=some none∧d=z)∨∃ (j:Nat) (e:MapEntry),Instr.findNow .string (.string ⟨⟨key⟩⟩) es i=some (some (i+j,e.val))∧RD M s d e.val)∧
 (∀ d kR,zA key d cs=some kR→(Instr.findNow .string (.string ⟨⟨key⟩⟩) es i=some none∧kR=cs++ [.str key,d])∨
  ∃ (j:Nat) (e:MapEntry),Instr.findNow .string (.string ⟨⟨key⟩⟩) es i=some (some (i+j,e.val))∧es[j]? = some e∧e.key = .string ⟨⟨key⟩⟩∧kR=cs.set (2*j+1) d)
 | [],cs,i,hl,hr=>by
  have:cs = []:=by cases cs<;>simp[iS]at hl;rfl
  subst this
  refine⟨fun z d h=> .inl ⟨rfl,by simp[Bh]at h;exact h.symm⟩,fun d kR h=> .inl ⟨rfl,by simp[zA]at h;simp[← h]⟩⟩
 | x::es,cs,i,hl,hr=>by
  match cs,hl with
  | [],hl=>simp[iS]at hl
  | [_],hl=>simp[iS]at hl
  | c0::c1::r,hl=>
   simp only[iS,List.length_cons]at hl hr
   have h0:=hr 0 c0 x.key rfl rfl
   have h1:=hr 1 c1 x.val rfl rfl
   obtain⟨ih1,ih2⟩:=find_spec es r (i+1) (by omega) (fun j d v e1 e2=>hr (j+2) d v (by simpa using e1) (by simpa using e2))
   have hky : ∀ k,c0 = .str k→x.key = .string ⟨⟨k⟩⟩∧Instr.findNow .string (.string ⟨⟨key⟩⟩) (x::es) i=if key==k then some (some (i,x.val))else Instr.findNow .string (.string ⟨⟨key⟩⟩) es (i+1):=by
    intro k hk
    subst hk
    have hx:=h0.mM
    refine⟨hx, ?_⟩
    simp only[Instr.findNow,hx,Instr.sameNow,XY]
    cases hb:key==k<;>simp
   refine⟨fun z d h=>?_,fun d kR h=>?_⟩
   ·cases c0 <;> simp only [Bh]at h <;> try (cases h;done)
    rename_i k
    obtain⟨k1,k2⟩:=hky k rfl
    rw[k2]
    by_cases Cu:k=key
    ·subst Cu
     simp at h
     subst h
     exact .inr ⟨0,x,by simp,h1⟩
    ·have e1:(k==key)=false:=by simpa using Cu
     have e2:(key==k)=false:=by simpa using fun e:key=k=>Cu (Eq.symm e)
     rw[e1]at h
     rw[e2]
     simp only[Bool.false_eq_true,↓reduceIte]at h ⊢
     rcases ih1 z d h with h2|⟨j,e,h2,h3⟩
     ·exact .inl h2
     ·exact .inr ⟨j+1,e,by rw[h2];congr 3;omega,h3⟩
   ·cases c0 <;> simp only [zA]at h <;> try (cases h;done)
    rename_i k
    obtain⟨k1,k2⟩:=hky k rfl
    rw[k2]
    by_cases Cu:k=key
    ·subst Cu
     simp at h
     subst h
     exact .inr ⟨0,x,by simp,rfl,k1,by simp⟩
    ·have e1:(k==key)=false:=by simpa using Cu
     have e2:(key==k)=false:=by simpa using fun e:key=k=>Cu (Eq.symm e)
     rw[e1]at h
     rw[e2]
     simp only[Bool.false_eq_true,↓reduceIte]at h ⊢
     split at h
     ·rename_i r' UG
      cases h
      rcases ih2 d r' UG with ⟨h2,h3⟩|⟨j,e,h2,h3,h4,h5⟩
      ·exact .inl ⟨h2,by rw[h3];rfl⟩
      ·refine .inr ⟨j+1,e,by rw [h2];congr 3;omega,by simpa using h3,h4, ?_⟩
       rw[h5,show 2*(j+1)+1=(2*j+1)+1+1 by omega]
       simp only[List.set_cons_succ]
     ·cases h
theorem Rel.wb (r:Rel M s w) {o:Nat} {cs kR:List D} (he:s.al[o]? = some cs) (hk:M.ob o = .map) (Dt:Array MapEntry) (ck:Nat) (hl:(iS Dt.toList).length=kR.length)
 (h1 : ∀ v∈iS Dt.toList,v.oneCell'=true) (h2 : ∀ (i:Nat) (d:D) (v:Value),kR[i]? = some d→(iS Dt.toList)[i]? = some v→RD M s d v) :
 Rel M {s with al:=s.al.set o kR} {w with heap:=w.heap.setIfInBounds (M.mu o) (.map Dt ck)}∧Ext M s w M {s with al:=s.al.set o kR} {w with heap:=w.heap.setIfInBounds (M.mu o) (.map Dt ck)}:=by
 obtain⟨vs,T,hh,hs,⟨iM,hty⟩,jJ⟩:=r.obj o cs he
 obtain⟨es,ck0,(hh:w.heap[M.mu o]? = _),qC⟩:=hh.QO hk
 have ho:o<s.al.length:=(List.getElem?_eq_some_iff.1 he).1
 obtain⟨qY,nL⟩:=heap_set (w:=w) (o':= .map Dt ck) hh
 have le:Le M s M {s with al:=s.al.set o kR}:=
  ⟨fun _ _ _ h=>h,by simp,fun _ _=> .refl _,Nat.le_refl _,fun t n _ h=>⟨n,h,Nat.le_refl _,fun _=>rfl⟩⟩
 refine⟨⟨fun b q v e=>?_,fun o' ds e=>?_,fun q hq sn=>r.kl q (by simpa using hq) sn,fun q q' hq lk e=>r.inj q q' (by simpa using hq) (by simpa using lk) e,fun t n e=>?_,
  fun t b c z q hl e hq=>r.fO t b c z q hl e (by simpa using hq),fun t t' b c z c' z' h h' e e'=>r.gR t t' b c z c' z' h h' e e'⟩, ?_⟩
 ·obtain⟨h3,h4⟩:=r.comm b q v e
  refine⟨?_,h4⟩
  have hb:b≠M.mu o:=fun eq=>by subst eq;rw[r.kl o ho q]at e;cases e
  rw[← h3]
  simp[World.cell?,nL b hb]
 ·rw [List.getElem?_set]at e
  split at e
  ·rename_i heq
   subst heq
   simp at e
   obtain⟨_,rfl⟩:=e
   refine⟨⟨iS Dt.toList⟩,0, ?_,by simpa using hl,⟨fun v hv=>h1 v (by simpa using hv),fun T' h=>?_⟩,fun i d v e1 e2=>(h2 i d v e1 (by simpa using e2)).mono le⟩
   ·exact jz.ofMap hk ⟨Dt,ck,qY,rfl⟩
   ·have:M.ty o=none:=by
     have:(M.loc o).2 = .map:=hk
     simp[Map.ty,this,Ob.ty?]
    rw[this]at h;cases h
  ·rename_i fu
   obtain⟨gv,T',h3,h4,h5,h6⟩:=r.obj o' ds e
   have pk:o'<s.al.length:=(List.getElem?_eq_some_iff.1 e).1
   refine⟨gv,T', ?_,h4,h5,fun i d v e1 e2=>(h6 i d v e1 e2).mono le⟩
   exact h3.keep (nL _ (fun eq=>fu (r.inj o o' ho pk eq.symm)))
 ·rcases r.tok t n e with h3 | ⟨b,cap,size,gv,T',h3,h4,h5⟩
  ·exact .inl h3
  ·refine .inr ⟨b,cap,size,gv,T',h3, ?_,h5⟩
   show(w.heap.setIfInBounds (M.mu o) (.map Dt ck))[b]? = _
   rw[nL b (fun eq=>r.fO t b cap size o ⟨n,e⟩ h3 ho eq.symm)];exact h4
 ·refine⟨le,fun b hb h3 _=>nL b (fun eq=>h3 o ho eq.symm),fun q h3 h4=> ?_,fun t b c z h e=> .inl ⟨h,c,z,e⟩,fun _ _ h=>(h rfl).elim,by simp,rfl,rfl,rfl⟩
  simp at h4;rcases h3 with h3|h3;omega;exact(h3 rfl).elim
theorem vC (l:List UInt8):IsKey .string (.string ⟨⟨l⟩⟩):=by simp[IsKey]
theorem Re (r:Rel M s w) {t kt e:TypeId} (ht:P.underlying t=some (.map kt e)):dq P M s w (do pure (.value (← Instr.makeMap t none))) (.gT s.al.length) {s with al:=s.al++ [[]]}:=by
 obtain⟨r',e'⟩:=r.LW [] (.map #[] 0) #[] 0 .map (fun hp e=>⟨#[],0,e,rfl⟩) (fun _ h=>by cases h) rfl (by simp) (by simp)
 have hm:(M.eQ s.al.length w.heap.size .map).mu s.al.length=w.heap.size:=by simp[Map.eQ,Map.mu]
 have hv:=RD.gT (M:=M.eQ s.al.length w.heap.size .map) (s:= {s with al:=s.al++ [[]]}) s.al.length (by simp) (by simp[Map.eQ,Map.ob])
 rw[hm]at hv
 refine⟨_,_,_, .inl ?_,r',hv,e'⟩
 simp only[Instr.makeMap,newObj,Sem.run_bind,Sem.run_pure,Sem.run,Result.andThen_ok]
 rfl
theorem Rf (r:Rel M s w) {t kt e:TypeId} {i:TypeInfo} {z:Value} {zd:D} (ht:P.underlying t=some (.map kt e)) (hk:P.underlying kt=some .string) (hi:P.info? e=some i) (hz:i.zero=some z) (hzd:uy z=some zd)
 {o:Nat} {key:List UInt8} {cs:List D} {d:D} (Ao:M.ob o = .map) (ho:s.al[o]? = some cs) (hg:Bh key zd cs=some d) :
 dq P M s w (do pure (.value (← Instr.lookup t (.map (some (M.mu o))) (.string ⟨⟨key⟩⟩) false))) d s:=by
 obtain⟨vs,T,hh,hs,⟨iM,hty⟩,jJ⟩:=r.obj o cs ho
 obtain⟨es,ck,(hh:w.heap[M.mu o]? = _),qC⟩:=hh.QO Ao
 have FV : ∀ (i:Nat) (d:D) (v:Value),cs[i]? = some d→(iS es.toList)[i]? = some v→RD M s d v:=fun i d v e1 e2=>jJ i d v e1 (by rw[← qC]at e2;simpa using e2)
 have hzv:(zeroValue e).run P w = .ok z w:=by simp[zeroValue,gX P hi,hz]
 rcases(find_spec es.toList cs 0 (by rw[← qC];simpa using hs) FV).1 zd d hg with ⟨h1,rfl⟩|⟨j,en,h1,h2⟩
 ·refine dq.pure (v:=z) r ?_ (sa hzd).1
  simp[Instr.lookup,run_underlying ht,MapKept.run_getObj_map hh,run_checkKey hk (vC key),run_findKey hk h1,hzv]
 ·refine dq.pure (v:=en.val) r ?_ h2
  simp[Instr.lookup,run_underlying ht,MapKept.run_getObj_map hh,run_checkKey hk (vC key),run_findKey hk h1]
theorem UM (r:Rel M s w) {t kt e:TypeId} (ht:P.underlying t=some (.map kt e)) (hk:P.underlying kt=some .string)
 {o:Nat} {key:List UInt8} {cs kR:List D} {d:D} {v:Value} (Ao:M.ob o = .map) (ho:s.al[o]? = some cs) (hv:RD M s d v) (Aw:v.oneCell'=true) (hg:zA key d cs=some kR) :
 dq P M s w (do Instr.mapUpdate t (.map (some (M.mu o))) (.string ⟨⟨key⟩⟩) v;pure .skip) (.tuple []) {s with al:=s.al.set o kR}:=by
 obtain⟨vs,T,hh,hs,⟨iM,hty⟩,jJ⟩:=r.obj o cs ho
 obtain⟨es,ck,(hh:w.heap[M.mu o]? = _),qC⟩:=hh.QO Ao
 have FV : ∀ (i:Nat) (d:D) (v:Value),cs[i]? = some d→(iS es.toList)[i]? = some v→RD M s d v:=fun i d v e1 e2=>jJ i d v e1 (by rw[← qC]at e2;simpa using e2)
 have hl:(iS es.toList).length=cs.length:=by rw[← qC];simpa using hs
 have aa5 : ∀ v∈iS es.toList,v.oneCell'=true:=fun v hv=>iM v (by rw[← qC]at hv;simpa using hv)
 rcases(find_spec es.toList cs 0 hl FV).2 d kR hg with ⟨h1,rfl⟩|⟨j,en,h1,h2,h3,rfl⟩
 ·obtain⟨r',e'⟩:=r.wb (kR:=cs++ [.str key,d]) ho Ao (es.push {key:= .string ⟨⟨key⟩⟩,val:=v,born:=ck}) (ck+1) (by simp [yA,iS,hl]) (fun u hu=>by
   simp only[Array.toList_push,yA,iS,List.mem_append,List.mem_cons,List.not_mem_nil,or_false]at hu
   rcases hu with hu|rfl|rfl
   ·exact aa5 u hu
   ·rfl
   ·exact Aw) (fun i d' u e1 e2=>by
   simp only[Array.toList_push,yA,iS]at e2
   rcases Nat.lt_or_ge i cs.length with hi|hi
   ·rw [List.getElem?_append_left hi]at e1
    rw[List.getElem?_append_left (by omega)]at e2
    exact FV i d' u e1 e2
   ·rw [List.getElem?_append_right hi]at e1
    rw[List.getElem?_append_right (by omega),hl]at e2
    match i - cs.length,e1,e2 with
    | 0,e1,e2=>simp at e1 e2;subst e1 e2;exact .str _
    | 1,e1,e2=>simp at e1 e2;subst e1 e2;exact hv
    |k+2,e1,e2=>simp at e1)
  refine⟨Go.undef,_,M, .inr ⟨?_,rfl⟩,r', .undef,e'⟩
  simp[Instr.mapUpdate,run_underlying ht,MapKept.run_getObj_map hh,run_checkKey hk (vC key),run_findKey hk h1,MapKept.run_setObj_map _ hh]
 ·simp only [Nat.zero_add]at h1
  have hj:es[j]? = some en:=by simpa using h2
  have XZ:(es.modify j fun e=> {e with key:= .string ⟨⟨key⟩⟩,val:=v}).toList=es.toList.set j {en with key:= .string ⟨⟨key⟩⟩,val:=v}:=by
   apply List.ext_getElem?
   intro i
   rw[Array.getElem?_toList,Array.getElem?_modify,List.getElem?_set]
   by_cases UN:j=i
   ·subst UN
    have:j<es.size:=by have:=(List.getElem?_eq_some_iff.1 h2).1;simpa using this
    simp[hj,this]
    have:=(Array.getElem?_eq_some_iff.1 hj).2
    rw[this]
   ·simp[UN]
  have gY:=JZ es.toList j en (.string ⟨⟨key⟩⟩) v h2 h3
  obtain⟨r',e'⟩:=r.wb (kR:=cs.set (2*j+1) d) ho Ao (es.modify j fun e=> {e with key:= .string ⟨⟨key⟩⟩,val:=v}) ck (by rw[XZ,gY];simp[hl]) (fun u hu=>by
   rw[XZ,gY]at hu
   rcases List.mem_or_eq_of_mem_set hu with hu|rfl
   ·exact aa5 u hu
   ·exact Aw) (fun i d' u e1 e2=>by
   rw[XZ,gY,List.getElem?_set]at e2
   rw[List.getElem?_set]at e1
   by_cases hi:2*j+1=i
   ·rw [if_pos hi]at e1 e2
    split at e1
    ·split at e2
     ·cases e1;cases e2;exact hv
     ·cases e2
    ·cases e1
   ·rw [if_neg hi]at e1 e2
    exact FV i d' u e1 e2)
  refine⟨Go.undef,_,M, .inr ⟨?_,rfl⟩,r', .undef,e'⟩
  simp[Instr.mapUpdate,run_underlying ht,MapKept.run_getObj_map hh,run_checkKey hk (vC key),run_findKey hk h1,hj,h3,run_keyThatStays (vC key),MapKept.run_setObj_map _ hh]
end
end Go.Abs
namespace Go.Abs
section
variable {M:Map} {s:St} {w:World}
theorem Ha {o g:Nat} {cells:List D} (h:l5 s o g=some cells):s.al[o]? = some (.int .i64 g::cells):=by
 unfold l5 at h
 split at h
 ·rename_i n cs e
  split at h
  ·rename_i hn;cases h;rw[e,hn]
  ·cases h
 ·cases h
theorem Rel.I6 (r:Rel M s w) {o z g:Nat} {A:Nat→Option (Nat×Nat)} {cells:List D} (hm:M.ob o = .arr z A) (ha:l5 s o g=some cells) :
 ∃ (us:Array Value) (T:TypeId) (cap:Nat),w.heap[M.mu o]? = some (.cells us T (0,0))∧A g=some (M.mu o,cap)∧(∀ g',g<g'→A g'=none)∧us.size=cap*z∧cells.length≤us.size∧
  (∀ u∈us,u.oneCell'=true)∧∀ (i:Nat) (d:D) (u:Value),cells[i]? = some d→us[i]? = some u→RD M s d u:=by
 obtain⟨vs,T,hh,hs,_,jJ⟩:=r.obj o _ (Ha ha)
 obtain⟨us,g0,n,cap,h1,h2,h3,h4,h5,h6,h7⟩ : ∃ (us:Array Value) (g n cap:Nat),w.heap[(M.loc o).1]? = some (.cells us T (0,0))∧A g=some ((M.loc o).1,cap)∧(∀ g',g<g'→A g'=none)∧us.size=cap*z∧n≤us.size∧
  vs.toList = .int .i64 g::us.toList.take n∧∀ u∈us,u.oneCell'=true:=by
  unfold jz at hh
  rw[show(M.loc o).2 = .arr z A from hm]at hh
  exact hh
 have gA : ∀ i,vs[i]? = (Value.int .i64 g0::us.toList.take n)[i]? :=fun i=>by rw[← h6,Array.getElem?_toList]
 have hg:g0=g:=by
  have:=(jJ 0 (.int .i64 g) (.int .i64 g0) rfl (by rw[gA];rfl))
  cases this
  rfl
 subst hg
 have hn:n=cells.length:=by
  have:vs.toList.length=(Value.int .i64 g0::us.toList.take n).length:=by rw[h6]
  simp at this hs
  omega
 subst hn
 refine⟨us,T,cap,h1,h2,h3,h4,h5,h7,fun i d u e1 e2=>jJ (i+1) d u (by simpa using e1) ?_⟩
 rw[gA,List.getElem?_cons_succ,List.getElem?_take,if_pos (List.getElem?_eq_some_iff.1 e1).1]
 simpa using e2
def Map.ta (M:Map) (o:Nat) (l:Nat×Ob):Map:= {M with loc:=fun q=>if q=o then l else M.loc q}
theorem Rel.X0 (r:Rel M s w) {o z g:Nat} {A:Nat→Option (Nat×Nat)} {cells:List D} (hm:M.ob o = .arr z A) (ha:l5 s o g=some cells) (b' g' sq:Nat) (A':Nat→Option (Nat×Nat))
 (hA : ∀ g x,A g=some x→A' g=some x) (uk:A' g'=some (b',sq)) (Dm : ∀ PE,g'<PE→A' PE=none) (w':World) (us:Array Value) (T:TypeId) (hh:w'.heap[b']? = some (.cells us T (0,0))) (dU:us.size=sq*z)
 (xn:List D) (hl:xn.length≤us.size) (iM : ∀ u∈us,u.oneCell'=true) (jJ : ∀ (i:Nat) (d:D) (u:Value),xn[i]? = some d→us[i]? = some u→RD M s d u)
 (hb:b'=M.mu o∨w.heap.size≤b') (Lz : ∀ b,b<w.heap.size→b≠M.mu o→w'.heap[b]? = w.heap[b]?) (u7:w.heap.size≤w'.heap.size) (h1:w'.os=w.os) (h2:w'.tape=w.tape) (h3:w'.output=w.output) :
 Rel (M.ta o (b', .arr z A')) {s with al:=s.al.set o (.int .i64 g'::xn)} w'∧Ext M s w (M.ta o (b', .arr z A')) {s with al:=s.al.set o (.int .i64 g'::xn)} w':=by
 have ho:o<s.al.length:=(List.getElem?_eq_some_iff.1 (Ha ha)).1
 have xe:(M.loc o).2 = .arr z A:=hm
 have qY:(M.ta o (b', .arr z A')).loc o=(b', .arr z A'):=by simp[Map.ta]
 have Rg : ∀ q,q≠o→(M.ta o (b', .arr z A')).loc q=M.loc q:=fun q hq=>by simp[Map.ta,hq]
 have oB:(M.ta o (b', .arr z A')).mu o=b':=congrArg Prod.fst qY
 have FW : ∀ q,q≠o→(M.ta o (b', .arr z A')).mu q=M.mu q:=fun q hq=>congrArg Prod.fst (Rg q hq)
 have le:Le M s (M.ta o (b', .arr z A')) {s with al:=s.al.set o (.int .i64 g'::xn)}:=by
  refine⟨fun _ _ _ h=>h,by simp,fun q _=>?_,Nat.le_refl _,fun t n _ h=>⟨n,h,Nat.le_refl _,fun _=>rfl⟩⟩
  by_cases hq:q=o
  ·subst hq
   rw[qY,show M.loc q=((M.loc q).1, .arr z A) by rw[← xe]]
   exact .arr _ _ z A A' hA
  ·rw[Rg q hq];exact .refl _
 have fu : ∀ q,q<s.al.length→q≠o→M.mu q≠b':=fun q hq vD e=>by
  rcases hb with hb|hb
  ·exact vD (r.inj q o hq ho (e.trans hb))
  ·have:=r.rZ hq;omega
 have hG : ∀ off,M.G b' off=none:=fun off=>by
  rcases hb with hb|hb
  ·rw[hb];exact r.kl o ho off
  ·exact r.QT hb off
 refine⟨⟨fun b q v e=>?_,fun q ds e=>?_,fun q hq off=>?_,fun q q' hq lk e=>?_,fun t n e=>?_,fun t b c z' q hl e hq=>?_,fun t t' b c z c' z' h h' e e'=>r.gR t t' b c z c' z' h h' e e'⟩, ?_⟩
 ·obtain⟨h4,h5⟩:=r.comm b q v e
  refine⟨?_,h5⟩
  have hbo:b≠M.mu o:=fun eq=>by subst eq;have e0:M.G (M.mu o) q=some v:=e;rw[r.kl o ho q]at e0;cases e0
  rw[← h4]
  simp[World.cell?,Lz b (r.Dh e) hbo]
 ·simp only [List.getElem?_set]at e
  split at e
  ·rename_i hq
   subst hq
   cases e
   refine⟨⟨.int .i64 g'::us.toList.take xn.length⟩,T, ?_,by simp;omega,⟨fun v hv=>?_,fun T' hT=>?_⟩,fun i d v e1 e2=>?_⟩
   ·unfold jz
    rw[qY]
    exact⟨us,g',xn.length,sq,hh,uk,Dm,dU,hl,rfl,iM⟩
   ·simp at hv
    rcases hv with rfl|hv
    ·rfl
    ·exact iM v (Array.mem_toList_iff.1 (List.mem_of_mem_take hv))
   ·have:(M.ta o (b', .arr z A')).ty o=none:=by unfold Map.ty;rw [qY];rfl
    rw[this]at hT;cases hT
   ·cases i with
    |zero=>simp at e1 e2;subst e1 e2;exact .int _ _
    |succ i=>
     simp at e1 e2
     rw[List.getElem?_take]at e2
     split at e2
     ·exact(jJ i d v e1 (by simpa using e2)).mono le
     ·cases e2
  ·rename_i hq
   have hq:q≠o:=fun e=>hq e.symm
   obtain⟨gv,T',h4,h5,h6,h7⟩:=r.obj q ds e
   have Fq:q<s.al.length:=(List.getElem?_eq_some_iff.1 e).1
   refine⟨gv,T', ?_,h5,⟨h6.1,by unfold Map.ty;rw[Rg q hq];exact h6.2⟩,fun i d v e1 e2=>(h7 i d v e1 e2).mono le⟩
   rw[Rg q hq]
   exact h4.keep (Lz _ h4.lt fun e=>hq (r.inj q o Fq ho e))
 ·simp at hq
  by_cases vD:q=o
  ·subst vD;rw[oB];exact hG off
  ·rw[FW q vD];exact r.kl q hq off
 ·simp at hq lk
  by_cases h4:q=o<;>by_cases h5:q'=o
  ·omega
  ·subst h4;rw[oB,FW q' h5]at e;exact(fu q' lk h5 e.symm).elim
  ·subst h5;rw[oB,FW q h4]at e;exact(fu q hq h4 e).elim
  ·rw[FW q h4,FW q' h5]at e;exact r.inj q q' hq lk e
 ·rcases r.tok t n e with h4 | ⟨b,cap,size,gv,T',h4,h5,h6⟩
  ·exact .inl h4
  ·refine .inr ⟨b,cap,size,gv,T',h4, ?_,h6⟩
   rw[Lz b (ln h5) (fun eq=>r.fO t b cap size o ⟨n,e⟩ h4 ho eq.symm)];exact h5
 ·simp at hq
  by_cases vD:q=o
  ·subst vD;rw [oB]
   rcases hb with hb|hb
   ·rw[hb];exact r.fO t b c z' q hl e hq
   ·have:=r.u5 hl e;omega
  ·rw[FW q vD];exact r.fO t b c z' q hl e hq
 ·refine⟨le,fun b um h4 _=>Lz b um (fun e=>h4 o ho e.symm),fun q h4 h5=> ?_,fun t b c z h e=> .inl ⟨h,c,z,e⟩,fun _ _ h=>(h rfl).elim,u7,h1,h2,h3⟩
  simp at h5
  by_cases vD:q=o
  ·subst vD
   rw[oB]at h4 ⊢
   rcases hb with hb|hb
   ·rcases h4 with h4 | h4
    ·omega
    ·exact(h4 hb).elim
   ·exact hb
  ·rw [FW q vD]at h4
   rcases h4 with h4|h4
   ·omega
   ·exact(h4 rfl).elim
theorem Rel.afv (r:Rel M s w) (z cap:Nat) (us:Array Value) (T:TypeId) (dU:us.size=cap*z) (cells:List D) (hl:cells.length≤us.size) (iM : ∀ u∈us,u.oneCell'=true)
 (jJ : ∀ (i:Nat) (d:D) (u:Value),cells[i]? = some d→us[i]? = some u→RD M s d u) :
 ∃ M',Rel M' {s with al:=s.al++ [.int .i64 ((0:Nat):Int)::cells]} (w.alloc (.cells us T))∧Ext M s w M' {s with al:=s.al++ [.int .i64 ((0:Nat):Int)::cells]} (w.alloc (.cells us T))∧
  ∀ len,len≤cap→RD M' {s with al:=s.al++ [.int .i64 ((0:Nat):Int)::cells]} (.dK z s.al.length 0 len) (.slice (some ⟨w.heap.size,0,none⟩) len cap):=by
 obtain⟨r',e'⟩:=r.LW (.int .i64 ((0:Nat):Int)::cells) (.cells us T) ⟨.int .i64 ((0:Nat):Int)::us.toList.take cells.length⟩ T (.arr z fun g=>if g=0 then some (w.heap.size,cap)else none)
  (fun hp e=>⟨us,0,cells.length,cap,e,rfl,fun g' h=>if_neg (by omega),dU,hl,rfl,iM⟩) (fun _ h=>by cases h) (by simp;omega) (fun v hv=>by
   simp at hv
   rcases hv with rfl|hv
   ·rfl
   ·exact iM v (Array.mem_toList_iff.1 (List.mem_of_mem_take hv))) (fun i d v e1 e2=>by
   cases i with
   |zero=>simp at e1 e2;subst e1 e2;exact .int _ _
   |succ i=>
    simp at e1 e2
    rw[List.getElem?_take]at e2
    split at e2
    ·exact(jJ i d v e1 (by simpa using e2)).mono (uz s w.heap.size _ _)
    ·cases e2)
 exact⟨_,r',e',fun len h=> .dK z _ 0 len w.heap.size cap _ (by simp) (by simp[Map.eQ,Map.ob];rfl) (if_pos rfl) h⟩
end
end Go.Abs
namespace Go.Abs
section
variable {P:Program} {M:Map} {s:St} {w:World}
theorem PF (r:Rel M s w) {o g off:Nat} {v:Value} {cells:List D} (hx:RD M s (.gh o g off) v) (ha:l5 s o g=some cells) :
 ∃ z A,M.ob o = .arr z A∧v = .pointer (some ⟨M.mu o,off,none⟩):=by
 obtain⟨z,b,cap,A,hv,ho,hm,hg⟩:=hx.FP
 obtain⟨us,T,sq,h1,h2,_⟩:=r.I6 hm ha
 rw[hg]at h2;cases h2
 exact⟨z,A,hm,hv⟩
theorem OP (r:Rel M s w) {t:TypeId} {i:TypeInfo} {agg:Bool} (hi:P.info? t=some i) (hag:sX P t=some agg) {x d:D} {v:Value} {s':St} (hx:RD M s x v) (h:Bi x agg i.size s=some (d,s')) :
 dq P M s w (do pure (.value (← Instr.loadAt t v))) d s':=by
 unfold Bi at h
 split at h
 case h_2=>cases h
 rename_i o g off
 split at h
 case h_2=>cases h
 rename_i cells ha
 split at h
 case h_2=>cases h
 rename_i d' hp
 cases h
 obtain⟨z,A,hm,rfl⟩:=PF r hx ha
 obtain⟨us,T,cap,hh,_,_,_,hl,iM,jJ⟩:=r.I6 hm ha
 let n:=if agg then i.size else 1
 have kn:off+n≤us.size:=by
  rcases sI hp with ⟨rfl,h1,_⟩|⟨rfl,h1⟩
  ·simp[n];omega
  ·have:=(List.getElem?_eq_some_iff.1 h1).1;simp[n];omega
 have hlen:((us.toList.drop off).take n).length=n:=by simp;omega
 have gA : ∀ (j:Nat) (u:Value),((us.toList.drop off).take n)[j]? = some u→us[off+j]? = some u:=by
  intro j u h
  rw[List.getElem?_take]at h
  split at h
  ·rw[List.getElem?_drop]at h;simpa using h
  ·cases h
 have ew:=Bm (w:=w) P hi hag (M.mu o) off ((us.toList.drop off).take n) hlen (fun j u h=>by rw[jA hh];exact gA j u h)
 refine dq.pure (v:=if agg then .agg ((us.toList.drop off).take n).toArray else((us.toList.drop off).take n).getD 0 Go.undef) r (by simp[Instr.loadAt,Instr.sureAddr,ew]) ?_
 refine s6 hp _ hlen (fun _ u hu=>iM u ?_) (fun j d u e1 e2=>jJ _ d u e1 (gA j u e2))
 exact Array.mem_toList_iff.1 (List.mem_of_mem_drop (List.mem_of_mem_take hu))
theorem Ax {vs:Array Value} {off:Nat} {us:List Value} {n:Nat} (hu:us.length=n) (h:off+n≤vs.size) (i:Nat) :
 (vs.toList.take off++us++vs.toList.drop (off+us.length)).toArray[i]? = if i<off then vs[i]? else if i<off+n then us[i - off]? else vs[i]? :=by
 subst hu
 simp only[List.getElem?_toArray]
 have hl:(vs.toList.take off).length=off:=by simp;omega
 split
 ·rename_i h3
  rw[List.append_assoc,List.getElem?_append_left (by omega),List.getElem?_take_of_lt h3];simp
 ·rename_i h3
  rw[List.append_assoc,List.getElem?_append_right (by omega),hl]
  split
  ·rename_i h4
   rw[List.getElem?_append_left (by omega)]
  ·rename_i h4
   rw[List.getElem?_append_right (by omega),List.getElem?_drop]
   rw[show off+us.length+(i - off - us.length)=i by omega];simp
theorem Ay {vs:Array Value} {off k:Nat} {us:List Value} (h1 : ∀ v∈vs,v.oneCell'=true) (h2 : ∀ u∈us,u.oneCell'=true) : ∀ v∈(vs.toList.take off++us++vs.toList.drop k).toArray,v.oneCell'=true:=by
 intro v hv
 simp at hv
 rcases hv with hv|hv|hv
 ·exact h1 v (Array.mem_toList_iff.1 (List.mem_of_mem_take hv))
 ·exact h2 v hv
 ·exact h1 v (Array.mem_toList_iff.1 (List.mem_of_mem_drop hv))
theorem L8 (r:Rel M s w) {t:TypeId} {i:TypeInfo} (hi:P.info? t=some i) {x y d:D} {v u:Value} {s':St} (hx:RD M s x v) (hy:RD M s y u) (h:Df x y.row i.size s=some (d,s')) :
 dq P M s w (do Instr.storeAt t v u;pure .skip) d s':=by
 unfold Df at h
 split at h
 case h_2=>cases h
 rename_i o g off row hr
 split at h
 case h_2=>cases h
 rename_i cells ha
 split at h
 case isFalse=>cases h
 rename_i hc
 obtain⟨hl,kn⟩:=hc
 cases h
 obtain⟨z,A,hm,rfl⟩:=PF r hx ha
 obtain⟨us,T,cap,hh,uk,Dm,dU,hle,iM,jJ⟩:=r.I6 hm ha
 obtain⟨h1,h2,h3⟩:=hy.row hr
 have hu:u.cells.toList.length=row.length:=by simpa using h1
 have jr:=run_storeCells_at P (M.mu o) off T u.cells.toList 0 us w hh (by omega) (fun u hu=>h2 u (by simpa using hu))
 simp only[Nat.add_zero]at jr
 generalize dB:(us.toList.take off++u.cells.toList++us.toList.drop (off+u.cells.toList.length)).toArray=jV at jr
 have s5:jV.size=us.size:=by rw[← dB];simp;omega
 have gA : ∀ i,jV[i]? = if i<off then us[i]? else if i<off+row.length then u.cells.toList[i - off]? else us[i]? :=fun i=>by rw[← dB];exact Ax hu (by omega) i
 have hlc:(gS cells off row).length=cells.length:=vX cells off row (by omega)
 obtain⟨r',e'⟩:=r.X0 hm ha (M.mu o) g cap A (fun _ _ h=>h) uk Dm (w.setRow (M.mu o) jV) jV T (setRow_heap w (M.mu o) us jV T (0,0) hh) (by rw[s5,dU]) (gS cells off row) (by omega)
  (by rw [← dB];exact Ay iM (fun u hu=>h2 u (by simpa using hu))) (fun i d v e1 e2=>by
   rw[sZ cells off row (by omega)]at e1
   rw[gA]at e2
   split at e1
   ·rename_i h4;simp only[h4,if_true]at e2;exact jJ i d v e1 e2
   ·rename_i h4
    simp only[h4,if_false]at e2
    split at e1
    ·rename_i h5;simp only[h5,if_true]at e2;exact h3 _ d v e1 (by simpa using e2)
    ·rename_i h5;simp only[h5,if_false]at e2;exact jJ i d v e1 e2) (.inl rfl) (fun b _ hb=>setRow_other w (M.mu o) b _ hb) (by simp) rfl rfl rfl
 refine⟨Go.undef,_,_, .inr ⟨?_,rfl⟩,r', .undef,e'⟩
 have aov:u.cells.size=i.size:=by omega
 simp[Instr.storeAt,Instr.sureAddr,storeVar,sizeOf,gX P hi,aov,jr]
theorem L9 (r:Rel M s w) {t e:TypeId} {i:TypeInfo} (ht:P.underlying t=some (.slice e)) (hi:P.info? e=some i) {x y d:D} {v u:Value} (hx:RD M s x v) (hy:RD M s y u) (h:Am x y i.size=some d) :
 dq P M s w (do pure (.value (← Instr.indexAt t v u))) d s:=by
 unfold Am at h
 split at h
 case h_2=>cases h
 rename_i z o g len k n
 split at h
 case isFalse=>cases h
 rename_i hc
 obtain⟨h0,h1,rfl⟩:=hc
 cases h
 obtain⟨b,cap,A,rfl,ho,hm,hg,hl⟩:=hx.uC
 rw[hy.jq]
 refine dq.pure (v:= .pointer (some ⟨b,n.toNat*i.size,none⟩)) r ?_ (.gh _ _ _ _ b cap A ho hm hg)
 simp[Instr.indexAt,asIntOf,run_underlying ht,h0,h1,sizeOf,gX P hi,n7]
theorem Rh (r:Rel M s w) {t e:TypeId} {i:TypeInfo} {lv hv:Option Value} {lo hi:Option D} (ht:P.underlying t=some (.slice e)) (G1:P.info? e=some i) {x d:D} {v:Value} (hx:RD M s x v)
 (h1 : ∀ l,vv lo=some l→UD lv l) (h2 : ∀ len l,vw hi len=some l→UE hv len l) (h:zB x lo hi=some d) :
 dq P M s w (do pure (.value (← Instr.sliceAt t v lv hv none))) d s:=by
 unfold zB at h
 split at h
 ·rename_i z o g len
  split at h
  case h_2=>cases h
  rename_i l hh el eh
  split at h
  case isFalse=>cases h
  rename_i hc
  obtain⟨rfl,h0,hle⟩:=hc
  cases h
  obtain⟨b,cap,A,rfl,ho,hm,hg,hl⟩:=hx.uC
  have hb:=qX (P:=P) (w:=w) (isSlice:=true) (cap:=cap) (h1 _ el) (h2 _ _ eh) (Int.le_refl 0) h0 hle hl
  refine dq.pure (v:= .slice (some ⟨b,0,none⟩) hh.toNat cap) r ?_ (.dK z o g _ b cap A ho hm hg (by omega))
  simp[Instr.sliceAt,run_underlying ht,Instr.slice,hb,sizeOf,gX P G1,n7]
 ·rename_i z
  split at h
  case h_2=>cases h
  rename_i l hh el eh
  split at h
  case isFalse=>cases h
  rename_i hc
  obtain⟨rfl,rfl⟩:=hc
  cases h
  obtain⟨a,rfl⟩:=hx.FQ
  have hb:=qX (P:=P) (w:=w) (isSlice:=true) (len:=0) (cap:=0) (h1 _ el) (h2 _ _ eh) (Int.le_refl 0) (Int.le_refl 0) (Int.le_refl 0) (Nat.le_refl 0)
  refine dq.pure (v:= .slice a 0 0) r ?_ (.fk z a)
  cases a<;>simp[Instr.sliceAt,run_underlying ht,Instr.slice,hb,sizeOf,gX P G1,n7]
 ·cases h
theorem Ri (r:Rel M s w) {t ty e:TypeId} (ht:P.underlying t=some (.slice e)) {x d:D} {v:Value} (hx:RD M s x v) (h:IY x=some d) :
 dq P M s w (do pure (.value (← Builtin.len_ #[t] ty #[v]))) d s:=by
 unfold IY at h
 split at h
 ·cases h
  obtain⟨b,cap,A,rfl,_⟩:=hx.uC
  exact oE r ht
 ·cases h
  obtain⟨a,rfl⟩:=hx.FQ
  exact oE r ht
 ·cases h
theorem xo {size:Nat} : ∀ {rows:List (List D)},(∀ row∈rows,row.length=size)→rows.flatten.length=rows.length*size∧
 ∀ (k:Nat) (d:D),rows.flatten[k]? = some d→∃ (i:Nat) (row:List D) (j:Nat),rows[i]? = some row∧row[j]? = some d∧k=i*size+j
 | [],_=>by simp
 | row::rows,h=>by
  have hr:=h row (List.mem_cons_self ..)
  obtain⟨h1,h2⟩:=xo fun q hq=>h q (List.mem_cons_of_mem _ hq)
  refine⟨by simp only[List.flatten_cons,List.length_append,h1,hr,List.length_cons,Nat.add_mul];omega,fun k d e=>?_⟩
  rw[List.flatten_cons]at e
  rcases Nat.lt_or_ge k row.length with hk|hk
  ·rw [List.getElem?_append_left hk]at e
   exact⟨0,row,k,rfl,e,by omega⟩
  ·rw [List.getElem?_append_right hk]at e
   obtain⟨i,lA,j,g1,g2,g3⟩:=h2 _ d e
   exact⟨i+1,lA,j,by simpa using g1,g2,by rw[Nat.add_mul];omega⟩
theorem Rj (r:Rel M s w) {t u ty e e':TypeId} {i:TypeInfo} {z:Value} (ht:P.underlying t=some (.slice e)) (hu:P.underlying u=some (.slice e')) (hi:P.info? e=some i) (hz:i.zero=some z)
 (Au:z.cells.size=i.size) (Av : ∀ v∈z.cells,v.oneCell'=true) {dx dy d:D} {x y:Value} {s':St} (hx:RD M s dx x) (hy:RD M s dy y) (uE:0<i.size) (he:zC i.size i.bytes dx dy s=some (d,s')) :
 ∃ v w' M',(Builtin.append_ #[t,u] ty #[x,y]).run P w = .ok v w'∧Rel M' s' w'∧RD M' s' d v∧Ext M s w M' s' w':=by
 have src:=I5 (i:=i) r hu hy
 unfold zC at he
 split at he
 ·-- behind an array
  rename_i z0 o g len g' zy new
  split at he
  case isFalse=>cases he
  rename_i hc
  obtain⟨rfl,L4,yz⟩:=hc
  obtain⟨b,cap,A,rfl,ho,hm,hg,hlc⟩:=hx.uC
  cases new with
  |nil=>
   simp only at he
   cases he
   exact⟨_,w,M,mV ht hi ((src _ _ _ rfl).1 rfl) hlc,r,hx,Ext.refl M s w⟩
  |cons n0 new=>
  have fu:(n0::new)≠ []:=by simp
  generalize dB:n0::new=e9 at *
  have UI:zy=i.size:=L4.resolve_left fu
  subst UI
  obtain⟨Fp,news,hs,EA⟩:=(src _ _ _ rfl).2 fu rfl
  have xe:0<e9.length:=List.length_pos_iff.2 fu
  simp only[← dB]at he
  simp only[dB]at he
  split at he
  case h_2=>cases he
  rename_i cells ha
  split at he
  case isFalse=>cases he
  rename_i nu
  cases he
  obtain⟨us,T,sq,hh,uk,Dm,dU,hle,iM,jJ⟩:=r.I6 hm ha
  rw[hg]at uk
  simp only[Option.some.injEq,Prod.mk.injEq]at uk
  obtain⟨rfl,rfl⟩:=uk
  obtain⟨gY,UO⟩:=xo Fp
  have Ma:(cells.take (len*i.size)).length=len*i.size:=by simp;omega
  have hA : ∀ (b' c':Nat) (g0:Nat) (x:Nat×Nat),A g0=some x→(if g0=g+1 then some (b',c')else A g0)=some x:=fun b' c' g0 x h=>by
   rw[if_neg]
   ·exact h
   ·rintro rfl
    rw[Dm (g+1) (by omega)]at h;cases h
  have vA:(len+e9.length)*i.bytes≤140737488355328:=by rw[Nat.mul_succ]at yz;simp only[bD]at yz;omega
  have UJ:len+e9.length≤1099511627776:=by rw[Nat.mul_succ]at yz;simp only[bD]at yz;omega
  have UP:=hs.newsLen
  -- what is laid there
  have aa6 : ∀ (vs:Array Value),(∀ k,k<len*i.size→vs[k]? = us[k]?)→(∀ k,k<news.length→vs[len*i.size+k]? = news[k]?)→∀ (k:Nat) (d:D) (v:Value),
   (cells.take (len*i.size)++e9.flatten)[k]? = some d→vs[k]? = some v→RD M s d v:=fun vs g1 g2 k d v e1 e2=>by
   rcases Nat.lt_or_ge k (len*i.size)with hk|hk
   ·rw [List.getElem?_append_left (by omega),List.getElem?_take_of_lt hk]at e1
    rw[g1 k hk]at e2
    exact jJ k d v e1 e2
   ·rw [List.getElem?_append_right (by omega),Ma]at e1
    have ct:=(List.getElem?_eq_some_iff.1 e1).1
    have:=g2 (k - len*i.size) (by omega)
    rw[show len*i.size+(k - len*i.size)=k by omega]at this
    rw[this]at e2
    obtain⟨a,row,j,f1,f2,f3⟩:=UO _ d e1
    rw[f3]at e2
    exact EA a row j d v f1 f2 e2
  by_cases ij:len+e9.length≤cap
  ·have kn:len*i.size+news.length≤us.size:=by rw [UP,dU, ← Nat.add_mul];exact Nat.mul_le_mul_right _ ij
   have jr:=run_storeCells_at P (M.mu o) (len*i.size) T news 0 us w hh (by simpa using kn) hs.one
   simp only[Nat.add_zero]at jr
   have ew:(Builtin.append_ #[t,u] ty #[.slice (some ⟨M.mu o,0,none⟩) len cap,y]).run P w = .ok (.slice (some ⟨M.mu o,0,none⟩) (len+e9.length) cap) (w.setRow (M.mu o) (us.toList.take (len*i.size)++news++us.toList.drop (len*i.size+news.length)).toArray):=by
    rcases hs.kind with ⟨PC,hk⟩|hk<;>simp[Builtin.append_,run_underlying ht,run_underlying hk,sizeOf,typeInfo,hi,hs.len,ij,hs.cells,Addr.add_lit,jr]
   have gA:=Ax (vs:=us) (off:=len*i.size) (us:=news) rfl kn
   generalize tc:(us.toList.take (len*i.size)++news++us.toList.drop (len*i.size+news.length)).toArray=jV at ew gA
   have s5:jV.size=us.size:=by rw[← tc];simp;omega
   obtain⟨r',e'⟩:=r.X0 hm ha (M.mu o) (g+1) cap (fun g0=>if g0=g+1 then some (M.mu o,cap)else A g0) (hA _ _) (if_pos rfl) (fun PE h=>by rw[if_neg (by omega)];exact Dm PE (by omega))
    (w.setRow (M.mu o) jV) jV T (setRow_heap w (M.mu o) us jV T (0,0) hh) (by rw[s5,dU]) (cells.take (len*i.size)++e9.flatten) (by rw[List.length_append,Ma,gY,s5];omega)
    (by rw[← tc];exact Ay iM hs.one) (aa6 jV (fun k hk=>by rw[gA,if_pos hk]) (fun k hk=>by rw[gA,if_neg (by omega),if_pos (by omega)];congr 1;omega)) (.inl rfl) (fun b _ hb=>setRow_other w (M.mu o) b _ hb) (by simp) rfl rfl rfl
   refine⟨_,_,_,ew,r', ?_,e'⟩
   exact .dK i.size o (g+1) _ (M.mu o) cap _ (by simpa using ho) (by simp[Map.ob,Map.ta];rfl) (if_pos rfl) ij
  ·have nR:cap<len+e9.length:=by omega
   have wG:=grownCap_ge w (len+e9.length) cap e
   have PG:(Builtin.firstCells i.size len (.slice (some ⟨M.mu o,0,none⟩) len cap)).run P w.drew = .ok (us.toList.take (len*i.size)).toArray w.drew:=
    (Src.ofSlice w ht ⟨M.mu o,0,none⟩ len cap (us.toList.take (len*i.size)) (by simp;omega) (fun j v hj=>by
     rw[n7,Nat.zero_add,jA hh]
     rw[List.getElem?_take]at hj
     split at hj
     ·simpa using hj
     ·cases hj) (fun v hv=>iM v (Array.mem_toList_iff.1 (List.mem_of_mem_take hv)))).cellsD
   have ew:=run_append_grow_src (P:=P) w t u ty e i z ht hi hz (some ⟨M.mu o,0,none⟩) len cap (us.toList.take (len*i.size)) PG y e9.length news hs nR (by omega) (growslice_fits nR vA)
   generalize tc:(us.toList.take (len*i.size)++news).toArray++Builtin.zeroCells z.cells (grownCap w (len+e9.length) cap e - (len+e9.length))=jV at ew
   have wF:(us.toList.take (len*i.size)).length=len*i.size:=by simp;omega
   have s5:jV.size=grownCap w (len+e9.length) cap e*i.size:=by
    rw[← tc]
    simp only[Array.size_append,List.size_toArray,List.length_append,size_zeroCells,Au,wF,UP, ← Nat.add_mul]
    congr 1;omega
   have Rk : ∀ v∈jV,v.oneCell'=true:=fun v hv=>by
    rw[← tc,Array.mem_append]at hv
    rcases hv with hv|hv
    ·simp at hv
     rcases hv with hv|hv
     ·exact iM v (Array.mem_toList_iff.1 (List.mem_of_mem_take hv))
     ·exact hs.one v hv
    ·exact v8 Av _ v hv
   have aj2 : ∀ k,k<len*i.size→jV[k]? = us[k]? :=fun k hk=>by
    rw[← tc,Array.getElem?_append_left (by simp;omega),List.getElem?_toArray,List.getElem?_append_left (by omega),List.getElem?_take_of_lt hk];simp
   have yB : ∀ k,k<news.length→jV[len*i.size+k]? = news[k]? :=fun k hk=>by
    rw[← tc,Array.getElem?_append_left (by simp;omega),List.getElem?_toArray,List.getElem?_append_right (by omega),wF]
    congr 1;omega
   have I7:(len+e9.length)*i.size≤jV.size:=by rw[s5];exact Nat.mul_le_mul_right _ wG
   have X1:w.heap.size≤(w.drew.alloc (.cells jV e)).heap.size:=by
    have e1:w.drew.heap.size=w.heap.size:=rfl
    have e2:(w.drew.alloc (.cells jV e)).heap.size=w.drew.heap.size+1:=by simp
    omega
   obtain⟨r',e'⟩:=r.X0 hm ha w.heap.size (g+1) (grownCap w (len+e9.length) cap e) (fun g0=>if g0=g+1 then some (w.heap.size,grownCap w (len+e9.length) cap e)else A g0) (hA _ _) (if_pos rfl) (fun PE h=>by rw[if_neg (by omega)];exact Dm PE (by omega))
    (w.drew.alloc (.cells jV e)) jV e (heap_alloc_new w.drew _) s5 (cells.take (len*i.size)++e9.flatten) (by rw[List.length_append,Ma,gY];rw[Nat.add_mul]at I7;omega)
    Rk (aa6 jV aj2 yB) (.inr (Nat.le_refl _)) (fun b hb _=>heap_alloc_old w.drew _ b hb) X1 rfl rfl rfl
   refine⟨_,_,_,ew,r', ?_,e'⟩
   exact .dK i.size o (g+1) _ w.heap.size _ _ (by simpa using ho) (by simp[Map.ob,Map.ta];rfl) (if_pos rfl) wG
 ·-- the first array
  rename_i z0 g' zy new
  split at he
  case isFalse=>cases he
  rename_i hc
  obtain⟨rfl,L4,yz⟩:=hc
  obtain⟨a,rfl⟩:=hx.FQ
  cases new with
  |nil=>
   simp only at he
   cases he
   exact⟨_,w,M,mV ht hi ((src _ _ _ rfl).1 rfl) (Nat.le_refl 0),r,hx,Ext.refl M s w⟩
  |cons n0 new=>
  have fu:(n0::new)≠ []:=by simp
  generalize dB:n0::new=e9 at *
  have UI:zy=i.size:=L4.resolve_left fu
  subst UI
  obtain⟨Fp,news,hs,EA⟩:=(src _ _ _ rfl).2 fu rfl
  have xe:0<e9.length:=List.length_pos_iff.2 fu
  simp only[← dB]at he
  simp only[dB]at he
  cases he
  obtain⟨gY,UO⟩:=xo Fp
  have UP:=hs.newsLen
  have vA:(0+e9.length)*i.bytes≤140737488355328:=by rw[Nat.mul_succ]at yz;simp only[bD]at yz;rw[Nat.zero_add];omega
  have UJ:e9.length≤1099511627776:=by rw[Nat.mul_succ]at yz;simp only[bD]at yz;omega
  have nR:0<0+e9.length:=by omega
  have wG:=grownCap_ge w (0+e9.length) 0 e
  have PG:(Builtin.firstCells i.size 0 (.slice a 0 0)).run P w.drew = .ok ([] : List Value).toArray w.drew:=by
   cases a with
   |none=>simp[Builtin.firstCells]
   |some a=>simp[Builtin.firstCells,loadCells,loadCellsFrom]
  have ew:=run_append_grow_src (P:=P) w t u ty e i z ht hi hz a 0 0 [] PG y e9.length news hs nR (by omega) (growslice_fits nR vA)
  generalize tc:(([] : List Value)++news).toArray++Builtin.zeroCells z.cells (grownCap w (0+e9.length) 0 e - (0+e9.length))=jV at ew
  have s5:jV.size=grownCap w (0+e9.length) 0 e*i.size:=by
   rw[← tc]
   simp only[Array.size_append,List.size_toArray,List.nil_append,size_zeroCells,Au,UP, ← Nat.add_mul]
   congr 1;omega
  have Rk : ∀ v∈jV,v.oneCell'=true:=fun v hv=>by
   rw[← tc,Array.mem_append]at hv
   rcases hv with hv|hv
   ·exact hs.one v (by simpa using hv)
   ·exact v8 Av _ v hv
  have yB : ∀ k,k<news.length→jV[k]? = news[k]? :=fun k hk=>by
   rw[← tc,Array.getElem?_append_left (by simpa using hk)];simp
  have I7:e9.length*i.size≤jV.size:=by rw[s5];exact Nat.mul_le_mul_right _ (by omega)
  have rd:Rel M s w.drew:=r.of_heap rfl
  obtain⟨M',r',e',f'⟩:=rd.afv i.size (grownCap w (0+e9.length) 0 e) jV e s5 e9.flatten (by omega) Rk (fun k d v e1 e2=>by
   have hk:=(List.getElem?_eq_some_iff.1 e1).1
   rw[yB k (by omega)]at e2
   obtain⟨a,row,j,f1,f2,f3⟩:=UO _ d e1
   rw[f3]at e2
   exact EA a row j d v f1 f2 e2)
  refine⟨_,_,M',ew,r', ?_,(Ext.of_heap (M:=M) (s:=s) (w:=w) (w':=w.drew) rfl rfl rfl rfl).trans e'⟩
  have:=f' e9.length (by omega)
  simpa using this
 ·cases he
theorem Rm (r:Rel M s w) {t e:TypeId} {i:TypeInfo} {z:List D} (ht:P.underlying t=some (.slice e)) (hi:P.info? e=some i) (hz:zeroOf P e=some z) (uE:0<i.size) {n:Int} (h0:0≤n) (h1:n*((i.bytes:Int)+1)≤bD) :
 dq P M s w (do pure (.value (← Instr.makeSlice t (.int .i64 n) (.int .i64 n)))) (.dK i.size s.al.length 0 n.toNat) {s with al:=s.al++ [.int .i64 ((0:Nat):Int)::(gV z n.toNat).flatten]}:=by
 obtain⟨i',v,g1,g2,g3,g4⟩:=u6 hz
 rw[hi]at g1;cases g1
 have J0:=s8 (M:=M) (s:=s) g4
 have hmul:n*((i.bytes:Int)+1)=(i.bytes:Int)*n+n:=by rw[Int.mul_add,Int.mul_one,Int.mul_comm]
 have PH:0≤(i.bytes:Int)*n:=Int.mul_nonneg (by omega) h0
 have hmx:(bD:Int)=1099511627776:=rfl
 have ew:=run_make (P:=P) w t e i v ht hi g2 .i64 .i64 n n h0 (Int.le_refl _) (by omega) (by omega)
 have hzl:z.length=i.size:=by have:=J0.1;omega
 obtain⟨q1,q2,q3,q4⟩:=nO.zero J0 (by omega) n.toNat
 obtain⟨gY,UO⟩:=xo (rows:=gV z n.toNat) (size:=z.length) (fun row hr=>by rw[qA z _ row hr])
 rw[nP]at gY
 have J1:madeCells v.cells (n.toNat*i.size)=(Array.range (n.toNat*z.length)).map (v.cells[· % v.cells.size]!):=by rw[hzl];rfl
 obtain⟨M',r',e',f'⟩:=r.afv i.size n.toNat (madeCells v.cells (n.toNat*i.size)) e (by rw[J1];simp[hzl]) (gV z n.toNat).flatten (by rw[gY,J1];simp) (by rw[J1];exact q3) (fun k d u e1 e2=>by
  obtain⟨a,row,j,f1,f2,f3⟩:=UO k d e1
  rw[J1,f3]at e2
  exact q4 a row j d u f1 f2 e2)
 refine⟨_,_,M', .inl ?_,r',f' n.toNat (Nat.le_refl _),e'⟩
 simp only[Sem.run_bind,ew,Result.andThen_ok,Sem.run_pure]
end
end Go.Abs
namespace Go.Abs
section
variable {P:Program} {M:Map} {s:St} {w:World}
theorem PI {tm:Tm} {act:Act} (hr:nM M s tm act.tmps) : ∀ {l:List Operand} {xs:List X},An l=some xs→
 xs.length=l.length∧∀ (i:Nat) (d:D) (v:Value),(xs.map (·.ev tm))[i]? = some d→(l.map act.eval)[i]? = some v→RD M s d v
 | [],xs,h=>by cases h;exact⟨rfl,by simp⟩
 | x::l,xs,h=>by
  unfold An at h
  split at h
  ·rename_i x' r' h1 h2
   cases h
   obtain⟨g1,g2⟩:=PI hr h2
   refine⟨by simp[g1],fun i d v e1 e2=>?_⟩
   cases i with
   |zero=>simp at e1 e2;subst e1;subst e2;exact cv h1 hr
   |succ i=>exact g2 i d v (by simpa using e1) (by simpa using e2)
  ·cases h
theorem Mb {lo:Option Operand} {J2:Option X} {tm:Tm} {act:Act} (hr:nM M s tm act.tmps) (h:cXo lo=some J2) {l:Int} (hl:vv (J2.map (·.ev tm))=some l):UD (lo.map act.eval) l:=by
 cases lo with
 |none=>cases h;simp only[Option.map_none,vv,Option.some.injEq]at hl;exact .inl ⟨rfl,hl.symm⟩
 |some x=>
  obtain⟨y,hy,rfl⟩:=map_some (f:=some) h
  have:=cv hy hr
  simp only[Option.map_some]at hl ⊢
  cases hd:y.ev tm<;>rw[hd]at hl this<;>simp only[vv]at hl<;>try (cases hl;done)
  cases hl
  rw[this.jq]
  exact .inr ⟨_,rfl⟩
theorem Md {hi:Option Operand} {iI:Option X} {tm:Tm} {act:Act} (hr:nM M s tm act.tmps) (h:cXo hi=some iI) {len:Nat} {l:Int} (hl:vw (iI.map (·.ev tm)) len=some l):UE (hi.map act.eval) len l:=by
 cases hi with
 |none=>cases h;simp only[Option.map_none,vw,Option.some.injEq]at hl;exact .inl ⟨rfl,hl.symm⟩
 |some x=>
  obtain⟨y,hy,rfl⟩:=map_some (f:=some) h
  have:=cv hy hr
  simp only[Option.map_some]at hl ⊢
  cases hd:y.ev tm<;>rw[hd]at hl this<;>simp only[vw]at hl<;>try (cases hl;done)
  cases hl
  rw[this.jq]
  exact .inr ⟨_,rfl⟩
theorem Ro {t:TypeId} {f off size:Nat} {agg:Bool} (h:nZ P t f=some (off,size,agg)) {cs:List D} {vs:Array Value} (hl:cs.length=vs.size) (h1 : ∀ v∈vs,v.oneCell'=true)
 (h2 : ∀ (i:Nat) (d:D) (v:Value),cs[i]? = some d→vs[i]? = some v→RD M s d v) {d:D} (hp:part cs off agg size=some d) (r:Rel M s w) :
 dq P M s w (do pure (.value (← Instr.field t (.agg vs) f))) d s:=by
 let n:=if agg then size else 1
 have kn:off+n≤vs.size:=by
  rcases sI hp with ⟨rfl,h1,_⟩|⟨rfl,h1⟩
  ·simp[n];omega
  ·have:=(List.getElem?_eq_some_iff.1 h1).1;simp[n];omega
 have hlen:((vs.toList.drop off).take n).length=n:=by simp;omega
 have gA : ∀ (j:Nat),j<((vs.toList.drop off).take n).length→vs[off+j]? = ((vs.toList.drop off).take n)[j]? :=by
  intro j h
  rw[hlen]at h
  rw[List.getElem?_take,if_pos h,List.getElem?_drop];simp
 refine dq.pure (v:=if agg then .agg ((vs.toList.drop off).take n).toArray else((vs.toList.drop off).take n).getD 0 Go.undef) r (by simp only[Sem.run_bind,Uw h vs _ hlen gA,Result.andThen_ok,Sem.run_pure]) ?_
 refine s6 hp _ hlen (fun _ u hu=>h1 u (Array.mem_toList_iff.1 (List.mem_of_mem_drop (List.mem_of_mem_take hu)))) (fun j d u e1 e2=>h2 _ d u e1 ?_)
 rw[gA j (List.getElem?_eq_some_iff.1 e2).1];exact e2
theorem u9 {o:Oper} {ao:AO} {tm:Tm} {act:Act} {d:D} {s':St} (hc:GY P o=some ao) (r:Rel M s w) (hr:nM M s tm act.tmps) (he:aY ao tm s=some (d,s')) :
 dq P M s w (execOp act.eval o) d s':=by
 obtain⟨dst,op,type,pos,after,guard⟩:=o
 unfold GY at hc
 simp only at hc
 cases op with
 |move x=>
  obtain⟨y,hy,rfl⟩:=map_some hc
  cases he
  exact dq.pure r rfl (cv hy hr)
 |assign x=>
  obtain⟨y,hy,rfl⟩:=map_some hc
  cases he
  exact dq.pure r rfl (cv hy hr)
 | pick c a b=>
  simp only at hc
  split at hc
  ·rename_i c' a' b' h1 h2 h3
   cases hc
   simp only[aY]at he
   split at he
   ·rename_i t ht
    cases he
    have hcb:=cv h1 hr
    rw[ht]at hcb
    have:=hcb.pE
    refine dq.pure (v:=if t then act.eval a else act.eval b) r ?_ ?_
    ·simp only [execOp,this,asBool]
     simp
    ·cases t
     ·exact cv h3 hr
     ·exact cv h2 hr
   ·cases he
  ·cases hc
 | alloc t=>
  simp only at hc
  split at hc
  ·obtain⟨z,hz,rfl⟩:=map_some hc
   simp only[aY]at he
   split at he
   ·cases he;exact ON r hz
   ·cases he
  ·obtain⟨z,hz,rfl⟩:=map_some hc
   cases he
   exact QX r hz
 | box t x=>
  simp only at hc
  split at hc
  ·obtain⟨y,hy,rfl⟩:=map_some hc
   simp only[aY]at he
   split at he
   ·rename_i row eK
    cases he
    exact Uv r (cv hy hr) eK
   ·cases he
  ·obtain⟨y,hy,rfl⟩:=map_some hc
   simp only[aY]at he
   split at he
   ·rename_i row eK
    cases he
    exact XP r (cv hy hr) eK
   ·cases he
 | build t parts=>
  simp only at hc
  split at hc
  ·rename_i fs z ps h1 h2 h3
   split at hc
   ·rename_i G8
    cases hc
    simp only[aY]at he
    split at he
    ·rename_i cs po
     cases he
     have:=Rb r hr h1 G8 h2 h3 po
     simpa[execOp]using this
    ·cases he
   ·cases hc
  ·cases hc
 | buildSlice t n parts=>
  simp only at hc
  split at hc
  ·rename_i e hu
   split at hc
   ·rename_i i z ps h1 h2 h3
    split at hc
    ·rename_i mW
     cases hc
     simp only[aY]at he
     split at he
     ·rename_i rows lq
      cases he
      obtain⟨vs,T,g1,g2,g3,g4⟩:=Fs r hr hu h1 h2 mW.1 mW.2 h3 lq
      obtain⟨f1,f2,f3⟩:=Q6 r T g1
      refine⟨_,_,_, .inl ?_,f2,f1,f3⟩
      simp only[Array.toArray_toList]at g4
      simp only[execOp,Sem.run_bind,g4,Result.andThen_ok,Sem.run_pure]
      rw[g2]
     ·cases he
    ·cases hc
   ·cases hc
  ·cases hc
 | load t x=>
  simp only at hc
  split at hc
  ·rename_i y a i h1 h2 h3
   cases hc
   have hx:=cv h1 hr
   simp only[aY]at he
   split at he
   ·rename_i o off ho
    rw[ho]at hx
    have Me:=hx.Di
    obtain⟨hv,_⟩:=hx.uB
    split at he
    ·rename_i cs po
     split at he
     ·rename_i d' mC
      cases he
      have:=K6 r h3 h2 po Me mC
      simp only[execOp,hv]
      exact this
     ·cases he
    ·cases he
   ·rename_i row off ho
    rw[ho]at hx
    obtain⟨b,k,hv,g1,g2⟩:=hx.Bl
    split at he
    ·rename_i d' mC
     cases he
     have:=K7 r h3 h2 g1 g2 mC
     simp only[execOp,hv]
     exact this
    ·cases he
   ·exact OP r h3 h2 hx he
  ·cases hc
 | store t a x=>
  simp only at hc
  split at hc
  ·rename_i a' x' i h1 h2 h3
   cases hc
   have ha:=cv h1 hr
   have hx:=cv h2 hr
   simp only[aY]at he
   split at he
   ·rename_i o off row ho eK
    rw[ho]at ha
    have Me:=ha.Di
    obtain⟨hv,_⟩:=ha.uB
    split at he
    ·rename_i cs po
     split at he
     ·rename_i kn
      cases he
      have:=QY r h3 po Me hx eK kn.1 kn.2
      simp only[execOp,hv]
      exact this
     ·cases he
    ·cases he
   ·exact L8 r h3 ha hx he
  ·cases hc
 | nilCheck x=>
  obtain⟨y,hy,rfl⟩:=map_some hc
  have hx:=cv hy hr
  simp only[aY]at he
  split at he
  ·rename_i o off ho
   cases he
   rw[ho]at hx
   have hv:=hx.uB.1
   rw[hv]at hx
   simp only[execOp,hv]
   exact Bo r hx
  ·rename_i row off ho
   cases he
   rw[ho]at hx
   obtain⟨b,k,hv,_⟩:=hx.Bl
   rw[hv]at hx
   simp only[execOp,hv]
   exact Bo r hx
  ·split at he
   case h_2=>cases he
   rename_i d' vF
   cases he
   unfold QP at vF
   split at vF
   ·rename_i o g off hq
    cases vF
    rw[hq]at hx
    obtain⟨z,b,cap,A,hv,_⟩:=hx.FP
    rw[hv]at hx
    simp only[execOp,hv]
    exact Bo r hx
   ·cases vF
 | binOp op t x y yt=>
  simp only at hc
  split at hc
  ·rename_i x' y' h1 h2
   have hx:=cv h1 hr
   have hy:=cv h2 hr
   have fin : ∀ d',zz op (x'.ev tm) (y'.ev tm)=some d'→(d',s)=(d,s')→dq P M s w (execOp act.eval ⟨dst, .binOp op t x y yt,type,pos,after,guard⟩) d s':=by
    intro d' mC heq
    cases heq
    exact XQ r hx hy mC
   have afw:(match zz op (x'.ev tm) (y'.ev tm)with|some d=>some (d,s)|none=>none)=some (d,s')→dq P M s w (execOp act.eval ⟨dst, .binOp op t x y yt,type,pos,after,guard⟩) d s':=by
    intro h
    split at h
    ·rename_i d' mC
     exact fin d' mC (by cases h;rfl)
    ·cases h
   have X2 : ∀ o:FO,((o = .eq∧op = .eql)∨(o = .LP∧op = .add)∨(o = .Ur∧op = .eql))→aY (.sV o x' y') tm s=some (d,s')→dq P M s w (execOp act.eval ⟨dst, .binOp op t x y yt,type,pos,after,guard⟩) d s':=by
    intro o ho h
    simp only[aY]at h
    split at h
    ·rename_i d' mC
     cases h
     exact UA r ho hx hy mC
    ·cases h
   have afx : ∀ neg,op=(if neg then .neq else .eql)→P.underlying t=some .bool→aY (.JR neg x' y') tm s=some (d,s')→dq P M s w (execOp act.eval ⟨dst, .binOp op t x y yt,type,pos,after,guard⟩) d s':=by
    intro neg oe ht h
    simp only[aY]at h
    split at h
    ·rename_i p q hp hq
     cases h
     rw[hp]at hx;rw[hq]at hy
     simp only[execOp,hx.pE,hy.pE,oe]
     exact XR r ht
    ·cases h
   have afy : ∀ neg e,op=(if neg then .neq else .eql)→P.underlying t=some (.pointer e)→aY (.JS neg x' y') tm s=some (d,s')→dq P M s w (execOp act.eval ⟨dst, .binOp op t x y yt,type,pos,after,guard⟩) d s':=by
    intro neg e oe ht h
    simp only[aY]at h
    split at h
    ·rename_i hp hq
     cases h
     rw[hp]at hx;rw[hq]at hy
     simp only[execOp,hx.uA,hy.uA,oe]
     have:=FR r (neg:=neg) (x:=x) (y:=y) (a:=none) ht
     cases neg<;>simpa using this
    ·rename_i o off hp hq
     cases h
     rw[hp]at hx;rw[hq]at hy
     simp only[execOp,hx.uB.1,hy.uA,oe]
     have:=FR r (neg:=neg) (x:=x) (y:=y) (a:=some ⟨M.mu o,off,none⟩) ht
     cases neg<;>simpa using this
    ·rename_i row off hp hq
     cases h
     rw[hp]at hx;rw[hq]at hy
     obtain⟨b,k,hv,_⟩:=hx.Bl
     simp only[execOp,hv,hy.uA,oe]
     have:=FR r (neg:=neg) (x:=x) (y:=y) (a:=some ⟨b,k+off,none⟩) ht
     cases neg<;>simpa using this
    ·cases h
   have afz : ∀ neg ks,op=(if neg then .neq else .eql)→rK P t=some ks→aY (.eqs neg ks x' y') tm s=some (d,s')→dq P M s w (execOp act.eval ⟨dst, .binOp op t x y yt,type,pos,after,guard⟩) d s':=by
    intro neg ks oe ht h
    simp only[aY]at h
    split at h
    ·rename_i p q hp hq
     split at h
     ·rename_i e' vF
      cases h
      rw[hp]at hx;rw[hq]at hy
      simp only[execOp,oe]
      exact XT r ht hx hy vF
     ·cases h
    ·cases h
   split at hc
   ·cases hc;exact afw he
   ·cases hc;exact afw he
   ·rename_i hu;cases hc;exact afx false rfl hu he
   ·rename_i hu;cases hc;exact afx true rfl hu he
   ·rename_i hu;cases hc;exact afy false _ rfl hu he
   ·rename_i hu;cases hc;exact afy true _ rfl hu he
   ·obtain⟨ks,hk,rfl⟩:=map_some hc;exact afz false ks rfl hk he
   ·obtain⟨ks,hk,rfl⟩:=map_some hc;exact afz true ks rfl hk he
   ·cases hc;exact X2 .eq (.inl ⟨rfl,rfl⟩) he
   ·cases hc;exact X2 .LP (.inr (.inl ⟨rfl,rfl⟩)) he
   ·cases hc;exact X2 .Ur (.inr (.inr ⟨rfl,rfl⟩)) he
   ·cases hc
  ·cases hc
 | unOp op t x=>
  obtain⟨y,hy,rfl⟩:=map_some hc
  have hx:=cv hy hr
  simp only[aY]at he
  split at he
  ·rename_i d' mC
   cases he
   unfold LU at mC
   split at mC
   ·rename_i k n hk
    cases mC
    rw[hk]at hx
    exact dq.pure (v:= .int k (k.wrap (0 - n))) r (by simp[execOp,hx.jq,Op.unary,Op.intArith]) (.int _ _)
   ·rename_i b hb
    cases mC
    rw[hb]at hx
    exact dq.pure (v:= .bool (!b)) r (by simp[execOp,hx.pE,Op.unary]) (.bool _)
   ·cases mC
  ·cases he
 | convert src aBQ x=>
  simp only at hc
  split at hc
  ·rename_i y k1 k h1 h2 h3
   cases hc
   have hx:=cv h1 hr
   simp only[aY]at he
   split at he
   ·rename_i k2 n hn
    cases he
    rw[hn]at hx
    refine dq.pure (v:= .int k (k.wrap n)) r ?_ (.int _ _)
    simp[execOp,hx.jq,convert,run_underlying h2,run_underlying h3,Conv.intToInt]
   ·cases he
  ·rename_i y e h1 h2 h3
   split at hc
   ·rename_i h4
    cases hc
    have hx:=cv h1 hr
    simp only[aY]at he
    split at he
    ·rename_i g z rows lq
     split at he
     ·rename_i b hb
      cases he
      rw[lq]at hx
      exact Rc r h2 h4 h3 hx hb
     ·cases he
    ·cases he
   ·cases hc
  ·rename_i y e e2 h1 h2 h3
   split at hc
   ·rename_i h4
    split at hc
    ·rename_i uq
     cases hc
     subst uq
     have hx:=cv h1 hr
     simp only[aY]at he
     split at he
     ·rename_i t z rows lq
      split at he
      ·rename_i mW
       cases he
       rw[lq]at hx
       exact XW r h2 h4 hx mW.1 mW.2
      ·cases he
     ·cases he
    ·cases hc
   ·cases hc
  ·rename_i y e h1 h2 h3
   split at hc
   ·rename_i i h4 h5
    split at hc
    ·cases hc
     have hx:=cv h1 hr
     simp only[aY]at he
     split at he
     ·rename_i l hl
      cases he
      rw[hl]at hx
      simp only[execOp,hx.mM]
      exact L7 r h2 h3 h4
     ·cases he
    ·cases hc
   ·cases hc
  ·rename_i y k0 k h1 h2 h3
   cases hc
   have hx:=cv h1 hr
   simp only[aY]at he
   split at he
   ·rename_i d' mC
    cases he
    obtain⟨j,n,hn,rfl⟩:=Q2 mC
    rw[hn]at hx
    refine dq.pure (v:= .float k (k.nearest n)) r ?_ (.val _ rfl)
    simp[execOp,hx.jq,convert,run_underlying h2,run_underlying h3,Conv.intToFloat]
   ·cases he
  ·rename_i y k0 k h1 h2 h3
   cases hc
   have hx:=cv h1 hr
   simp only[aY]at he
   split at he
   ·rename_i d' mC
    cases he
    obtain⟨f,b,n,hn,h4,h5,rfl⟩:=Q3 mC
    rw[hn]at hx
    refine dq.pure (v:= .int k n) r ?_ (.int _ _)
    simp[execOp,hx.oD,convert,run_underlying h2,run_underlying h3,Conv.floatToInt,h4,h5]
   ·cases he
  ·cases hc
 | slice t x lo hi mx=>
  cases mx with
  |some m=>cases hc
  | none=>
   simp only at hc
   split at hc
   ·rename_i y J2 iI h1 h2 h3 h4
    cases hc
    have hx:=cv h1 hr
    simp only[aY]at he
    split at he
    ·rename_i u hu
     rw[hu]at hx
     split at he
     ·rename_i l h hl hh
      split at he
      ·rename_i mW
       cases he
       have:=UF r h4 (Mb hr h2 hl) (Md hr h3 hh) mW.1 mW.2.1 mW.2.2
       simp only[execOp,hx.mM,Option.map_none]
       exact this
      ·cases he
     ·cases he
    ·cases he
   ·rename_i y J2 iI e h1 h2 h3 h4
    split at hc
    ·rename_i i G1
     cases hc
     have hx:=cv h1 hr
     simp only[aY]at he
     split at he
     ·rename_i g z rows lq
      rw[lq]at hx
      split at he
      ·rename_i l h hl hh
       split at he
       ·rename_i mW
        cases he
        have:=XV r h4 G1 mW.1 hx (Mb hr h2 hl) (Md hr h3 hh) mW.2.1 mW.2.2.1 mW.2.2.2
        simp only[execOp,Option.map_none]
        exact this
       ·cases he
      ·cases he
     ·split at he
      case h_2=>cases he
      rename_i d' vF
      cases he
      have:=Rh r h4 G1 hx (fun l e=>Mb hr h2 e) (fun len l e=>Md hr h3 e) vF
      simp only[execOp,Option.map_none]
      exact this
    ·cases hc
   ·cases hc
 | fieldAddr t x f=>
  simp only at hc
  split at hc
  ·rename_i y off size a h1 h2
   cases hc
   have hx:=cv h1 hr
   simp only[aY]at he
   split at he
   ·rename_i o k ho
    cases he
    rw[ho]at hx
    have Me:=hx.Di
    obtain⟨hv,hD⟩:=hx.uB
    refine dq.pure (v:= .pointer (some ⟨M.mu o,k+off,none⟩)) r ?_ (.ptr _ _ hD Me)
    simp only[execOp,hv,Sem.run_bind,Dk h2,Result.andThen_ok,Sem.run_pure]
   ·rename_i row k ho
    cases he
    rw[ho]at hx
    obtain⟨b,q,hv,g1,g2⟩:=hx.Bl
    refine dq.pure (v:= .pointer (some ⟨b,q+(k+off),none⟩)) r ?_ (.dS _ _ _ _ g1 g2)
    simp only[execOp,hv,Sem.run_bind,Dk h2,Result.andThen_ok,Sem.run_pure,Nat.add_assoc]
   ·split at he
    case h_2=>cases he
    rename_i d' vF
    cases he
    unfold GX at vF
    split at vF
    ·rename_i o g k hq
     cases vF
     rw[hq]at hx
     obtain⟨z,b,cap,A,hv,ho,hm,hg⟩:=hx.FP
     refine dq.pure (v:= .pointer (some ⟨b,k+off,none⟩)) r ?_ (.gh _ _ _ _ b cap A ho hm hg)
     simp only[execOp,hv,Sem.run_bind,Dk h2,Result.andThen_ok,Sem.run_pure]
    ·cases vF
  ·cases hc
 | field t x f=>
  simp only at hc
  split at hc
  ·rename_i y off size a h1 h2
   cases hc
   have hx:=cv h1 hr
   simp only[aY]at he
   split at he
   ·rename_i cs po
    split at he
    ·rename_i d' mC
     cases he
     rw[po]at hx
     obtain⟨vs,hv,g1,g2,g3⟩:=hx.I1
     simp only[execOp,hv]
     exact Ro h2 g1 g2 g3 mC r
    ·cases he
   ·cases he
  ·cases hc
 | indexAddr t x i=>
  simp only at hc
  split at hc
  ·rename_i y j e h1 h2 h3
   split at hc
   ·rename_i inf Rq
    split at hc
    ·cases hc
     have hx:=cv h1 hr
     have hj:=cv h2 hr
     simp only[aY]at he
     split at he
     ·rename_i g z rows k n lq hn
      split at he
      ·rename_i mW
       obtain⟨Mf,hz⟩:=mW
       subst hz
       split at he
       ·rename_i row eK
        cases he
        rw[lq]at hx;rw[hn]at hj
        simp only[execOp,hj.jq]
        exact Q5 r h3 Rq hx Mf eK
       ·cases he
      ·cases he
     ·split at he
      case h_2=>cases he
      rename_i d' vF
      cases he
      exact L9 r h3 Rq hx hj vF
    ·cases hc
   ·cases hc
  ·cases hc
 | index t x i=>
  simp only at hc
  split at hc
  ·rename_i y j h1 h2 h3
   cases hc
   have hx:=cv h1 hr
   have hj:=cv h2 hr
   simp only[aY]at he
   split at he
   ·rename_i l k n hl hn
    split at he
    ·rename_i Mf
     split at he
     ·rename_i c hcc
      cases he
      rw[hl]at hx;rw[hn]at hj
      simp only[execOp,hj.jq,hx.mM]
      exact UC r h3 Mf hcc
     ·cases he
    ·cases he
   ·cases he
  ·cases hc
 | extract x i=>
  obtain⟨y,hy,rfl⟩:=map_some hc
  have hx:=cv hy hr
  simp only[aY]at he
  split at he
  ·rename_i ds Du
   split at he
   ·rename_i d' mC
    cases he
    rw[Du]at hx
    obtain⟨vs,hv,g1,g2⟩:=hx.JU
    have hD:=(List.getElem?_eq_some_iff.1 mC).1
    have Mg:vs[i]? = some vs[i]:=Array.getElem?_eq_getElem (by omega)
    refine dq.pure (v:=vs[i]) r ?_ (g2 i _ _ mC Mg)
    simp[execOp,hv,Instr.extract,Mg]
   ·cases he
  ·cases he
 | call c=>
  obtain⟨callee,args,og⟩:=c
  cases callee with
  |value f=>cases hc
  |invoke f m=>cases hc
  | builtin bi=>
   have two : ∀ {x y:Operand} {x' y':X} {isMax:Bool},cX x=some x'→cX y=some y'→bi=(if isMax then .max else .min)→args.toList = [x,y]→aY (.mm isMax x' y') tm s=some (d,s')→
    dq P M s w (execOp act.eval ⟨dst, .call ⟨.builtin bi,args,og⟩,type,pos,after,guard⟩) d s':=by
    intro x y x' y' isMax h1 h2 hb ha h
    have jg:args = #[x,y]:=by rw[← Array.toArray_toList (xs:=args),ha]
    subst jg
    have hx:=cv h1 hr
    have hy:=cv h2 hr
    simp only[aY]at h
    split at h
    ·rename_i k a k' b J3 Me
     split at h
     ·rename_i Cu
      subst Cu
      cases h
      rw[J3]at hx;rw[Me]at hy
      refine dq.pure (v:= .int k (if isMax then(if b > a then b else a)else(if b<a then b else a))) r ?_ (.int _ _)
      subst hb
      cases isMax
      ·simp[execOp,resolve,invoke,builtin,Builtin.min_,Builtin.min2,hx.jq,hy.jq]
      ·simp[execOp,resolve,invoke,builtin,Builtin.max_,Builtin.max2,hx.jq,hy.jq]
     ·cases h
    ·cases h
   cases bi<;>simp only at hc<;>try (cases hc;done)
   case append=>
    split at hc
    ·rename_i x y t u ha td
     split at hc
     ·rename_i e e' x' y' h1 h2 h3 h4
      split at hc
      ·rename_i i z hi hz
       split at hc
       ·rename_i uE
        cases hc
        have jg:args = #[x,y]:=by rw[← Array.toArray_toList (xs:=args),ha]
        have Mh:og = #[t,u]:=by rw[← Array.toArray_toList (xs:=og),td]
        subst jg;subst Mh
        obtain⟨i',v,g1,g2,g3,g4⟩:=u6 hz
        rw[hi]at g1;cases g1
        have J0:=s8 (M:=M) (s:=s) g4
        split at he
        ·rename_i hb
         obtain⟨rfl,Mi,hb2⟩:=hb
         obtain⟨v',w',M',f1,f2,f3,f4⟩:=Q8 (ty:=type) r h1 h2 hi g2 Mi hb2 g3 J0.2.1 (cv h3 hr) (cv h4 hr) he
         refine⟨v',w',M', .inl ?_,f2,f3,f4⟩
         simp[execOp,resolve,invoke,builtin,f1]
        ·have hxx:=cv h3 hr
         simp only[aY]at he
         split at he
         ·rename_i gq zq rq hq
          rw[hq]at hxx
          obtain⟨v',w',M',f1,f2,f3,f4⟩:=UK (ty:=type) r h1 h2 hi g2 g3 J0.2.1 hxx (cv h4 hr) uE he
          refine⟨v',w',M', .inl ?_,f2,f3,f4⟩
          simp[execOp,resolve,invoke,builtin,f1]
         ·obtain⟨v',w',M',f1,f2,f3,f4⟩:=Rj (ty:=type) r h1 h2 hi g2 g3 J0.2.1 hxx (cv h4 hr) uE he
          refine⟨v',w',M', .inl ?_,f2,f3,f4⟩
          simp[execOp,resolve,invoke,builtin,f1]
       ·cases hc
      ·cases hc
     ·rename_i e x' y' h1 h2 h3 h4
      split at hc
      ·rename_i i z hi hz
       split at hc
       ·rename_i hb
        cases hc
        obtain⟨rfl,Mi,hb2⟩:=hb
        have jg:args = #[x,y]:=by rw[← Array.toArray_toList (xs:=args),ha]
        have Mh:og = #[t,u]:=by rw[← Array.toArray_toList (xs:=og),td]
        subst jg;subst Mh
        obtain⟨i',v,g1,g2,g3,g4⟩:=u6 hz
        rw[hi]at g1;cases g1
        have J0:=s8 (M:=M) (s:=s) g4
        have hy:=cv h4 hr
        simp only[aY]at he
        split at he
        ·rename_i l hl
         rw[hl]at hy
         obtain⟨v',w',M',f1,f2,f3,f4⟩:=Q9 (ty:=type) r h1 h2 hi g2 Mi hb2 g3 J0.2.1 (cv h3 hr) he
         refine⟨v',w',M', .inl ?_,f2,f3,f4⟩
         simp[execOp,resolve,invoke,builtin,hy.mM,f1]
        ·cases he
       ·cases hc
      ·cases hc
     ·cases hc
    ·cases hc
   case len=>
    split at hc
    ·rename_i x t ha td
     have jg:args = #[x]:=by rw[← Array.toArray_toList (xs:=args),ha]
     have Mh:og = #[t]:=by rw[← Array.toArray_toList (xs:=og),td]
     subst jg;subst Mh
     have hex:execOp act.eval ⟨dst, .call ⟨.builtin .len, #[x], #[t]⟩,type,pos,after,guard⟩=(do pure (.value (← Builtin.len_ #[t] type #[act.eval x]))):=by
      simp[execOp,resolve,invoke,builtin]
     rw[hex]
     split at hc
     ·rename_i ht
      obtain⟨y,hy,rfl⟩:=map_some hc
      have hx:=cv hy hr
      simp only[aY]at he
      split at he
      ·rename_i l hl
       cases he
       rw[hl]at hx
       rw[hx.mM]
       exact LZ r ht
      ·cases he
     ·rename_i e ht
      obtain⟨y,hy,rfl⟩:=map_some hc
      have hx:=cv hy hr
      simp only[aY]at he
      split at he
      ·rename_i g z rows lq
       cases he
       rw[lq]at hx
       rcases hx.kb with ⟨h0,hv,_⟩|⟨h0,_,a,cap,hv⟩|⟨b,q,cap,hv,_⟩
       ·rw[hv,h0];exact oE r ht
       ·rw[hv,h0];exact oE r ht
       ·rw[hv];exact oE r ht
      ·split at he
       case h_2=>cases he
       rename_i d' vF
       cases he
       exact Ri r ht hx vF
     ·cases hc
    ·cases hc
   case max=>
    split at hc
    ·rename_i x y ha
     split at hc
     ·rename_i x' y' h1 h2
      cases hc
      exact two (isMax:=true) h1 h2 rfl ha he
     ·cases hc
    ·cases hc
   case min=>
    split at hc
    ·rename_i x y ha
     split at hc
     ·rename_i x' y' h1 h2
      cases hc
      exact two (isMax:=false) h1 h2 rfl ha he
     ·cases hc
    ·cases hc
   case complex=>
    split at hc
    ·rename_i x y ha
     split at hc
     ·rename_i x' y' h1 h2
      cases hc
      have jg:args = #[x,y]:=by rw[← Array.toArray_toList (xs:=args),ha]
      subst jg
      have hx:=cv h1 hr
      have hy:=cv h2 hr
      simp only[aY]at he
      split at he
      ·rename_i d' mC
       cases he
       obtain⟨k,a,b,yC,um,rfl⟩:=Ux mC
       rw[yC]at hx;rw[um]at hy
       refine dq.pure (v:= .complex k a b) r ?_ (.val _ rfl)
       have hb:Builtin.complex_ og type #[.float k a, .float k b] = pure (.complex k a b):=if_pos rfl
       simp[execOp,resolve,invoke,builtin,hb,hx.oD,hy.oD]
      ·cases he
     ·cases hc
    ·cases hc
   case real=>
    split at hc
    ·rename_i x ha
     obtain⟨x',h1,rfl⟩:=map_some hc
     have jg:args = #[x]:=by rw[← Array.toArray_toList (xs:=args),ha]
     subst jg
     have hx:=cv h1 hr
     simp only[aY]at he
     split at he
     ·rename_i d' mC
      cases he
      obtain⟨k,a,b,yC,rfl⟩:=Uy mC
      rw[yC]at hx
      refine dq.pure (v:= .float k a) r ?_ (.val _ rfl)
      have hb:Builtin.real_ og type #[.complex k a b] = pure (.float k a):=rfl
      simp[execOp,resolve,invoke,builtin,hb,hx.oD]
     ·cases he
    ·cases hc
   case imag=>
    split at hc
    ·rename_i x ha
     obtain⟨x',h1,rfl⟩:=map_some hc
     have jg:args = #[x]:=by rw[← Array.toArray_toList (xs:=args),ha]
     subst jg
     have hx:=cv h1 hr
     simp only[aY]at he
     split at he
     ·rename_i d' mC
      cases he
      obtain⟨k,a,b,yC,rfl⟩:=Uz mC
      rw[yC]at hx
      refine dq.pure (v:= .float k b) r ?_ (.val _ rfl)
      have hb:Builtin.imag_ og type #[.complex k a b] = pure (.float k b):=rfl
      simp[execOp,resolve,invoke,builtin,hb,hx.oD]
     ·cases he
    ·cases hc
 | makeFunc fn first captured=>
  cases fn<;>simp only at hc<;>try (cases hc;done)
  split at hc
  ·rename_i f h0
   obtain⟨xs,qp,rfl⟩:=map_some hc
   simp only[aY,Option.some.injEq,Prod.mk.injEq]at he
   obtain⟨rfl,rfl⟩:=he
   obtain⟨c1,c2⟩:=PI hr qp
   have hf:first = #[]:=Array.eq_empty_of_size_eq_zero h0
   subst hf
   refine dq.pure (v:= .func (.func f) #[] (captured.map act.eval)) r ?_ (.ix _ _ _ (by simp[c1]) (fun i d v e1 e2=>c2 i d v e1 (by simpa using e2)))
   simp[execOp,Instr.makeFunc]
  ·cases hc
 | makeMap t rv=>
  cases rv with
  | none=>
   simp only at hc
   split at hc
   ·rename_i ht
    cases hc
    simp only[aY,Option.some.injEq,Prod.mk.injEq]at he
    obtain⟨rfl,rfl⟩:=he
    simp only[execOp,Option.map_none]
    exact Re r ht
   ·cases hc
  |some x=>cases hc
 | makeSlice t l c=>
  simp only at hc
  split at hc
  ·rename_i l' c' e h1 h2 ht
   split at hc
   ·rename_i i z hi hz
    split at hc
    ·rename_i uE
     cases hc
     have hl:=cv h1 hr
     have hcx:=cv h2 hr
     simp only[aY]at he
     split at he
     ·rename_i n m hn hm
      split at he
      ·rename_i mW
       obtain⟨rfl,h0,hmx⟩:=mW
       cases he
       rw[hn]at hl;rw[hm]at hcx
       simp only[execOp,hl.jq,hcx.jq]
       exact Rm r ht hi hz uE h0 hmx
      ·cases he
     ·cases he
    ·cases hc
   ·cases hc
  ·cases hc
 | mapUpdate t m k v=>
  simp only at hc
  split at hc
  ·rename_i kt et m' k' v' ht h1 h2 h3
   split at hc
   ·rename_i hkt
    cases hc
    have hm:=cv h1 hr
    have hk:=cv h2 hr
    have hv:=cv h3 hr
    simp only[aY]at he
    split at he
    ·rename_i o key g z rows ho X3 lq
     rw[ho]at hm;rw[X3]at hk;rw[lq]at hv
     obtain⟨hmv,hD,Ao⟩:=hm.LY
     split at he
     ·rename_i cs po
      split at he
      ·rename_i kR aox
       cases he
       have Aw:(act.eval v).oneCell'=true:=by
        rcases hv.kb with ⟨_,h,_⟩|⟨_,_,a,cap,h⟩|⟨b,q,cap,h,_⟩<;>rw[h]<;>rfl
       simp only[execOp,hmv,hk.mM]
       exact UM r ht hkt Ao po hv Aw aox
      ·cases he
     ·cases he
    ·cases he
   ·cases hc
  ·cases hc
 | lookup t m k ok=>
  cases ok<;>simp only at hc<;>try (cases hc;done)
  split at hc
  ·rename_i kt et m' k' ht h1 h2
   split at hc
   ·rename_i i hkt hi
    split at hc
    ·rename_i z hz
     obtain⟨zd,hzd,rfl⟩:=map_some hc
     have hm:=cv h1 hr
     have hk:=cv h2 hr
     simp only[aY]at he
     split at he
     ·rename_i o key ho X3
      rw[ho]at hm;rw[X3]at hk
      obtain⟨hmv,hD,Ao⟩:=hm.LY
      split at he
      ·rename_i cs po
       split at he
       ·rename_i d' mC
        cases he
        simp only[execOp,hmv,hk.mM]
        exact Rf r ht hkt hi hz hzd Ao po mC
       ·cases he
      ·cases he
     ·cases he
    ·cases hc
   ·cases hc
  ·cases hc
 |_=>cases hc
theorem Bp {o:Oper} {z:List D} {k n:Nat} {ps:List (Nat×X)} {tm:Tm} {act:Act} {d:D} {s':St} (hc:GY P o=some (.du z k n ps)) (r:Rel M s w) (hr:nM M s tm act.tmps) (he:aY (.xf z k n ps) tm s=some (d,s')) :
 dq P M s w (execOp act.eval o) d s':=by
 obtain⟨dst,op,type,pos,after,guard⟩:=o
 unfold GY at hc
 simp only at hc
 cases op with
 | buildSlice t n' parts=>
  simp only at hc
  split at hc
  ·rename_i e hu
   split at hc
   ·rename_i i z ps h1 h2 h3
    split at hc
    ·rename_i mW
     cases hc
     simp only[aY]at he
     split at he
     ·rename_i rows lq
      cases he
      obtain⟨vs,T,g1,g2,g3,g4⟩:=Fs r hr hu h1 h2 mW.1 mW.2 h3 lq
      obtain⟨M',f1,f2,f3⟩:=UL r T g1 (by rw[g3,g2]) mW.1
      refine⟨_,_,_, .inl ?_,f2,f1,f3⟩
      simp only[Array.toArray_toList]at g4
      simp only[execOp,Sem.run_bind,g4,Result.andThen_ok,Sem.run_pure]
      rw[g2]
     ·cases he
    ·cases hc
   ·cases hc
  ·cases hc
 |_=>
  exfalso
  revert hc
  try simp only
  repeat' split
  all_goals (first|(intro h;cases h;done)|(intro h;obtain⟨_,_,h⟩:=map_some h;cases h;done)|contradiction|(simp;done)|(intro h;simp_all;done))
end
end Go.Abs
namespace Go.Abs
structure gZ where
 M:Map
 s:St
 w:World
 laid:Laid M s w
 Ft : ∀ b o v,M.G b o=some v→b<w.heap.size
def Holds (B:gZ) (nt:Nat) (tm:Tm) (s:St) (act:Act) (w:World):Prop:=
 ∃ M,Ext B.M B.s B.w M s w∧Rel M s w∧nM M s tm act.tmps∧act.tmps.size=nt∧act.defers = []
def rB (B:gZ) (nt:Nat) (Q:Exit→Tm→St→Prop):Exit→Act→World→Prop:=fun e act w=>∃ tm s,Q e tm s∧Holds B nt tm s act w
def bW (P:Program) (f:FuncId) (args:List D) (s:St) (Q:D→St→Prop):Prop:=
 ∀ (M:Map) (w:World) (gx:Array Value),Rel M s w→Laid M s w→gx.size=args.length→(∀ (i:Nat) (d:D) (v:Value),args[i]? = some d→gx[i]? = some v→RD M s d v)→
  Calls P f gx w fun e w'=>∃ M' d v s',e = .returned v∧Q d s'∧Ext M s w M' s' w'∧Rel M' s' w'∧RD M' s' d v
theorem bW.mono {P:Program} {f:FuncId} {args:List D} {s:St} {Q Q':D→St→Prop} (h:bW P f args s Q) (hq : ∀ d s',Q d s'→Q' d s'):bW P f args s Q':=
 fun M w gx r hd hl ha=>(h M w gx r hd hl ha).mono fun _ _ ⟨M',d,v,s',h1,h2,h3⟩=>⟨M',d,v,s',h1,hq _ _ h2,h3⟩
def guarded (g:Option (Nat×Bool)) (tm:Tm) (A B:Prop):Prop:=
 match g with
 |none=>A
 |some (t,want)=>
  match tm.get t with
  | .bool b=>(b=want→A)∧(b=(!want)→B)
  | .tuple _=>B
  |_=>False
def jW (P:Program):List AI→(Tm→St→Prop)→Tm→St→Prop
 | [],K,tm,s=>K tm s
 | .op dst g o::r,K,tm,s=>
  guarded g tm (match aY o tm s with|some (d,s')=>jW P r K (tm.put dst d) s'|none=>False) (jW P r K (tm.put dst (.tuple [])) s)
 | .call dst g f xs::r,K,tm,s=>
  guarded g tm (bW P f (xs.map (·.ev tm)) s fun d s'=>jW P r K (tm.put dst d) s') (jW P r K (tm.put dst (.tuple [])) s)
 | .nil dst g neg x::r,K,tm,s=>
  guarded g tm (match x.ev tm with
   | .slice _ _ rows=>∀ b:Bool,(rows≠ []→b=false)→jW P r K (tm.put dst (.bool (if neg then !b else b))) s
   |_=>False) (jW P r K (tm.put dst (.tuple [])) s)
 | .kx dst g t xs::r,K,tm,s=>
  guarded g tm (match tm.get t with
   | .ix f pB=>enters P f=true∧bW P f (xs.map (·.ev tm)++pB) s fun d s'=>jW P r K (tm.put dst d) s'
   |_=>False) (jW P r K (tm.put dst (.tuple [])) s)
section
variable {P:Program}
theorem Dv {f:FuncId} (h:enters P f=true) (args:Array Value) (w:World):(callFunc f args).run P w = .ok (.enter f args) w:=by
 unfold enters at h
 split at h
 ·rename_i fn hf
  simp only[Bool.and_eq_true,Bool.not_eq_true']at h
  obtain⟨h1,h2⟩:=h
  have h3:fn.body.isNone=false:=by cases hb:fn.body<;>simp_all
  simp only[callFunc,Sem.run_bind,run_program,Result.andThen_ok,hf,h2,h3]
  simp
 ·cases h
theorem zD (ρ:Operand→Value) (dst:Option Tmp) (f:FuncId) (args:Array Operand) (og:Array TypeId) (ty:TypeId) (pos:String) (after:Array Edge) (g:Option (Nat×Bool))
 (hρ:ρ (.func f) = .func (.func f) #[] #[]) (h:enters P f=true) (w:World) :
 (execOp ρ ⟨dst, .call ⟨.value (.func f),args,og⟩,ty,pos,after,g⟩).run P w = .ok (.enter f (args.map ρ)) w:=by
 simp[execOp,resolve,hρ,Deferred.ofValue,invoke,Dv h]
theorem Dw (ρ:Operand→Value) (dst:Option Tmp) (x:Operand) (f:FuncId) (pB:Array Value) (args:Array Operand) (og:Array TypeId) (ty:TypeId) (pos:String) (after:Array Edge) (g:Option (Nat×Bool))
 (hρ:ρ x = .func (.func f) #[] pB) (h:enters P f=true) (w:World) :
 (execOp ρ ⟨dst, .call ⟨.value x,args,og⟩,ty,pos,after,g⟩).run P w = .ok (.enter f (args.map ρ++pB)) w:=by
 simp[execOp,resolve,hρ,Deferred.ofValue,invoke,Dv h]
theorem yD {M:Map} {s:St} {tm:Tm} {act:Act} (hr:nM M s tm act.tmps) : ∀ {l:List Operand} {xs:List X},An l=some xs→
 xs.length=l.length∧∀ (i:Nat) (d:D) (v:Value),(xs.map (·.ev tm))[i]? = some d→(l.map act.eval)[i]? = some v→RD M s d v
 | [],xs,h=>by cases h;exact⟨rfl,by simp⟩
 | x::l,xs,h=>by
  unfold An at h
  split at h
  ·rename_i x' r' h1 h2
   cases h
   obtain⟨g1,g2⟩:=yD hr h2
   refine⟨by simp[g1],fun i d v e1 e2=>?_⟩
   cases i with
   |zero=>simp at e1 e2;subst e1;subst e2;exact cv h1 hr
   |succ i=>exact g2 i d v (by simpa using e1) (by simpa using e2)
  ·cases h
theorem J4 {M:Map} {s:St} {tm:Tm} {act:Act} {args:Array Operand} {xs:List X} {pB:List D} {vs:Array Value} (qp:An args.toList=some xs) (ht:nM M s tm act.tmps) (hlen:pB.length=vs.size)
 (Hc : ∀ (i:Nat) (d:D) (v:Value),pB[i]? = some d→vs[i]? = some v→RD M s d v) :
 (args.map act.eval++vs).size=(xs.map (·.ev tm)++pB).length∧∀ (i:Nat) (d:D) (v:Value),(xs.map (·.ev tm)++pB)[i]? = some d→(args.map act.eval++vs)[i]? = some v→RD M s d v:=by
 obtain⟨c1,c2⟩:=yD ht qp
 refine⟨by simp[c1,hlen],fun i d v e1 e2=>?_⟩
 rcases Nat.lt_or_ge i args.size with pw|pw
 ·rw [List.getElem?_append_left (by simp [c1];exact pw)]at e1
  rw[Array.getElem?_append_left (by simp;exact pw)]at e2
  exact c2 i d v e1 (by simpa using e2)
 ·rw [List.getElem?_append_right (by simp [c1];exact pw)]at e1
  rw[Array.getElem?_append_right (by simp;exact pw)]at e2
  simp only[List.length_map,c1,Array.size_map,Array.length_toList]at e1 e2
  exact Hc _ d v e1 e2
theorem Cv {M:Map} {s:St} {w:World} {o:Oper} {neg:Bool} {x:X} {tm:Tm} {act:Act} (hc:I0 P o=some (neg,x)) (hr:nM M s tm act.tmps) {g:Tag} {z:Nat} {rows:List (List D)} (hx:x.ev tm = .slice g z rows) :
 ∃ b:Bool,(rows≠ []→b=false)∧(execOp act.eval o).run P w = .ok (.value (.bool (if neg then !b else b))) w:=by
 obtain⟨dst,op,type,pos,after,guard⟩:=o
 unfold I0 at hc
 split at hc
 ·rename_i op t y yt heq
  simp only at heq
  subst heq
  have fin : ∀ e,P.underlying t=some (.slice e)→cX y=some x→op=(if neg then .neq else .eql)→∃ b:Bool,(rows≠ []→b=false)∧
   (execOp act.eval ⟨dst, .binOp op t y (.const (.slice none 0 0)) yt,type,pos,after,guard⟩).run P w = .ok (.value (.bool (if neg then !b else b))) w:=by
   intro e ht hy oe
   have hv:=cv hy hr
   rw[hx]at hv
   have key : ∀ (a:Option Addr) (n c:Nat),act.eval y = .slice a n c→(execOp act.eval ⟨dst, .binOp op t y (.const (.slice none 0 0)) yt,type,pos,after,guard⟩).run P w = .ok (.value (.bool (if neg then !a.isNone else a.isNone))) w:=by
    intro a n c qD
    have hg:=kS (P:=P) (w:=w) (op:=op) (t:=t) (x:=y) (y:= .const (.slice none 0 0)) (a:= .slice a n c) (b:= .slice none 0 0) ⟨by simp,by simp⟩
    have he:(Op.equal t (.slice a n c) (.slice none 0 0)).run P w = .ok a.isNone w:=by
     have : ∀ d,(Op.equalIn (d+1) t (.slice a n c) (.slice none 0 0)).run P w = .ok a.isNone w:=by
      intro d
      cases a<;>simp[Op.equalIn,run_underlying ht]
     exact this 9999
    have aoz:act.eval (.const (.slice none 0 0)) = .slice none 0 0:=rfl
    simp only[execOp,qD,aoz]
    rw[oe]at hg ⊢
    cases neg
    ·simp only [Bool.false_eq_true,if_false]at hg ⊢
     simp[hg,binOp,he]
    ·simp only [if_true]at hg ⊢
     simp[hg,binOp,he]
   rcases hv.kb with ⟨h0,qD,_⟩|⟨_,_,a,cap,qD⟩|⟨b,q,cap,qD,_⟩
   ·exact⟨true,fun h=>(h h0).elim,key none 0 0 qD⟩
   ·exact⟨false,fun _=>rfl,key _ _ _ qD⟩
   ·exact⟨false,fun _=>rfl,key _ _ _ qD⟩
  split at hc
  ·cases hc
   exact fin _ ‹_› ‹_› rfl
  ·cases hc
   exact fin _ ‹_› ‹_› rfl
  ·cases hc
 ·cases hc
variable {B:gZ} {nt:Nat}
theorem Holds.put {tm:Tm} {s:St} {act:Act} {w:World} {M':Map} {s':St} {w':World} {M:Map} (e:Ext B.M B.s B.w M s w) (ht:nM M s tm act.tmps) (hn:act.tmps.size=nt) (hd:act.defers = [])
 {dst:Option Nat} (sr : ∀ t,dst=some t→t<nt) {d:D} {v:Value} (e':Ext M s w M' s' w') (r':Rel M' s' w') (hv:RD M' s' d v):Holds B nt (tm.put dst d) s' (act.put dst v) w':=by
 refine⟨M',e.trans e',r',(ht.mono e'.le).put (fun t h=>by rw[hn];exact sr t h) hv, ?_, ?_⟩
 ·cases dst<;>simp[Act.put,hn]
 ·cases dst<;>simp[Act.put,hd]
theorem Az {ops:Array Oper} {o:Oper} {ai:AI} (h:cI P nt ops o=some ai) : ∀ t,o.dst=some t→t<nt:=by
 intro t ht
 unfold cI at h
 split at h
 ·cases h
 ·split at h
  ·rename_i hD;rw[ht]at hD;simpa[aaW]using hD
  ·cases h
theorem lr {ops:Array Oper} {o:Oper} {g:Option (Nat×Bool)} (hg:xi ops o.guard=some g) {M:Map} {s:St} {tm:Tm} {act:Act} (hr:nM M s tm act.tmps) {A C:Prop} (h:guarded g tm A C) :
 (Region.wanted o (yielded ops act.tmps)=true∧A)∨(Region.wanted o (yielded ops act.tmps)=false∧C):=by
 unfold xi at hg
 split at hg
 ·rename_i hn
  cases hg
  exact .inl ⟨by simp[Region.wanted,hn],h⟩
 ·rename_i j want hn
  split at hg
  ·rename_i t ht
   cases hg
   have hrt:=hr t
   unfold guarded at h
   simp only at h
   split at h
   ·rename_i b hb
    rw[hb]at hrt
    have hv:=hrt.pE
    have aj3:act.tmps[t]? = some (.bool b):=by
     cases hc:act.tmps[t]? with
     |none=>simp[Array.getD_eq_getD_getElem?,hc,Go.undef]at hv
     |some v=>simp[Array.getD_eq_getD_getElem?,hc]at hv;rw[hv]
    have hy:yielded ops act.tmps j=some b:=by simp[yielded,ht,aj3]
    have hw:Region.wanted o (yielded ops act.tmps)=(some b==some want):=by simp[Region.wanted,hn,hy]
    by_cases hbw:b=want
    ·exact .inl ⟨by rw[hw,hbw];simp,h.1 hbw⟩
    ·refine .inr ⟨by rw [hw];simp [hbw],h.2 ?_⟩
     cases b<;>cases want<;>simp_all
   ·rename_i ds Du
    rw[Du]at hrt
    obtain⟨vs,hv,_⟩:=hrt.JU
    refine .inr ⟨?_,h⟩
    have hy:yielded ops act.tmps j=none:=by
     unfold yielded
     rw[ht]
     cases hc:act.tmps[t]? with
     |none=>simp[hc]
     |some v=>simp[Array.getD_eq_getD_getElem?,hc]at hv;simp[hc,hv]
    simp[Region.wanted,hn,hy]
   ·exact h.elim
  ·cases hg
theorem Dx {ops:Array Oper} {Q:Exit→Tm→St→Prop} : ∀ (l:List Nat) (ol:List Oper) (is:List AI),l.map (ops[·]?)=ol.map some→sY P nt ops ol=some is→
 ∀ (tm:Tm) (s:St) (act:Act) (w:World),jW P is (Q .normal) tm s→Holds B nt tm s act w→wpOps P ops (rB B nt Q) l act w
 | [],[],is,_,hc,tm,s,act,w,h,hh=>by cases hc;exact⟨tm,s,h,hh⟩
 | [],_::_,_,hl,_,_,_,_,_,_,_=>by simp at hl
 |_::_,[],_,hl,_,_,_,_,_,_,_=>by simp at hl
 | i::l,o::ol,is,hl,hc,tm,s,act,w,h,hh=>by
  simp only[List.map_cons,List.cons.injEq]at hl
  obtain⟨hi,hl⟩:=hl
  unfold sY at hc
  split at hc
  ·rename_i ai UR h1 h2
   cases hc
   obtain⟨M,e,r,ht,hn,hd⟩:=hh
   have sr:=Az h1
   have ih:=fun tm s act w=>Dx (Q:=Q) l ol UR hl h2 tm s act w
   have skip : ∀ (x:Prop),jW P UR (Q .normal) (tm.put o.dst (.tuple [])) s→wpOps P ops (rB B nt Q) l (act.put o.dst Go.undef) w:=fun _ hk=>
    ih _ _ _ _ hk (Holds.put e ht hn hd sr (Ext.refl M s w) r .undef)
   simp only[wpOps,hi]
   unfold cI at h1
   split at h1
   ·cases h1
   ·rename_i g hg
    split at h1
    ·unfold uZ at h1
     split at h1
     ·-- a call
      rename_i f args og oe
      split at h1
      ·rename_i Bq
       obtain⟨xs,qp,rfl⟩:=map_some h1
       unfold jW at h
       rcases lr hg ht h with ⟨hw,hA⟩|⟨hw,hB⟩
       ·simp only [hw,if_true]
        left
        have hex:(execOp act.eval o).run P w = .ok (.enter f (args.map act.eval)) w:=by
         obtain⟨dst,op,type,pos,after,guard⟩:=o
         simp only at oe
         subst oe
         exact zD act.eval dst f args og type pos after guard rfl Bq w
        obtain⟨c1,c2⟩:=yD ht qp
        unfold Oper.wp
        rw[hex,Oper.upon_enter]
        refine(hA M w (args.map act.eval) r (B.laid.ext e) (by simp[c1]) (fun i d v e1 e2=>c2 i d v e1 (by simpa using e2))).mono ?_
        rintro en w' ⟨M',d,v,s',rfl,hk,e',r',hv⟩
        exact ih _ _ _ _ hk (Holds.put e ht hn hd sr e' r' hv)
       ·simp only [hw]
        exact skip True hB
      ·cases h1
     ·-- what a slot holds is called
      rename_i t args og oe
      obtain⟨xs,qp,rfl⟩:=map_some h1
      unfold jW at h
      rcases lr hg ht h with ⟨hw,hA⟩|⟨hw,hB⟩
      ·simp only [hw,if_true]
       left
       split at hA
       ·rename_i f pB nu
        obtain⟨Bq,hA⟩:=hA
        have US:=ht t
        rw[nu]at US
        obtain⟨vs,qC,hlen,Hc⟩:=US.PD
        have hex:(execOp act.eval o).run P w = .ok (.enter f (args.map act.eval++vs)) w:=by
         obtain⟨dst,op,type,pos,after,guard⟩:=o
         simp only at oe
         subst oe
         exact Dw act.eval dst (.tmp t) f vs args og type pos after guard qC Bq w
        unfold Oper.wp
        rw[hex,Oper.upon_enter]
        have cc:=J4 qp ht hlen Hc
        refine(hA M w (args.map act.eval++vs) r (B.laid.ext e) cc.1 cc.2).mono ?_
        rintro en w' ⟨M',d,v,s',rfl,hk,e',r',hv⟩
        exact ih _ _ _ _ hk (Holds.put e ht hn hd sr e' r' hv)
       ·exact hA.elim
      ·simp only [hw]
       exact skip True hB
     ·split at h1
      ·-- a slice held against nil
       rename_i neg x FX
       cases h1
       unfold jW at h
       rcases lr hg ht h with ⟨hw,hA⟩|⟨hw,hB⟩
       ·simp only [hw,if_true]
        left
        split at hA
        ·rename_i g' z rows hx
         obtain⟨b,hb,hex⟩:=Cv (w:=w) FX ht hx
         unfold Oper.wp
         rw[hex,Oper.upon_value]
         exact ih _ _ _ _ (hA b hb) (Holds.put e ht hn hd sr (Ext.refl M s w) r (.bool _))
        ·exact hA.elim
       ·simp only [hw]
        exact skip True hB
      ·-- any other operation
       have fin : ∀ ao,ai = .op o.dst g ao→(∀ d s',aY ao tm s=some (d,s')→dq P M s w (execOp act.eval o) d s')→
        (if Region.wanted o (yielded ops act.tmps)=true then o.wp P act w (wpOps P ops (rB B nt Q) l) (rB B nt Q)∨(o.asks P act w∧LetsOut (rB B nt Q))else wpOps P ops (rB B nt Q) l (act.put o.dst Go.undef) w):=by
        intro ao yE hdo
        subst yE
        unfold jW at h
        rcases lr hg ht h with ⟨hw,hA⟩|⟨hw,hB⟩
        ·simp only [hw,if_true]
         left
         split at hA
         ·rename_i d s' sK
          obtain⟨v,w',M',ew,r',hv,e'⟩:=hdo d s' sK
          unfold Oper.wp
          rcases ew with ew|⟨ew,rfl⟩
          ·rw [ew,Oper.upon_value]
           exact ih _ _ _ _ hA (Holds.put e ht hn hd sr e' r' hv)
          ·rw [ew,Oper.upon_skip]
           exact ih _ _ _ _ hA (Holds.put e ht hn hd sr e' r' hv)
         ·exact hA.elim
        ·simp only [hw]
         exact skip True hB
       split at h1
       ·rename_i z k n ps pW
        cases h1
        refine fin _ rfl (fun d s' sK=>?_)
        split at sK
        ·exact Bp pW r ht sK
        ·exact u9 pW r ht sK
       ·rename_i ao pW
        cases h1
        exact fin _ rfl (fun d s' sK=>u9 pW r ht sK)
       ·cases h1
    ·cases h1
  ·cases hc
end
end Go.Abs
namespace Go.Abs
def Turned (P:Program) (nt:Nat):AC→Code→Prop
 | .skip,c=>c = .skip
 | .run is,c=>∃ id ops,c = .region id ops false∧sY P nt ops ops.toList=some is
 | .par is ny,c=>∃ id ops,c = .region id ops true∧sY P nt ops ops.toList=some is∧P.follows .mixedOrders=true∧∃ pt,LR is (ops.toList.map oz) pt ny=true
 | .seq a b,c=>∃ x y,c = .seq x y∧cC P nt x=some a∧cC P nt y=some b
 | .cond x a b,c=>∃ o p q,c = .cond o p q∧cX o=some x∧cC P nt p=some a∧cC P nt q=some b
 | .block id a,c=>∃ x,c = .block id x∧cC P nt x=some a
 | .loop a,c=>∃ x,c = .loop x∧cC P nt x=some a
 | .exit id,c=>c = .exit id
 | .scope a,c=>∃ x,c = .scope x∧cC P nt x=some a
 | .label l,c=>c = .label l
 | .goto l,c=>c = .goto l
 | .ret,c=>c = .ret
theorem mX {P:Program} {nt:Nat} {c:Code} {ac:AC} (h:cC P nt c=some ac):Turned P nt ac c:=by
 cases c with
 |skip=>cases h;rfl
 | region id ops draw=>
  cases draw
  ·obtain⟨is,h1,rfl⟩:=map_some (x:=sY P nt ops ops.toList) (f:=AC.run) (by simpa [cC]using h)
   exact⟨id,ops,rfl,h1⟩
  ·simp only [cC]at h
   split at h
   ·rename_i hm
    obtain⟨is,h1,h2⟩:=Option.bind_eq_some_iff.1 h
    unfold aaX at h2
    split at h2
    ·rename_i hp
     cases h2
     exact⟨id,ops,rfl,h1,hm,_,hp⟩
    ·cases h2
   ·cases h
 |seq a b=>
  simp only[cC]at h
  split at h
  ·rename_i a' b' h1 h2;cases h;exact⟨a,b,rfl,h1,h2⟩
  ·cases h
 |cond x a b=>
  simp only[cC]at h
  split at h
  ·rename_i x' a' b' h1 h2 h3;cases h;exact⟨x,a,b,rfl,h1,h2,h3⟩
  ·cases h
 |block id a=>
  obtain⟨a',h1,rfl⟩:=map_some (x:=cC P nt a) (f:=AC.block id) (by simpa[cC]using h)
  exact⟨a,rfl,h1⟩
 |loop a=>
  obtain⟨a',h1,rfl⟩:=map_some (x:=cC P nt a) (f:=AC.loop) (by simpa[cC]using h)
  exact⟨a,rfl,h1⟩
 |rangeFunc f p a b=>simp[cC]at h
 |exit id=>cases h;rfl
 |scope a=>
  obtain⟨a',h1,rfl⟩:=map_some (x:=cC P nt a) (f:=AC.scope) (by simpa[cC]using h)
  exact⟨a,rfl,h1⟩
 |label l=>cases h;rfl
 |goto l=>cases h;rfl
 |ret=>cases h;rfl
 |refuse w=>simp[cC]at h
def Sem (P:Program) (B:gZ) (nt:Nat) (ac:AC) (Q:Exit→Tm→St→Prop) (tm:Tm) (s:St):Prop:=
 ∀ c,cC P nt c=some ac→∀ act w,Holds B nt tm s act w→c.wp P (rB B nt Q) act w
def lu (next:Tm→St→Prop) (Q:Exit→Tm→St→Prop):Exit→Tm→St→Prop
 | .normal,tm,s=>next tm s
 |e,tm,s=>Q e tm s
def iN (id:Nat) (Q:Exit→Tm→St→Prop):Exit→Tm→St→Prop
 | .exit i,tm,s=>if i=id then Q .normal tm s else Q (.exit i) tm s
 |e,tm,s=>Q e tm s
section
variable {P:Program} {B:gZ} {nt:Nat} {Q:Exit→Tm→St→Prop} {tm:Tm} {s:St}
theorem Sem.mono {ac:AC} {Q':Exit→Tm→St→Prop} (h:Sem P B nt ac Q tm s) (hq : ∀ e tm s,Q e tm s→Q' e tm s):Sem P B nt ac Q' tm s:=
 fun c hc act w hh=>wp_mono (h c hc act w hh) fun _ _ _ ⟨tm,s,h1,h2⟩=>⟨tm,s,hq _ _ _ h1,h2⟩
theorem Sem.skip (h:Q .normal tm s):Sem P B nt .skip Q tm s:=by
 intro c hc act w hh
 cases mX hc
 exact wp_skip ⟨tm,s,h,hh⟩
theorem Sem.label {l:Nat} (h:Q .normal tm s):Sem P B nt (.label l) Q tm s:=by
 intro c hc act w hh
 cases mX hc
 exact wp_label ⟨tm,s,h,hh⟩
theorem Sem.exit {id:Nat} (h:Q (.exit id) tm s):Sem P B nt (.exit id) Q tm s:=by
 intro c hc act w hh
 cases mX hc
 exact wp_exit ⟨tm,s,h,hh⟩
theorem Sem.goto {l:Nat} (h:Q (.goto l) tm s):Sem P B nt (.goto l) Q tm s:=by
 intro c hc act w hh
 cases mX hc
 exact wp_goto ⟨tm,s,h,hh⟩
theorem Sem.ret (h:Q .ret tm s):Sem P B nt .ret Q tm s:=by
 intro c hc act w hh
 cases mX hc
 exact wp_ret ⟨tm,s,h,hh⟩
theorem Dy (ops:Array Oper):(List.range ops.size).map (ops[·]?)=ops.toList.map some:=by
 apply List.ext_getElem?
 intro i
 by_cases h:i<ops.size
 ·simp[h]
 ·simp[h]
theorem Sem.run {is:List AI} (h:jW P is (Q .normal) tm s):Sem P B nt (.run is) Q tm s:=by
 intro c hc act w hh
 obtain⟨id,ops,rfl,hi⟩:=mX hc
 exact wp_region (Dx (Q:=Q) (List.range ops.size) ops.toList is (Dy ops) hi tm s act w h hh)
theorem Sem.seq {a b:AC} (h:Sem P B nt a (lu (Sem P B nt b Q) Q) tm s):Sem P B nt (.seq a b) Q tm s:=by
 intro c hc act w hh
 obtain⟨x,y,rfl,h1,h2⟩:=mX hc
 refine wp_seq (wp_mono (h x h1 act w hh) fun e act w hp=>?_)
 obtain⟨bK,s',hq,ll⟩:=hp
 cases e with
 |normal=>exact hq y h2 act w ll
 |exit id=>exact⟨bK,s',hq,ll⟩
 |goto l=>exact⟨bK,s',hq,ll⟩
 |ret=>exact⟨bK,s',hq,ll⟩
 |panic ch=>exact⟨bK,s',hq,ll⟩
 |outgrown=>exact⟨bK,s',hq,ll⟩
theorem Sem.cond {x:X} {a b:AC} {t:Bool} (hx:x.ev tm = .bool t) (h1:t=true→Sem P B nt a Q tm s) (h2:t=false→Sem P B nt b Q tm s):Sem P B nt (.cond x a b) Q tm s:=by
 intro c hc act w hh
 obtain⟨o,p,q,rfl,g1,g2,g3⟩:=mX hc
 have ll:=hh
 obtain⟨M,e,r,ht,hn,hd⟩:=hh
 have hv:=cv g1 ht
 rw[hx]at hv
 exact wp_cond_split hv.pE (fun h=>h1 h p g2 act w ll) (fun h=>h2 h q g3 act w ll)
theorem Sem.block {id:Nat} {a:AC} (h:Sem P B nt a (iN id Q) tm s):Sem P B nt (.block id a) Q tm s:=by
 intro c hc act w hh
 obtain⟨x,rfl,h1⟩:=mX hc
 refine wp_block (wp_mono (h x h1 act w hh) fun e act w hp=>?_)
 obtain⟨bK,s',hq,ll⟩:=hp
 cases e with
 |exit i=>
  simp only[iN]at hq
  simp only[Exit.inBlock]
  split at hq
  ·rename_i h;rw[if_pos h];exact⟨bK,s',hq,ll⟩
  ·rename_i h;rw[if_neg h];exact⟨bK,s',hq,ll⟩
 |normal=>exact⟨bK,s',hq,ll⟩
 |goto l=>exact⟨bK,s',hq,ll⟩
 |ret=>exact⟨bK,s',hq,ll⟩
 |panic ch=>exact⟨bK,s',hq,ll⟩
 |outgrown=>exact⟨bK,s',hq,ll⟩
def Br (P:Program) (c:Code) (Q:Exit→Act→World→Prop) (a:Act) (w:World):Prop:=
 ∀ (b:Frame) (k:List Item) (cs:List Frame),∃ e a' w',Q e a' w'∧Arrives P (lone (b.at a (.code c:: .inLoop c::k)) cs w) b k cs e a' w'
theorem Br.wp {c:Code} {Q:Exit→Act→World→Prop} {a:Act} {w:World} (h:Br P c Q a w):(Code.loop c).wp P Q a w:=fun b k cs=>
 let ⟨e,a',w',hq,jg⟩:=h b k cs
 ⟨e,a',w',hq, .of_steps (.one step_loop) jg⟩
theorem Br.once {c:Code} {Q:Exit→Act→World→Prop} {a:Act} {w:World} (h:c.wp P (Exit.then (Br P c Q) Q) a w):Br P c Q a w:=by
 intro b k cs
 obtain⟨e,a₁,w₁,hq,jg⟩:=h b (.inLoop c::k) cs
 cases e with
 |normal=>
  obtain⟨e₂,a₂,w₂,hq₂,Rr⟩:=hq b k cs
  exact⟨e₂,a₂,w₂,hq₂, .of_steps (Steps.trans jg (.one step_inLoop)) Rr⟩
 |exit id=>exact⟨_,a₁,w₁,hq, .pass (x:= .inLoop c) rfl (fun _ _=> .inl (by simp)) jg⟩
 |goto l=>exact⟨_,a₁,w₁,hq, .pass (x:= .inLoop c) rfl (fun _ _=> .inl (by simp)) jg⟩
 |ret=>exact⟨_,a₁,w₁,hq, .pass (x:= .inLoop c) rfl (fun _ _=> .inl (by simp)) jg⟩
 |panic ch=>exact⟨_,a₁,w₁,hq, .pass (x:= .inLoop c) rfl (fun _ _=> .inl (by simp)) jg⟩
 |outgrown=>exact⟨_,a₁,w₁,hq, .pass (x:= .inLoop c) rfl (fun _ _=> .inl (by simp)) jg⟩
def bp (P:Program) (B:gZ) (nt:Nat) (ac:AC) (Q:Exit→Tm→St→Prop) (tm:Tm) (s:St):Prop:=
 ∀ c,cC P nt c=some ac→∀ act w,Holds B nt tm s act w→Br P c (rB B nt Q) act w
theorem Sem.loop {a:AC} (h:bp P B nt a Q tm s):Sem P B nt (.loop a) Q tm s:=by
 intro c hc act w hh
 obtain⟨x,rfl,h1⟩:=mX hc
 exact(h x h1 act w hh).wp
theorem bp.once {a:AC} (h:Sem P B nt a (lu (bp P B nt a Q) Q) tm s):bp P B nt a Q tm s:=by
 intro c hc act w hh
 refine Br.once (wp_mono (h c hc act w hh) fun e act w hp=>?_)
 obtain⟨bK,s',hq,ll⟩:=hp
 cases e with
 |normal=>exact hq c hc act w ll
 |exit id=>exact⟨bK,s',hq,ll⟩
 |goto l=>exact⟨bK,s',hq,ll⟩
 |ret=>exact⟨bK,s',hq,ll⟩
 |panic ch=>exact⟨bK,s',hq,ll⟩
 |outgrown=>exact⟨bK,s',hq,ll⟩
def xp (P:Program) (c r:Code) (Q:Exit→Act→World→Prop) (a:Act) (w:World):Prop:=
 ∀ (b:Frame) (k:List Item) (cs:List Frame),∃ e a' w',Q e a' w'∧Arrives P (lone (b.at a (.code r:: .inScope c::k)) cs w) b k cs e a' w'
def aj4 (P:Program) (c:Code) (Q:Exit→Act→World→Prop):Exit→Act→World→Prop
 | .goto l,a,w=>∃ rest,findLabel c l=some rest∧xp P c rest Q a w
 |e,a,w=>Q e a w
theorem xp.wp {c:Code} {Q:Exit→Act→World→Prop} {a:Act} {w:World} (h:xp P c c Q a w):(Code.scope c).wp P Q a w:=fun b k cs=>
 let ⟨e,a',w',hq,jg⟩:=h b k cs
 ⟨e,a',w',hq, .of_steps (.one step_scope) jg⟩
theorem xp.once {c r:Code} {Q:Exit→Act→World→Prop} {a:Act} {w:World} (h:r.wp P (aj4 P c Q) a w):xp P c r Q a w:=by
 intro b k cs
 obtain⟨e,a₁,w₁,hq,jg⟩:=h b (.inScope c::k) cs
 cases e with
 |normal=>exact⟨.normal,a₁,w₁,hq,Steps.trans jg (.one step_inScope)⟩
 |exit id=>exact⟨.exit id,a₁,w₁,hq,fun k' hk=>jg k' (by simp[exitTo,hk])⟩
 |goto l=>
  obtain⟨rest,hf,hs⟩:=hq
  obtain⟨e₂,a₂,w₂,hq₂,Rr⟩:=hs b k cs
  exact⟨e₂,a₂,w₂,hq₂, .of_steps (jg _ (by simp[gotoIn,hf])) Rr⟩
 |ret=>exact⟨_,a₁,w₁,hq,jg⟩
 |panic ch=>exact⟨_,a₁,w₁,hq,jg⟩
 |outgrown=>exact⟨_,a₁,w₁,hq,jg⟩
def wT:AC→Nat→Option AC
 | .seq a b,l=>
  match wT a l with
  |some r=>some (.seq r b)
  |none=>wT b l
 | .label l',l=>if l'==l then some .skip else none
 |_,_=>none
theorem OQ : ∀ {c:Code} {ac:AC},cC P nt c=some ac→∀ l,(wT ac l=none→findLabel c l=none)∧∀ r,wT ac l=some r→∃ rest,findLabel c l=some rest∧cC P nt rest=some r:=by
 intro c
 induction c with
 | seq a b UU UW=>
  intro ac h l
  simp only[cC]at h
  split at h
  ·rename_i a' b' h1 h2
   cases h
   obtain⟨n1,s1⟩:=UU h1 l
   obtain⟨n2,s2⟩:=UW h2 l
   simp only[wT,findLabel]
   cases hf:wT a' l with
   |none=>
    rw[n1 hf]
    exact⟨n2,s2⟩
   |some r=>
    obtain⟨rest,g1,g2⟩:=s1 r hf
    rw[g1]
    refine⟨(by intro h;cases h),fun r' h=>?_⟩
    cases h
    exact⟨_,rfl,by simp[cC,g2,h2]⟩
  ·cases h
 |label l'=>
  intro ac h l
  cases h
  simp only[wT,findLabel]
  split
  ·exact⟨(by intro h;cases h),(by intro r h;cases h;exact⟨_,rfl,rfl⟩)⟩
  ·exact⟨fun _=>rfl,(by intro r h;cases h)⟩
 | _=>
  intro ac h l
  have:=mX h
  cases ac<;>simp only[Turned]at this<;>first
   |(exfalso;obtain⟨_,_,this⟩:=this;cases this.1;done)
   |exact⟨fun _=>rfl,(by intro r h;cases h)⟩
   |(exfalso;cases this;done)
   |(exfalso;obtain⟨_,this⟩:=this;cases this.1;done)
   |(exfalso;obtain⟨_,_,_,_,this⟩:=this;cases this.1;done)
def mY (P:Program) (B:gZ) (nt:Nat) (ac r:AC) (Q:Exit→Tm→St→Prop) (tm:Tm) (s:St):Prop:=
 ∀ c rest,cC P nt c=some ac→cC P nt rest=some r→∀ act w,Holds B nt tm s act w→xp P c rest (rB B nt Q) act w
def Bs (P:Program) (B:gZ) (nt:Nat) (ac:AC) (Q:Exit→Tm→St→Prop):Exit→Tm→St→Prop
 | .goto l,tm,s=>∃ r,wT ac l=some r∧mY P B nt ac r Q tm s
 |e,tm,s=>Q e tm s
theorem Sem.scope {a:AC} (h:mY P B nt a a Q tm s):Sem P B nt (.scope a) Q tm s:=by
 intro c hc act w hh
 obtain⟨x,rfl,h1⟩:=mX hc
 exact(h x x h1 h1 act w hh).wp
theorem mY.once {a r:AC} (h:Sem P B nt r (Bs P B nt a Q) tm s):mY P B nt a r Q tm s:=by
 intro c rest hc LA act w hh
 refine xp.once (wp_mono (h rest LA act w hh) fun e act w hp=>?_)
 obtain⟨bK,s',hq,ll⟩:=hp
 cases e with
 |normal=>exact⟨bK,s',hq,ll⟩
 |exit id=>exact⟨bK,s',hq,ll⟩
 |goto l=>
  obtain⟨r',hf,hs⟩:=hq
  obtain⟨EB,g1,g2⟩:=(OQ hc l).2 r' hf
  exact⟨EB,g1,hs c EB hc g2 act w ll⟩
 |ret=>exact⟨bK,s',hq,ll⟩
 |panic ch=>exact⟨bK,s',hq,ll⟩
 |outgrown=>exact⟨bK,s',hq,ll⟩
def Tag.fg (m:Nat):Tag→Tag
 | .tok t y=>if t<m then .tok t y else .shared
 |g=>g
mutual
def D.fg (n m:Nat):D→D
 | .ptr o off=>if o<n then .ptr o off else .junk
 | .dS row off=> .dS (D.iG n m row) off
 | .slice g z rows=> .slice (g.fg m) z (D.lL n m rows)
 | .agg cs=> .agg (D.iG n m cs)
 | .tuple ds=> .tuple (D.iG n m ds)
 | .junk=> .junk
 | .int k x=> .int k x
 | .bool b=> .bool b
 | .str l=> .str l
 | .eY=> .eY
 | .val v=> .val v
 | .gf T o=>if o<n then .gf T o else .junk
 | .ix f cs=> .ix f (D.iG n m cs)
 | .gT o=>if o<n then .gT o else .junk
 | .dK z o g len=>if o<n then .dK z o g len else .junk
 | .gh o g off=>if o<n then .gh o g off else .junk
 | .fk z=> .fk z
def D.iG (n m:Nat):List D→List D
 | []=> []
 |d::r=>D.fg n m d::D.iG n m r
def D.lL (n m:Nat):List (List D)→List (List D)
 | []=> []
 |d::r=>D.iG n m d::D.lL n m r
end
theorem mZ (n m:Nat) : ∀ l,D.iG n m l=l.map (D.fg n m)
 | []=>by simp[D.iG]
 |d::r=>by simp[D.iG,mZ n m r]
theorem UX (n m:Nat) : ∀ l,D.lL n m l=l.map (D.iG n m)
 | []=>by simp[D.lL]
 |d::r=>by simp[D.lL,UX n m r]
def St.cut (s:St) (n m:Nat):St:=⟨(s.al.take n).map (D.iG n m),s.aA.take m⟩
def Tm.fg (n m:Nat) (tm:Tm):Tm:=tm.map fun p=>(p.1,p.2.fg n m)
def Tm.keep (ks:List Nat) (tm:Tm):Tm:=tm.filter fun p=>ks.contains p.1
theorem lP (s:St) (n m:Nat):(s.cut n m).al.length=min n s.al.length:=by simp[St.cut]
theorem jN.fg {M:Map} {g:Tag} {z len cap:Nat} {base:Option (Nat×Nat)} (n m:Nat) (h:jN M s g z len base cap):jN M (s.cut n m) (g.fg m) z len base cap:=by
 cases g with
 |full=>exact h
 |shared=>exact h
 | tok t y=>
  simp only[Tag.fg]
  split
  ·rename_i ht
   obtain⟨h1,h2⟩:=h
   refine⟨by simp[St.cut];omega,fun k hk=>h2 k ?_⟩
   simpa[St.cut,List.getElem?_take_of_lt ht]using hk
  ·trivial
theorem RD.fg {M:Map} {d:D} {v:Value} (n m:Nat) (h:RD M s d v):RD M (s.cut n m) (d.fg n m) v:=by
 induction h with
 |junk v=>simp only[D.fg];exact .junk v
 |int k x=>simp only[D.fg];exact .int k x
 |bool b=>simp only[D.fg];exact .bool b
 |str l=>simp only[D.fg];exact .str l
 |eY=>simp only[D.fg];exact .eY
 |val v hv=>simp only[D.fg];exact .val v hv
 |gf T o v h ht hv=>
  simp only[D.fg]
  split
  ·exact .gf T o v (by rw[lP];omega) ht hv
  ·exact .junk _
 |gT o h hm=>
  simp only[D.fg]
  split
  ·exact .gT o (by rw[lP];omega) hm
  ·exact .junk _
 |fk z a=>simp only[D.fg];exact .fk z a
 |dK z o g len b cap A h hm ha hl=>
  simp only[D.fg]
  split
  ·exact .dK z o g len b cap A (by rw[lP];omega) hm ha hl
  ·exact .junk _
 |gh z o g off b cap A h hm ha=>
  simp only[D.fg]
  split
  ·exact .gh z o g off b cap A (by rw[lP];omega) hm ha
  ·exact .junk _
 |ix f ds vs hl _ ih=>
  simp only[D.fg,mZ]
  refine .ix f _ vs (by simpa using hl) (fun i d v e1 e2=>?_)
  simp only[List.getElem?_map,Option.map_eq_some_iff]at e1
  obtain⟨d',e1,rfl⟩:=e1
  exact ih i d' v e1 e2
 |ptr o off h hm=>
  simp only[D.fg]
  split
  ·exact .ptr o off (by rw[lP];omega) hm
  ·exact .junk _
 | dS row off b k h1 h2 ih=>
  simp only[D.fg,mZ]
  refine .dS _ off b k (fun i d e=>?_) (fun i d u e eu=>?_)
  ·simp only [List.getElem?_map,Option.map_eq_some_iff]at e
   obtain⟨d',e,rfl⟩:=e
   exact h1 i d' e
  ·simp only [List.getElem?_map,Option.map_eq_some_iff]at e
   obtain⟨d',e,rfl⟩:=e
   exact ih i d' u e eu
 |jI g z cap hc ht=>simp only[D.fg,D.lL];exact .jI _ z cap hc (ht.fg n m)
 |mS z a cap=>simp only[D.fg,D.lL,Tag.fg];exact .mS z a cap
 | slice g z rows b k cap hl hs h1 h2 ht ih=>
  simp only[D.fg,UX]
  have hlen:(rows.map (D.iG n m)).length=rows.length:=by simp
  have key:=RD.slice (M:=M) (s:=s.cut n m) (g.fg m) z (rows.map (D.iG n m)) b k cap (by rw[hlen];exact hl) (fun row hr=>by
   obtain⟨lA,h',rfl⟩:=List.mem_map.1 hr
   rw[mZ,List.length_map];exact hs lA h')
   (fun i row j d e1 e2=>by
    simp only[List.getElem?_map,Option.map_eq_some_iff]at e1
    obtain⟨lA,e1,rfl⟩:=e1
    rw[mZ]at e2
    simp only[List.getElem?_map,Option.map_eq_some_iff]at e2
    obtain⟨d',e2,rfl⟩:=e2
    exact h1 i lA j d' e1 e2)
   (fun i row j d u e1 e2 eu=>by
    simp only[List.getElem?_map,Option.map_eq_some_iff]at e1
    obtain⟨lA,e1,rfl⟩:=e1
    rw[mZ]at e2
    simp only[List.getElem?_map,Option.map_eq_some_iff]at e2
    obtain⟨d',e2,rfl⟩:=e2
    exact ih i lA j d' u e1 e2 eu)
   (by rw[hlen];exact ht.fg n m)
  rw[hlen]at key
  exact key
 |agg cells vs hl h1 _ ih=>
  simp only[D.fg,mZ]
  refine .agg _ vs (by simpa using hl) h1 (fun i d v e1 e2=>?_)
  simp only[List.getElem?_map,Option.map_eq_some_iff]at e1
  obtain⟨d',e1,rfl⟩:=e1
  exact ih i d' v e1 e2
 |tuple ds vs hl _ ih=>
  simp only[D.fg,mZ]
  refine .tuple _ vs (by simpa using hl) (fun i d v e1 e2=>?_)
  simp only[List.getElem?_map,Option.map_eq_some_iff]at e1
  obtain⟨d',e1,rfl⟩:=e1
  exact ih i d' v e1 e2
theorem I9 {t k n m:Nat} (h:(s.cut n m).aA[t]? = some (some k)):s.aA[t]? = some (some k):=by
 simp only[St.cut,List.getElem?_take]at h
 split at h
 ·exact h
 ·cases h
theorem xq {t n m:Nat} (h:(s.cut n m).live t):s.live t:=by
 obtain⟨k,hk⟩:=h
 exact⟨k,I9 hk⟩
theorem Rel.cut {M:Map} {w:World} (n m:Nat) (r:Rel M s w):Rel M (s.cut n m) w:=by
 have hD : ∀ o,o<(s.cut n m).al.length→o<s.al.length:=fun o h=>by rw[lP]at h;omega
 refine⟨r.comm,fun o ds e=>?_,fun o ho=>r.kl o (hD o ho),fun o o' h h'=>r.inj o o' (hD o h) (hD o' h'),fun t k e=>r.tok t k (I9 e),
  fun t b c z o hl e ho=>r.fO t b c z o (xq hl) e (hD o ho),fun t t' b c z c' z' h h' e e'=>r.gR t t' b c z c' z' (xq h) (xq h') e e'⟩
 simp only[St.cut,List.getElem?_map,Option.map_eq_some_iff,List.getElem?_take]at e
 obtain⟨pj,e,rfl⟩:=e
 split at e
 ·obtain⟨vs,T,h1,h2,h3,h4⟩:=r.obj o pj e
  refine⟨vs,T,h1,by rw[mZ];simpa using h2,h3,fun i d v e1 e2=>?_⟩
  rw[mZ]at e1
  simp only[List.getElem?_map,Option.map_eq_some_iff]at e1
  obtain⟨d',e1,rfl⟩:=e1
  exact(h4 i d' v e1 e2).fg n m
 ·cases e
theorem Ext.cut {M0 M:Map} {s0:St} {w0 w:World} {n m:Nat} (e:Ext M0 s0 w0 M s w) (hn:s0.al.length≤n) (hm:s0.aA.length≤m):Ext M0 s0 w0 M (s.cut n m) w:=by
 have hD : ∀ o,o<(s.cut n m).al.length→o<s.al.length:=fun o h=>by rw[lP]at h;omega
 refine⟨⟨e.le.G,by rw[lP];have:=e.le.n;omega,e.le.loc,by simp[St.cut];have:=e.le.t;omega,fun t k h1 h2=>e.le.tk t k h1 (I9 h2)⟩,e.kept,fun o h1 h2=>e.sj o h1 (hD o h2),fun t b c z h=>e.ry t b c z (xq h),e.sk,e.size,e.os,e.tape,e.output⟩
end
end Go.Abs
namespace Go.Abs
def ou:Nat→List D→Tm
 |_,[]=> []
 |n,d::r=>(n,d)::ou (n+1) r
def bh:List (Nat×Option (Bool×Nat))→Tm→St→Option (List D)
 | [],_,_=>some []
 |(t,none)::r,tm,s=>match bh r tm s with|some l=>some (tm.get t::l)|none=>none
 | (t,some (agg,size))::r,tm,s=>
  match tm.get t with
  | .ptr o off=>
   match s.al[o]? with
   |some cs=>match part cs off agg size,bh r tm s with|some d,some l=>some (d::l)|_,_=>none
   |none=>none
  |_=>none
def bk:List D→D
 | [d]=>d
 |l=> .tuple l
def aoD (B:gZ) (res:List (Nat×Option (Bool×Nat))) (Q:D→St→Prop):Exit→Tm→St→Prop
 | .normal,tm,s| .ret,tm,s=>∃ l,bh res tm s=some l∧∃ n m,B.s.al.length≤n∧B.s.aA.length≤m∧Q ((bk l).fg n m) (s.cut n m)
 |_,_,_=>False
section
variable {P:Program} {M:Map} {s:St} {w:World}
theorem J5 : ∀ (l:List D) (n t:Nat),(ou n l).get t=if n≤t then(l[t - n]?).getD .junk else .junk
 | [],n,t=>by simp[ou,Tm.get]
 | d::r,n,t=>by
  simp only[ou,Tm.get,J5 r (n+1) t]
  by_cases h:n=t
  ·subst h;simp
  ·rw [if_neg h]
   by_cases h2:n+1≤t
   ·rw[if_pos h2,if_pos (by omega),show t - n=(t - (n+1))+1 by omega];simp
   ·rw[if_neg h2,if_neg (by omega)]
def Dz (tmps:Array Value):ResultVar→Go.Sem Value
 | .tmp t=>pure (tmps.getD t Go.undef)
 | .cell a t=>do loadVar t (← asAddr (tmps.getD a Go.undef))
theorem FY (r:Rel M s w) {tm:Tm} {tmps:Array Value} (ht:nM M s tm tmps) : ∀ {rs:List ResultVar} {res:List (Nat×Option (Bool×Nat))} {l:List D},FN P rs=some res→bh res tm s=some l→
 ∃ vs:List Value,(rs.mapM (Dz tmps)).run P w = .ok vs w∧vs.length=l.length∧
  ∀ (i:Nat) (d:D) (v:Value),l[i]? = some d→vs[i]? = some v→RD M s d v
 | [],res,l,hc,hl=>by cases hc;cases hl;exact⟨[],rfl,rfl,by simp⟩
 | .tmp t::rs,res,l,hc,hl=>by
  obtain⟨aoE,h1,rfl⟩:=map_some (by simpa[FN]using hc)
  simp only[bh]at hl
  split at hl
  ·rename_i l' mU
   cases hl
   obtain⟨vs,g1,g2,g3⟩:=FY r ht h1 mU
   refine⟨tmps.getD t Go.undef::vs, ?_,by simp[g2],fun i d v e1 e2=>?_⟩
   ·rw [List.mapM_cons]
    simp only[Dz,Go.Sem.run_bind,Go.Sem.run_pure,Result.andThen_ok,g1]
   ·cases i with
    |zero=>simp only[List.getElem?_cons_zero,Option.some.injEq]at e1 e2;subst e1;subst e2;exact ht t
    |succ i=>exact g3 i d v (by simpa using e1) (by simpa using e2)
  ·cases hl
 | .cell a t::rs,res,l,hc,hl=>by
  simp only[FN]at hc
  split at hc
  ·rename_i g i aoE h1 h2 h3
   cases hc
   simp only[bh]at hl
   split at hl
   ·rename_i o off ho
    split at hl
    ·rename_i cs po
     split at hl
     ·rename_i d l' hd mU
      cases hl
      obtain⟨vs,g1,g2,g3⟩:=FY r ht h3 mU
      have hv:=ht a
      rw[ho]at hv
      have hk:=hv.Di
      obtain⟨hv,_⟩:=hv.uB
      have aj5 : ∃ v,(loadVar t ⟨M.mu o,off,none⟩).run P w = .ok v w∧RD M s d v:=by
       obtain⟨gv,T,hh,dU,⟨iM,_⟩,FV⟩:=r.obj o cs po
       replace hh:w.heap[M.mu o]? = some (.cells gv T (0,0)):=hh.cells hk
       let n:=if g then i.size else 1
       have kn:off+n≤gv.size:=by
        rcases sI hd with ⟨rfl,hq,_⟩|⟨rfl,hq⟩
        ·simp[n];omega
        ·have:=(List.getElem?_eq_some_iff.1 hq).1;simp[n];omega
       have hlen:((gv.toList.drop off).take n).length=n:=by simp;omega
       have gA : ∀ (j:Nat) (u:Value),((gv.toList.drop off).take n)[j]? = some u→gv[off+j]? = some u:=by
        intro j u h
        rw[List.getElem?_take]at h
        split at h
        ·rw[List.getElem?_drop]at h;simpa using h
        ·cases h
       refine⟨_,Bm (w:=w) P h2 h1 (M.mu o) off ((gv.toList.drop off).take n) hlen (fun j u h=>by rw[jA hh];exact gA j u h), ?_⟩
       exact s6 hd _ hlen (fun _ u hu=>iM u (Array.mem_toList_iff.1 (List.mem_of_mem_drop (List.mem_of_mem_take hu)))) (fun j d u e1 e2=>FV _ d u e1 (gA j u e2))
      obtain⟨v,hlv,hvd⟩:=aj5
      refine⟨v::vs, ?_,by simp[g2],fun i d' v' e1 e2=>?_⟩
      ·rw [List.mapM_cons]
       have iM:(Dz tmps (.cell a t)).run P w = .ok v w:=by
        simp only[Dz,Go.Sem.run_bind,hv,asAddr,Go.Sem.run_pure,Result.andThen_ok,hlv]
       simp only[Go.Sem.run_bind,iM,Result.andThen_ok,g1,Go.Sem.run_pure]
      ·cases i with
       |zero=>simp only[List.getElem?_cons_zero,Option.some.injEq]at e1 e2;subst e1;subst e2;exact hvd
       |succ i=>exact g3 i d' v' (by simpa using e1) (by simpa using e2)
     ·cases hl
    ·cases hl
   ·cases hl
  ·cases hc
theorem K9 (r:Rel M s w) {tm:Tm} {tmps:Array Value} (ht:nM M s tm tmps) {fn:Func} {res:List (Nat×Option (Bool×Nat))} {l:List D} (hc:FN P fn.results.toList=some res) (hl:bh res tm s=some l) :
 ∃ v,(results fn tmps).run P w = .ok v w∧RD M s (bk l) v:=by
 obtain⟨vs,g1,g2,g3⟩:=FY (P:=P) r ht hc hl
 have ew:(results fn tmps).run P w = .ok (if h:vs.toArray.size=1 then vs.toArray[0]else .tuple vs.toArray) w:=by
  have e:results fn tmps=(do let vs ← fn.results.mapM (Dz tmps);pure (if h:vs.size=1 then vs[0]else .tuple vs)):=by
   unfold results
   rfl
  rw[e,Array.mapM_eq_mapM_toList]
  simp only[Go.Sem.run_bind,Go.Sem.run_map,g1,Result.andThen_ok,Go.Sem.run_pure]
 refine⟨_,ew, ?_⟩
 clear ew g1 hl
 match l,vs,g2,g3 with
 | [],[],_,_=>exact .tuple [] #[] rfl (by simp)
 | [d],[v],_,g3=>exact g3 0 d v rfl rfl
 |d::d'::l,v::v'::vs,h,g3=>
  have : ¬ ((v::v'::vs).toArray.size=1):=by simp
  rw[dif_neg this]
  exact .tuple _ _ (by simpa using h.symm) (fun i d v e1 e2=>g3 i d v e1 (by simpa using e2))
def X4 (res:List (Nat×Option (Bool×Nat))) (Q:D→St→Prop):Exit→Tm→St→Prop
 | .normal,tm,s| .ret,tm,s=>∃ l,bh res tm s=some l∧Q (bk l) s
 |_,_,_=>False
theorem bW.UY {f:FuncId} {fn:Func} {af:AF} {args:List D} {Q:D→St→Prop} (hf:P.funcs[f]? = some fn) (hc:cF P fn=some af) (hl:args.length≤af.ntmps)
 (h : ∀ B:gZ,B.s=s→Sem P B af.ntmps af.body (X4 af.results Q) (ou 0 args) s):bW P f args s Q:=by
 intro M w gx r kW dU ha
 unfold cF at hc
 split at hc
 ·rename_i c EC
  split at hc
  ·rename_i b res h1 h2
   cases hc
   simp only at h hl
   refine calls_of_wp hf EC ?_
   have hs:=h ⟨M,s,w,kW,fun b o v e=>r.Dh e⟩ rfl c h1 {tmps:=gx++Array.replicate (fn.ntmps - gx.size) Go.undef,defers:= []} w
    ⟨M,Ext.refl M s w,r,fun t=>by
     rw[J5]
     simp only[Nat.zero_le,if_true,Nat.sub_zero]
     cases hd:args[t]? with
     |none=>exact .junk _
     | some d=>
      have hD:=(List.getElem?_eq_some_iff.1 hd).1
      have hv:gx[t]? = some gx[t]:=Array.getElem?_eq_getElem (by omega)
      have:(gx++Array.replicate (fn.ntmps - gx.size) Go.undef).getD t Go.undef=gx[t]:=by
       rw[Array.getD_eq_getD_getElem?,Array.getElem?_append_left (by omega),hv];rfl
      rw[this]
      exact ha t d _ hd hv,by simp;omega,rfl⟩
   refine wp_mono hs fun e act w' hp=>?_
   obtain⟨tm,s',hq,M',aoF,r',ht,_,hdf⟩:=hp
   have fin:(∃ l,bh res tm s'=some l∧Q (bk l) s')→act.defers = []∧∃ v,(results fn act.tmps).run P w' = .ok v w'∧
    ∃ M' d v' s',Ending.returned v = .returned v'∧Q d s'∧Ext M s w M' s' w'∧Rel M' s' w'∧RD M' s' d v':=by
    rintro⟨l,hl,hQ⟩
    obtain⟨v,ew,jJ⟩:=K9 (P:=P) r' ht h2 hl
    exact⟨hdf,v,ew,M',_,v,_,rfl,hQ,aoF,r',jJ⟩
   cases e with
   |normal=>exact fin hq
   |ret=>exact fin hq
   |exit id=>exact hq.elim
   |goto l=>exact hq.elim
   |panic ch=>exact hq.elim
   |outgrown=>exact hq.elim
  ·cases hc
 ·cases hc
theorem bW.intro {f:FuncId} {fn:Func} {af:AF} {args:List D} {Q:D→St→Prop} (hf:P.funcs[f]? = some fn) (hc:cF P fn=some af) (hl:args.length≤af.ntmps)
 (h : ∀ B:gZ,B.s=s→Sem P B af.ntmps af.body (aoD B af.results Q) (ou 0 args) s):bW P f args s Q:=by
 intro M w gx r kW dU ha
 refine(bW.UY (Q:=fun d s'=>∃ n m,s.al.length≤n∧s.aA.length≤m∧Q (d.fg n m) (s'.cut n m)) hf hc hl (fun B hB=>(h B hB).mono fun e tm s' hq=>?_) M w gx r kW dU ha).mono ?_
 ·subst hB
  cases e<;>exact hq
 ·rintro e w' ⟨M',d,v,s',h1,⟨n,m,hn,hm,hQ⟩,h3,h4,h5⟩
  exact⟨M',_,v,_,h1,hQ,h3.cut hn hm,h4.cut n m,h5.fg n m⟩
end
end Go.Abs
