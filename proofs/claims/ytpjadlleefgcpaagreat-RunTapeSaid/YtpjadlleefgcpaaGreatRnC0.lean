/-
  What is proved here: part 0 of the road to the claim (Globs, Abs, Lang, Rel, Sound, Sound2, Sound3, Sound4, Sound5, Sound6, Sound7, SoundM, RelA, SoundA, Sound8, Code, Flow, Call).
  No conditions.
-/
import GoSem.Core.Value
import Derived.Orders
import Derived.Calls
import Derived.Below
import Derived.Laws.AppendOwn
import Derived.Deep.AppendSrc
import Derived.Laws.StructEq
import Derived.Laws.Slices
import Derived.Laws.Strings
import Derived.Laws.IdiomStrings
import Derived.Laws.BytesString
import Derived.MapKept
import Derived.Laws.MakeOwn
import Derived.Scope

set_option linter.unusedSimpArgs false
set_option linter.unusedVariables false
namespace Go.Abs
def aaN:Nat→Option (Array Value):=fun _=>none
def pz:TypeId:=1000000
inductive Tag where
 |full
 |shared
 |tok (t:Nat) (byte:Bool:=false) -- 'byte': its row's block bears the bytes' type
inductive D where
 |junk
 |int (k:IntKind) (n:Int)
 |bool (b:Bool)
 |str (s:List UInt8)
 |dR
 |ptr (o off:Nat)
 |dA (row:List D) (off:Nat)
 |slice (g:Tag) (size:Nat) (rows:List (List D))
 |agg (cells:List D)
 |tuple (vs:List D)
 |val (v:Value)
 |fq (T:TypeId) (o:Nat)
 |gd (f:Nat) (nN:List D) -- a function value with what it captured
 |fP (o:Nat) -- a map, kept as an object: keys and values by turns
 |eB (z o g len:Nat) -- a slice from an array's beginning: the object, its generation
 |fu (o g off:Nat) -- a pointer into an array
 |ew (z:Nat) -- an empty slice without room: what is laid behind it becomes an array
instance:Inhabited D:=⟨.junk⟩
inductive Ob where
 |any
 |ty (T:TypeId)
 |map
 |arr (z:Nat) (A:Nat→Option (Nat×Nat))
def Ob.plain:Ob→Prop
 | .any=>True
 | .ty _=>True
 |_=>False
inductive uJ:Nat×Ob→Nat×Ob→Prop where
 |refl (x:Nat×Ob):uJ x x
 |arr (b b' z:Nat) (A A':Nat→Option (Nat×Nat)) (h : ∀ g x,A g=some x→A' g=some x):uJ (b, .arr z A) (b', .arr z A')
theorem uJ.trans {x y z:Nat×Ob} (h:uJ x y) (k:uJ y z):uJ x z:=by
 cases h with
 |refl=>exact k
 |arr b b' z A A' h=>
  cases k with
  |refl=>exact .arr b b' z A A' h
  |arr _ b'' _ _ A'' h'=>exact .arr b b'' z A A'' fun g x e=>h' g x (h g x e)
structure Map where
 G:Nat→Nat→Option Value
 loc:Nat→Nat×Ob
 be:Nat→Option (Nat×Nat×Nat)
def Map.mu (M:Map) (o:Nat):Nat:=(M.loc o).1
def Ob.ty? : Ob→Option TypeId
 | .ty T=>some T
 |_=>none
def Map.ob (M:Map) (o:Nat):Ob:=(M.loc o).2
def Map.ty (M:Map) (o:Nat):Option TypeId:=(M.loc o).2.ty?
structure St where
 ah:List (List D)
 aw:List (Option Nat)
def zs (z:Nat):Nat:=if z=0 then 1 else z
def bz (byte:Bool) (size:Nat):Nat:=match byte with|true=>0|false=>size
def iP (M:Map) (s:St) (g:Tag) (size len:Nat) (base:Option (Nat×Nat)) (cap:Nat):Prop:=
 match g with
 | .full=>cap=len
 | .shared=>True
 | .tok t y=>t<s.aw.length∧∀ n,s.aw[t]? = some (some n)→len≤n∧
  (len=n→(M.be t=none∧cap=0∧(y=true→base=none))∨∃ b,base=some (b,0)∧M.be t=some (b,cap,bz y size))
inductive RD (M:Map) (s:St):D→Value→Prop where
 |junk (v:Value):RD M s .junk v
 |int (k:IntKind) (n:Int):RD M s (.int k n) (.int k n)
 |bool (b:Bool):RD M s (.bool b) (.bool b)
 |str (l:List UInt8):RD M s (.str l) (.string ⟨⟨l⟩⟩)
 |dR:RD M s .dR (.pointer none)
 |ptr (o off:Nat) (h:o<s.ah.length) (hm:(M.ob o).plain):RD M s (.ptr o off) (.pointer (some ⟨M.mu o,off,none⟩))
 |dA (row:List D) (off b k:Nat) (h1 : ∀ (i:Nat) (d:D),row[i]? = some d→∃ u,M.G b (k+i)=some u)
  (h2 : ∀ (i:Nat) (d:D) (u:Value),row[i]? = some d→M.G b (k+i)=some u→RD M s d u) :
  RD M s (.dA row off) (.pointer (some ⟨b,k+off,none⟩))
 |iA (g:Tag) (size cap:Nat) (hc:cap=0) (ht:iP M s g size 0 none cap):RD M s (.slice g size []) (.slice none 0 cap)
 |lC (size:Nat) (a:Addr) (cap:Nat):RD M s (.slice .shared size []) (.slice (some a) 0 cap)
 |slice (g:Tag) (size:Nat) (rows:List (List D)) (b k cap:Nat) (hl:rows.length≤cap)
  (hs : ∀ row∈rows,row.length=size)
  (h1 : ∀ (i:Nat) (row:List D) (j:Nat) (d:D),rows[i]? = some row→row[j]? = some d→∃ u,M.G b (k+(i*size+j))=some u)
  (h2 : ∀ (i:Nat) (row:List D) (j:Nat) (d:D) (u:Value),rows[i]? = some row→row[j]? = some d→M.G b (k+(i*size+j))=some u→RD M s d u)
  (ht:iP M s g size rows.length (some (b,k)) cap) :
  RD M s (.slice g size rows) (.slice (some ⟨b,k,none⟩) rows.length cap)
 |agg (cells:List D) (vs:Array Value) (hl:cells.length=vs.size) (h1 : ∀ v∈vs,v.oneCell'=true)
  (h : ∀ (i:Nat) (d:D) (v:Value),cells[i]? = some d→vs[i]? = some v→RD M s d v):RD M s (.agg cells) (.agg vs)
 |tuple (ds:List D) (vs:Array Value) (hl:ds.length=vs.size)
  (h : ∀ (i:Nat) (d:D) (v:Value),ds[i]? = some d→vs[i]? = some v→RD M s d v):RD M s (.tuple ds) (.tuple vs)
 |val (v:Value) (h:v.oneCell'=true):RD M s (.val v) v
 |fq (T:TypeId) (o:Nat) (v:Value) (h:o<s.ah.length) (ht:M.ty o=some T) (hv:v = .pointer none∨v = .pointer (some ⟨M.mu o,0,none⟩)):RD M s (.fq T o) v
 |gd (f:Nat) (ds:List D) (vs:Array Value) (hl:ds.length=vs.size)
  (h : ∀ (i:Nat) (d:D) (v:Value),ds[i]? = some d→vs[i]? = some v→RD M s d v):RD M s (.gd f ds) (.func (.func f) #[] vs)
 |fP (o:Nat) (h:o<s.ah.length) (hm:M.ob o = .map):RD M s (.fP o) (.map (some (M.mu o)))
 |eB (z o g len b cap:Nat) (A:Nat→Option (Nat×Nat)) (h:o<s.ah.length) (hm:M.ob o = .arr z A) (ha:A g=some (b,cap)) (hl:len≤cap):RD M s (.eB z o g len) (.slice (some ⟨b,0,none⟩) len cap)
 |fu (z o g off b cap:Nat) (A:Nat→Option (Nat×Nat)) (h:o<s.ah.length) (hm:M.ob o = .arr z A) (ha:A g=some (b,cap)):RD M s (.fu o g off) (.pointer (some ⟨b,off,none⟩))
 |ew (z:Nat) (a:Option Addr):RD M s (.ew z) (.slice a 0 0)
structure Le (M:Map) (s:St) (M':Map) (s':St):Prop where
 G : ∀ b o v,M.G b o=some v→M'.G b o=some v
 n:s.ah.length≤s'.ah.length
 loc : ∀ o,o<s.ah.length→uJ (M.loc o) (M'.loc o)
 t:s.aw.length≤s'.aw.length
 tk : ∀ t n',t<s.aw.length→s'.aw[t]? = some (some n')→∃ n,s.aw[t]? = some (some n)∧n≤n'∧(n'=n→M'.be t=M.be t)
theorem Le.same {M:Map} {s:St} {M':Map} {s':St} (h:Le M s M' s') {o:Nat} (ho:o<s.ah.length) (hk : ∀ z A,M.ob o≠ .arr z A):M'.loc o=M.loc o:=by
 have:=h.loc o ho
 have uv : ∀ z A,(M.loc o).2≠ .arr z A:=hk
 generalize M.loc o=x at *
 generalize M'.loc o=y at *
 cases this with
 |refl=>rfl
 |arr b b' z A A' h=>exact(uv z A rfl).elim
theorem Ob.Gj {x:Ob} (h:x.plain) : ∀ z A,x≠ .arr z A:=fun z A e=>by subst e;exact h
theorem Le.mu {M:Map} {s:St} {M':Map} {s':St} (h:Le M s M' s') {o:Nat} (ho:o<s.ah.length) (hk : ∀ z A,M.ob o≠ .arr z A):M'.mu o=M.mu o:=congrArg Prod.fst (h.same ho hk)
theorem Le.ob {M:Map} {s:St} {M':Map} {s':St} (h:Le M s M' s') {o:Nat} (ho:o<s.ah.length) (hk : ∀ z A,M.ob o≠ .arr z A):M'.ob o=M.ob o:=congrArg Prod.snd (h.same ho hk)
theorem uJ.ty {x y:Nat×Ob} (h:uJ x y):y.2.ty? = x.2.ty? :=by cases h<;>rfl
theorem Le.ty {M:Map} {s:St} {M':Map} {s':St} (h:Le M s M' s') : ∀ o,o<s.ah.length→M'.ty o=M.ty o:=fun o ho=>(h.loc o ho).ty
theorem Le.arr {M:Map} {s:St} {M':Map} {s':St} (h:Le M s M' s') {o z:Nat} {A:Nat→Option (Nat×Nat)} (ho:o<s.ah.length) (hm:M.ob o = .arr z A) : ∃ A',M'.ob o = .arr z A'∧∀ g x,A g=some x→A' g=some x:=by
 have:=h.loc o ho
 have Ad:(M.loc o).2 = .arr z A:=hm
 show ∃ A',(M'.loc o).2=_∧_
 generalize M.loc o=x at *
 generalize M'.loc o=y at *
 cases this with
 |refl=>exact⟨A,Ad,fun _ _ h=>h⟩
 |arr b b' z A A' h=>cases Ad;exact⟨A',rfl,h⟩
theorem Le.refl (M:Map) (s:St):Le M s M s:=⟨fun _ _ _ h=>h,Nat.le_refl _,fun _ _=> .refl _,Nat.le_refl _,fun _ n _ h=>⟨n,h,Nat.le_refl _,fun _=>rfl⟩⟩
theorem Le.trans {M M' LB:Map} {s s' P9:St} (h:Le M s M' s') (k:Le M' s' LB P9):Le M s LB P9:=
 ⟨fun b o v e=>k.G b o v (h.G b o v e),Nat.le_trans h.n k.n,fun o ho=>(h.loc o ho).trans (k.loc o (Nat.lt_of_lt_of_le ho h.n)),Nat.le_trans h.t k.t,
  fun t n'' ht e=>by
   obtain⟨n',e',l,b⟩:=k.tk t n'' (Nat.lt_of_lt_of_le ht h.t) e
   obtain⟨n,LC,l',b'⟩:=h.tk t n' ht e'
   refine⟨n,LC,Nat.le_trans l' l,fun eq=>?_⟩
   have h1:n'=n:=by omega
   have h2:n''=n':=by omega
   rw[b h2,b' h1]⟩
theorem iP.mono {M M':Map} {s s':St} (h:Le M s M' s') {g:Tag} {size len cap:Nat} {base:Option (Nat×Nat)} (ht:iP M s g size len base cap) :
 iP M' s' g size len base cap:=by
 cases g with
 |full=>exact ht
 |shared=>trivial
 |tok t y=>
  obtain⟨hD,ht⟩:=ht
  refine⟨Nat.lt_of_lt_of_le hD h.t,fun n' e'=>?_⟩
  obtain⟨n,e,l,b⟩:=h.tk t n' hD e'
  obtain⟨l',b'⟩:=ht n e
  refine⟨Nat.le_trans l' l,fun eq=>?_⟩
  have h1:n'=n:=by omega
  have h2:len=n:=by omega
  rw[b h1]
  exact b' h2
theorem RD.mono {M M':Map} {s s':St} (h:Le M s M' s') {d:D} {v:Value} (r:RD M s d v):RD M' s' d v:=by
 induction r with
 |junk v=>exact .junk v
 |int k n=>exact .int k n
 |bool b=>exact .bool b
 |str l=>exact .str l
 |dR=>exact .dR
 |ptr o off ho hm=>rw[← h.mu ho (Ob.Gj hm)];exact .ptr o off (Nat.lt_of_lt_of_le ho h.n) (by rw[h.ob ho (Ob.Gj hm)];exact hm)
 | dA row off b k h1 h2 ih=>
  refine .dA row off b k (fun i d e=>?_) (fun i d u e eu=>?_)
  ·obtain⟨u,hu⟩:=h1 i d e;exact⟨u,h.G _ _ _ hu⟩
  ·obtain⟨u',hu⟩:=h1 i d e
   have:=h.G _ _ _ hu
   rw[eu]at this
   cases this
   exact ih i d u e hu
 |iA g size cap hc ht=>exact .iA g size cap hc (ht.mono h)
 |lC size a cap=>exact .lC size a cap
 | slice g size rows b k cap hl hs h1 h2 ht ih=>
  refine .slice g size rows b k cap hl hs (fun i row j d e e2=>?_) (fun i row j d u e e2 eu=>?_) (ht.mono h)
  ·obtain⟨u,hu⟩:=h1 i row j d e e2;exact⟨u,h.G _ _ _ hu⟩
  ·obtain⟨u',hu⟩:=h1 i row j d e e2
   have:=h.G _ _ _ hu
   rw[eu]at this
   cases this
   exact ih i row j d u e e2 hu
 |agg cells vs hl h1 _ ih=>exact .agg cells vs hl h1 ih
 |tuple ds vs hl _ ih=>exact .tuple ds vs hl ih
 |val v hv=>exact .val v hv
 |fq T o v ho ht hv=>exact .fq T o v (Nat.lt_of_lt_of_le ho h.n) (by rw[h.ty o ho];exact ht) (by rw[h.mu ho (fun z A e=>by rw[Map.ty,show(M.loc o).2=_ from e]at ht;cases ht)];exact hv)
 |gd f ds vs hl _ ih=>exact .gd f ds vs hl ih
 |fP o ho hm=>
  have hk : ∀ z A,M.ob o≠ .arr z A:=fun z A e=>by rw[hm]at e;cases e
  rw[← h.mu ho hk];exact .fP o (Nat.lt_of_lt_of_le ho h.n) (by rw[h.ob ho hk];exact hm)
 |eB z o g len b cap A ho hm ha hl=>
  obtain⟨A',h1,h2⟩:=h.arr ho hm
  exact .eB z o g len b cap A' (Nat.lt_of_lt_of_le ho h.n) h1 (h2 g _ ha) hl
 |fu z o g off b cap A ho hm ha=>
  obtain⟨A',h1,h2⟩:=h.arr ho hm
  exact .fu z o g off b cap A' (Nat.lt_of_lt_of_le ho h.n) h1 (h2 g _ ha)
 |ew z a=>exact .ew z a
def St.live (s:St) (t:Nat):Prop:=∃ n,s.aw[t]? = some (some n)
def gH:List MapEntry→List Value
 | []=> []
 |e::l=>e.key::e.val::gH l
def iE (hp:Array Obj) (l:Nat×Ob) (vs:Array Value) (T:TypeId):Prop:=
 match l.2 with
 | .map=>∃ es ck,hp[l.1]? = some (.map es ck)∧vs.toList=gH es.toList
 | .arr z A=>∃ (us:Array Value) (g n cap:Nat),hp[l.1]? = some (.cells us T (0,0))∧A g=some (l.1,cap)∧(∀ g',g<g'→A g'=none)∧us.size=cap*z∧n≤us.size∧
  vs.toList = .int .i64 g::us.toList.take n∧∀ u∈us,u.oneCell'=true
 |_=>hp[l.1]? = some (.cells vs T (0,0))
theorem iE.cells {hp:Array Obj} {l:Nat×Ob} {vs:Array Value} {T:TypeId} (h:iE hp l vs T) (hk:l.2.plain):hp[l.1]? = some (.cells vs T (0,0)):=by
 obtain⟨b,k⟩:=l
 cases k with
 |map=>exact hk.elim
 |arr _ _=>exact hk.elim
 |any=>exact h
 |ty _=>exact h
theorem iE.of {hp:Array Obj} {l:Nat×Ob} {vs:Array Value} {T:TypeId} (h:hp[l.1]? = some (.cells vs T (0,0))) (hk:l.2.plain):iE hp l vs T:=by
 obtain⟨b,k⟩:=l
 cases k with
 |map=>exact hk.elim
 |arr _ _=>exact hk.elim
 |any=>exact h
 |ty _=>exact h
theorem iE.ME {hp:Array Obj} {l:Nat×Ob} {vs:Array Value} {T:TypeId} (h:iE hp l vs T) (hk:l.2 = .map) : ∃ es ck,hp[l.1]? = some (.map es ck)∧vs.toList=gH es.toList:=by
 unfold iE at h
 rw[hk]at h
 exact h
theorem iE.ofMap {hp:Array Obj} {l:Nat×Ob} {vs:Array Value} {T:TypeId} (hk:l.2 = .map) (h : ∃ es ck,hp[l.1]? = some (.map es ck)∧vs.toList=gH es.toList):iE hp l vs T:=by
 unfold iE
 rw[hk]
 exact h
theorem iE.some {hp:Array Obj} {l:Nat×Ob} {vs:Array Value} {T:TypeId} (h:iE hp l vs T) : ∃ o,hp[l.1]? = some o:=by
 obtain⟨b,k⟩:=l
 cases k with
 |map=>obtain⟨es,ck,h,_⟩:=h;exact⟨_,h⟩
 |arr _ _=>obtain⟨us,g,n,cap,h,_⟩:=h;exact⟨_,h⟩
 |any=>exact⟨_,h⟩
 |ty _=>exact⟨_,h⟩
theorem iE.lt {hp:Array Obj} {l:Nat×Ob} {vs:Array Value} {T:TypeId} (h:iE hp l vs T):l.1<hp.size:=by
 obtain⟨o,h⟩:=h.some
 exact(Array.getElem?_eq_some_iff.1 h).1
theorem iE.keep {hp mU:Array Obj} {l:Nat×Ob} {vs:Array Value} {T:TypeId} (h:iE hp l vs T) (e:mU[l.1]? = hp[l.1]?):iE mU l vs T:=by
 unfold iE at h ⊢
 rw[e];exact h
structure Rel (M:Map) (s:St) (w:World):Prop where
 comm : ∀ b o v,M.G b o=some v→w.cell? ⟨b,o,none⟩=some v∧v.oneCell'=true
 obj : ∀ (o:Nat) (ds:List D),s.ah[o]? = some ds→∃ (vs:Array Value) (T:TypeId),iE w.heap (M.loc o) vs T∧vs.size=ds.length∧
  ((∀ v∈vs,v.oneCell'=true)∧∀ T',M.ty o=some T'→T'=T)∧∀ (i:Nat) (d:D) (v:Value),ds[i]? = some d→vs[i]? = some v→RD M s d v
 jL : ∀ o,o<s.ah.length→∀ off,M.G (M.mu o) off=none
 inj : ∀ o o',o<s.ah.length→o'<s.ah.length→M.mu o=M.mu o'→o=o'
 tok : ∀ t n,s.aw[t]? = some (some n)→(M.be t=none∧n=0)∨∃ (b cap z:Nat) (vs:Array Value) (T:TypeId),M.be t=some (b,cap,z)∧
  w.heap[b]? = some (.cells vs T (0,0))∧vs.size=cap*zs z∧n≤cap∧(∀ off,n*zs z≤off→M.G b off=none)∧(z=0→T=pz)
 fh : ∀ t b c z o,s.live t→M.be t=some (b,c,z)→o<s.ah.length→M.mu o≠b
 fQ : ∀ t t' b c z c' z',s.live t→s.live t'→M.be t=some (b,c,z)→M.be t'=some (b,c',z')→t=t'
structure Ext (M:Map) (s:St) (w:World) (M':Map) (s':St) (w':World):Prop where
 le:Le M s M' s'
 kept : ∀ b,b<w.heap.size→(∀ o,o<s.ah.length→M.mu o≠b)→(∀ t c z,s.live t→M.be t≠some (b,c,z))→w'.heap[b]? = w.heap[b]?
 tH : ∀ o,(s.ah.length≤o∨M'.mu o≠M.mu o)→o<s'.ah.length→w.heap.size≤M'.mu o
 qo : ∀ t b c z,s'.live t→M'.be t=some (b,c,z)→(s.live t∧∃ c' z',M.be t=some (b,c',z'))∨w.heap.size≤b
 sb : ∀ b o,M'.G b o≠M.G b o→w.heap.size≤b∨∃ t c z,s.live t∧M.be t=some (b,c,z)
 size:w.heap.size≤w'.heap.size
 os:w'.os=w.os
 tape:w'.tape=w.tape
 output:w'.output=w.output
theorem Ext.refl (M:Map) (s:St) (w:World):Ext M s w M s w:=
 ⟨Le.refl M s,fun _ _ _ _=>rfl,fun o h h'=>by rcases h with h|h;omega;exact(h rfl).elim,fun t b c z h e=> .inl ⟨h,c,z,e⟩,fun _ _ h=>(h rfl).elim,Nat.le_refl _,rfl,rfl,rfl⟩
theorem Ext.mo {M M':Map} {s s':St} {w w':World} (h:Ext M s w M' s' w') {o:Nat} (ho:o<s'.ah.length):(o<s.ah.length∧M'.mu o=M.mu o)∨w.heap.size≤M'.mu o:=by
 by_cases h1:s.ah.length≤o
 ·exact .inr (h.tH o (.inl h1) ho)
 ·by_cases h2:M'.mu o=M.mu o
  ·exact .inl ⟨by omega,h2⟩
  ·exact .inr (h.tH o (.inr h2) ho)
theorem Ext.trans {M M' LB:Map} {s s' P9:St} {w w' w'':World} (h:Ext M s w M' s' w') (k:Ext M' s' w' LB P9 w''):Ext M s w LB P9 w'':=by
 refine⟨h.le.trans k.le,fun b hb ho ht=>?_,fun o h1 h2=>?_,fun t b c z h1 e=>?_,fun b o eO=>?_,Nat.le_trans h.size k.size,
  k.os.trans h.os,k.tape.trans h.tape,k.output.trans h.output⟩
 ·rw [k.kept b (Nat.lt_of_lt_of_le hb h.size) (fun o hD e=> ?_) (fun t c z hD e=> ?_),h.kept b hb ho ht]
  ·rcases h.mo hD with ⟨h1,h2⟩ | h1
   ·exact ho o h1 (h2.symm.trans e)
   ·omega
  ·rcases h.qo t b c z hD e with ⟨h1,c',z',e'⟩ | h1
   ·exact ht t c' z' h1 e'
   ·omega
 ·rcases k.mo h2 with ⟨h3,h4⟩ | h3
  ·rw [h4]
   refine h.tH o ?_ h3
   rcases h1 with h1|h1
   ·exact .inl h1
   ·exact .inr (by rw[h4]at h1;exact h1)
  ·exact Nat.le_trans h.size h3
 ·rcases k.qo t b c z h1 e with ⟨h2,c',z',e'⟩ | h2
  ·exact h.qo t b c' z' h2 e'
  ·exact .inr (Nat.le_trans h.size h2)
 ·by_cases e:M'.G b o=M.G b o
  ·have:LB.G b o≠M'.G b o:=fun e'=>eO (e'.trans e)
   rcases k.sb b o this with h1|⟨t,c,z,h1,h2⟩
   ·exact .inl (Nat.le_trans h.size h1)
   ·rcases h.qo t b c z h1 h2 with ⟨h3,c',z',e'⟩ | h3
    ·exact .inr ⟨t,c',z',h3,e'⟩
    ·exact .inl h3
  ·exact h.sb b o e
def Laid (M:Map) (s:St) (w:World):Prop:=∀ g cs,aaN g=some cs→
 (∃ T fr,w.heap[g]? = some (.cells cs T fr))∧(∀ o,o<s.ah.length→M.mu o≠g)∧∀ t c z,s.live t→M.be t≠some (g,c,z)
theorem Laid.ext {M M':Map} {s s':St} {w w':World} (h:Laid M s w) (e:Ext M s w M' s' w'):Laid M' s' w':=by
 intro g cs hg
 obtain⟨⟨T,fr,h1⟩,h2,h3⟩:=h g cs hg
 have hD:g<w.heap.size:=(Array.getElem?_eq_some_iff.1 h1).1
 refine⟨⟨T,fr,by rw[e.kept g hD h2 h3];exact h1⟩,fun o ho=>?_,fun t c z hl hb=>?_⟩
 ·rcases e.mo ho with ⟨h4,h5⟩ | h4
  ·rw[h5];exact h2 o h4
  ·omega
 ·rcases e.qo t g c z hl hb with ⟨h4,c',z',h5⟩ | h4
  ·exact h3 t c' z' h4 h5
  ·omega
abbrev Tm:=List (Nat×D)
def Tm.get:Tm→Nat→D
 | [],_=> .junk
 |(k,d)::r,t=>if k=t then d else Tm.get r t
def Tm.set:Tm→Nat→D→Tm
 | [],t,d=> [(t,d)]
 |(k,e)::r,t,d=>if k=t then(k,d)::r else(k,e)::Tm.set r t d
def Tm.put (tm:Tm) (dst:Option Nat) (d:D):Tm:=
 match dst with
 |some t=>tm.set t d
 |none=>tm
inductive X where
 |s (t:Nat)
 |k (d:D)
def X.ev (tm:Tm):X→D
 | .s t=>tm.get t
 | .k d=>d
inductive FO where
 |ofInt (k:FloatKind)
 |toInt (k:IntKind)
 |Ii
 |real
 |imag
 |eq
 |Ij
 |Qa
inductive AO where
 |mv (x:X)
 |pick (c a b:X)
 |alloc (zero:List D)
 |box (x:X)
 |build (zero:List D) (parts:List (Nat×Nat×X))
 |du (zero:List D) (size n:Nat) (parts:List (Nat×X))
 |u9 (zero:List D) (size n:Nat) (parts:List (Nat×X))
 |AN (x:X)
 |load (x:X) (agg:Bool) (size:Nat)
 |store (p x:X) (size:Nat)
 |bW (x:X)
 |bin (op:BinOp) (x y:X)
 |Gk (neg:Bool) (x y:X)
 |eqs (neg:Bool) (ks:List Nat) (x y:X) -- the fields' kinds: 0 an integer, 1 a bool, 2 a text
 |Gl (neg:Bool) (x y:X)
 |un (op:UnOp) (x:X)
 |conv (k:IntKind) (x:X)
 |DZ (x:X)
 |xP (x:X)
 |CK (size:Nat) (x:X) (lo hi:Option X)
 |Ik (x:X) (lo hi:Option X)
 |aq (x:X) (off:Nat)
 |CM (x:X) (off:Nat) (agg:Bool) (size:Nat)
 |cf (x i:X) (size:Nat)
 |AP (x i:X)
 |ext (x:X) (i:Nat)
 |len (x:X)
 |va (x:X)
 |app (size bytes:Nat) (x y:X)
 |mm (isMax:Bool) (x y:X)
 |sV (zero:List D) (T:TypeId) -- a new object whose first cell is to hold its own address
 |AQ (x:X) (T:TypeId)
 |AR (x y:X) -- bytes behind others
 |apps (x y:X) -- a text's bytes behind others
 |uK (f:Nat) (xs:List X) -- a function value
 |uL
 |yN (m k v:X) -- a text's slice in a map
 |wh (m k:X) (zero:D)
 |AS (size bytes:Nat) (zero:List D) (l c:X) -- a new array of zeros
 |qP (o:FO) (x y:X)
inductive AI where
 |jt (dst:Option Nat) (g:Option (Nat×Bool)) (t:Nat) (xs:List X) -- what a slot holds is called
 |nil (dst:Option Nat) (g:Option (Nat×Bool)) (neg:Bool) (x:X) -- is a slice nil? (of an empty one nothing is known)
 |op (dst:Option Nat) (g:Option (Nat×Bool)) (o:AO)
 |call (dst:Option Nat) (g:Option (Nat×Bool)) (f:Nat) (xs:List X)
inductive AC where
 |skip
 |run (is:List AI)
 |par (is:List AI) (lS:List (Nat×Nat))
 |seq (a b:AC)
 |cond (x:X) (a b:AC)
 |block (id:Nat) (a:AC)
 |loop (a:AC)
 |exit (id:Nat)
 |scope (a:AC)
 |label (l:Nat)
 |goto (l:Nat)
 |ret
structure AF where
 ntmps:Nat
 results:List (Nat×Option (Bool×Nat)) -- a slot; or a slot that holds the address, whether an aggregate, how many cells
 body:AC
inductive AK where
 |pure
 |load
 |alloc
 |core
 deriving DecidableEq
def AO.kind:AO→AK
 | .alloc _=> .core
 | .box _=> .core
 | .u9 .. => .core
 | .AN _=> .core
 | .store .. => .core
 | .app .. => .core
 | .sV .. => .core
 | .AQ .. => .core
 | .AR .. => .core
 | .apps .. => .core
 | .uL=> .core
 | .yN .. => .core
 | .AS .. => .core
 | .wh .. => .load
 | .load .. => .load
 |_=> .pure
def AI.kind:AI→AK
 | .op (some _) none (.alloc _)=> .alloc
 | .op _ _ o=>o.kind
 |_=> .core
def AI.dst:AI→Option Nat
 | .op d _ _=>d
 | .call d _ _ _=>d
 | .nil d _ _ _=>d
 | .jt d _ _ _=>d
def X.reads:X→List Nat
 | .s t=> [t]
 | .k _=> []
def n8:List X→List Nat
 | []=> []
 |x::r=>x.reads++n8 r
def AT:Option X→List Nat
 |none=> []
 |some x=>x.reads
def AO.reads:AO→List Nat
 | .mv x=>x.reads
 | .pick c a b=>c.reads++(a.reads++b.reads)
 | .alloc _=> []
 | .box x=>x.reads
 | .build _ ps=>n8 (ps.map (·.2.2))
 | .du _ _ _ ps=>n8 (ps.map (·.2))
 | .u9 _ _ _ ps=>n8 (ps.map (·.2))
 | .AN x=>x.reads
 | .load x _ _=>x.reads
 | .store p x _=>p.reads++x.reads
 | .bW x=>x.reads
 | .bin _ x y=>x.reads++y.reads
 | .Gk _ x y=>x.reads++y.reads
 | .eqs _ _ x y=>x.reads++y.reads
 | .Gl _ x y=>x.reads++y.reads
 | .un _ x=>x.reads
 | .conv _ x=>x.reads
 | .DZ x=>x.reads
 | .xP x=>x.reads
 | .CK _ x lo hi=>x.reads++(AT lo++AT hi)
 | .Ik x lo hi=>x.reads++(AT lo++AT hi)
 | .aq x _=>x.reads
 | .CM x _ _ _=>x.reads
 | .cf x i _=>x.reads++i.reads
 | .AP x i=>x.reads++i.reads
 | .ext x _=>x.reads
 | .len x=>x.reads
 | .va x=>x.reads
 | .app _ _ x y=>x.reads++y.reads
 | .mm _ x y=>x.reads++y.reads
 | .sV _ _=> []
 | .AQ x _=>x.reads
 | .AR x y=>x.reads++y.reads
 | .apps x y=>x.reads++y.reads
 | .uK _ xs=>n8 xs
 | .uL=> []
 | .yN m k v=>m.reads++(k.reads++v.reads)
 | .wh m k _=>m.reads++k.reads
 | .AS _ _ _ l c=>l.reads++c.reads
 | .qP _ x y=>x.reads++y.reads
def vb:Option (Nat×Bool)→List Nat
 |none=> []
 |some (t,_)=> [t]
def AI.reads:AI→List Nat
 | .op _ g o=>vb g++o.reads
 | .call _ g _ xs=>vb g++n8 xs
 | .nil _ g _ x=>vb g++x.reads
 | .jt _ g t xs=>vb g++(t::n8 xs)
def D1 (d:Option Nat) (l:List Nat):Bool:=
 match d with
 |none=>true
 |some t=> !l.contains t
def AI.apart (a q:AI):Bool:=
 D1 a.dst q.reads && D1 q.dst a.reads && (match a.dst,q.dst with|some x,some y=>x != y|_,_=>true)
def gX (l:List (List Nat)) (i:Nat):List Nat:=l.getD i []
def ju (is:List AI) (i:Nat):AK:=
 match is[i]? with
 |some a=>a.kind
 |none=> .core
def ln (is:List AI) (i j:Nat):Bool:=
 match is[i]?,is[j]? with
 |some a,some b=>a.apart b
 |_,_=>false
def gI:AK→Bool
 | .core=>true
 | .alloc=>true
 |_=>false
def jG (is:List AI) (l:List Nat):Nat:=(l.filter fun i=>gI (ju is i)).length
def la (is:List AI) (pq:List Nat):List Nat→Bool
 | []=>true
 |a::r=>(!(ju is a == .alloc && pq.contains a) ||r.all pq.contains) && la is pq r
def oV (is:List AI) (pt:List (List Nat)) (pre:List Nat) (q b:Nat):Bool:=
 match ju is q with
 | .core=>pre.all (gX pt q).contains
 | .alloc=>pre.all fun a=>ln is a q
 | .pure=>(pre.all fun a=>(gX pt q).contains a ||ln is a q) && la is (gX pt q) pre
 | .load=>(pre.all fun a=>(gX pt q).contains a ||ln is a q) && la is (gX pt q) pre &&
  decide (jG is (pre.filter fun a=> !(gX pt q).contains a)≤b)
def uw (is:List AI) (af pt:List (List Nat)):List Nat→List (Nat×Nat)→Bool
 |_,[]=>true
 |pre,(q,b)::r=>oV is pt pre q b && !pre.contains q && ((gX af q).all fun j=>j != q && !(r.map (·.1)).contains j) && uw is af pt (q::pre) r
def xQ (af pt:List (List Nat)):Nat→Bool
 | 0=>true
 |i+1=>((gX pt i).all fun j=>(gX af i).contains j ||(gX af i).any fun k=>(gX pt k).contains j) && xQ af pt i
def Il (is:List AI) (af pt:List (List Nat)) (lS:List (Nat×Nat)):Bool:=
 xQ af pt is.length && uw is af pt [] lS && (List.range is.length).all (lS.map (·.1)).contains && lS.all (fun p=>decide (p.1<is.length)) &&
  (List.range is.length).all fun i=>(gX af i).all fun j=>decide (j<is.length)
def mV (o:Oper):List Nat:=(o.after.toList.filter (Region.binds .any)).map (·.on)
def Io:List (List Nat)→List (List Nat)→List (List Nat)
 |done,[]=>done
 |done,es::r=>Io (done++ [(es.flatMap fun k=>gX done k).foldl (fun l j=>if l.contains j then l else l++ [j]) es]) r
def Wr (is:List AI) (pt:List (List Nat)):List Nat→List Nat→List Nat→List Nat
 | [],rest,out=>out++((rest.filter fun j=>ju is j == .alloc)++rest.filter fun j=> !(ju is j == .alloc))
 |c::cs,rest,out=>
  let Tn:=rest.filter fun j=>(gX pt c).contains j
  Wr is pt cs (rest.filter fun j=> !(Tn.contains j) && j != c) (out++((Tn.filter fun j=>ju is j == .alloc)++(Tn.filter fun j=> !(ju is j == .alloc))++ [c]))
def Ws (is:List AI) (pt:List (List Nat)):List Nat→List Nat→List (Nat×Nat)
 |_,[]=> []
 |pre,q::r=>(q,if ju is q == .load then jG is (pre.filter fun a=> !(gX pt q).contains a)else 0)::Ws is pt (q::pre) r
def Qb (is:List AI) (af:List (List Nat)):List (Nat×Nat):=
 let pt:=Io [] af
 let all:=List.range is.length
 Ws is pt [] (Wr is pt (all.filter fun i=>ju is i == .core) all [])
def D.row:D→Option (List D)
 | .agg cs=>some cs
 | .junk=>none
 | .tuple _=>none
 |d=>some [d]
def part (cs:List D) (off:Nat) (agg:Bool) (size:Nat):Option D:=
 match agg with
 |true=>if off+size≤cs.length then some (.agg ((cs.drop off).take size))else none
 |false=>cs[off]?
def iz (cs:List D) (off:Nat) (r:List D):List D:=cs.take off++r++cs.drop (off+r.length)
def qQ (cells:List D):List (Nat×Nat×D)→Option (List D)
 | []=>some cells
 |(off,size,d)::rest=>
  match d.row with
  |none=>none
  |some r=>if r.length=size∧off+size≤cells.length then qQ (iz cells off r) rest else none
def fR (zero:List D):Nat→List (List D)
 | 0=> []
 |n+1=>zero::fR zero n
def jX (size:Nat) (rows:List (List D)):List (Nat×D)→Option (List (List D))
 | []=>some rows
 |(i,d)::rest=>
  match d.row with
  |none=>none
  |some r=>if r.length=size∧i<rows.length then jX size (rows.set i r) rest else none
def bytesLess:List UInt8→List UInt8→Bool:=Op.bytesLess
def bC:Nat:=1099511627776
def gf (op:BinOp) (k:IntKind) (a b:Int):Option D:=
 match op with
 | .add=>some (.int k (k.wrap (a+b)))
 | .sub=>some (.int k (k.wrap (a - b)))
 | .mul=>some (.int k (k.wrap (a*b)))
 | .quo=>if b=0 then none else some (.int k (k.wrap (a.tdiv b)))
 | .rem=>if b=0 then none else some (.int k (a.tmod b))
 | .eql=>some (.bool (a==b))
 | .neq=>some (.bool (a != b))
 | .lss=>some (.bool (decide (a<b)))
 | .leq=>some (.bool (decide (a≤b)))
 | .gtr=>some (.bool (decide (a > b)))
 | .geq=>some (.bool (decide (a≥b)))
 |_=>none
def n9 (op:BinOp) (a b:List UInt8):Option D:=
 match op with
 | .add=>if a.length+b.length≤bC then some (.str (a++b))else none
 | .eql=>some (.bool (a==b))
 | .neq=>some (.bool (!(a==b)))
 | .lss=>some (.bool (bytesLess a b))
 |_=>none
def xd (op:BinOp) (x y:D):Option D:=
 match x,y with
 | .int k a, .int k' b=>if k=k' then gf op k a b else none
 | .str a, .str b=>n9 op a b
 |_,_=>none
def mW:Nat→D→D→Option Bool
 | 0, .int k a, .int k' b=>if k=k' then some (a==b)else none
 | 1, .bool a, .bool b=>some (a==b)
 | 2, .str a, .str b=>some (a==b)
 |_,_,_=>none
def lq:List Nat→List D→List D→Option Bool
 | [],[],[]=>some true
 |k::ks,x::xs,y::ys=>
  match mW k x y with
  |none=>none
  |some true=>lq ks xs ys
  |some false=>some false
 |_,_,_=>none
def Ip (op:UnOp) (x:D):Option D:=
 match op,x with
 | .neg, .int k n=>some (.int k (k.wrap (0 - n)))
 | .not, .bool b=>some (.bool (!b))
 |_,_=>none
def Gm:List D→Option UInt8
 | [.int .u8 n]=>some (UInt8.ofNat n.toNat)
 |_=>none
def oo:List (List D)→Option (List UInt8)
 | []=>some []
 |r::rs=>
  match Gm r,oo rs with
  |some b,some bs=>some (b::bs)
  |_,_=>none
def Tag.cut (g:Tag) (whole:Bool):Tag:=
 match g with
 | .full=>if whole then .full else .shared
 |g=>g
def sW (lo:Option D):Option Int:=
 match lo with
 |none=>some 0
 |some (.int _ n)=>some n
 |_=>none
def sX (hi:Option D) (len:Nat):Option Int:=
 match hi with
 |none=>some len
 |some (.int _ n)=>some n
 |_=>none
def gY (size bytes:Nat) (x y:D) (s:St):Option (D×St):=
 match x,y with
 | .slice g z rows, .slice _ z' new=>
  if(rows = []∨z=size)∧(new = []∨z'=size)∧(rows.length+new.length)*(bytes+1)≤bC then
   match new with
   | []=>some (.slice g z rows,s)
   |_::_=>
    match g with
    | .full=>some (.slice (.tok s.aw.length) size (rows++new),{s with aw:=s.aw++ [some (rows.length+new.length)]})
    | .shared=>none
    | .tok _ true=>none
    | .tok t false=>if z=size∧s.aw[t]? = some (some rows.length)then some (.slice (.tok t) size (rows++new),{s with aw:=s.aw.set t (some (rows.length+new.length))})else none
  else none
 |_,_=>none
def AU (x y:D) (s:St):Option (D×St):=
 match x,y with
 | .slice g z rows, .slice _ z' new=>
  if(rows = []∨z=1)∧(new = []∨z'=1)∧(rows.length+new.length)*2≤bC then
   match new with
   | []=>some (.slice g z rows,s)
   |_::_=>
    match g with
    | .full=>some (.slice (.tok s.aw.length true) 1 (rows++new),{s with aw:=s.aw++ [some (rows.length+new.length)]})
    | .shared=>none
    | .tok t y=>if z=1∧s.aw[t]? = some (some rows.length)then some (.slice (.tok t y) 1 (rows++new),{s with aw:=s.aw.set t (some (rows.length+new.length))})else none
  else none
 |_,_=>none
def yO (key:List UInt8) (zero:D):List D→Option D
 | []=>some zero
 | .str k::d::r=>if k==key then some d else yO key zero r
 |_=>none
def xe (key:List UInt8) (v:D):List D→Option (List D)
 | []=>some [.str key,v]
 | .str k::d::r=>if k==key then some (.str k::v::r)else match xe key v r with|some r'=>some (.str k::d::r')|none=>none
 |_=>none
def nO (s:St) (o g:Nat):Option (List D):=
 match s.ah[o]? with
 |some (.int .i64 n::cells)=>if n=(g:Int)then some cells else none
 |_=>none
def yP (d:D) (agg:Bool) (size:Nat) (s:St):Option (D×St):=
 match d with
 | .fu o g off=>
  match nO s o g with
  |some cells=>(match part cells off agg size with|some d=>some (d,s)|none=>none)
  |none=>none
 |_=>none
def AV (d:D) (r:Option (List D)) (size:Nat) (s:St):Option (D×St):=
 match d,r with
 | .fu o g off,some r=>match nO s o g with
  |some cells=>if r.length=size∧off+size≤cells.length then some (.tuple [],{s with ah:=s.ah.set o (.int .i64 g::iz cells off r)})else none
  |none=>none
 |_,_=>none
def MF (d:D):Option D:=
 match d with
 | .fu o g off=>some (.fu o g off)
 |_=>none
def D2 (d:D) (off:Nat):Option D:=
 match d with
 | .fu o g k=>some (.fu o g (k+off))
 |_=>none
def xR (d e:D) (size:Nat):Option D:=
 match d,e with
 | .eB z o g len, .int _ n=>if 0≤n∧n<len∧z=size then some (.fu o g (n.toNat*z))else none
 |_,_=>none
def xf (d:D) (lo hi:Option D):Option D:=
 match d with
 | .eB z o g len=>
  match sW lo,sX hi len with
  |some l,some h=>if l=0∧0≤h∧h≤len then some (.eB z o g h.toNat)else none
  |_,_=>none
 | .ew z=>
  match sW lo,sX hi 0 with
  |some l,some h=>if l=0∧h=0 then some (.ew z)else none
  |_,_=>none
 |_=>none
def Ft (d:D):Option D:=
 match d with
 | .eB _ _ _ len=>some (.int .i64 len)
 | .ew _=>some (.int .i64 0)
 |_=>none
def AW (size bytes:Nat) (x y:D) (s:St):Option (D×St):=
 match x,y with
 | .eB z o g len, .slice _ z' new=>
  if z=size∧(new = []∨z'=size)∧(len+new.length)*(bytes+1)≤bC then
   match new with
   | []=>some (.eB z o g len,s)
   |_::_=>match nO s o g with
    |some cells=>if len*z≤cells.length then some (.eB z o (g+1) (len+new.length),{s with ah:=s.ah.set o (.int .i64 ((g+1:Nat):Int)::(cells.take (len*z)++new.flatten))})else none
    |none=>none
  else none
 | .ew z, .slice _ z' new=>
  if z=size∧(new = []∨z'=size)∧new.length*(bytes+1)≤bC then
   match new with
   | []=>some (.ew z,s)
   |_::_=>some (.eB z s.ah.length 0 new.length,{s with ah:=s.ah++ [.int .i64 ((0:Nat):Int)::new.flatten]})
  else none
 |_,_=>none
def To (k:FloatKind) (a b:Nat):Option Nat:=k.format.add a b
def qp (o:FO) (x y:D):Option D:=
 match o,x,y with
 | .ofInt k, .int _ n,_=>some (.val (.float k (k.nearest n)))
 | .toInt k, .val (.float s b),_=>match (s.decode b).toInt .zero with|some n=>if k.min≤n∧n≤k.max then some (.int k n)else none|none=>none
 | .Ii, .val (.float k a), .val (.float k' b)=>if k=k' then some (.val (.complex k a b))else none
 | .real, .val (.complex k a _),_=>some (.val (.float k a))
 | .imag, .val (.complex k _ b),_=>some (.val (.float k b))
 | .eq, .val (.float k a), .val (.float k' b)=>if k=k' then some (.bool (k.format.order a b==some .eq))else none
 | .Ij, .val (.complex k a b), .val (.complex k' c d)=>if k=k' then(match To k a c,To k b d with|some e,some f=>some (.val (.complex k e f))|_,_=>none)else none
 | .Qa, .val (.complex k a b), .val (.complex k' c d)=>if k=k' then some (.bool (k.format.order a c==some .eq && k.format.order b d==some .eq))else none
 |_,_,_=>none
def aJ (o:AO) (tm:Tm) (s:St):Option (D×St):=
 match o with
 | .mv x=>some (x.ev tm,s)
 | .pick c a b=>
  match c.ev tm with
  | .bool t=>some (if t then a.ev tm else b.ev tm,s)
  |_=>none
 | .alloc zero=>some (.ptr s.ah.length 0,{s with ah:=s.ah++ [zero]})
 | .box x=>
  match (x.ev tm).row with
  |some r=>some (.ptr s.ah.length 0,{s with ah:=s.ah++ [r]})
  |none=>none
 | .build zero parts=>
  match qQ zero (parts.map fun p=>(p.1,p.2.1,p.2.2.ev tm))with
  |some cs=>some (.agg cs,s)
  |none=>none
 | .du zero size n parts=>
  match jX size (fR zero n) (parts.map fun p=>(p.1,p.2.ev tm))with
  |some rows=>some (.slice .full size rows,s)
  |none=>none
 | .u9 zero size n parts=>
  match jX size (fR zero n) (parts.map fun p=>(p.1,p.2.ev tm))with
  |some rows=>some (.slice (.tok s.aw.length) size rows,{s with aw:=s.aw++ [some rows.length]})
  |none=>none
 | .AN x=>
  match x.ev tm with
  | .slice (.tok t _) z rows=>if rows≠ []∧s.aw[t]? = some (some rows.length)then some (.slice .shared z rows,{s with aw:=s.aw.set t none})else none
  |_=>none
 | .load x agg size=>
  match x.ev tm with
  | .ptr o off=>
   match s.ah[o]? with
   |some cs=>match part cs off agg size with|some d=>some (d,s)|none=>none
   |none=>none
  | .dA row off=>match part row off agg size with|some d=>some (d,s)|none=>none
  |d=>yP d agg size s
 | .store p x size=>
  match p.ev tm,(x.ev tm).row with
  | .ptr o off,some r=>
   match s.ah[o]? with
   |some cs=>if r.length=size∧off+size≤cs.length then some (.tuple [],{s with ah:=s.ah.set o (iz cs off r)})else none
   |none=>none
  |d,r=>AV d r size s
 | .bW x=>
  match x.ev tm with
  | .ptr o off=>some (.ptr o off,s)
  | .dA row off=>some (.dA row off,s)
  |d=>match MF d with|some d=>some (d,s)|none=>none
 | .bin op x y=>match xd op (x.ev tm) (y.ev tm)with|some d=>some (d,s)|none=>none
 | .Gk neg x y=>
  match x.ev tm,y.ev tm with
  | .bool a, .bool b=>some (.bool (if neg then !(a==b)else a==b),s)
  |_,_=>none
 | .eqs neg ks x y=>
  match x.ev tm,y.ev tm with
  | .agg a, .agg b=>match lq ks a b with|some e=>some (.bool (if neg then !e else e),s)|none=>none
  |_,_=>none
 | .Gl neg x y=>
  match x.ev tm,y.ev tm with
  | .dR, .dR=>some (.bool (!neg),s)
  | .ptr _ _, .dR=>some (.bool neg,s)
  | .dA _ _, .dR=>some (.bool neg,s)
  |_,_=>none
 | .un op x=>match Ip op (x.ev tm)with|some d=>some (d,s)|none=>none
 | .conv k x=>match x.ev tm with| .int _ n=>some (.int k (k.wrap n),s)|_=>none
 | .DZ x=>
  match x.ev tm with
  | .slice _ _ rows=>match oo rows with|some b=>some (.str b,s)|none=>none
  |_=>none
 | .xP x=>
  match x.ev tm with
  | .str l=>some (.slice .shared 1 (l.map fun c=> [.int .u8 c.toNat]),s)
  |_=>none
 | .CK size x lo hi=>
  match x.ev tm with
  | .slice g z rows=>
   match sW (lo.map (·.ev tm)),sX (hi.map (·.ev tm)) rows.length with
   | some l,some h=>
    if(rows = []∨z=size)∧0≤l∧l≤h∧h≤rows.length then
     some (.slice (if l=0 then g.cut (h=rows.length)else .shared) z ((rows.take h.toNat).drop l.toNat),s)else none
   |_,_=>none
  |d=>match xf d (lo.map (·.ev tm)) (hi.map (·.ev tm))with|some d=>some (d,s)|none=>none
 | .Ik x lo hi=>
  match x.ev tm with
  | .str t=>
   match sW (lo.map (·.ev tm)),sX (hi.map (·.ev tm)) t.length with
   |some l,some h=>if 0≤l∧l≤h∧h≤t.length then some (.str ((t.take h.toNat).drop l.toNat),s)else none
   |_,_=>none
  |_=>none
 | .aq x off=>
  match x.ev tm with
  | .ptr o k=>some (.ptr o (k+off),s)
  | .dA row k=>some (.dA row (k+off),s)
  |d=>match D2 d off with|some d=>some (d,s)|none=>none
 | .CM x off agg size=>
  match x.ev tm with
  | .agg cs=>match part cs off agg size with|some d=>some (d,s)|none=>none
  |_=>none
 | .cf x i size=>
  match x.ev tm,i.ev tm with
  | .slice _ z rows, .int _ n=>
   if 0≤n∧z=size then
    match rows[n.toNat]? with
    |some row=>some (.dA row 0,s)
    |none=>none
   else none
  |d,e=>match xR d e size with|some d=>some (d,s)|none=>none
 | .AP x i=>
  match x.ev tm,i.ev tm with
  | .str t, .int _ n=>
   if 0≤n then
    match t[n.toNat]? with
    |some c=>some (.int .u8 c.toNat,s)
    |none=>none
   else none
  |_,_=>none
 | .ext x i=>
  match x.ev tm with
  | .tuple ds=>match ds[i]? with|some d=>some (d,s)|none=>none
  |_=>none
 | .va x=>
  match x.ev tm with
  | .str t=>some (.int .i64 t.length,s)
  |_=>none
 | .len x=>
  match x.ev tm with
  | .slice _ _ rows=>some (.int .i64 rows.length,s)
  |d=>match Ft d with|some d=>some (d,s)|none=>none
 | .app size bytes x y=>
  match x.ev tm with
  | .slice g z rows=>gY size bytes (.slice g z rows) (y.ev tm) s
  |d=>AW size bytes d (y.ev tm) s
 | .mm isMax x y=>
  match x.ev tm,y.ev tm with
  | .int k a, .int k' b=>if k=k' then some (.int k (if isMax then(if b > a then b else a)else(if b<a then b else a)),s)else none
  |_,_=>none
 | .sV zero T=>
  match zero with
  | .dR::r=>some (.ptr s.ah.length 0,{s with ah:=s.ah++ [.fq T s.ah.length::r]})
  |_=>none
 | .AQ x T=>
  match (x.ev tm).row with
  |some (.dR::r)=>some (.ptr s.ah.length 0,{s with ah:=s.ah++ [.fq T s.ah.length::r]})
  |_=>none
 | .AR x y=>AU (x.ev tm) (y.ev tm) s
 | .apps x y=>
  match y.ev tm with
  | .str l=>AU (x.ev tm) (.slice .shared 1 (l.map fun c=> [.int .u8 c.toNat])) s
  |_=>none
 | .uK f xs=>some (.gd f (xs.map (·.ev tm)),s)
 | .uL=>some (.fP s.ah.length,{s with ah:=s.ah++ [[]]})
 | .yN m k v=>
  match m.ev tm,k.ev tm,v.ev tm with
  | .fP o, .str key, .slice g z rows=>
   match s.ah[o]? with
   |some cs=>match xe key (.slice g z rows) cs with|some jI=>some (.tuple [],{s with ah:=s.ah.set o jI})|none=>none
   |none=>none
  |_,_,_=>none
 | .wh m k zero=>
  match m.ev tm,k.ev tm with
  | .fP o, .str key=>
   match s.ah[o]? with
   |some cs=>match yO key zero cs with|some d=>some (d,s)|none=>none
   |none=>none
  |_,_=>none
 | .AS size bytes zero l c=>
  match l.ev tm,c.ev tm with
  | .int .i64 n, .int .i64 m=>if n=m∧0≤n∧n*((bytes:Int)+1)≤bC then some (.eB size s.ah.length 0 n.toNat,{s with ah:=s.ah++ [.int .i64 ((0:Nat):Int)::(fR zero n.toNat).flatten]})else none
  |_,_=>none
 | .qP o x y=>match qp o (x.ev tm) (y.ev tm)with|some d=>some (d,s)|none=>none
def Tp (b:ByteArray):List UInt8:=b.data.toList
def sc:Value→Option D
 | .int k n=>some (.int k n)
 | .bool b=>some (.bool b)
 | .string b=>some (.str (Tp b))
 | .pointer none=>some .dR
 | .slice none 0 0=>some (.slice .full 0 [])
 | .nilIface=>some (.val .nilIface)
 | .float k b=>some (.val (.float k b))
 | .complex k a b=>some (.val (.complex k a b))
 |_=>none
def nP:List Value→Option (List D)
 | []=>some []
 |v::r=>match sc v,nP r with|some d,some ds=>some (d::ds)|_,_=>none
def Dd:Value→Option D
 | .slice none 0 0=>some (.val (.slice none 0 0))
 |v=>sc v
def wi:List Value→Option (List D)
 | []=>some []
 |v::r=>match Dd v,wi r with|some d,some ds=>some (d::ds)|_,_=>none
def MG:Value→Option D
 | .agg cs=>(nP cs.toList).map .agg
 | .tuple ⟨[]⟩=>some (.tuple [])
 |v=>sc v
def cX:Operand→Option X
 | .tmp t=>some (.s t)
 | .const v=>(MG v).map .k
 | .func f=>some (.k (.gd f []))
 |_=>none
def xS:List Operand→Option (List X)
 | []=>some []
 |x::r=>match cX x,xS r with|some d,some ds=>some (d::ds)|_,_=>none
def Wt:Option Operand→Option (Option X)
 |none=>some none
 |some x=>(cX x).map some
section
variable (P:Program)
def qR (t:TypeId):Option Bool:=
 match P.underlying t with
 |some (.struct _)|some (.array _ _)=>some true
 |some _=>some false
 |none=>none
def zeroOf (t:TypeId):Option (List D):=
 match P.info? t with
 |some i=>match i.zero with|some z=>if z.cells.size=i.size then nP z.cells.toList else none|none=>none
 |none=>none
def mB (t:TypeId) (f:Nat):Option (Nat×Nat×Bool):=
 match P.underlying t with
 | some (.struct fs)=>
  match fs[f]? with
  |some fd=>match P.info? fd.type,qR P fd.type with
   |some i,some a=>if i.size=0 then none else some (fd.offset,i.size,a)
   |_,_=>none
  |none=>none
 |_=>none
def Qc (t u:TypeId):Bool:=
 match P.underlying u with
 |some (.pointer e)=>e==t
 |_=>false
def aaO (t:TypeId):Bool:=
 match P.underlying t with
 |some (.struct fs)=>
  match fs[0]? with
  |some f=>Qc P t f.type
  |none=>false
 |_=>false
def MH (t:TypeId):Bool:=
 match P.underlying t with
 |some (.struct fs)=>
  match fs[0]? with
  |some f=>Qc P t f.type ||aaO P f.type
  |none=>false
 |_=>false
def MI (self:Bool) (l:List Value):Option (List D):=if self then wi l else nP l
def yQ (t:TypeId):Option (List D):=
 match P.info? t with
 |some i=>match i.zero with|some z=>if z.cells.size=i.size then MI (MH P t) z.cells.toList else none|none=>none
 |none=>none
def AX (t:TypeId):List (Nat×Operand)→Option (List (Nat×Nat×X))
 | []=>some []
 |(i,x)::r=>match mB P t i,cX x,AX t r with
  |some (off,size,_),some x',some r'=>some ((off,size,x')::r')
  |_,_,_=>none
def Iq:List (Nat×Operand)→Option (List (Nat×X))
 | []=>some []
 |(i,x)::r=>match cX x,Iq r with
  |some x',some r'=>some ((i,x')::r')
  |_,_=>none
def lE (t:TypeId):Option Nat:=
 match P.underlying t with
 |some (.int _)=>some 0
 |some .bool=>some 1
 |some .string=>some 2
 |_=>none
def B2:Nat→List Field→Option (List Nat)
 |_,[]=>some []
 | n,f::fs=>
  if f.offset=n∧f.name≠ "_" then
   match lE P f.type,B2 (n+1) fs with
   |some k,some ks=>some (k::ks)
   |_,_=>none
  else none
def pY (t:TypeId):Option (List Nat):=
 match P.underlying t with
 |some (.struct fs)=>if P.eqGuardType P.depth t=false∧P.stoodInHeld t=false then B2 P 0 fs.toList else none
 |_=>none
def D3 (o:Oper):Option AO:=
 match o.op with
 | .move x| .assign x=>(cX x).map .mv
 | .pick c a b=>match cX c,cX a,cX b with|some c,some a,some b=>some (.pick c a b)|_,_,_=>none
 | .alloc t=>if MH P t then(yQ P t).map (.sV · t)else(zeroOf P t).map .alloc
 | .box t x=>if MH P t then(cX x).map (.AQ · t)else(cX x).map .box
 | .build t parts=>
  match P.underlying t,yQ P t,AX P t parts.toList with
  |some (.struct fs),some z,some ps=>if fs.toList.all fun f=>(P.info? f.type).isSome then some (.build z ps)else none
  |_,_,_=>none
 | .buildSlice t n parts=>
  match P.underlying t with
  |some (.slice e)=>
   match P.info? e,zeroOf P e,Iq parts.toList with
   |some i,some z,some ps=>if 0<i.size∧n*i.size≤65536 then some (.du z i.size n ps)else none
   |_,_,_=>none
  |_=>none
 | .load t x=>
  match cX x,qR P t,P.info? t with
  |some x,some a,some i=>some (.load x a i.size)
  |_,_,_=>none
 | .store t a x=>
  match cX a,cX x,P.info? t with
  |some a,some x,some i=>some (.store a x i.size)
  |_,_,_=>none
 | .nilCheck x=>(cX x).map .bW
 | .binOp op t x y _=>
  match cX x,cX y with
  |some x,some y=>
   match P.underlying t,op with
   |some (.int _),_=>some (.bin op x y)
   |some .string,_=>some (.bin op x y)
   |some .bool, .eql=>some (.Gk false x y)
   |some .bool, .neq=>some (.Gk true x y)
   |some (.pointer _), .eql=>some (.Gl false x y)
   |some (.pointer _), .neq=>some (.Gl true x y)
   |some (.struct _), .eql=>(pY P t).map (.eqs false · x y)
   |some (.struct _), .neq=>(pY P t).map (.eqs true · x y)
   |some (.float _), .eql=>some (.qP .eq x y)
   |some (.complex _), .add=>some (.qP .Ij x y)
   |some (.complex _), .eql=>some (.qP .Qa x y)
   |_,_=>none
  |_,_=>none
 | .unOp op _ x=>(cX x).map (.un op)
 | .convert src dst x=>
  match cX x,P.underlying src,P.underlying dst with
  |some x,some (.int _),some (.int k)=>some (.conv k x)
  |some x,some (.slice e),some .string=>match P.underlying e with|some (.int .u8)=>some (.DZ x)|_=>none
  |some x,some (.slice e),some (.slice _)=>match P.underlying e with|some (.int .u8)=>if src=dst then some (.AN x)else none|_=>none
  |some x,some .string,some (.slice e)=>match P.underlying e,P.info? e with|some (.int .u8),some i=>if i.size=1 then some (.xP x)else none|_,_=>none
  |some x,some (.int _),some (.float k)=>some (.qP (.ofInt k) x x)
  |some x,some (.float _),some (.int k)=>some (.qP (.toInt k) x x)
  |_,_,_=>none
 | .slice t x lo hi none=>
  match cX x,Wt lo,Wt hi,P.underlying t with
  |some x,some lo,some hi,some .string=>some (.Ik x lo hi)
  |some x,some lo,some hi,some (.slice e)=>match P.info? e with|some i=>some (.CK i.size x lo hi)|none=>none
  |_,_,_,_=>none
 | .fieldAddr t x f=>match cX x,mB P t f with|some x,some (off,_,_)=>some (.aq x off)|_,_=>none
 | .field t x f=>match cX x,mB P t f with|some x,some (off,size,a)=>some (.CM x off a size)|_,_=>none
 | .indexAddr t x i=>
  match cX x,cX i,P.underlying t with
  |some x,some i,some (.slice e)=>match P.info? e with|some j=>if 0<j.size then some (.cf x i j.size)else none|none=>none
  |_,_,_=>none
 | .index t x i=>match cX x,cX i,P.underlying t with|some x,some i,some .string=>some (.AP x i)|_,_,_=>none
 | .extract x i=>(cX x).map (.ext · i)
 | .call {callee:= .builtin .len,args,argTypes}=>
  match args.toList,argTypes.toList with
  | [x],[t]=>match P.underlying t with
   |some .string=>(cX x).map .va
   |some (.slice _)=>(cX x).map .len
   |_=>none
  |_,_=>none
 | .call {callee:= .builtin .append,args,argTypes}=>
  match args.toList,argTypes.toList with
  | [x,y],[t,u]=>match P.underlying t,P.underlying u,cX x,cX y with
   |some (.slice e),some (.slice _),some x,some y=>match P.info? e,zeroOf P e with
    |some i,some _=>if 0<i.size then some (if e=pz∧i.size=1∧i.bytes=1 then .AR x y else .app i.size i.bytes x y)else none
    |_,_=>none
   |some (.slice e),some .string,some x,some y=>match P.info? e,zeroOf P e with
    |some i,some _=>if e=pz∧i.size=1∧i.bytes=1 then some (.apps x y)else none
    |_,_=>none
   |_,_,_,_=>none
  |_,_=>none
 | .call {callee:= .builtin .max,args, ..}=>
  match args.toList with
  | [x,y]=>match cX x,cX y with|some x,some y=>some (.mm true x y)|_,_=>none
  |_=>none
 | .call {callee:= .builtin .min,args, ..}=>
  match args.toList with
  | [x,y]=>match cX x,cX y with|some x,some y=>some (.mm false x y)|_,_=>none
  |_=>none
 | .call {callee:= .builtin .complex,args, ..}=>
  match args.toList with
  | [x,y]=>match cX x,cX y with|some x,some y=>some (.qP .Ii x y)|_,_=>none
  |_=>none
 | .call {callee:= .builtin .real,args, ..}=>
  match args.toList with
  | [x]=>(cX x).map fun x=> .qP .real x x
  |_=>none
 | .call {callee:= .builtin .imag,args, ..}=>
  match args.toList with
  | [x]=>(cX x).map fun x=> .qP .imag x x
  |_=>none
 | .makeSlice t l c=>
  match cX l,cX c,P.underlying t with
  |some l,some c,some (.slice e)=>match P.info? e,zeroOf P e with
   |some i,some z=>if 0<i.size then some (.AS i.size i.bytes z l c)else none
   |_,_=>none
  |_,_,_=>none
 | .makeFunc (.func f) first captured=>if first.size=0 then(xS captured.toList).map (.uK f)else none
 | .makeMap t none=>match P.underlying t with|some (.map _ _)=>some .uL|_=>none
 | .mapUpdate t m k v=>
  match P.underlying t,cX m,cX k,cX v with
  |some (.map kt _),some m,some k,some v=>match P.underlying kt with|some .string=>some (.yN m k v)|_=>none
  |_,_,_,_=>none
 | .lookup t m k false=>
  match P.underlying t,cX m,cX k with
  |some (.map kt e),some m,some k=>
   match P.underlying kt,P.info? e with
   |some .string,some i=>match i.zero with|some z=>(sc z).map (.wh m k)|none=>none
   |_,_=>none
  |_,_,_=>none
 |_=>none
def ve (ops:Array Oper):Option (Nat×Bool)→Option (Option (Nat×Bool))
 |none=>some none
 |some (j,b)=>
  match (ops[j]?).bind (·.dst)with
  |some t=>some (some (t,b))
  |none=>none
def enters (f:FuncId):Bool:=
 match P.funcs[f]? with
 |some fn=>fn.body.isSome && !(fn.name == "runtime.NumGoroutine")
 |none=>false
def frozenIn (ops:Array Oper) (dst:Option Nat):Bool:=
 ops.toList.any fun o=>match o.op,dst with
  | .convert s d (.tmp t),some t'=>t==t' && s==d
  |_,_=>false
def Fv (o:Oper):Option (Bool×X):=
 match o.op with
 | .binOp op t x (.const (.slice none 0 0)) _=>
  match P.underlying t,op,cX x with
  |some (.slice _), .eql,some x=>some (false,x)
  |some (.slice _), .neq,some x=>some (true,x)
  |_,_,_=>none
 |_=>none
def Wu (nt:Nat) (dst:Option Nat):Bool:=
 match dst with
 |some d=>decide (d<nt)
 |none=>true
def sC (ops:Array Oper) (o:Oper) (g:Option (Nat×Bool)):Option AI:=
 match o.op with
 | .call {callee:= .value (.func f),args, ..}=>if enters P f then(xS args.toList).map (.call o.dst g f)else none
 | .call {callee:= .value (.tmp t),args, ..}=>(xS args.toList).map (.jt o.dst g t)
 | _=>
  match Fv P o with
  |some (neg,x)=>some (.nil o.dst g neg x)
  |none=>
   match D3 P o with
   |some (.du z k n ps)=>some (.op o.dst g (if frozenIn ops o.dst then .u9 z k n ps else .du z k n ps))
   |some ao=>some (.op o.dst g ao)
   |none=>none
def cI (nt:Nat) (ops:Array Oper) (o:Oper):Option AI:=
 match ve ops o.guard with
 |none=>none
 |some g=>if Wu nt o.dst=true then sC P ops o g else none
def qS (nt:Nat) (ops:Array Oper):List Oper→Option (List AI)
 | []=>some []
 |o::r=>match cI P nt ops o,qS nt ops r with|some i,some is=>some (i::is)|_,_=>none
def Wv (is:List AI) (af:List (List Nat)):Option AC:=
 if Il is af (Io [] af) (Qb is af)then some (.par is (Qb is af))else none
def cC (nt:Nat):Code→Option AC
 | .skip=>some .skip
 | .region _ ops false=>(qS P nt ops ops.toList).map .run
 | .region _ ops true=>if P.follows .mixedOrders then(qS P nt ops ops.toList).bind (Wv · (ops.toList.map mV))else none
 | .seq a b=>match cC nt a,cC nt b with|some a,some b=>some (.seq a b)|_,_=>none
 | .cond x a b=>match cX x,cC nt a,cC nt b with|some x,some a,some b=>some (.cond x a b)|_,_,_=>none
 | .block id a=>(cC nt a).map (.block id)
 | .loop a=>(cC nt a).map .loop
 | .exit id=>some (.exit id)
 | .scope a=>(cC nt a).map .scope
 | .label l=>some (.label l)
 | .goto l=>some (.goto l)
 | .ret=>some .ret
 |_=>none
def De:List ResultVar→Option (List (Nat×Option (Bool×Nat)))
 | []=>some []
 | .tmp t::r=>(De r).map ((t,none):: ·)
 | .cell a t::r=>match qR P t,P.info? t,De r with
  |some g,some i,some r'=>some ((a,some (g,i.size))::r')
  |_,_,_=>none
def cF (fn:Func):Option AF:=
 match fn.body with
 |some c=>match cC P fn.ntmps c,De P fn.results.toList with
  |some b,some r=>some ⟨fn.ntmps,r,b⟩
  |_,_=>none
 |none=>none
end
end Go.Abs
namespace Go.Abs
theorem jh {w:World} {b:Nat} {vs:Array Value} {T:TypeId} {fr:Nat×Nat} (h:w.heap[b]? = some (.cells vs T fr)) (o:Nat):w.cell? ⟨b,o,none⟩=vs[o]? :=by
 simp[World.cell?,h]
theorem ke {w:World} {b:Nat} {o:Obj} (h:w.heap[b]? = some o):b<w.heap.size:=(Array.getElem?_eq_some_iff.1 h).1
section
variable {M:Map} {s:St} {w:World}
theorem Rel.AY (r:Rel M s w) {b o:Nat} {v:Value} (h:M.G b o=some v):b<w.heap.size:=World.block_lt_of_cell? w _ (r.comm b o v h).1
theorem Rel.MJ (r:Rel M s w) {b:Nat} (h:w.heap.size≤b) (o:Nat):M.G b o=none:=by
 cases e:M.G b o with
 |none=>rfl
 |some v=>have:=r.AY e;omega
theorem Rel.qg (r:Rel M s w) {o:Nat} (h:o<s.ah.length):M.mu o<w.heap.size:=by
 obtain⟨vs,T,hh,_⟩:=r.obj o _ (List.getElem?_eq_getElem h)
 exact hh.lt
theorem Rel.sD (r:Rel M s w) {t b c z:Nat} (h:s.live t) (e:M.be t=some (b,c,z)):b<w.heap.size:=by
 obtain⟨n,hn⟩:=h
 rcases r.tok t n hn with ⟨h1,_⟩|⟨b',cap,size,vs,T,h1,h2,_⟩
 ·rw[e]at h1;cases h1
 ·rw[e]at h1;cases h1;exact ke h2
theorem Rel.of_heap (r:Rel M s w) {w':World} (h:w'.heap=w.heap):Rel M s w':=by
 refine⟨fun b o v e=>?_,fun o ds e=>?_,r.jL,r.inj,fun t n e=>?_,r.fh,r.fQ⟩
 ·obtain⟨h1,h2⟩:=r.comm b o v e
  refine⟨?_,h2⟩
  rw[← h1];simp[World.cell?,h]
 ·rw[h];exact r.obj o ds e
 ·rw[h];exact r.tok t n e
theorem Ext.of_heap {w':World} (h:w'.heap=w.heap) (h1:w'.os=w.os) (h2:w'.tape=w.tape) (h3:w'.output=w.output):Ext M s w M s w':=
 ⟨Le.refl M s,fun _ _ _ _=>by rw[h],fun o h h'=>by rcases h with h|h;omega;exact(h rfl).elim,fun t b c z h e=> .inl ⟨h,c,z,e⟩,fun _ _ h=>(h rfl).elim,by rw[h];exact Nat.le_refl _,h1,h2,h3⟩
def Map.dN (M:Map) (n b:Nat) (x:Ob:= .any):Map:= {M with loc:=fun o=>if o=n then(b,x)else M.loc o}
theorem sY (M:Map) {n:Nat} (b:Nat) (x:Ob) {o:Nat} (ho:o<n):(M.dN n b x).loc o=M.loc o:=by simp[Map.dN];omega
theorem se (s:St) (b:Nat) (ds:List D) (x:Ob:= .any):Le M s (M.dN s.ah.length b x) {s with ah:=s.ah++ [ds]}:=
 ⟨fun _ _ _ h=>h,by simp,fun o ho=>by rw[sY M b x ho];exact .refl _,Nat.le_refl _,fun t n _ h=>⟨n,h,Nat.le_refl _,fun _=>rfl⟩⟩
theorem Rel.Ir (r:Rel M s w) (ds:List D) (ob:Obj) (vs:Array Value) (T:TypeId) (x:Ob) (xT : ∀ hp:Array Obj,hp[w.heap.size]? = some ob→iE hp (w.heap.size,x) vs T) (hx : ∀ T',x.ty? = some T'→T'=T) (hl:vs.size=ds.length) (h1 : ∀ v∈vs,v.oneCell'=true)
 (h2 : ∀ (i:Nat) (d:D) (v:Value),ds[i]? = some d→vs[i]? = some v→RD (M.dN s.ah.length w.heap.size x) {s with ah:=s.ah++ [ds]} d v) :
 Rel (M.dN s.ah.length w.heap.size x) {s with ah:=s.ah++ [ds]} (w.alloc ob)∧
 Ext M s w (M.dN s.ah.length w.heap.size x) {s with ah:=s.ah++ [ds]} (w.alloc ob):=by
 have le:=se (M:=M) s w.heap.size ds x
 have jn : ∀ o,o<s.ah.length→(M.dN s.ah.length w.heap.size x).loc o=M.loc o:=fun o ho=>sY M _ x ho
 have mX : ∀ o,o<s.ah.length→(M.dN s.ah.length w.heap.size x).mu o=M.mu o:=fun o ho=>congrArg Prod.fst (jn o ho)
 have dh:(M.dN s.ah.length w.heap.size x).mu s.ah.length=w.heap.size:=by simp[Map.dN,Map.mu]
 have afc:(M.dN s.ah.length w.heap.size x).ty s.ah.length=x.ty? :=by simp[Map.dN,Map.ty]
 have afd:(M.dN s.ah.length w.heap.size x).loc s.ah.length=(w.heap.size,x):=by simp[Map.dN]
 refine⟨⟨fun b o v e=>?_,fun o nJ e=>?_,fun o ho off=>?_,fun o o' ho nK e=>?_,fun t n e=>?_,fun t b c z o hl e ho=>?_,fun t t' b c z c' z' h h' e e'=>r.fQ t t' b c z c' z' h h' e e'⟩, ?_⟩
 ·obtain⟨h3,h4⟩:=r.comm b o v e
  refine⟨?_,h4⟩
  rw[World.cell?_alloc_lt]
  ·exact h3
  ·exact r.AY e
 ·rcases Nat.lt_or_ge o s.ah.length with ho | ho
  ·rw [List.getElem?_append_left ho]at e
   obtain⟨fF,T',h3,h4,h5,h6⟩:=r.obj o nJ e
   refine⟨fF,T', ?_,h4,⟨h5.1,by rw[le.ty o ho];exact h5.2⟩,fun i d v e1 e2=>(h6 i d v e1 e2).mono le⟩
   rw[jn o ho];exact h3.keep (heap_alloc_old w _ _ h3.lt)
  ·rw [List.getElem?_append_right ho]at e
   have:o=s.ah.length:=by
    have:=(List.getElem?_eq_some_iff.1 e).1
    simp at this;omega
   subst this
   simp at e;subst e
   refine⟨vs,T, ?_,hl,⟨h1,by rw[afc];exact hx⟩,fun i d v e1 e2=>h2 i d v e1 e2⟩
   rw[afd];exact xT _ (heap_alloc_new w _)
 ·simp at ho
  rcases Nat.lt_or_ge o s.ah.length with h3|h3
  ·rw[mX o h3];exact r.jL o h3 off
  ·have:o=s.ah.length:=by omega
   subst this
   rw[dh];exact r.MJ (Nat.le_refl _) off
 ·simp at ho nK
  rcases Nat.lt_or_ge o s.ah.length with h3|h3<;>rcases Nat.lt_or_ge o' s.ah.length with h4|h4
  ·rw[mX o h3,mX o' h4]at e;exact r.inj o o' h3 h4 e
  ·have:o'=s.ah.length:=by omega
   subst this
   rw[mX o h3,dh]at e
   have:=r.qg h3;omega
  ·have:o=s.ah.length:=by omega
   subst this
   rw[mX o' h4,dh]at e
   have:=r.qg h4;omega
  ·omega
 ·rcases r.tok t n e with h3 | ⟨b,cap,size,fF,T',h3,h4,h5⟩
  ·exact .inl h3
  ·exact .inr ⟨b,cap,size,fF,T',h3,by rw[heap_alloc_old w _ _ (ke h4)];exact h4,h5⟩
 ·simp at ho
  rcases Nat.lt_or_ge o s.ah.length with h3|h3
  ·rw[mX o h3];exact r.fh t b c z o hl e h3
  ·have:o=s.ah.length:=by omega
   subst this
   rw[dh]
   have:=r.sD hl e;omega
 ·refine⟨le,fun b hb _ _=>heap_alloc_old w _ b hb,fun o h3 h4=> ?_,fun t b c z h e=> .inl ⟨h,c,z,e⟩,fun _ _ h=>(h rfl).elim,by simp,rfl,rfl,rfl⟩
  simp at h4
  rcases Nat.lt_or_ge o s.ah.length with h5|h5
  ·rcases h3 with h3 | h3
   ·omega
   ·exact(h3 (mX o h5)).elim
  have:o=s.ah.length:=by omega
  subst this
  rw[dh];exact Nat.le_refl _
theorem Rel.Is (r:Rel M s w) (ds:List D) (vs:Array Value) (T:TypeId) (x:Ob) (hk:x.plain) (hx : ∀ T',x.ty? = some T'→T'=T) (hl:vs.size=ds.length) (h1 : ∀ v∈vs,v.oneCell'=true)
 (h2 : ∀ (i:Nat) (d:D) (v:Value),ds[i]? = some d→vs[i]? = some v→RD (M.dN s.ah.length w.heap.size x) {s with ah:=s.ah++ [ds]} d v) :
 Rel (M.dN s.ah.length w.heap.size x) {s with ah:=s.ah++ [ds]} (w.alloc (.cells vs T))∧
 Ext M s w (M.dN s.ah.length w.heap.size x) {s with ah:=s.ah++ [ds]} (w.alloc (.cells vs T)):=
 r.Ir ds _ vs T x (fun hp e=>iE.of e hk) hx hl h1 h2
theorem Rel.dN (r:Rel M s w) (ds:List D) (vs:Array Value) (T:TypeId) (hl:vs.size=ds.length) (h1 : ∀ v∈vs,v.oneCell'=true)
 (h2 : ∀ (i:Nat) (d:D) (v:Value),ds[i]? = some d→vs[i]? = some v→RD M s d v) :
 Rel (M.dN s.ah.length w.heap.size) {s with ah:=s.ah++ [ds]} (w.alloc (.cells vs T))∧
 Ext M s w (M.dN s.ah.length w.heap.size) {s with ah:=s.ah++ [ds]} (w.alloc (.cells vs T)):=
 r.Is ds vs T .any trivial (fun _ h=>by cases h) hl h1 fun i d v e1 e2=>(h2 i d v e1 e2).mono (se s w.heap.size ds)
theorem qT (cs:List D) (off:Nat) (r:List D) (h:off+r.length≤cs.length) (i:Nat) :
 (iz cs off r)[i]? = if i<off then cs[i]? else if i<off+r.length then r[i - off]? else cs[i]? :=by
 unfold iz
 have hl:(cs.take off).length=off:=by simp;omega
 split
 ·rename_i h1
  rw[List.append_assoc,List.getElem?_append_left (by omega),List.getElem?_take_of_lt h1]
 ·rename_i h1
  rw[List.append_assoc,List.getElem?_append_right (by omega),hl]
  split
  ·rename_i h2
   rw[List.getElem?_append_left (by omega)]
  ·rename_i h2
   rw[List.getElem?_append_right (by omega),List.getElem?_drop]
   congr 1;omega
theorem tJ (cs:List D) (off:Nat) (r:List D) (h:off+r.length≤cs.length):(iz cs off r).length=cs.length:=by
 unfold iz;simp;omega
theorem Rel.MK (P:Program) (r:Rel M s w) {o off:Nat} {cs:List D} (he:s.ah[o]? = some cs) (hk:(M.ob o).plain) (row:List D) (us:List Value) (hu:us.length=row.length) (jo:off+row.length≤cs.length)
 (h1 : ∀ u∈us,u.oneCell'=true) (h2 : ∀ (i:Nat) (d:D) (v:Value),row[i]? = some d→us[i]? = some v→RD M s d v) :
 ∃ w',(storeCells (⟨M.mu o,off,none⟩:Addr) us).run P w = .ok () w'∧Rel M {s with ah:=s.ah.set o (iz cs off row)} w'∧Ext M s w M {s with ah:=s.ah.set o (iz cs off row)} w':=by
 obtain⟨vs,T,hh,hs,⟨gZ,Ww⟩,ib⟩:=r.obj o cs he
 replace hh:=hh.cells hk
 have ho:o<s.ah.length:=(List.getElem?_eq_some_iff.1 he).1
 have ji:=run_storeCells_at P (M.mu o) off T us 0 vs w hh (by omega) h1
 simp only[Nat.add_zero]at ji
 have le:Le M s M {s with ah:=s.ah.set o (iz cs off row)}:=
  ⟨fun _ _ _ h=>h,by simp,fun _ _=> .refl _,Nat.le_refl _,fun t n _ h=>⟨n,h,Nat.le_refl _,fun _=>rfl⟩⟩
 generalize dh:(vs.toList.take off++us++vs.toList.drop (off+us.length)).toArray=iW at ji
 have qU:iW.size=vs.size:=by rw[← dh];simp;omega
 have hY : ∀ i,iW[i]? = if i<off then vs[i]? else if i<off+row.length then us[i - off]? else vs[i]? :=by
  intro i
  rw[← dh]
  simp only[List.getElem?_toArray]
  have hl:(vs.toList.take off).length=off:=by simp;omega
  split
  ·rename_i h3
   rw[List.append_assoc,List.getElem?_append_left (by omega),List.getElem?_take_of_lt h3];simp
  ·rename_i h3
   rw[List.append_assoc,List.getElem?_append_right (by omega),hl]
   split
   ·rename_i h4
    rw[List.getElem?_append_left (by omega)]
   ·rename_i h4
    rw[List.getElem?_append_right (by omega),List.getElem?_drop]
    rw[show off+us.length+(i - off - us.length)=i by omega];simp
 have l6 : ∀ b,b≠M.mu o→(w.setRow (M.mu o) iW).heap[b]? = w.heap[b]? :=fun b hb=>setRow_other w (M.mu o) b _ hb
 refine⟨_,ji,⟨fun b q v e=>?_,fun o' ds e=>?_,fun q hq xg=>r.jL q (by simpa using hq) xg,fun q q' hq mL e=>r.inj q q' (by simpa using hq) (by simpa using mL) e,fun t n e=>?_,
  fun t b c z q hl e hq=>r.fh t b c z q hl e (by simpa using hq),fun t t' b c z c' z' h h' e e'=>r.fQ t t' b c z c' z' h h' e e'⟩, ?_⟩
 ·obtain⟨h3,h4⟩:=r.comm b q v e
  refine⟨?_,h4⟩
  have hb:b≠M.mu o:=fun eq=>by subst eq;rw[r.jL o ho q]at e;cases e
  rw[← h3]
  simp[World.cell?,l6 b hb]
 ·rw [List.getElem?_set]at e
  split at e
  ·rename_i heq
   subst heq
   simp at e
   obtain⟨_,rfl⟩:=e
   refine⟨iW,T,iE.of (l:=M.loc o) (setRow_heap w (M.mu o) vs iW T (0,0) hh) hk,by rw[qU,hs,tJ cs off row jo],⟨fun v hv=>?_,Ww⟩,fun i d v e1 e2=>?_⟩
   ·rw [← dh]at hv
    simp at hv
    rcases hv with hv|hv|hv
    ·exact gZ v (Array.mem_toList_iff.1 (List.mem_of_mem_take hv))
    ·exact h1 v hv
    ·exact gZ v (Array.mem_toList_iff.1 (List.mem_of_mem_drop hv))
   ·rw [qT cs off row jo]at e1
    rw[hY]at e2
    split at e1
    ·rename_i h3;simp only[h3,if_true]at e2;exact(ib i d v e1 e2).mono le
    ·rename_i h3
     simp only[h3,if_false]at e2
     split at e1
     ·rename_i h4;simp only[h4,if_true]at e2;exact(h2 _ d v e1 e2).mono le
     ·rename_i h4;simp only[h4,if_false]at e2;exact(ib i d v e1 e2).mono le
  ·rename_i eO
   obtain⟨fF,T',h3,h4,h5,h6⟩:=r.obj o' ds e
   have nK:o'<s.ah.length:=(List.getElem?_eq_some_iff.1 e).1
   refine⟨fF,T', ?_,h4,h5,fun i d v e1 e2=>(h6 i d v e1 e2).mono le⟩
   exact h3.keep (l6 _ (fun eq=>eO (r.inj o o' ho nK eq.symm)))
 ·rcases r.tok t n e with h3 | ⟨b,cap,size,fF,T',h3,h4,h5⟩
  ·exact .inl h3
  ·refine .inr ⟨b,cap,size,fF,T',h3, ?_,h5⟩
   rw[l6 b (fun eq=>r.fh t b cap size o ⟨n,e⟩ h3 ho eq.symm)];exact h4
 ·refine⟨le,fun b hb h3 _=>l6 b (fun eq=>h3 o ho eq.symm),fun q h3 h4=> ?_,fun t b c z h e=> .inl ⟨h,c,z,e⟩,fun _ _ h=>(h rfl).elim,by simp,rfl,rfl,rfl⟩
  simp at h4;rcases h3 with h3|h3;omega;exact(h3 rfl).elim
def Map.fI (M:Map) (b n:Nat) (vs:Array Value):Map:= {M with G:=fun b' o=>if b'=b then(if o<n then vs[o]? else none)else M.G b' o}
theorem Qd (r:Rel M s w) (n:Nat) (vs:Array Value):Le M s (M.fI w.heap.size n vs) s:=
 ⟨fun b o v h=>by
  have hb:b≠w.heap.size:=fun e=>by have:=r.AY h;omega
  simp[Map.fI,hb,h],Nat.le_refl _,fun _ _=> .refl _,Nat.le_refl _,fun t n _ h=>⟨n,h,Nat.le_refl _,fun _=>rfl⟩⟩
theorem Rel.fI (r:Rel M s w) (n:Nat) (vs:Array Value) (T:TypeId) (fr:Nat×Nat) (h1 : ∀ v∈vs,v.oneCell'=true) :
 Rel (M.fI w.heap.size n vs) s (w.alloc (.cells vs T fr))∧Ext M s w (M.fI w.heap.size n vs) s (w.alloc (.cells vs T fr)):=by
 have le:=Qd r n vs
 have hold : ∀ b,b<w.heap.size→∀ o,(M.fI w.heap.size n vs).G b o=M.G b o:=fun b hb o=>by
  have:b≠w.heap.size:=by omega
  simp[Map.fI,this]
 refine⟨⟨fun b o v e=>?_,fun o ds e=>?_,fun o ho off=>?_,r.inj,fun t k e=>?_,r.fh,r.fQ⟩, ?_⟩
 ·by_cases hb:b=w.heap.size
  ·subst hb
   simp[Map.fI]at e
   obtain⟨_,e⟩:=e
   refine⟨by rw[jh (heap_alloc_new w _)];exact e,h1 v (Array.mem_of_getElem? e)⟩
  ·simp [Map.fI,hb]at e
   obtain⟨h3,h4⟩:=r.comm b o v e
   refine⟨?_,h4⟩
   rw[World.cell?_alloc_lt]
   ·exact h3
   ·exact r.AY e
 ·obtain⟨fF,T',h3,h4,h5,h6⟩:=r.obj o ds e
  exact⟨fF,T',h3.keep (heap_alloc_old w _ _ h3.lt),h4,h5,fun i d v e1 e2=>(h6 i d v e1 e2).mono le⟩
 ·rw [hold]
  ·exact r.jL o ho off
  ·exact r.qg ho
 ·rcases r.tok t k e with h3 | ⟨b,cap,size,fF,T',h3,h4,h5,h6,h7⟩
  ·exact .inl h3
  ·exact .inr ⟨b,cap,size,fF,T',h3,by rw[heap_alloc_old w _ _ (ke h4)];exact h4,h5,h6,fun off ho=>by rw[hold b (ke h4)];exact h7.1 off ho,h7.2⟩
 ·refine⟨le,fun b hb _ _=>heap_alloc_old w _ b hb,fun o h3 h4=>by rcases h3 with h3 | h3;omega;exact(h3 rfl).elim,fun t b c z h e=> .inl ⟨h,c,z,e⟩,fun b o h=> ?_,by simp,rfl,rfl,rfl⟩
  rcases Nat.lt_or_ge b w.heap.size with hb|hb
  ·exact(h (hold b hb o)).elim
  ·exact .inl hb
def Map.e7 (M:Map) (t:Nat) (x:Option (Nat×Nat×Nat)):Map:= {M with be:=fun t'=>if t'=t then x else M.be t'}
theorem Rel.Wx (r:Rel M s w) (n b cap size:Nat) (vs:Array Value) (T:TypeId) (hb:w.heap[b]? = some (.cells vs T (0,0))) (dO:vs.size=cap*zs size) (hn:n≤cap) (hy:size=0→T=pz)
 (hG : ∀ off,n*zs size≤off→M.G b off=none) (ho : ∀ o,o<s.ah.length→M.mu o≠b) (ht : ∀ t c z,s.live t→M.be t≠some (b,c,z)) :
 Rel (M.e7 s.aw.length (some (b,cap,size))) {s with aw:=s.aw++ [some n]} w∧Le M s (M.e7 s.aw.length (some (b,cap,size))) {s with aw:=s.aw++ [some n]}:=by
 have iF : ∀ t,St.live {s with aw:=s.aw++ [some n]} t→s.live t∨t=s.aw.length:=by
  rintro t ⟨k,hk⟩
  rcases Nat.lt_or_ge t s.aw.length with h|h
  ·rw[List.getElem?_append_left h]at hk;exact .inl ⟨k,hk⟩
  ·have:=(List.getElem?_eq_some_iff.1 hk).1
   simp at this;exact .inr (by omega)
 have hD : ∀ t,s.live t→t<s.aw.length:=fun t ⟨k,hk⟩=>(List.getElem?_eq_some_iff.1 hk).1
 have hold : ∀ t,t<s.aw.length→(M.e7 s.aw.length (some (b,cap,size))).be t=M.be t:=fun t h=>by simp[Map.e7];omega
 have dh:(M.e7 s.aw.length (some (b,cap,size))).be s.aw.length=some (b,cap,size):=by simp[Map.e7]
 have le:Le M s (M.e7 s.aw.length (some (b,cap,size))) {s with aw:=s.aw++ [some n]}:=
  ⟨fun _ _ _ h=>h,Nat.le_refl _,fun _ _=> .refl _,by simp,fun t k h e=>by
   rw[List.getElem?_append_left h]at e
   exact⟨k,e,Nat.le_refl _,fun _=>hold t h⟩⟩
 refine⟨⟨r.comm,fun o ds e=>?_,r.jL,r.inj,fun t k e=>?_,fun t b' c z o hl e nK=>?_,fun t t' b' c z c' z' h h' e e'=>?_⟩,le⟩
 ·obtain⟨fF,T',h3,h4,h5,h6⟩:=r.obj o ds e
  exact⟨fF,T',h3,h4,h5,fun i d v e1 e2=>(h6 i d v e1 e2).mono le⟩
 ·rcases Nat.lt_or_ge t s.aw.length with h | h
  ·rw [List.getElem?_append_left h]at e
   rw[hold t h];exact r.tok t k e
  ·have:=(List.getElem?_eq_some_iff.1 e).1
   simp at this
   have:t=s.aw.length:=by omega
   subst this
   simp at e;subst e
   exact .inr ⟨b,cap,size,vs,T,dh,hb,dO,hn,hG,hy⟩
 ·rcases iF t hl with h | h
  ·rw[hold t (hD t h)]at e;exact r.fh t b' c z o h e nK
  ·subst h;rw[dh]at e;cases e;exact ho o nK
 ·rcases iF t h with h | h <;> rcases iF t' h' with h' | h'
  ·rw[hold t (hD t h)]at e;rw[hold t' (hD t' h')]at e';exact r.fQ t t' b' c z c' z' h h' e e'
  ·subst h';rw[dh]at e';cases e';rw[hold t (hD t h)]at e;exact(ht t c z h e).elim
  ·subst h;rw[dh]at e;cases e;rw[hold t' (hD t' h')]at e';exact(ht t' c' z' h' e').elim
  ·omega
theorem Rel.afe (r:Rel M s w) (t n n' b cap size:Nat) (vs:Array Value) (T:TypeId) (D5:s.aw[t]? = some (some n)) (hnn:n<n') (hb:w.heap[b]? = some (.cells vs T (0,0))) (dO:vs.size=cap*zs size) (hn:n'≤cap) (hy:size=0→T=pz)
 (hG : ∀ off,n'*zs size≤off→M.G b off=none) (ho : ∀ o,o<s.ah.length→M.mu o≠b) (ht : ∀ t c z,s.live t→M.be t≠some (b,c,z)) :
 Rel (M.e7 t (some (b,cap,size))) {s with aw:=s.aw.set t (some n')} w∧Le M s (M.e7 t (some (b,cap,size))) {s with aw:=s.aw.set t (some n')}:=by
 have ux:t<s.aw.length:=(List.getElem?_eq_some_iff.1 D5).1
 have iF : ∀ q,St.live {s with aw:=s.aw.set t (some n')} q→s.live q:=by
  rintro q ⟨k,hk⟩
  rw[List.getElem?_set]at hk
  split at hk
  ·rename_i h;subst h;exact⟨n,D5⟩
  ·exact⟨k,hk⟩
 have hold : ∀ q,q≠t→(M.e7 t (some (b,cap,size))).be q=M.be q:=fun q h=>by simp[Map.e7,h]
 have dh:(M.e7 t (some (b,cap,size))).be t=some (b,cap,size):=by simp[Map.e7]
 have le:Le M s (M.e7 t (some (b,cap,size))) {s with aw:=s.aw.set t (some n')}:=
  ⟨fun _ _ _ h=>h,Nat.le_refl _,fun _ _=> .refl _,by simp,fun q k h e=>by
   rw[List.getElem?_set]at e
   split at e
   ·rename_i h2;subst h2
    simp at e;subst e
    exact⟨n,D5,by omega,fun h=>by omega⟩
   ·rename_i h2
    exact⟨k,e,Nat.le_refl _,fun _=>hold q (fun h=>h2 h.symm)⟩⟩
 refine⟨⟨r.comm,fun o ds e=>?_,r.jL,r.inj,fun q k e=>?_,fun q b' c z o hl e nK=>?_,fun q q' b' c z c' z' h h' e e'=>?_⟩,le⟩
 ·obtain⟨fF,T',h3,h4,h5,h6⟩:=r.obj o ds e
  exact⟨fF,T',h3,h4,h5,fun i d v e1 e2=>(h6 i d v e1 e2).mono le⟩
 ·rw [List.getElem?_set]at e
  split at e
  ·rename_i h2;subst h2
   simp at e;subst e
   exact .inr ⟨b,cap,size,vs,T,dh,hb,dO,hn,hG,hy⟩
  ·rename_i h2
   rw[hold q (fun h=>h2 h.symm)];exact r.tok q k e
 ·by_cases h:q=t
  ·subst h;rw[dh]at e;cases e;exact ho o nK
  ·rw[hold q h]at e;exact r.fh q b' c z o (iF q hl) e nK
 ·by_cases h1:q=t <;> by_cases h2:q'=t
  ·omega
  ·subst h1;rw[dh]at e;cases e;rw[hold q' h2]at e';exact(ht q' c' z' (iF q' h') e').elim
  ·subst h2;rw[dh]at e';cases e';rw[hold q h1]at e;exact(ht q c z (iF q h) e).elim
  ·rw[hold q h1]at e;rw[hold q' h2]at e';exact r.fQ q q' b' c z c' z' (iF q h) (iF q' h') e e'
def Map.fix (M:Map) (b lo:Nat) (us:List Value):Map:=
 {M with G:=fun b' o=>if b'=b∧lo≤o∧o<lo+us.length then us[o - lo]? else M.G b' o}
theorem Rel.aff (r:Rel M s w) (t n m b cap z size:Nat) (us:List Value) (hz:zs z=size) (D5:s.aw[t]? = some (some n)) (kJ:M.be t=some (b,cap,z)) (CN:us.length=m*size) (qW:n+m≤cap) (hm:0<m)
 (h1 : ∀ u∈us,u.oneCell'=true) (vs:Array Value) (T:TypeId) (hh:w.heap[b]? = some (.cells vs T (0,0))) (dO:vs.size=cap*size) (hy:z=0→T=pz) :
 Rel (M.fix b (n*size) us) {s with aw:=s.aw.set t (some (n+m))} (w.setRow b (vs.toList.take (n*size)++us++vs.toList.drop (n*size+us.length)).toArray)∧
 Ext M s w (M.fix b (n*size) us) {s with aw:=s.aw.set t (some (n+m))} (w.setRow b (vs.toList.take (n*size)++us++vs.toList.drop (n*size+us.length)).toArray):=by
 have ux:t<s.aw.length:=(List.getElem?_eq_some_iff.1 D5).1
 have xU:s.live t:=⟨n,D5⟩
 have MM : ∀ off,n*size≤off→M.G b off=none:=by
  rcases r.tok t n D5 with ⟨h3,_⟩|⟨b',qs,yR,fF,T',h3,h4,h5,h6,h7⟩
  ·rw[kJ]at h3;cases h3
  ·rw[kJ]at h3;cases h3;rw[← hz];exact h7.1
 have jo:n*size+us.length≤vs.size:=by rw[CN,dO, ← Nat.add_mul];exact Nat.mul_le_mul_right _ qW
 have iF : ∀ q,St.live {s with aw:=s.aw.set t (some (n+m))} q→s.live q:=by
  rintro q ⟨k,hk⟩
  rw[List.getElem?_set]at hk
  split at hk
  ·rename_i h;subst h;exact xU
  ·exact⟨k,hk⟩
 generalize dh:(vs.toList.take (n*size)++us++vs.toList.drop (n*size+us.length)).toArray=iW
 have qU:iW.size=vs.size:=by rw[← dh];simp;omega
 have hY : ∀ i,iW[i]? = if i<n*size then vs[i]? else if i<n*size+us.length then us[i - n*size]? else vs[i]? :=by
  intro i
  rw[← dh]
  simp only[List.getElem?_toArray]
  have hl:(vs.toList.take (n*size)).length=n*size:=by simp;omega
  split
  ·rename_i h3
   rw[List.append_assoc,List.getElem?_append_left (by omega),List.getElem?_take_of_lt h3];simp
  ·rename_i h3
   rw[List.append_assoc,List.getElem?_append_right (by omega),hl]
   split
   ·rename_i h4
    rw[List.getElem?_append_left (by omega)]
   ·rename_i h4
    rw[List.getElem?_append_right (by omega),List.getElem?_drop]
    rw[show n*size+us.length+(i - n*size - us.length)=i by omega];simp
 have ei:(w.setRow b iW).heap[b]? = some (.cells iW T (0,0)):=setRow_heap w b vs iW T (0,0) hh
 have l6 : ∀ q,q≠b→(w.setRow b iW).heap[q]? = w.heap[q]? :=fun q hq=>setRow_other w b q _ hq
 have le:Le M s (M.fix b (n*size) us) {s with aw:=s.aw.set t (some (n+m))}:=by
  refine⟨fun b' o v h=>?_,Nat.le_refl _,fun _ _=> .refl _,by simp,fun q k h e=>?_⟩
  ·show(if b'=b∧n*size≤o∧o<n*size+us.length then us[o - n*size]? else M.G b' o)=some v
   rw[if_neg]
   ·exact h
   ·rintro⟨rfl,h3,_⟩;rw[MM o h3]at h;cases h
  ·rw [List.getElem?_set]at e
   split at e
   ·rename_i h2;subst h2
    simp at e;subst e
    exact⟨n,D5,by omega,fun h=>by omega⟩
   ·exact⟨k,e,Nat.le_refl _,fun _=>rfl⟩
 have pZ : ∀ b' o,b'≠b→(M.fix b (n*size) us).G b' o=M.G b' o:=fun b' o h=>by simp[Map.fix,h]
 refine⟨⟨fun b' o v e=>?_,fun o ds e=>?_,fun o ho off=>?_,r.inj,fun q k e=>?_,fun q b' c z o hl e nK=>r.fh q b' c z o (iF q hl) e nK,
  fun q q' b' c z c' z' h h' e e'=>r.fQ q q' b' c z c' z' (iF q h) (iF q' h') e e'⟩, ?_⟩
 ·by_cases hb:b'=b
  ·subst hb
   rw[jh ei,hY]
   have e':(if b'=b'∧n*size≤o∧o<n*size+us.length then us[o - n*size]? else M.G b' o)=some v:=e
   by_cases h3:n*size≤o
   ·by_cases h4:o<n*size+us.length
    ·rw [if_pos ⟨rfl,h3,h4⟩]at e'
     rw[if_neg (by omega),if_pos h4]
     exact⟨e',h1 v (List.mem_of_getElem? e')⟩
    ·rw[if_neg (fun h=>h4 h.2.2),MM o h3]at e';cases e'
   ·rw [if_neg (fun h=>h3 h.2.1)]at e'
    obtain⟨h5,h6⟩:=r.comm b' o v e'
    rw[jh hh]at h5
    rw[if_pos (by omega)]
    exact⟨h5,h6⟩
  ·rw [pZ b' o hb]at e
   obtain⟨h5,h6⟩:=r.comm b' o v e
   refine⟨?_,h6⟩
   rw[← h5]
   simp[World.cell?,l6 b' hb]
 ·obtain⟨fF,T',h3,h4,h5,h6⟩:=r.obj o ds e
  have ho:o<s.ah.length:=(List.getElem?_eq_some_iff.1 e).1
  refine⟨fF,T', ?_,h4,h5,fun i d v e1 e2=>(h6 i d v e1 e2).mono le⟩
  exact h3.keep (l6 _ (r.fh t b cap z o xU kJ ho))
 ·show(M.fix b (n*size) us).G (M.mu o) off=none
  rw[pZ _ _ (r.fh t b cap z o xU kJ ho)];exact r.jL o ho off
 ·rw [List.getElem?_set]at e
  split at e
  ·rename_i h2;subst h2
   simp at e;subst e
   refine .inr ⟨b,cap,z,iW,T,kJ,ei,by rw[qU,dO,hz],qW,fun off ho=>?_,hy⟩
   rw[hz]at ho
   show(if b=b∧n*size≤off∧off<n*size+us.length then us[off - n*size]? else M.G b off)=none
   rw[Nat.add_mul]at ho
   rw[if_neg (by rintro⟨_,_,h⟩;omega)]
   exact MM off (by omega)
  ·rename_i h2
   rcases r.tok q k e with h3|⟨b',qs,yR,fF,T',h3,h4,h5,h6,h7⟩
   ·exact .inl h3
   ·have eO:b'≠b:=fun h=>h2 (r.fQ t q b cap z qs yR xU ⟨k,e⟩ kJ (by rw [h3,h]))
    exact .inr ⟨b',qs,yR,fF,T',h3,by rw[l6 b' eO];exact h4,h5,h6,fun off ho=>by rw[pZ b' off eO];exact h7.1 off ho,h7.2⟩
 ·refine⟨le,fun q _ _ h4=>l6 q (fun h=>h4 t cap z xU (by rw [kJ,h])),fun o h3 h4=>by simp at h4;rcases h3 with h3 | h3;omega;exact(h3 rfl).elim,fun q b' c z h e=> .inl ⟨iF q h,c,z,e⟩,fun b' o h=> ?_,by simp,rfl,rfl,rfl⟩
  by_cases hb:b'=b
  ·exact .inr ⟨t,cap,z,xU,by rw[kJ,hb]⟩
  ·exact(h (pZ b' o hb)).elim
theorem Rel.freeze (r:Rel M s w) {b:Nat} (off n:Nat) (ho : ∀ o,o<s.ah.length→M.mu o≠b) (ht : ∀ t c z,s.live t→M.be t≠some (b,c,z)) :
 Rel M s (w.freeze ⟨b,off,none⟩ n)∧(∀ q,q≠b→(w.freeze ⟨b,off,none⟩ n).heap[q]? = w.heap[q]?)∧(w.freeze ⟨b,off,none⟩ n).heap.size=w.heap.size∧
 (w.freeze ⟨b,off,none⟩ n).os=w.os∧(w.freeze ⟨b,off,none⟩ n).tape=w.tape∧(w.freeze ⟨b,off,none⟩ n).output=w.output:=by
 by_cases hn:n=0
 ·simp[World.freeze,hn,r]
 ·have hh : ∀ q,q≠b→(w.freeze ⟨b,off,none⟩ n).heap[q]? = w.heap[q]? :=fun q hq=>by
   simp[World.freeze,hn,Array.getElem?_modify,Ne.symm hq]
  have gV : ∀ q o,(w.freeze ⟨b,off,none⟩ n).cell? ⟨q,o,none⟩=w.cell? ⟨q,o,none⟩:=by
   intro q o
   by_cases hq:q=b
   ·subst hq
    unfold World.cell?
    simp only[World.freeze,hn,if_false,Array.getElem?_modify,if_true]
    cases h:w.heap[q]? with
    |none=>rfl
    |some x=>cases x<;>rfl
   ·simp[World.cell?,hh q hq]
  refine⟨⟨fun q o v e=>?_,fun o ds e=>?_,r.jL,r.inj,fun t k e=>?_,r.fh,r.fQ⟩,hh,by simp[World.freeze,hn],by simp[World.freeze,hn],by simp[World.freeze,hn],by simp[World.freeze,hn]⟩
  ·rw[gV];exact r.comm q o v e
  ·obtain⟨vs,T,h1,h2⟩:=r.obj o ds e
   exact⟨vs,T,h1.keep (hh _ (ho o (List.getElem?_eq_some_iff.1 e).1)),h2⟩
  ·rcases r.tok t k e with h3 | ⟨b',cap,size,vs,T,h3,h4,h5⟩
   ·exact .inl h3
   ·refine .inr ⟨b',cap,size,vs,T,h3, ?_,h5⟩
    rw[hh]
    ·exact h4
    ·rintro rfl;exact ht t cap size ⟨k,e⟩ h3
theorem Rel.afg (r:Rel M s w) (t:Nat):Rel M {s with aw:=s.aw.set t none} w∧Le M s M {s with aw:=s.aw.set t none}:=by
 have iF : ∀ q,St.live {s with aw:=s.aw.set t none} q→s.live q:=by
  rintro q ⟨k,hk⟩
  rw[List.getElem?_set]at hk
  split at hk
  ·split at hk<;>simp at hk
  ·exact⟨k,hk⟩
 have tL : ∀ (q k:Nat),(s.aw.set t none)[q]? = some (some k)→s.aw[q]? = some (some k):=by
  intro q k e
  rw[List.getElem?_set]at e
  split at e
  ·split at e<;>simp at e
  ·exact e
 have le:Le M s M {s with aw:=s.aw.set t none}:=
  ⟨fun _ _ _ h=>h,Nat.le_refl _,fun _ _=> .refl _,by simp,fun q k _ e=>⟨k,tL q k e,Nat.le_refl _,fun _=>rfl⟩⟩
 refine⟨⟨r.comm,fun o ds e=>?_,r.jL,r.inj,fun q k e=>r.tok q k (tL q k e),fun q b' c z o hl e nK=>r.fh q b' c z o (iF q hl) e nK,
  fun q q' b' c z c' z' h h' e e'=>r.fQ q q' b' c z c' z' (iF q h) (iF q' h') e e'⟩,le⟩
 obtain⟨fF,T',h3,h4,h5,h6⟩:=r.obj o ds e
 exact⟨fF,T',h3,h4,h5,fun i d v e1 e2=>(h6 i d v e1 e2).mono le⟩
end
end Go.Abs
namespace Go.Abs
section
variable {M:Map} {s:St} {w:World}
theorem RD.iw {k:IntKind} {n:Int} {v:Value} (h:RD M s (.int k n) v):v = .int k n:=by cases h;rfl
theorem RD.nQ {b:Bool} {v:Value} (h:RD M s (.bool b) v):v = .bool b:=by cases h;rfl
theorem RD.lr {l:List UInt8} {v:Value} (h:RD M s (.str l) v):v = .string ⟨⟨l⟩⟩:=by cases h;rfl
theorem RD.sf {v:Value} (h:RD M s .dR v):v = .pointer none:=by cases h;rfl
theorem RD.sg {o off:Nat} {v:Value} (h:RD M s (.ptr o off) v):v = .pointer (some ⟨M.mu o,off,none⟩)∧o<s.ah.length:=by
 cases h with|ptr _ _ h hm=>exact⟨rfl,h⟩
theorem RD.AZ {o off:Nat} {v:Value} (h:RD M s (.ptr o off) v):(M.ob o).plain:=by cases h with|ptr _ _ h hm=>exact hm
theorem RD.Iu {o:Nat} {v:Value} (h:RD M s (.fP o) v):v = .map (some (M.mu o))∧o<s.ah.length∧M.ob o = .map:=by cases h with|fP _ h hm=>exact⟨rfl,h,hm⟩
theorem RD.xV {z o g len:Nat} {v:Value} (h:RD M s (.eB z o g len) v) : ∃ b cap A,v = .slice (some ⟨b,0,none⟩) len cap∧o<s.ah.length∧M.ob o = .arr z A∧A g=some (b,cap)∧len≤cap:=by
 cases h with|eB _ _ _ _ b cap A h hm ha hl=>exact⟨b,cap,A,rfl,h,hm,ha,hl⟩
theorem RD.Df {o g off:Nat} {v:Value} (h:RD M s (.fu o g off) v) : ∃ z b cap A,v = .pointer (some ⟨b,off,none⟩)∧o<s.ah.length∧M.ob o = .arr z A∧A g=some (b,cap):=by
 cases h with|fu z _ _ _ b cap A h hm ha=>exact⟨z,b,cap,A,rfl,h,hm,ha⟩
theorem RD.Dg {z:Nat} {v:Value} (h:RD M s (.ew z) v) : ∃ a,v = .slice a 0 0:=by cases h with|ew _ a=>exact⟨a,rfl⟩
theorem RD.LD {f:Nat} {ds:List D} {v:Value} (h:RD M s (.gd f ds) v) : ∃ vs:Array Value,v = .func (.func f) #[] vs∧ds.length=vs.size∧
 ∀ (i:Nat) (d:D) (v:Value),ds[i]? = some d→vs[i]? = some v→RD M s d v:=by
 cases h with|gd _ _ vs h1 h2=>exact⟨vs,rfl,h1,h2⟩
theorem RD.yS {row:List D} {off:Nat} {v:Value} (h:RD M s (.dA row off) v) : ∃ b k,v = .pointer (some ⟨b,k+off,none⟩)∧
 (∀ (i:Nat) (d:D),row[i]? = some d→∃ u,M.G b (k+i)=some u)∧(∀ (i:Nat) (d:D) (u:Value),row[i]? = some d→M.G b (k+i)=some u→RD M s d u):=by
 cases h with|dA _ _ b k h1 h2=>exact⟨b,k,rfl,h1,h2⟩
theorem RD.Fw {ds:List D} {v:Value} (h:RD M s (.agg ds) v) : ∃ vs:Array Value,v = .agg vs∧ds.length=vs.size∧(∀ v∈vs,v.oneCell'=true)∧
 ∀ (i:Nat) (d:D) (v:Value),ds[i]? = some d→vs[i]? = some v→RD M s d v:=by
 cases h with|agg _ vs h1 h2 h3=>exact⟨vs,rfl,h1,h2,h3⟩
theorem RD.Gn {ds:List D} {v:Value} (h:RD M s (.tuple ds) v) : ∃ vs:Array Value,v = .tuple vs∧ds.length=vs.size∧
 ∀ (i:Nat) (d:D) (v:Value),ds[i]? = some d→vs[i]? = some v→RD M s d v:=by
 cases h with|tuple _ vs h1 h2=>exact⟨vs,rfl,h1,h2⟩
theorem RD.undef:RD M s (.tuple []) Go.undef:= .tuple [] #[] rfl (fun i d v h=>by simp at h)
theorem RD.jj {g:Tag} {z:Nat} {rows:List (List D)} {v:Value} (h:RD M s (.slice g z rows) v) :
 (rows = []∧v = .slice none 0 0∧iP M s g z 0 none 0)∨(rows = []∧g = .shared∧∃ a cap,v = .slice (some a) 0 cap)∨
 ∃ b k cap,v = .slice (some ⟨b,k,none⟩) rows.length cap∧rows.length≤cap∧(∀ row∈rows,row.length=z)∧
  (∀ (i:Nat) (row:List D) (j:Nat) (d:D),rows[i]? = some row→row[j]? = some d→∃ u,M.G b (k+(i*z+j))=some u)∧
  (∀ (i:Nat) (row:List D) (j:Nat) (d:D) (u:Value),rows[i]? = some row→row[j]? = some d→M.G b (k+(i*z+j))=some u→RD M s d u)∧
  iP M s g z rows.length (some (b,k)) cap:=by
 cases h with
 |iA _ _ cap hc ht=>subst hc;exact .inl ⟨rfl,rfl,ht⟩
 |lC _ a cap=>exact .inr (.inl ⟨rfl,rfl,a,cap,rfl⟩)
 |slice _ _ _ b k cap hl hs h1 h2 ht=>exact .inr (.inr ⟨b,k,cap,rfl,hl,hs,h1,h2,ht⟩)
theorem RD.row {d:D} {v:Value} (h:RD M s d v) {r:List D} (hr:d.row=some r):v.cells.size=r.length∧(∀ u∈v.cells,u.oneCell'=true)∧
 ∀ (i:Nat) (d':D) (u:Value),r[i]? = some d'→v.cells[i]? = some u→RD M s d' u:=by
 have one : ∀ (x:Value),x.oneCell'=true→x.cells = #[x]:=by intro x hx;cases x<;>first|rfl|(simp[Value.oneCell']at hx)
 have go : ∀ (x:Value),x.oneCell'=true→RD M s d x→d.row=some [d]→x.cells.size=r.length∧(∀ u∈x.cells,u.oneCell'=true)∧
  ∀ (i:Nat) (d':D) (u:Value),r[i]? = some d'→x.cells[i]? = some u→RD M s d' u:=by
  intro x hx hd h1
  rw[h1]at hr;cases hr
  rw[one x hx]
  refine⟨rfl,by simp[hx],fun i d' u e1 e2=>?_⟩
  cases i with
  |zero=>simp at e1 e2;subst e1;subst e2;exact hd
  |succ i=>simp at e1
 cases h with
 |junk v=>cases hr
 |int k n=>exact go _ rfl (.int k n) rfl
 |bool b=>exact go _ rfl (.bool b) rfl
 |str l=>exact go _ rfl (.str l) rfl
 |dR=>exact go _ rfl .dR rfl
 |val v hv=>exact go _ hv (.val v hv) rfl
 |fq T o v h ht hv=>exact go _ (by rcases hv with rfl|rfl<;>rfl) (.fq T o v h ht hv) rfl
 |ptr o off h hm=>exact go _ rfl (.ptr o off h hm) rfl
 |gd f ds vs hl h=>exact go _ rfl (.gd f ds vs hl h) rfl
 |fP o h hm=>exact go _ rfl (.fP o h hm) rfl
 |dA row off b k h1 h2=>exact go _ rfl (.dA row off b k h1 h2) rfl
 |iA g z cap hc ht=>exact go _ rfl (.iA g z cap hc ht) rfl
 |lC z a cap=>exact go _ rfl (.lC z a cap) rfl
 |slice g z rows b k cap hl hs h1 h2 ht=>exact go _ rfl (.slice g z rows b k cap hl hs h1 h2 ht) rfl
 |eB z o g len b cap A h hm ha hl=>exact go _ rfl (.eB z o g len b cap A h hm ha hl) rfl
 |fu z o g off b cap A h hm ha=>exact go _ rfl (.fu z o g off b cap A h hm ha) rfl
 |ew z a=>exact go _ rfl (.ew z a) rfl
 |agg cells vs hl h1 h2=>cases hr;exact⟨hl.symm,h1,h2⟩
 |tuple ds vs hl h1=>cases hr
theorem qh {v:Value} {d:D} (h:sc v=some d):RD M s d v∧v.oneCell'=true:=by
 unfold sc at h
 split at h<;>first|(cases h;done)|skip
 ·cases h;exact⟨.int _ _,rfl⟩
 ·cases h;exact⟨.bool _,rfl⟩
 ·cases h;exact⟨.str _,rfl⟩
 ·cases h;exact⟨.dR,rfl⟩
 ·cases h;exact⟨.iA _ _ 0 rfl rfl,rfl⟩
 ·cases h;exact⟨.val _ rfl,rfl⟩
 ·cases h;exact⟨.val _ rfl,rfl⟩
 ·cases h;exact⟨.val _ rfl,rfl⟩
theorem lu : ∀ {vs:List Value} {ds:List D},nP vs=some ds→ds.length=vs.length∧(∀ v∈vs,v.oneCell'=true)∧
 ∀ (i:Nat) (d:D) (v:Value),ds[i]? = some d→vs[i]? = some v→RD M s d v
 | [],ds,h=>by cases h;exact⟨rfl,by simp,by simp⟩
 | v::r,ds,h=>by
  unfold nP at h
  split at h
  ·rename_i d nJ h1 h2
   cases h
   obtain⟨a,b⟩:=qh (M:=M) (s:=s) h1
   obtain⟨i1,i2,i3⟩:=lu h2
   refine⟨by simp[i1],fun u hu=>?_,fun i d' u e1 e2=>?_⟩
   ·rcases List.mem_cons.1 hu with rfl | hu
    ·exact b
    ·exact i2 u hu
   ·cases i with
    |zero=>simp at e1 e2;subst e1;subst e2;exact a
    |succ i=>simp at e1 e2;exact i3 i d' u e1 e2
  ·cases h
theorem Fx {v:Value} {d:D} (h:Dd v=some d):RD M s d v∧v.oneCell'=true:=by
 unfold Dd at h
 split at h
 ·cases h;exact⟨.val _ rfl,rfl⟩
 ·exact qh h
theorem wj : ∀ {vs:List Value} {ds:List D},wi vs=some ds→ds.length=vs.length∧(∀ v∈vs,v.oneCell'=true)∧
 ∀ (i:Nat) (d:D) (v:Value),ds[i]? = some d→vs[i]? = some v→RD M s d v
 | [],ds,h=>by cases h;exact⟨rfl,by simp,by simp⟩
 | v::r,ds,h=>by
  unfold wi at h
  split at h
  ·rename_i d nJ h1 h2
   cases h
   obtain⟨g1,g2⟩:=Fx (M:=M) (s:=s) h1
   obtain⟨k1,k2,k3⟩:=wj h2
   refine⟨by simp[k1],fun u hu=>?_,fun i d' u e1 e2=>?_⟩
   ·rcases List.mem_cons.1 hu with rfl | hu
    ·exact g2
    ·exact k2 u hu
   ·cases i with
    |zero=>simp at e1 e2;subst e1;subst e2;exact g1
    |succ i=>exact k3 i d' u (by simpa using e1) (by simpa using e2)
  ·cases h
theorem CO {b:Bool} {vs:List Value} {ds:List D} (h:MI b vs=some ds):ds.length=vs.length∧(∀ v∈vs,v.oneCell'=true)∧
 ∀ (i:Nat) (d:D) (v:Value),ds[i]? = some d→vs[i]? = some v→RD M s d v:=by
 unfold MI at h
 split at h
 ·exact wj h
 ·exact lu h
theorem MN {v:Value} {d:D} (h:MG v=some d):RD M s d v:=by
 unfold MG at h
 split at h
 ·rename_i cs
  cases hc:nP cs.toList with
  |none=>rw[hc]at h;cases h
  |some ds=>
   rw[hc]at h;cases h
   obtain⟨h1,h2,h3⟩:=lu (M:=M) (s:=s) hc
   exact .agg ds cs (by simpa using h1) (fun v hv=>h2 v (by simpa using hv)) (fun i d v e1 e2=>h3 i d v e1 (by simpa using e2))
 ·cases h;exact .undef
 ·exact(qh h).1
def l7 (M:Map) (s:St) (tm:Tm) (tmps:Array Value):Prop:=∀ t,RD M s (tm.get t) (tmps.getD t Go.undef)
theorem l7.mono {M':Map} {s':St} {tm:Tm} {tmps:Array Value} (h:l7 M s tm tmps) (le:Le M s M' s'):l7 M' s' tm tmps:=fun t=>(h t).mono le
theorem bS {x:Operand} {y:X} (h:cX x=some y) {tm:Tm} {act:Act} (hr:l7 M s tm act.tmps):RD M s (y.ev tm) (act.eval x):=by
 unfold cX at h
 split at h
 ·cases h;exact hr _
 ·rename_i v
  cases hv:MG v with
  |none=>rw[hv]at h;cases h
  |some d=>rw[hv]at h;cases h;exact MN hv
 ·cases h;exact .gd _ [] #[] rfl (by simp)
 ·cases h
theorem Tm.Fy (tm:Tm) (t:Nat) (d:D) (u:Nat):(tm.set t d).get u=if u=t then d else tm.get u:=by
 induction tm with
 |nil=>
  simp only[Tm.set,Tm.get]
  by_cases h:t=u
  ·simp[h]
  ·rw[if_neg h,if_neg (fun e=>h e.symm)]
 | cons p r ih=>
  obtain⟨k,e⟩:=p
  simp only[Tm.set]
  split
  ·rename_i h
   subst h
   simp only[Tm.get]
   by_cases h:k=u
   ·simp[h]
   ·rw[if_neg h,if_neg (fun e=>h e.symm),if_neg h]
  ·rename_i h
   simp only[Tm.get,ih]
   by_cases h1:k=u
   ·subst h1;simp[h]
   ·simp[h1]
theorem l7.put {tm:Tm} {act:Act} (h:l7 M s tm act.tmps) {dst:Option Nat} (hd : ∀ t,dst=some t→t<act.tmps.size) {d:D} {v:Value} (hv:RD M s d v) :
 l7 M s (tm.put dst d) (act.put dst v).tmps:=by
 intro u
 cases dst with
 |none=>exact h u
 | some t=>
  simp only[Tm.put,Act.put,Tm.Fy]
  have ht:=hd t rfl
  by_cases hu:u=t
  ·subst hu
   simp[ht];exact hv
  ·rw [if_neg hu]
   have:=h u
   simpa[Array.getElem?_setIfInBounds_ne (fun e=>hu e.symm)]using this
theorem fS (P:Program) {t:TypeId} {i:TypeInfo} (h:P.info? t=some i) (w:World):(typeInfo t).run P w = .ok i w:=by
 simp[typeInfo,h]
theorem mC (b o n:Nat):Addr.add ⟨b,o,none⟩ n = ⟨b,o+n,none⟩:=Addr.add_lit b o n
theorem yT (P:Program) {t:TypeId} {i:TypeInfo} {agg:Bool} (hi:P.info? t=some i) (ha:qR P t=some agg) (b k:Nat) (us:List Value)
 (hl:us.length=if agg then i.size else 1) (h : ∀ (j:Nat) (u:Value),us[j]? = some u→w.cell? ⟨b,k+j,none⟩=some u) :
 (loadVar t ⟨b,k,none⟩).run P w = .ok (if agg then .agg us.toArray else us.getD 0 Go.undef) w:=by
 have A0:(isAgg t).run P w = .ok agg w:=by
  unfold qR at ha
  unfold isAgg
  cases hu:P.underlying t with
  |none=>rw[hu]at ha;cases ha
  |some d=>
   rw[hu]at ha
   simp only[Sem.run_bind,run_underlying hu,Result.andThen_ok]
   cases d<;>simp_all
 cases agg with
 |true=>
  simp only[if_true]at hl ⊢
  have hc:=run_loadCells_list (P:=P) w ⟨b,k,none⟩ us (fun j v e=>by rw[mC];exact h j v e)
  simp[loadVar,A0,sizeOf,fS P hi, ← hl,hc]
 | false=>
  simp only[Bool.false_eq_true,if_false]at hl ⊢
  match us,hl with
  | [u],_=>
   have:=h 0 u rfl
   simp only[Nat.add_zero]at this
   simp[loadVar,A0,this]
theorem qG {cs:List D} {off:Nat} {agg:Bool} {size:Nat} {d:D} (h:part cs off agg size=some d) :
 (agg=true∧off+size≤cs.length∧d = .agg ((cs.drop off).take size))∨(agg=false∧cs[off]? = some d):=by
 unfold part at h
 split at h
 ·split at h
  ·cases h;exact .inl ⟨rfl, ‹_›,rfl⟩
  ·cases h
 ·exact .inr ⟨rfl,h⟩
theorem qX {cs:List D} {off size:Nat} {agg:Bool} {d:D} (h:part cs off agg size=some d) (us:List Value) (hl:us.length=if agg then size else 1)
 (gZ:agg=true→∀ u∈us,u.oneCell'=true)
 (hr : ∀ (j:Nat) (d:D) (u:Value),cs[off+j]? = some d→us[j]? = some u→RD M s d u):RD M s d (if agg then .agg us.toArray else us.getD 0 Go.undef):=by
 rcases qG h with ⟨rfl,h1,rfl⟩|⟨rfl,h1⟩
 ·simp only [if_true]at hl ⊢
  refine .agg _ _ (by simp[hl];omega) (fun v hv=>gZ rfl v (by simpa using hv)) (fun i d v e1 e2=>?_)
  rw[List.getElem?_take]at e1
  split at e1
  ·rw [List.getElem?_drop]at e1
   exact hr i d v e1 (by simpa using e2)
  ·cases e1
 ·simp only [Bool.false_eq_true,if_false]at hl ⊢
  match us,hl with
  | [u],_=>exact hr 0 d u (by simpa using h1) rfl
end
end Go.Abs
namespace Go.Abs
def cR (P:Program) (M:Map) (s:St) (w:World) (x:Sem Next) (d:D) (s':St):Prop:=
 ∃ v w' M',(x.run P w = .ok (.value v) w'∨(x.run P w = .ok .skip w'∧v=Go.undef))∧Rel M' s' w'∧RD M' s' d v∧Ext M s w M' s' w'
section
variable {P:Program} {M:Map} {s:St} {w:World}
theorem cR.pure {x:Sem Next} {d:D} {v:Value} (r:Rel M s w) (h:x.run P w = .ok (.value v) w) (hd:RD M s d v):cR P M s w x d s:=
 ⟨v,w,M, .inl h,r,hd,Ext.refl M s w⟩
theorem MO (r:Rel M s w) {t:TypeId} {z:List D} (hz:zeroOf P t=some z) :
 cR P M s w (do pure (.value (← Instr.alloc t true (.tuple #[])))) (.ptr s.ah.length 0) {s with ah:=s.ah++ [z]}:=by
 unfold zeroOf at hz
 split at hz
 ·rename_i i hi
  split at hz
  ·rename_i v hv
   split at hz
   ·rename_i dO
    obtain⟨h1,h2,h3⟩:=lu (M:=M) (s:=s) hz
    obtain⟨r',e'⟩:=r.dN z v.cells t (by rw[h1];simp) (fun u hu=>h2 u (by simpa using hu)) (fun i d u e1 e2=>h3 i d u e1 (by simpa using e2))
    refine⟨_,_,_, .inl ?_,r', .ptr _ _ (by simp) (by simp[Map.dN,Map.ob,Ob.plain]),e'⟩
    simp[Instr.alloc,zeroValue,fS P hi,hv,newVar,newRow,Map.dN,Map.mu]
   ·cases hz
  ·cases hz
 ·cases hz
theorem KN (r:Rel M s w) {t:TypeId} {z:List D} (hz:yQ P t=some (.dR::z)) :
 cR P M s w (do pure (.value (← Instr.alloc t true (.tuple #[])))) (.ptr s.ah.length 0) {s with ah:=s.ah++ [.fq t s.ah.length::z]}:=by
 unfold yQ at hz
 split at hz
 ·rename_i i hi
  split at hz
  ·rename_i v hv
   split at hz
   ·rename_i dO
    obtain⟨h1,h2,h3⟩:=CO (M:=M) (s:=s) hz
    obtain⟨r',e'⟩:=r.Is (.fq t s.ah.length::z) v.cells t (.ty t) trivial (fun _ h=>by cases h;rfl) (by simp at h1 ⊢;omega) (fun u hu=>h2 u (by simpa using hu)) (fun i d u e1 e2=>by
     cases i with
     |zero=>
      simp at e1;subst e1
      have:=(h3 0 .dR u rfl (by simpa using e2)).sf
      exact .fq t _ u (by simp) (by simp[Map.dN,Map.ty,Ob.ty?]) (.inl this)
     |succ i=>exact(h3 (i+1) d u (by simpa using e1) (by simpa using e2)).mono (se s w.heap.size _ _))
    refine⟨_,_,_, .inl ?_,r', .ptr _ _ (by simp) (by simp[Map.dN,Map.ob,Ob.plain]),e'⟩
    simp[Instr.alloc,zeroValue,fS P hi,hv,newVar,newRow,Map.dN,Map.mu]
   ·cases hz
  ·cases hz
 ·cases hz
theorem Tr (r:Rel M s w) {t:TypeId} {d:D} {v:Value} {row:List D} (hd:RD M s d v) (hr:d.row=some row) :
 cR P M s w (do pure (.value (← Instr.box t v))) (.ptr s.ah.length 0) {s with ah:=s.ah++ [row]}:=by
 obtain⟨h1,h2,h3⟩:=hd.row hr
 obtain⟨r',e'⟩:=r.dN row v.cells t h1 h2 h3
 refine⟨_,_,_, .inl ?_,r', .ptr _ _ (by simp) (by simp[Map.dN,Map.ob,Ob.plain]),e'⟩
 simp[Instr.box,newVar,newRow,Map.dN,Map.mu]
theorem Qe (r:Rel M s w) {t:TypeId} {d:D} {v:Value} {row:List D} (hd:RD M s d v) (hr:d.row=some (.dR::row)) :
 cR P M s w (do pure (.value (← Instr.box t v))) (.ptr s.ah.length 0) {s with ah:=s.ah++ [.fq t s.ah.length::row]}:=by
 obtain⟨h1,h2,h3⟩:=hd.row hr
 obtain⟨r',e'⟩:=r.Is (.fq t s.ah.length::row) v.cells t (.ty t) trivial (fun _ h=>by cases h;rfl) (by simp at h1 ⊢;omega) h2 (fun i d u e1 e2=>by
  cases i with
  |zero=>
   simp at e1;subst e1
   have:=(h3 0 .dR u rfl e2).sf
   exact .fq t _ u (by simp) (by simp[Map.dN,Map.ty,Ob.ty?]) (.inl this)
  |succ i=>exact(h3 (i+1) d u (by simpa using e1) e2).mono (se s w.heap.size _ _))
 refine⟨_,_,_, .inl ?_,r', .ptr _ _ (by simp) (by simp[Map.dN,Map.ob,Ob.plain]),e'⟩
 simp[Instr.box,newVar,newRow,Map.dN,Map.mu]
theorem Hz (r:Rel M s w) {t:TypeId} {i:TypeInfo} {agg:Bool} (hi:P.info? t=some i) (ha:qR P t=some agg) {o off:Nat} {cs:List D} {d:D}
 (ho:s.ah[o]? = some cs) (hk:(M.ob o).plain) (hp:part cs off agg i.size=some d) :
 cR P M s w (do pure (.value (← Instr.loadAt t (.pointer (some ⟨M.mu o,off,none⟩))))) d s:=by
 obtain⟨vs,T,hh,dO,⟨gZ,_⟩,ib⟩:=r.obj o cs ho
 replace hh:w.heap[M.mu o]? = some (.cells vs T (0,0)):=hh.cells hk
 let n:=if agg then i.size else 1
 have jo:off+n≤vs.size:=by
  rcases qG hp with ⟨rfl,h1,_⟩|⟨rfl,h1⟩
  ·simp[n];omega
  ·have:=(List.getElem?_eq_some_iff.1 h1).1;simp[n];omega
 have hlen:((vs.toList.drop off).take n).length=n:=by simp;omega
 have hY : ∀ (j:Nat) (u:Value),((vs.toList.drop off).take n)[j]? = some u→vs[off+j]? = some u:=by
  intro j u h
  rw[List.getElem?_take]at h
  split at h
  ·rw[List.getElem?_drop]at h;simpa using h
  ·cases h
 have dH:=yT (w:=w) P hi ha (M.mu o) off ((vs.toList.drop off).take n) hlen (fun j u h=>by rw[jh hh];exact hY j u h)
 refine cR.pure (v:=if agg then .agg ((vs.toList.drop off).take n).toArray else((vs.toList.drop off).take n).getD 0 Go.undef) r (by simp[Instr.loadAt,Instr.sureAddr,dH]) ?_
 refine qX hp _ hlen (fun _ u hu=>gZ u ?_) (fun j d u e1 e2=>ib _ d u e1 (hY j u e2))
 exact Array.mem_toList_iff.1 (List.mem_of_mem_drop (List.mem_of_mem_take hu))
theorem yU {b:Nat} : ∀ (n k:Nat),(∀ j,j<n→∃ u,M.G b (k+j)=some u)→∃ us:List Value,us.length=n∧∀ (j:Nat) (u:Value),us[j]? = some u→M.G b (k+j)=some u
 | 0,_,_=>⟨[],rfl,fun j u h=>by simp at h⟩
 |n+1,k,h=>by
  obtain⟨u0,h0⟩:=h 0 (by omega)
  obtain⟨us,h1,h2⟩:=yU n (k+1) (fun j hj=>by obtain⟨u,hu⟩:=h (j+1) (by omega);exact⟨u,by rw[show k+1+j=k+(j+1) by omega];exact hu⟩)
  refine⟨u0::us,by simp[h1],fun j u hj=>?_⟩
  cases j with
  |zero=>simp at hj;subst hj;exact h0
  |succ j=>simp at hj;have:=h2 j u hj;rw[show k+(j+1)=k+1+j by omega];exact this
theorem HA (r:Rel M s w) {t:TypeId} {i:TypeInfo} {agg:Bool} (hi:P.info? t=some i) (ha:qR P t=some agg) {row:List D} {off b k:Nat} {d:D}
 (h1 : ∀ (i:Nat) (d:D),row[i]? = some d→∃ u,M.G b (k+i)=some u) (h2 : ∀ (i:Nat) (d:D) (u:Value),row[i]? = some d→M.G b (k+i)=some u→RD M s d u)
 (hp:part row off agg i.size=some d) :
 cR P M s w (do pure (.value (← Instr.loadAt t (.pointer (some ⟨b,k+off,none⟩))))) d s:=by
 let n:=if agg then i.size else 1
 have jo:off+n≤row.length:=by
  rcases qG hp with ⟨rfl,h1,_⟩|⟨rfl,h1⟩
  ·simp[n];omega
  ·have:=(List.getElem?_eq_some_iff.1 h1).1;simp[n];omega
 obtain⟨us,hl,CN⟩:=yU (M:=M) (b:=b) n (k+off) (fun j hj=>by
  obtain⟨d,hd⟩ : ∃ d,row[off+j]? = some d:=⟨_,List.getElem?_eq_getElem (by omega)⟩
  obtain⟨u,hu⟩:=h1 _ d hd
  exact⟨u,by rw[show k+off+j=k+(off+j) by omega];exact hu⟩)
 have dH:=yT (w:=w) P hi ha b (k+off) us hl (fun j u h=>(r.comm _ _ _ (CN j u h)).1)
 refine cR.pure (v:=if agg then .agg us.toArray else us.getD 0 Go.undef) r (by simp[Instr.loadAt,Instr.sureAddr,dH]) ?_
 refine qX hp us hl (fun _ u hu=>?_) (fun j d u e1 e2=>h2 _ d u e1 (by rw[show k+(off+j)=k+off+j by omega];exact CN j u e2))
 obtain⟨j,hj⟩:=List.mem_iff_getElem?.1 hu
 exact(r.comm _ _ _ (CN j u hj)).2
theorem MP (r:Rel M s w) {t:TypeId} {i:TypeInfo} (hi:P.info? t=some i) {o off:Nat} {cs row:List D} {d:D} {v:Value} (ho:s.ah[o]? = some cs) (hk:(M.ob o).plain)
 (hd:RD M s d v) (hr:d.row=some row) (hl:row.length=i.size) (jo:off+i.size≤cs.length) :
 cR P M s w (do Instr.storeAt t (.pointer (some ⟨M.mu o,off,none⟩)) v;pure .skip) (.tuple []) {s with ah:=s.ah.set o (iz cs off row)}:=by
 obtain⟨h1,h2,h3⟩:=hd.row hr
 obtain⟨w',dH,r',e'⟩:=r.MK P ho hk row v.cells.toList (by simpa using h1) (by rw[hl];exact jo) (fun u hu=>h2 u (by simpa using hu)) (fun i d u e1 e2=>h3 i d u e1 (by simpa using e2))
 refine⟨Go.undef,w',M, .inr ⟨?_,rfl⟩,r', .undef,e'⟩
 have dO:v.cells.size=i.size:=by omega
 simp[Instr.storeAt,Instr.sureAddr,storeVar,sizeOf,fS P hi,dO,dH]
theorem yV (r:Rel M s w) {d:D} {a:Addr} (hd:RD M s d (.pointer (some a))) :
 cR P M s w (pure (.value (.pointer (some a)))) d s:=cR.pure r rfl hd
theorem A1 {t:TypeId} {f off size:Nat} {agg:Bool} (h:mB P t f=some (off,size,agg)) (b k:Nat) :
 (Instr.fieldAt t (.pointer (some ⟨b,k,none⟩)) f).run P w = .ok (.pointer (some ⟨b,k+off,none⟩)) w:=by
 unfold mB at h
 split at h
 ·rename_i fs hu
  split at h
  ·rename_i fd hf
   split at h
   ·rename_i i a hi ha
    split at h
    ·cases h
    ·rename_i eO
     cases h
     simp[Instr.fieldAt,run_underlying hu,hf,Instr.sureAddr,fieldPlace,sizeOf,fS P hi,eO,mC]
   ·cases h
  ·cases h
 ·cases h
theorem Qf {t:TypeId} {f off size:Nat} {agg:Bool} (h:mB P t f=some (off,size,agg)) (vs:Array Value) (us:List Value) (hl:us.length=if agg then size else 1)
 (hg : ∀ j,j<us.length→vs[off+j]? = us[j]?) :
 (Instr.field t (.agg vs) f).run P w = .ok (if agg then .agg us.toArray else us.getD 0 Go.undef) w:=by
 unfold mB at h
 split at h
 ·rename_i fs hu
  split at h
  ·rename_i fd hf
   split at h
   ·rename_i i a hi ha
    split at h
    ·cases h
    ·rename_i eO
     cases h
     have A0:(isAgg fd.type).run P w = .ok agg w:=by
      unfold qR at ha
      unfold isAgg
      cases hu:P.underlying fd.type with
      |none=>rw[hu]at ha;cases ha
      |some d=>
       rw[hu]at ha
       simp only[Sem.run_bind,run_underlying hu,Result.andThen_ok]
       cases d<;>simp_all
     cases agg with
     | true=>
      simp only[if_true]at hl ⊢
      have:vs.extract fd.offset (fd.offset+i.size)=us.toArray:=by
       apply Array.ext_getElem?
       intro j
       rw[Array.getElem?_extract]
       by_cases hj:j<us.length
       ·rw [← hl,if_pos (by
         have h1:=hg j hj
         rw[List.getElem?_eq_getElem hj]at h1
         have:=(Array.getElem?_eq_some_iff.1 h1).1
         have h2:=hg (us.length - 1) (by omega)
         rw[List.getElem?_eq_getElem (by omega)]at h2
         have:=(Array.getElem?_eq_some_iff.1 h2).1
         omega),hg j hj]
        simp
       ·have hn:us.toArray[j]? = none:=by simp;omega
        rw[hn,if_neg (by omega)]
      simp[Instr.field,run_underlying hu,hf,asAgg,Go.part,A0,sizeOf,fS P hi,this]
     | false=>
      simp only[Bool.false_eq_true,if_false]at hl ⊢
      match us,hl with
      | [u],_=>
       have:=hg 0 (by simp)
       simp at this
       simp[Instr.field,run_underlying hu,hf,asAgg,Go.part,A0,this]
   ·cases h
  ·cases h
 ·cases h
end
end Go.Abs
namespace Go.Abs
section
variable {P:Program} {M:Map} {s:St} {w:World}
theorem MQ {op : BinOp} {t : TypeId} {k : IntKind} {a b : Int} {d : D} (h : gf op k a b = some d) :
   ∃ v, (binOp op t (.int k a) (.int k b)).run P w = .ok v w ∧ RD M s d v := by
 cases op<;>simp only[gf]at h<;>first
   |(cases h; done)
   | (split at h
      · cases h
      · cases h
        exact ⟨_, by simp[binOp, Op.intDiv, *], .int _ _⟩)
   |(cases h; exact ⟨_, by simp[binOp, Op.intArith], .int _ _⟩)
   |(cases h; exact ⟨_, by simp[binOp, Op.intCmp], .bool _⟩)
theorem MR {op:BinOp} {t:TypeId} {a b:List UInt8} {d:D} (h:n9 op a b=some d) :
 ∃ v,(binOp op t (.string ⟨⟨a⟩⟩) (.string ⟨⟨b⟩⟩)).run P w = .ok v w∧RD M s d v:=by
 have sz : ∀ l:List UInt8,(⟨⟨l⟩⟩:ByteArray).size=l.length:=fun _=>rfl
 cases op<;>simp only[n9]at h<;>first
  |(cases h;done)
  |skip
 case add=>
  split at h
  ·rename_i hl
   cases h
   refine⟨.string ⟨⟨a++b⟩⟩, ?_, .str _⟩
   have h1 : ¬ ((((⟨⟨a⟩⟩:ByteArray).size+(⟨⟨b⟩⟩:ByteArray).size:Nat):Int) > IntKind.i64.max):=by
    rw[sz,sz,IntKind.max_i64];simp only[bC]at hl;omega
   simp only[binOp,Op.stringOp,h1,if_false]
   simp only[Sem.run_pure]
   congr 2
  ·cases h
 case eql=>cases h;exact⟨_,by simp[binOp,Op.stringOp], .bool _⟩
 case neq=>cases h;exact⟨_,by simp[binOp,Op.stringOp], .bool _⟩
 case lss=>cases h;exact⟨_,by simp[binOp,Op.stringOp,bytesLess], .bool _⟩
theorem jJ {op:BinOp} {t:TypeId} {x y:Operand} {a b:Value} (h:(∀ vs,a≠ .agg vs)∧a≠ .nilIface):(eqGuard op t x y a b).run P w = .ok () w:=by
 obtain⟨h1,h2⟩:=h
 cases a<;>first
  |exact(h2 rfl).elim
  |exact(h1 _ rfl).elim
  |(cases op<;>simp[eqGuard])
theorem Ts (r:Rel M s w) {op:BinOp} {t:TypeId} {x y:Operand} {dx dy d:D} {a b:Value} (ha:RD M s dx a) (hb:RD M s dy b) (h:xd op dx dy=some d) :
 cR P M s w (do pure (.value (← (do eqGuard op t x y a b;binOp op t a b)))) d s:=by
 unfold xd at h
 split at h
 ·rename_i k n k' m
  split at h
  ·rename_i hk;subst hk
   rw[ha.iw,hb.iw]
   obtain⟨v,hv,hd⟩:=MQ (P:=P) (M:=M) (s:=s) (w:=w) (t:=t) h
   exact cR.pure r (by simp[jJ (P:=P) (w:=w) (op:=op) (t:=t) (x:=x) (y:=y) (a:= .int k n) (b:= .int k m) ⟨by simp,by simp⟩,hv]) hd
  ·cases h
 ·rename_i l m
  rw[ha.lr,hb.lr]
  obtain⟨v,hv,hd⟩:=MR (P:=P) (M:=M) (s:=s) (w:=w) (t:=t) h
  exact cR.pure r (by simp[jJ (P:=P) (w:=w) (op:=op) (t:=t) (x:=x) (y:=y) (a:= .string ⟨⟨l⟩⟩) (b:= .string ⟨⟨m⟩⟩) ⟨by simp,by simp⟩,hv]) hd
 ·cases h
theorem RD.mY {v u:Value} (h:RD M s (.val v) u):u=v:=by cases h;rfl
theorem MS {k:FloatKind} {x y d:D} (h:qp (.ofInt k) x y=some d) : ∃ j n,x = .int j n∧d = .val (.float k (k.nearest n)):=by
 cases x<;>first|(cases h;done)|(cases h;exact⟨_,_,rfl,rfl⟩)
theorem MT {k:IntKind} {x y d:D} (h:qp (.toInt k) x y=some d) : ∃ s b n,x = .val (.float s b)∧(s.decode b).toInt .zero=some n∧(k.min≤n∧n≤k.max)∧d = .int k n:=by
 cases x with
 | val v=>
  cases v with
  | float s b=>
   simp only[qp]at h
   split at h
   ·rename_i n hn
    split at h
    ·rename_i hr;cases h;exact⟨_,_,_,rfl,hn,hr,rfl⟩
    ·cases h
   ·cases h
  |_=>cases h
 |_=>cases h
theorem Qg {x y d:D} (h:qp .Ii x y=some d) : ∃ k a b,x = .val (.float k a)∧y = .val (.float k b)∧d = .val (.complex k a b):=by
 unfold qp at h
 split at h<;>first|(cases h;done)|skip
 all_goals (first|(rename_i heq;cases heq;done)|skip)
 all_goals
  split at h
  ·rename_i hk;subst hk;cases h;first|exact⟨_,_,_,rfl,rfl,rfl⟩|(rename_i heq _ _;cases heq)
  ·cases h
theorem Qh {x y d:D} (h:qp .real x y=some d) : ∃ k a b,x = .val (.complex k a b)∧d = .val (.float k a):=by
 cases x with
 |val v=>cases v<;>first|(cases h;done)|(cases h;exact⟨_,_,_,rfl,rfl⟩)
 |_=>cases h
theorem Qi {x y d:D} (h:qp .imag x y=some d) : ∃ k a b,x = .val (.complex k a b)∧d = .val (.float k b):=by
 cases x with
 |val v=>cases v<;>first|(cases h;done)|(cases h;exact⟨_,_,_,rfl,rfl⟩)
 |_=>cases h
theorem Qj (r:Rel M s w) {op:BinOp} {o:FO} (ho:(o = .eq∧op = .eql)∨(o = .Ij∧op = .add)∨(o = .Qa∧op = .eql)) {t:TypeId} {x y:Operand} {dx dy d:D} {a b:Value} (ha:RD M s dx a) (hb:RD M s dy b) (h:qp o dx dy=some d) :
 cR P M s w (do pure (.value (← (do eqGuard op t x y a b;binOp op t a b)))) d s:=by
 unfold qp at h
 split at h<;>(try simp only[reduceCtorEq,false_and,true_and,false_or,or_false]at ho)
 ·rename_i k p k' q
  split at h<;>cases h
  rename_i hk;subst hk;subst ho
  cases ha.mY;cases hb.mY
  exact cR.pure r (by simp[jJ (P:=P) (w:=w) (op:= .eql) (t:=t) (x:=x) (y:=y) (a:= .float k p) (b:= .float k q) ⟨by simp,by simp⟩,binOp,Op.floatCmp]) (.bool _)
 ·rename_i k p p' k' q q'
  split at h
  ·rename_i hk;subst hk;subst ho
   cases ha.mY;cases hb.mY
   split at h
   ·rename_i e f h1 h2
    cases h
    simp only[To]at h1 h2
    exact cR.pure r (by simp[jJ (P:=P) (w:=w) (op:= .add) (t:=t) (x:=x) (y:=y) (a:= .complex k p p') (b:= .complex k q q') ⟨by simp,by simp⟩,binOp,Op.complexOp,Op.Complex.arith,Op.floatArith,h1,h2]) (.val _ rfl)
   ·cases h
  ·cases h
 ·rename_i k p p' k' q q'
  split at h<;>cases h
  rename_i hk;subst hk;subst ho
  cases ha.mY;cases hb.mY
  exact cR.pure r (by simp[jJ (P:=P) (w:=w) (op:= .eql) (t:=t) (x:=x) (y:=y) (a:= .complex k p p') (b:= .complex k q q') ⟨by simp,by simp⟩,binOp,Op.complexOp,Op.Complex.cmp,Op.floatCmp,asBool]) (.bool _)
 ·cases h
theorem Tt (r:Rel M s w) {neg:Bool} {t:TypeId} {x y:Operand} {p q:Bool} (ht:P.underlying t=some .bool) :
 cR P M s w (do pure (.value (← (do eqGuard (if neg then .neq else .eql) t x y (.bool p) (.bool q);binOp (if neg then .neq else .eql) t (.bool p) (.bool q))))) (.bool (if neg then !(p==q)else p==q)) s:=by
 refine cR.pure (v:= .bool (if neg then !(p==q)else p==q)) r ?_ (.bool _)
 have hg:=jJ (P:=P) (w:=w) (op:=if neg then .neq else .eql) (t:=t) (x:=x) (y:=y) (a:= .bool p) (b:= .bool q) ⟨by simp,by simp⟩
 have he:(Op.equal t (.bool p) (.bool q)).run P w = .ok (p==q) w:=by
  exact run_equalIn_bool w 9999 t p q ht
 cases neg
 ·simp only [Bool.false_eq_true,if_false]at hg ⊢
  simp[hg,binOp,he]
 ·simp only [if_true]at hg ⊢
  simp[hg,binOp,he]
theorem KO (n:Nat) {t e:TypeId} {a:Option Addr} (ht:P.underlying t=some (.pointer e)):(Op.equalIn (n+1) t (.pointer a) (.pointer none)).run P w = .ok a.isNone w:=by
 cases a<;>simp[Op.equalIn,run_underlying ht]
theorem Dh (r:Rel M s w) {neg:Bool} {t e:TypeId} {x y:Operand} {a:Option Addr} (ht:P.underlying t=some (.pointer e)) :
 cR P M s w (do pure (.value (← (do eqGuard (if neg then .neq else .eql) t x y (.pointer a) (.pointer none);binOp (if neg then .neq else .eql) t (.pointer a) (.pointer none))))) (.bool (if neg then !a.isNone else a.isNone)) s:=by
 refine cR.pure (v:= .bool (if neg then !a.isNone else a.isNone)) r ?_ (.bool _)
 have hg:=jJ (P:=P) (w:=w) (op:=if neg then .neq else .eql) (t:=t) (x:=x) (y:=y) (a:= .pointer a) (b:= .pointer none) ⟨by simp,by simp⟩
 have he:(Op.equal t (.pointer a) (.pointer none)).run P w = .ok a.isNone w:=by
  exact KO 9999 ht
 cases neg
 ·simp only [Bool.false_eq_true,if_false]at hg ⊢
  simp[hg,binOp,he]
 ·simp only [if_true]at hg ⊢
  simp[hg,binOp,he]
theorem MU (n:Nat) {t:TypeId} {k:Nat} (hk:lE P t=some k) {x y:D} {v u:Value} (rv:RD M s x v) (ru:RD M s y u) {b:Bool} (h:mW k x y=some b) :
 (Op.equalIn (n+1) t v u).run P w = .ok b w:=by
 unfold lE at hk
 split at hk<;>first|(cases hk;done)|skip
 ·rename_i kk hu
  cases hk
  cases x<;>cases y<;>simp[mW]at h
  obtain⟨rfl,rfl⟩:=h
  rw[rv.iw,ru.iw]
  exact run_equalIn_int w n t _ _ _ _ hu
 ·rename_i hu
  cases hk
  cases x<;>cases y<;>simp[mW]at h
  subst h
  rw[rv.nQ,ru.nQ]
  exact run_equalIn_bool w n t _ _ hu
 ·rename_i hu
  cases hk
  cases x<;>cases y<;>simp[mW]at h
  subst h
  rw[rv.lr,ru.lr]
  rw[run_equalIn_string w n t _ _ hu]
  simp
theorem A2 (n:Nat) : ∀ (fs:List Field) (off:Nat) (ks:List Nat) (xs ys:List D) (vs us:Array Value) (e:Bool),
 B2 P off fs=some ks→(∀ (i:Nat) (d:D) (v:Value),xs[i]? = some d→vs[off+i]? = some v→RD M s d v)→(∀ i,i<xs.length→(vs[off+i]?).isSome)→
 (∀ (i:Nat) (d:D) (v:Value),ys[i]? = some d→us[off+i]? = some v→RD M s d v)→(∀ i,i<ys.length→(us[off+i]?).isSome)→
 lq ks xs ys=some e→(Op.eqFields (n+1) vs us fs).run P w = .ok e w
 | [],off,ks,xs,ys,vs,us,e,hk,_,_,_,_,h=>by
  cases hk
  cases xs<;>cases ys<;>simp[lq]at h
  subst h;rfl
 | f::fs,off,ks,xs,ys,vs,us,e,hk,h1,h2,h3,h4,h=>by
  unfold B2 at hk
  split at hk
  ·rename_i hf
   obtain⟨ho,afh⟩:=hf
   split at hk
   ·rename_i k ks' wk bU
    cases hk
    match xs,ys with
    | [],[]=>cases h
    | [],_::_=>cases h
    |_::_,[]=>cases h
    | x::xs,y::ys=>
     obtain⟨v,hv⟩:=Option.isSome_iff_exists.1 (h2 0 (by simp))
     obtain⟨u,hu⟩:=Option.isSome_iff_exists.1 (h4 0 (by simp))
     simp only[Nat.add_zero]at hv hu
     have rv:=h1 0 x v rfl hv
     have ru:=h3 0 y u rfl hu
     have A0:(isAgg f.type).run P w = .ok false w:=by
      unfold isAgg
      unfold lE at wk
      cases hu:P.underlying f.type with
      |none=>rw[hu]at wk;simp at wk
      |some d=>simp only[Sem.run_bind,run_underlying hu,Result.andThen_ok];rw[hu]at wk;cases d<;>simp_all
     have pv:(Go.part f.type vs f.offset).run P w = .ok v w:=by simp[Go.part,A0,ho,hv]
     have pu:(Go.part f.type us f.offset).run P w = .ok u w:=by simp[Go.part,A0,ho,hu]
     cases hc:mW k x y with
     |none=>simp[lq,hc]at h
     | some b=>
      have hb:=MU (w:=w) n wk rv ru hc
      simp only[lq,hc]at h
      simp only[Op.eqFields,if_pos afh,Sem.run_bind,pv,pu,hb,Result.andThen_ok,Sem.run_ite,Sem.run_pure]
      cases b with
      |false=>cases h;rfl
      | true=>
       have:=A2 n fs (off+1) ks' xs ys vs us e bU
        (fun i d v e1 e2=>h1 (i+1) d v (by simpa using e1) (by rw[show off+(i+1)=off+1+i by omega];exact e2))
        (fun i hi=>by have:=h2 (i+1) (by simpa using hi);rwa [show off+(i+1)=off+1+i by omega]at this)
        (fun i d v e1 e2=>h3 (i+1) d v (by simpa using e1) (by rw[show off+(i+1)=off+1+i by omega];exact e2))
        (fun i hi=>by have:=h4 (i+1) (by simpa using hi);rwa [show off+(i+1)=off+1+i by omega]at this) h
       simp[this]
   ·cases hk
  ·cases hk
theorem Tw (r:Rel M s w) {neg:Bool} {t:TypeId} {x y:Operand} {ks:List Nat} {xs ys:List D} {a b:Value} {e:Bool} (ht:pY P t=some ks) (ha:RD M s (.agg xs) a) (hb:RD M s (.agg ys) b) (he:lq ks xs ys=some e) :
 cR P M s w (do pure (.value (← (do eqGuard (if neg then .neq else .eql) t x y a b;binOp (if neg then .neq else .eql) t a b)))) (.bool (if neg then !e else e)) s:=by
 obtain⟨vs,rfl,hl,_,h1⟩:=ha.Fw
 obtain⟨us,rfl,l8,_,h2⟩:=hb.Fw
 unfold pY at ht
 split at ht
 ·rename_i fs hu
  split at ht
  ·rename_i hg
   obtain⟨xY,CP⟩:=hg
   have hf:P.fieldsOf t=fs:=by simp[Program.fieldsOf,hu]
   have dH:(Op.equalIn 10000 t (.agg vs) (.agg us)).run P w = .ok e w:=by
    rw[run_equalIn_struct w 9999 t vs us (by rw[hf];exact hu) CP,hf]
    exact A2 9998 fs.toList 0 ks xs ys vs us e ht (fun i d v e1 e2=>h1 i d v e1 (by simpa using e2)) (fun i hi=>by simp;omega)
     (fun i d v e1 e2=>h2 i d v e1 (by simpa using e2)) (fun i hi=>by simp;omega) he
   have Gp:=run_eqGuard_agg (P:=P) w (if neg then .neq else .eql) t x y vs us xY
   refine cR.pure (v:= .bool (if neg then !e else e)) r ?_ (.bool _)
   cases neg
   ·simp only [Bool.false_eq_true,if_false]at Gp ⊢
    simp only[Sem.run_bind,Gp,Result.andThen_ok,run_eql_struct,dH,Sem.run_pure]
   ·simp only [if_true]at Gp ⊢
    simp only[Sem.run_bind,Gp,Result.andThen_ok,run_neq_struct,dH,Sem.run_pure]
  ·cases ht
 ·cases ht
end
end Go.Abs
namespace Go.Abs
section
variable {P:Program} {M:Map} {s:St} {w:World}
theorem B3 (l:List UInt8):(⟨⟨l⟩⟩:ByteArray).size=l.length:=rfl
theorem extract_mk (l:List UInt8) (a b:Nat):(⟨⟨l⟩⟩:ByteArray).extract a b = ⟨⟨(l.take b).drop a⟩⟩:=by
 apply ByteArray.ext
 rw[ByteArray.data_extract]
 apply Array.ext'
 simp[List.drop_take]
theorem getElem?_mk (l:List UInt8) (n:Nat):(⟨⟨l⟩⟩:ByteArray)[n]? = l[n]? :=by
 by_cases h:n<l.length
 ·rw[getElem?_pos (⟨⟨l⟩⟩:ByteArray) n h,List.getElem?_eq_getElem h];rfl
 ·rw [List.getElem?_eq_none (by omega)]
  rw[getElem?_neg (c:=(⟨⟨l⟩⟩:ByteArray)) (i:=n)]
  show ¬ n<(⟨⟨l⟩⟩:ByteArray).size
  rw[B3];omega
theorem Ql (r:Rel M s w) {t:TypeId} {l:List UInt8} {k:IntKind} {n:Int} {c:UInt8} (ht:P.underlying t=some .string) (h0:0≤n) (hc:l[n.toNat]? = some c) :
 cR P M s w (do pure (.value (← Instr.index t (.string ⟨⟨l⟩⟩) (.int k n)))) (.int .u8 c.toNat) s:=by
 refine cR.pure (v:= .int .u8 c.toNat) r ?_ (.int _ _)
 simp[Instr.index,asIntOf,run_underlying ht,h0,getElem?_mk,hc]
theorem Iv (r:Rel M s w) {t ty:TypeId} {l:List UInt8} (ht:P.underlying t=some .string) :
 cR P M s w (do pure (.value (← Builtin.len_ #[t] ty #[.string ⟨⟨l⟩⟩]))) (.int .i64 l.length) s:=by
 refine cR.pure (v:= .int .i64 l.length) r ?_ (.int _ _)
 simp[Builtin.len_,run_underlying ht,goInt,B3]
theorem mZ (r:Rel M s w) {t ty e:TypeId} {a:Option Addr} {n c:Nat} (ht:P.underlying t=some (.slice e)) :
 cR P M s w (do pure (.value (← Builtin.len_ #[t] ty #[.slice a n c]))) (.int .i64 n) s:=by
 refine cR.pure (v:= .int .i64 n) r ?_ (.int _ _)
 simp[Builtin.len_,run_underlying ht,goInt]
theorem MV (r:Rel M s w) {t e:TypeId} {i:TypeInfo} {g:Tag} {rows:List (List D)} {row:List D} {v:Value} {k:IntKind} {n:Int} (ht:P.underlying t=some (.slice e)) (hi:P.info? e=some i)
 (hd:RD M s (.slice g i.size rows) v) (h0:0≤n) (hr:rows[n.toNat]? = some row) :
 cR P M s w (do pure (.value (← Instr.indexAt t v (.int k n)))) (.dA row 0) s:=by
 have hD:=(List.getElem?_eq_some_iff.1 hr).1
 rcases hd.jj with ⟨rfl,_,_⟩|⟨rfl,_,_⟩|⟨b,q,cap,rfl,hl,hs,h1,h2,_⟩
 ·simp at hr
 ·simp at hr
 ·refine cR.pure (v:= .pointer (some ⟨b,q+n.toNat*i.size+0,none⟩)) r ?_ ?_
  ·have:n<(rows.length:Int):=by omega
   simp[Instr.indexAt,asIntOf,run_underlying ht,h0,this,sizeOf,fS P hi,mC]
  ·refine .dA row 0 b (q+n.toNat*i.size) (fun j d hj=> ?_) (fun j d u hj hu=> ?_)
   ·obtain⟨u,hu⟩:=h1 n.toNat row j d hr hj
    exact⟨u,by rw[Nat.add_assoc];exact hu⟩
   ·exact h2 n.toNat row j d u hr hj (by rw[← Nat.add_assoc];exact hu)
def Qm (lv:Option Value) (l:Int):Prop:=(lv=none∧l=0)∨∃ k,lv=some (.int k l)
def Qn (hv:Option Value) (len:Nat) (h:Int):Prop:=(hv=none∧h=len)∨∃ k,hv=some (.int k h)
theorem pA {isSlice:Bool} {lv hv:Option Value} {len cap:Nat} {l h:Int} (h1:Qm lv l) (h2:Qn hv len h) (a:0≤l) (b:l≤h) (c:h≤len) (d:len≤cap) :
 (Instr.sliceBounds isSlice len cap lv hv none).run P w = .ok (l.toNat,h.toNat,cap) w:=by
 have h0:0≤h:=by omega
 have hc:h≤cap:=by omega
 rcases h1 with ⟨rfl,rfl⟩|⟨k,rfl⟩<;>rcases h2 with ⟨rfl,rfl⟩|⟨k',rfl⟩
 ·simp[Instr.sliceBounds]
 ·simp[Instr.sliceBounds,run_sliceBound w _ _ _ _ h0 hc]
 ·simp[Instr.sliceBounds,run_sliceBound w _ _ _ _ a b]
 ·have e:(h.toNat:Int)=h:=Int.toNat_of_nonneg h0
  simp[Instr.sliceBounds,run_sliceBound w _ _ _ _ h0 hc,run_sliceBound w _ _ _ _ a (show l≤(h.toNat:Int) by omega)]
theorem Qo (r:Rel M s w) {t:TypeId} {lv hv:Option Value} {x:List UInt8} {l h:Int} (ht:P.underlying t=some .string) (h1:Qm lv l) (h2:Qn hv x.length h) (a:0≤l) (b:l≤h) (c:h≤x.length) :
 cR P M s w (do pure (.value (← Instr.sliceAt t (.string ⟨⟨x⟩⟩) lv hv none))) (.str ((x.take h.toNat).drop l.toNat)) s:=by
 have hb:=pA (P:=P) (w:=w) (isSlice:=false) (cap:=x.length) h1 h2 a b c (Nat.le_refl _)
 refine cR.pure (v:= .string ⟨⟨(x.take h.toNat).drop l.toNat⟩⟩) r ?_ (.str _)
 simp[Instr.sliceAt,run_underlying ht,Instr.slice,B3,hb,extract_mk]
theorem iP.cut {g:Tag} {z len Tx cap:Nat} {base:Option (Nat×Nat)} (h:iP M s g z len base cap) (hl:Tx≤len) (whole:Bool) (hw:whole=true→Tx=len):iP M s (g.cut whole) z Tx base cap:=by
 cases g with
 |full=>
  cases whole with
  |true=>rw[hw rfl];exact h
  |false=>trivial
 |shared=>trivial
 |tok t y=>
  obtain⟨x1,x2⟩:=h
  refine⟨x1,fun n hn=>⟨Nat.le_trans hl (x2 n hn).1,fun e=>?_⟩⟩
  have:len=n:=by have:=(x2 n hn).1;omega
  exact(x2 n hn).2 this
theorem Ty (r:Rel M s w) {t e:TypeId} {i:TypeInfo} {g:Tag} {z:Nat} {lv hv:Option Value} {rows:List (List D)} {v:Value} {l h:Int} (ht:P.underlying t=some (.slice e)) (D6:P.info? e=some i) (hz:rows = []∨z=i.size)
 (hd:RD M s (.slice g z rows) v) (h1:Qm lv l) (h2:Qn hv rows.length h) (a:0≤l) (b:l≤h) (c:h≤rows.length) :
 cR P M s w (do pure (.value (← Instr.sliceAt t v lv hv none))) (.slice (if l=0 then g.cut (h=rows.length)else .shared) z ((rows.take h.toNat).drop l.toNat)) s:=by
 have hlen:((rows.take h.toNat).drop l.toNat).length=h.toNat - l.toNat:=by simp;omega
 have tag : ∀ base cap,iP M s g z rows.length base cap→iP M s (if l=0 then g.cut (h=rows.length)else .shared) z ((rows.take h.toNat).drop l.toNat).length base cap:=by
  intro base cap ox
  split
  ·exact ox.cut (by omega) _ (fun hh=>by simp at hh;omega)
  ·trivial
 rcases hd.jj with ⟨rfl,rfl,ox⟩|⟨rfl,rfl,a',cap,rfl⟩|⟨b',q,cap,rfl,hl,hs,g1,g2,ox⟩
 ·have hb:=pA (P:=P) (w:=w) (isSlice:=true) (cap:=0) h1 h2 a b c (Nat.le_refl _)
  have qH:l=0:=by simp at c;omega
  have hh0:h=0:=by simp at c;omega
  subst qH;subst hh0
  refine cR.pure (v:= .slice none 0 0) r ?_ ?_
  ·simp at hb
   simp[Instr.sliceAt,run_underlying ht,Instr.slice,hb,sizeOf,fS P D6]
  ·have:=tag _ _ ox
   simp only[Int.toNat_zero,List.take_nil,List.drop_nil,List.length_nil]at this ⊢
   exact .iA _ _ 0 rfl this
 ·have hb:=pA (P:=P) (w:=w) (isSlice:=true) (cap:=cap) h1 h2 a b c (Nat.zero_le _)
  have qH:l=0:=by simp at c;omega
  have hh0:h=0:=by simp at c;omega
  subst qH;subst hh0
  simp only[List.length_nil]at hb
  have dH : ∃ a2:Addr,(Instr.sliceAt t (.slice (some a') 0 cap) lv hv none).run P w = .ok (.slice (some a2) 0 cap) w:=by
   refine⟨if cap=(0:Int).toNat then a' else a'.add ((0:Int).toNat*i.size), ?_⟩
   simp only[Instr.sliceAt,Sem.run_bind,run_underlying ht,Result.andThen_ok,Instr.slice,hb,sizeOf,fS P D6,Sem.run_pure]
   split<;>simp
  obtain⟨a2,dH⟩:=dH
  refine cR.pure (v:= .slice (some a2) 0 cap) r (by simp[dH]) ?_
  simp only[↓reduceIte,Int.toNat_zero,List.take_nil,List.drop_nil]
  have:Tag.cut .shared (decide ((0:Int)=(([] : List (List D)).length:Int))) = .shared:=rfl
  rw[this]
  exact .lC _ a2 cap
 ·have hb:=pA (P:=P) (w:=w) (isSlice:=true) (cap:=cap) h1 h2 a b c hl
  have dH:(Instr.sliceAt t (.slice (some ⟨b',q,none⟩) rows.length cap) lv hv none).run P w = .ok (.slice (some (if cap=l.toNat then⟨b',q,none⟩else⟨b',q+l.toNat*i.size,none⟩)) (h.toNat - l.toNat) (cap - l.toNat)) w:=by
   simp only[Instr.sliceAt,Sem.run_bind,run_underlying ht,Result.andThen_ok,Instr.slice,hb,sizeOf,fS P D6,Sem.run_pure]
   split<;>simp[mC]
  by_cases qH:l=0
  ·subst qH
   have e:(if cap=(0:Int).toNat then(⟨b',q,none⟩:Addr)else⟨b',q+(0:Int).toNat*i.size,none⟩) = ⟨b',q,none⟩:=by simp
   rw[e]at dH
   refine cR.pure (v:= .slice (some ⟨b',q,none⟩) ((rows.take h.toNat).drop (0:Int).toNat).length cap) r (by simp[dH];omega) ?_
   refine .slice _ z _ b' q cap (by omega) (fun row hr=>hs row ?_) (fun i row j d e1 e2=>?_) (fun i row j d u e1 e2 eu=>?_) (tag _ _ ox)
   ·simp at hr;exact List.mem_of_mem_take hr
   ·simp[List.getElem?_take]at e1;exact g1 i row j d e1.2 e2
   ·simp[List.getElem?_take]at e1;exact g2 i row j d u e1.2 e2 eu
  ·rw [if_neg qH]
   by_cases tM:cap=l.toNat
   ·have:(rows.take h.toNat).drop l.toNat = []:=List.eq_nil_of_length_eq_zero (by omega)
    rw[this]
    rw[if_pos tM]at dH
    refine cR.pure (v:= .slice (some ⟨b',q,none⟩) ([] : List (List D)).length (cap - l.toNat)) r (by simp[dH];omega) ?_
    exact .slice _ z [] b' q _ (by simp) (by simp) (by simp) (by simp) trivial
   ·rw [if_neg tM]at dH
    refine cR.pure (v:= .slice (some ⟨b',q+l.toNat*i.size,none⟩) ((rows.take h.toNat).drop l.toNat).length (cap - l.toNat)) r (by simp[dH];omega) ?_
    have ei : ∀ (k:Nat) (row:List D),((rows.take h.toNat).drop l.toNat)[k]? = some row→rows[l.toNat+k]? = some row:=by
     intro k row e
     rw[List.getElem?_drop,List.getElem?_take]at e
     split at e
     ·exact e
     ·cases e
    have hzz : ∀ (k:Nat) (row:List D),((rows.take h.toNat).drop l.toNat)[k]? = some row→z=i.size:=by
     intro k row e
     rcases hz with rfl|hz
     ·simp at e
     ·exact hz
    refine .slice _ z _ b' _ _ (by omega) (fun row hr=>hs row (List.mem_of_mem_take (List.mem_of_mem_drop hr))) (fun k row j d e1 e2=>?_) (fun k row j d u e1 e2 eu=>?_) trivial
    ·obtain⟨u,hu⟩:=g1 _ row j d (ei k row e1) e2
     refine⟨u, ?_⟩
     rw[← hu, ← hzz k row e1]
     congr 1
     rw[Nat.add_mul];omega
    ·refine g2 _ row j d u (ei k row e1) e2 ?_
     rw[← eu, ← hzz k row e1]
     congr 1
     rw[Nat.add_mul];omega
theorem wm (off:Nat) : ∀ (l:List Value) (k:Nat) (cells:Array Value) (i:Nat),
 ((l.zipIdx k).foldl (fun cs p=>cs.setIfInBounds (off+p.2) p.1) cells).size=cells.size∧
 (off+k+l.length≤cells.size→((l.zipIdx k).foldl (fun cs p=>cs.setIfInBounds (off+p.2) p.1) cells)[i]? = if off+k≤i∧i<off+k+l.length then l[i - (off+k)]? else cells[i]?)
 | [],k,cells,i=>by simp;intro _ h1 h2;omega
 | v::l,k,cells,i=>by
  obtain⟨h1,h2⟩:=wm off l (k+1) (cells.setIfInBounds (off+k) v) i
  simp only[List.zipIdx_cons,List.foldl_cons]
  refine⟨by rw[h1];simp,fun jo=>?_⟩
  simp only[List.length_cons]at jo
  rw[h2 (by simp;omega)]
  rw[Array.getElem?_setIfInBounds]
  by_cases hi:off+k=i
  ·subst hi
   rw[if_neg (by omega),if_pos rfl,if_pos (by omega),if_pos (by simp)]
   simp
  ·rw [if_neg hi]
   by_cases hr:off+(k+1)≤i∧i<off+(k+1)+l.length
   ·rw [if_pos hr,if_pos (by simp;omega)]
    rw[show i - (off+k)=(i - (off+(k+1)))+1 by omega]
    simp
   ·rw[if_neg hr,if_neg (by simp;omega)]
def sZ (M:Map) (s:St) (ds:List D) (vs:Array Value):Prop:=vs.size=ds.length∧(∀ v∈vs,v.oneCell'=true)∧∀ (i:Nat) (d:D) (v:Value),ds[i]? = some d→vs[i]? = some v→RD M s d v
theorem sZ.iz {ds:List D} {vs:Array Value} (h:sZ M s ds vs) {d:D} {v:Value} {row:List D} (hd:RD M s d v) (hr:d.row=some row) {off:Nat} (jo:off+row.length≤ds.length) :
 sZ M s (iz ds off row) (v.cells.zipIdx.foldl (fun cs (p:Value×Nat)=>cs.setIfInBounds (off+p.2) p.1) vs):=by
 obtain⟨h1,h2,h3⟩:=hd.row hr
 obtain⟨g1,g2,g3⟩:=h
 have e:v.cells.zipIdx.foldl (fun cs (p:Value×Nat)=>cs.setIfInBounds (off+p.2) p.1) vs=(v.cells.toList.zipIdx 0).foldl (fun cs p=>cs.setIfInBounds (off+p.2) p.1) vs:=by
  rw[← Array.foldl_toList];simp
 rw[e]
 have hl:v.cells.toList.length=row.length:=by simpa using h1
 have fs:=fun i=>wm off v.cells.toList 0 vs i
 have get : ∀ i,((v.cells.toList.zipIdx 0).foldl (fun cs p=>cs.setIfInBounds (off+p.2) p.1) vs)[i]? = if off≤i∧i<off+row.length then v.cells.toList[i - off]? else vs[i]? :=by
  intro i
  have:=(fs i).2 (by omega)
  rw[hl]at this
  simpa using this
 refine⟨by rw[(fs 0).1,g1,tJ ds off row jo],fun u hu=>?_,fun i d' u e1 e2=>?_⟩
 ·obtain⟨i,hi⟩:=Array.mem_iff_getElem?.1 hu
  rw[get]at hi
  split at hi
  ·exact h2 u (Array.mem_toList_iff.1 (List.mem_of_getElem? hi))
  ·exact g2 u (Array.mem_of_getElem? hi)
 ·rw [qT ds off row jo]at e1
  rw[get]at e2
  by_cases h5:off≤i
  ·by_cases h6:i<off+row.length
   ·rw [if_pos ⟨h5,h6⟩]at e2
    rw[if_neg (by omega),if_pos h6]at e1
    exact h3 _ d' u e1 (by simpa using e2)
   ·rw [if_neg (fun h=>h6 h.2)]at e2
    rw[if_neg (by omega),if_neg h6]at e1
    exact g3 i d' u e1 e2
  ·rw [if_neg (fun h=>h5 h.1)]at e2
   rw[if_pos (by omega)]at e1
   exact g3 i d' u e1 e2
theorem Iw {place:Nat→Option (Nat×Nat)} : ∀ (vp:List (Nat×Value)) (dp:List (Nat×Nat×D)) (ds:List D) (vs:Array Value) (nJ:List D),sZ M s ds vs→
 dp.length=vp.length→(∀ (j:Nat) (i:Nat) (v:Value) (off size:Nat) (d:D),vp[j]? = some (i,v)→dp[j]? = some (off,size,d)→place i=some (off,size)∧RD M s d v)→
 qQ ds dp=some nJ→∃ fF,Instr.fill place vs vp=some fF∧sZ M s nJ fF
 | [],[],ds,vs,nJ,h,_,_,e=>by cases e;exact⟨vs,rfl,h⟩
 | [],_::_,_,_,_,_,hl,_,_=>by simp at hl
 |_::_,[],_,_,_,_,hl,_,_=>by simp at hl
 | (i,v)::vp,(off,size,d)::dp,ds,vs,nJ,h,hl,hp,e=>by
  obtain⟨h1,h2⟩:=hp 0 i v off size d rfl rfl
  unfold qQ at e
  split at e
  ·cases e
  ·rename_i row hr
   split at e
   ·rename_i hc
    obtain⟨c1,c2⟩:=hc
    have dO:=(h2.row hr).1
    obtain⟨fF,f1,f2⟩:=Iw vp dp (iz ds off row) _ nJ (h.iz h2 hr (by omega)) (by simpa using hl)
     (fun j i v off size d e1 e2=>hp (j+1) i v off size d (by simpa using e1) (by simpa using e2)) e
    refine⟨fF, ?_,f2⟩
    unfold Instr.fill
    simp only[h1]
    rw[if_neg]
    ·exact f1
    ·simp;exact⟨by omega,by have:=h.1;omega⟩
   ·cases e
end
end Go.Abs
namespace Go.Abs
section
variable {P:Program} {M:Map} {s:St} {w:World}
def l9 (M:Map) (s:St) (size:Nat) (rows:List (List D)) (vs:Array Value):Prop:=
 rows.length*size≤vs.size∧(∀ row∈rows,row.length=size)∧(∀ v∈vs,v.oneCell'=true)∧
 ∀ (i:Nat) (row:List D) (j:Nat) (d:D) (v:Value),rows[i]? = some row→row[j]? = some d→vs[i*size+j]? = some v→RD M s d v
theorem A3 {size:Nat} {rows:List (List D)} (hs : ∀ row∈rows,row.length=size) {i:Nat} {row:List D} {j:Nat} {d:D} (h1:rows[i]? = some row) (h2:row[j]? = some d):i*size+j<rows.length*size:=by
 have hi:=(List.getElem?_eq_some_iff.1 h1).1
 have hj:=(List.getElem?_eq_some_iff.1 h2).1
 have:=hs row (List.mem_of_getElem? h1)
 have:i*size+size≤rows.length*size:=by rw[← Nat.succ_mul];exact Nat.mul_le_mul_right _ hi
 omega
theorem l9.fixed {size:Nat} {rows:List (List D)} {vs:Array Value} (h:l9 M s size rows vs) {M':Map} {s':St} (le:Le M s M' s') {b:Nat}
 (hG : ∀ o,o<rows.length*size→M'.G b o=vs[o]?) :
 (∀ (i:Nat) (row:List D) (j:Nat) (d:D),rows[i]? = some row→row[j]? = some d→∃ u,M'.G b (0+(i*size+j))=some u)∧
 (∀ (i:Nat) (row:List D) (j:Nat) (d:D) (u:Value),rows[i]? = some row→row[j]? = some d→M'.G b (0+(i*size+j))=some u→RD M' s' d u):=by
 obtain⟨h1,h2,h3,h4⟩:=h
 refine⟨fun i row j d e1 e2=>?_,fun i row j d u e1 e2 eu=>?_⟩
 ·have hD:=A3 h2 e1 e2
  rw[Nat.zero_add,hG _ hD]
  exact⟨_,Array.getElem?_eq_getElem (by omega)⟩
 ·have hD:=A3 h2 e1 e2
  rw[Nat.zero_add,hG _ hD]at eu
  exact(h4 i row j d u e1 e2 eu).mono le
theorem mg (z:List D) : ∀ n,(fR z n).length=n
 | 0=>rfl
 |n+1=>by simp[fR,mg z n]
theorem oW (z:List D) : ∀ n,∀ row∈fR z n,row=z
 | 0,_,h=>by cases h
 |n+1,row,h=>by
  rcases List.mem_cons.1 h with rfl|h
  ·rfl
  ·exact oW z n row h
theorem l9.zero {z:List D} {zs:Array Value} (h:sZ M s z zs) (hp:0<z.length) (n:Nat):l9 M s z.length (fR z n) ((Array.range (n*z.length)).map (zs[· % zs.size]!)):=by
 obtain⟨h1,h2,h3⟩:=h
 have get : ∀ q,q<n*z.length→((Array.range (n*z.length)).map (zs[· % zs.size]!))[q]? = zs[q % z.length]? :=by
  intro q hq
  have:q % z.length<zs.size:=by rw[h1];exact Nat.mod_lt _ hp
  simp only[Array.getElem?_map,Array.getElem?_range,hq,if_true,Option.map_some]
  rw[h1,getElem!_pos zs (q % z.length) this,Array.getElem?_eq_getElem this]
 refine⟨by simp[mg],fun row hr=>by rw[oW z n row hr],fun v hv=>?_,fun i row j d v e1 e2 e3=>?_⟩
 ·obtain⟨q,hq⟩:=Array.mem_iff_getElem?.1 hv
  have hD:q<n*z.length:=by have:=(Array.getElem?_eq_some_iff.1 hq).1;simpa using this
  rw[get q hD]at hq
  exact h2 v (Array.mem_of_getElem? hq)
 ·have ei:=oW z n row (List.mem_of_getElem? e1)
  subst ei
  have hD:=A3 (size:=row.length) (fun r hr=>by rw[oW row n r hr]) e1 e2
  rw[mg]at hD
  rw[get _ hD]at e3
  have hj:=(List.getElem?_eq_some_iff.1 e2).1
  rw[Nat.mul_comm,Nat.mul_add_mod,Nat.mod_eq_of_lt hj]at e3
  exact h3 j d v e2 e3
theorem l9.set {size:Nat} {rows:List (List D)} {vs:Array Value} (h:l9 M s size rows vs) {d:D} {v:Value} {row:List D} (hd:RD M s d v) (hr:d.row=some row) (hl:row.length=size) {i:Nat} (hi:i<rows.length) :
 l9 M s size (rows.set i row) (v.cells.zipIdx.foldl (fun cs (p:Value×Nat)=>cs.setIfInBounds (i*size+p.2) p.1) vs):=by
 obtain⟨h1,h2,h3⟩:=hd.row hr
 obtain⟨g1,g2,g3,g4⟩:=h
 have e:v.cells.zipIdx.foldl (fun cs (p:Value×Nat)=>cs.setIfInBounds (i*size+p.2) p.1) vs=(v.cells.toList.zipIdx 0).foldl (fun cs p=>cs.setIfInBounds (i*size+p.2) p.1) vs:=by
  rw[← Array.foldl_toList];simp
 rw[e]
 have iX:v.cells.toList.length=size:=by simp[h1,hl]
 have jo:i*size+size≤vs.size:=by
  have:(i+1)*size≤rows.length*size:=Nat.mul_le_mul_right _ hi
  rw[Nat.succ_mul]at this;omega
 have fs:=fun q=>wm (i*size) v.cells.toList 0 vs q
 have get : ∀ q,((v.cells.toList.zipIdx 0).foldl (fun cs p=>cs.setIfInBounds (i*size+p.2) p.1) vs)[q]? = if i*size≤q∧q<i*size+size then v.cells.toList[q - i*size]? else vs[q]? :=by
  intro q
  have:=(fs q).2 (by omega)
  rw[iX]at this
  simpa using this
 refine⟨by rw[(fs 0).1];simpa using g1,fun r Qp=>?_,fun u hu=>?_,fun i' ko j d' u e1 e2 e3=>?_⟩
 ·rcases List.mem_or_eq_of_mem_set Qp with h | rfl
  ·exact g2 r h
  ·exact hl
 ·obtain⟨q,hq⟩:=Array.mem_iff_getElem?.1 hu
  rw[get]at hq
  split at hq
  ·exact h2 u (Array.mem_toList_iff.1 (List.mem_of_getElem? hq))
  ·exact g3 u (Array.mem_of_getElem? hq)
 ·rw [List.getElem?_set]at e1
  rw[get]at e3
  split at e1
  ·rename_i heq;subst heq
   simp at e1
   obtain⟨_,rfl⟩:=e1
   have hj:=(List.getElem?_eq_some_iff.1 e2).1
   rw[if_pos (by omega)]at e3
   rw[show i*size+j - i*size=j by omega]at e3
   exact h3 j d' u e2 (by simpa using e3)
  ·rename_i eO
   have hj:=(List.getElem?_eq_some_iff.1 e2).1
   have A4:=g2 ko (List.mem_of_getElem? e1)
   rw[if_neg]at e3
   ·exact g4 i' ko j d' u e1 e2 e3
   ·rintro⟨a,b⟩
    rcases Nat.lt_or_gt_of_ne eO with h|h
    ·have:(i+1)*size≤i'*size:=Nat.mul_le_mul_right _ h
     rw[Nat.succ_mul]at this;omega
    ·have:(i'+1)*size≤i*size:=Nat.mul_le_mul_right _ h
     rw[Nat.succ_mul]at this;omega
theorem A5 {size:Nat} : ∀ (vp:List (Nat×Value)) (dp:List (Nat×D)) (rows:List (List D)) (vs:Array Value) (oJ:List (List D)),l9 M s size rows vs→
 dp.length=vp.length→(∀ (j:Nat) (i:Nat) (v:Value) (i':Nat) (d:D),vp[j]? = some (i,v)→dp[j]? = some (i',d)→i'=i∧RD M s d v)→
 jX size rows dp=some oJ→∃ fF,Instr.fill (fun i=>some (i*size,size)) vs vp=some fF∧l9 M s size oJ fF∧oJ.length=rows.length∧fF.size=vs.size
 | [],[],rows,vs,oJ,h,_,_,e=>by cases e;exact⟨vs,rfl,h,rfl,rfl⟩
 | [],_::_,_,_,_,_,hl,_,_=>by simp at hl
 |_::_,[],_,_,_,_,hl,_,_=>by simp at hl
 | (i,v)::vp,(i',d)::dp,rows,vs,oJ,h,hl,hp,e=>by
  obtain⟨h1,h2⟩:=hp 0 i v i' d rfl rfl
  subst h1
  unfold jX at e
  split at e
  ·cases e
  ·rename_i row hr
   split at e
   ·rename_i hc
    obtain⟨c1,c2⟩:=hc
    have dO:=(h2.row hr).1
    have afi:=h.set h2 hr c1 c2
    obtain⟨fF,f1,f2,f3,f4⟩:=A5 vp dp (rows.set i' row) _ oJ afi (by simpa using hl)
     (fun j i v i' d e1 e2=>hp (j+1) i v i' d (by simpa using e1) (by simpa using e2)) e
    have jo:i'*size+size≤vs.size:=by
     have:(i'+1)*size≤rows.length*size:=Nat.mul_le_mul_right _ c2
     have:=h.1
     rw[Nat.succ_mul]at *;omega
    refine⟨fF, ?_,f2,by rw[f3];simp, ?_⟩
    ·unfold Instr.fill
     simp only
     rw[if_neg]
     ·exact f1
     ·simp;exact⟨by omega,by omega⟩
    ·rw [f4]
     have:=(wm (i'*size) v.cells.toList 0 vs 0).1
     rw[← this, ← Array.foldl_toList];simp
   ·cases e
theorem MW (r:Rel M s w) {size:Nat} {rows:List (List D)} {vs:Array Value} (T:TypeId) (h:l9 M s size rows vs) :
 RD (M.fI w.heap.size vs.size vs) s (.slice .full size rows) (.slice (some ⟨w.heap.size,0,none⟩) rows.length rows.length)∧
 Rel (M.fI w.heap.size vs.size vs) s (w.alloc (.cells vs T))∧Ext M s w (M.fI w.heap.size vs.size vs) s (w.alloc (.cells vs T)):=by
 obtain⟨r',e'⟩:=r.fI vs.size vs T (0,0) h.2.2.1
 obtain⟨g1,g2⟩:=h.fixed e'.le (b:=w.heap.size) (fun o ho=>by
  have:o<vs.size:=Nat.lt_of_lt_of_le ho h.1
  simp[Map.fI,this])
 exact⟨.slice .full size rows w.heap.size 0 rows.length (Nat.le_refl _) h.2.1 g1 g2 rfl,r',e'⟩
theorem lF {t u ty e:TypeId} {i:TypeInfo} (ht:P.underlying t=some (.slice e)) (hi:P.info? e=some i) {base:Option Addr} {len cap:Nat} {y:Value} (hs:Src P i.size u y 0 [] w) (hc:len≤cap) :
 (Builtin.append_ #[t,u] ty #[.slice base len cap,y]).run P w = .ok (.slice base len cap) w:=by
 have mh:=hs.cells
 rcases hs.kind with ⟨e',hk⟩|hk<;>cases base<;>simp[Builtin.append_,run_underlying ht,run_underlying hk,sizeOf,typeInfo,hi,hs.len,hc,mh,storeCells]
theorem Gq (r:Rel M s w) {u e':TypeId} (hu:P.underlying u=some (.slice e')) {g:Tag} {size:Nat} {rows:List (List D)} {y:Value} (hy:RD M s (.slice g size rows) y) :
 ∃ news:List Value,Src P size u y rows.length news w∧
  (∀ (i:Nat) (row:List D) (j:Nat) (d:D) (v:Value),rows[i]? = some row→row[j]? = some d→news[i*size+j]? = some v→RD M s d v)∧
  ∀ (b q n c:Nat),y = .slice (some ⟨b,q,none⟩) n c→∀ o,o<rows.length*size→M.G b (q+o)=news[o]? :=by
 rcases hy.jj with ⟨rfl,rfl,_⟩|⟨rfl,_,a,cap,rfl⟩|⟨b,q,cap,rfl,hl,hs,g1,g2,_⟩
 ·exact⟨[],Src.ofNil w hu 0,by simp,by simp⟩
 ·exact⟨[],Src.ofSlice w hu a 0 cap [] (by simp) (by simp) (by simp),by simp,by simp⟩
 ·obtain⟨us,hlen,CN⟩:=yU (M:=M) (b:=b) (rows.length*size) q (fun k hk=>by
   have hz:0<size:=by
    rcases Nat.eq_zero_or_pos size with h|h
    ·subst h;simp at hk
    ·exact h
   have hi:k / size<rows.length:=by rw[Nat.div_lt_iff_lt_mul hz];exact hk
   obtain⟨row,ei⟩ : ∃ row,rows[k / size]? = some row:=⟨_,List.getElem?_eq_getElem hi⟩
   have A4:=hs row (List.mem_of_getElem? ei)
   have hj:k % size<row.length:=by rw[A4];exact Nat.mod_lt _ hz
   obtain⟨u,hu⟩:=g1 _ row _ _ ei (List.getElem?_eq_getElem hj)
   refine⟨u, ?_⟩
   rw[← hu,Nat.mul_comm (k / size) size,Nat.div_add_mod])
  refine⟨us,Src.ofSlice w hu ⟨b,q,none⟩ rows.length cap us hlen (fun j u h=>by rw[mC];exact(r.comm _ _ _ (CN j u h)).1) (fun u hu=>?_),fun i row j d v e1 e2 e3=>g2 i row j d v e1 e2 (CN _ v e3),
   fun b' q' n c heq o ho=>by
    cases heq
    rw[CN o _ (List.getElem?_eq_getElem (by omega)),List.getElem?_eq_getElem (by omega)]⟩
  obtain⟨j,hj⟩:=List.mem_iff_getElem?.1 hu
  exact(r.comm _ _ _ (CN j u hj)).2
theorem D7 {size:Nat} {rows new:List (List D)} {pP news:List Value} (vg : ∀ row∈rows,row.length=size) (Ae : ∀ row∈new,row.length=size)
 (l1:pP.length=rows.length*size) (l2:news.length=new.length*size) (o1 : ∀ u∈pP,u.oneCell'=true) (o2 : ∀ u∈news,u.oneCell'=true)
 (h1 : ∀ (i:Nat) (row:List D) (j:Nat) (d:D) (v:Value),rows[i]? = some row→row[j]? = some d→pP[i*size+j]? = some v→RD M s d v)
 (h2 : ∀ (i:Nat) (row:List D) (j:Nat) (d:D) (v:Value),new[i]? = some row→row[j]? = some d→news[i*size+j]? = some v→RD M s d v)
 (z:Array Value) (hz : ∀ v∈z,v.oneCell'=true):l9 M s size (rows++new) ((pP++news).toArray++z):=by
 have hs : ∀ row∈rows++new,row.length=size:=fun row h=>(List.mem_append.1 h).elim (vg row) (Ae row)
 refine⟨by simp[l1,l2,Nat.add_mul],hs,fun v hv=>?_,fun i row j d v e1 e2 e3=>?_⟩
 ·simp at hv
  rcases hv with (h|h)|h
  ·exact o1 v h
  ·exact o2 v h
  ·exact hz v h
 ·have hD:=A3 hs e1 e2
  rw[List.length_append,Nat.add_mul]at hD
  rw[Array.getElem?_append_left (by simp[l1,l2];omega),List.getElem?_toArray]at e3
  by_cases hi:i<rows.length
  ·rw [List.getElem?_append_left hi]at e1
   have:=A3 vg e1 e2
   rw[List.getElem?_append_left (by omega)]at e3
   exact h1 i row j d v e1 e2 e3
  ·rw [List.getElem?_append_right (by omega)]at e1
   have uy:rows.length*size≤i*size:=Nat.mul_le_mul_right _ (by omega)
   rw[List.getElem?_append_right (by omega),l1]at e3
   refine h2 (i - rows.length) row j d v e1 e2 ?_
   rw[← e3]
   congr 1
   rw[Nat.sub_mul];omega
theorem tO {z:Array Value} (h : ∀ v∈z,v.oneCell'=true) (n:Nat) : ∀ v∈Builtin.zeroCells z n,v.oneCell'=true:=by
 intro v hv
 unfold Builtin.zeroCells at hv
 obtain⟨q,hq,rfl⟩:=Array.mem_map.1 hv
 have hD:q<n*z.size:=by simpa using hq
 have hz:0<z.size:=by
  rcases Nat.eq_zero_or_pos z.size with h|h
  ·rw[h]at hD;simp at hD
  ·exact h
 have:=Nat.mod_lt q hz
 rw[getElem!_pos z (q % z.size) this]
 exact h _ (Array.getElem_mem this)
def Fz (eb:Bool) (size bytes:Nat) (x y:D) (s:St):Option (D×St):=
 match x,y with
 | .slice g z rows, .slice _ z' new=>
  if(rows = []∨z=size)∧(new = []∨z'=size)∧(rows.length+new.length)*(bytes+1)≤bC then
   match new with
   | []=>some (.slice g z rows,s)
   |_::_=>
    match g with
    | .full=>some (.slice (.tok s.aw.length eb) size (rows++new),{s with aw:=s.aw++ [some (rows.length+new.length)]})
    | .shared=>none
    | .tok t y=>if(y=true→eb=true)∧z=size∧s.aw[t]? = some (some rows.length)then some (.slice (.tok t y) size (rows++new),{s with aw:=s.aw.set t (some (rows.length+new.length))})else none
  else none
 |_,_=>none
theorem aaR {size bytes:Nat} {x y d:D} {s s':St} (h:gY size bytes x y s=some (d,s')):Fz false size bytes x y s=some (d,s'):=by
 unfold gY at h
 unfold Fz
 split at h
 ·split at h
  ·rename_i hc
   simp only[hc,and_self,if_true]
   split at h
   ·exact h
   ·split at h
    ·exact h
    ·exact h
    ·cases h
    ·split at h
     ·rename_i hq
      simp only[hq,and_self,Bool.false_eq_true,false_imp_iff,if_true]
      exact h
     ·cases h
  ·cases h
 ·cases h
theorem Qq {x y d:D} {s s':St} (h:AU x y s=some (d,s')):Fz true 1 1 x y s=some (d,s'):=by
 unfold AU at h
 unfold Fz
 split at h
 ·split at h
  ·rename_i hc
   simp only[hc,and_self,if_true]
   split at h
   ·exact h
   ·split at h
    ·exact h
    ·exact h
    ·split at h
     ·rename_i hq
      simp only[hq,and_self,imp_true_iff,if_true]
      exact h
     ·cases h
  ·cases h
 ·cases h
theorem Wy {b:Bool} {n:Nat} (h:b=true→n=1) (hn:0<n):zs (bz b n)=n:=by
 cases b
 ·show(if n=0 then 1 else n)=n
  rw[if_neg (by omega)]
 ·simp[zs,bz,h rfl]
theorem Di (eb:Bool) (r:Rel M s w) {t u ty e:TypeId} {i:TypeInfo} {z:Value} (ht:P.underlying t=some (.slice e)) (hi:P.info? e=some i) (hz:i.zero=some z)
 (xZ:z.cells.size=i.size) (CQ : ∀ v∈z.cells,v.oneCell'=true) {dx dy d:D} {x y:Value} {s':St} (hx:RD M s dx x) (Wz:eb=true→e=pz∧i.size=1) (si:0<i.size) (he:Fz eb i.size i.bytes dx dy s=some (d,s'))
 (src : ∀ (g:Tag) (size:Nat) (rows:List (List D)),dy = .slice g size rows→(rows = []→Src P i.size u y 0 [] w)∧(rows≠ []→size=i.size→(∀ row∈rows,row.length=i.size)∧∃ news:List Value,Src P i.size u y rows.length news w∧
  (∀ (k:Nat) (row:List D) (j:Nat) (d:D) (v:Value),rows[k]? = some row→row[j]? = some d→news[k*i.size+j]? = some v→RD M s d v))) :
 ∃ v w' M',(Builtin.append_ #[t,u] ty #[x,y]).run P w = .ok v w'∧Rel M' s' w'∧RD M' s' d v∧Ext M s w M' s' w':=by
 unfold Fz at he
 split at he
 case h_2=>cases he
 rename_i g zx rows g' zy new
 split at he
 case isFalse=>cases he
 rename_i hc
 obtain⟨pJ,Iy,wo⟩:=hc
 cases new with
 | nil=>
  simp only at he
  cases he
  have vh:Src P i.size u y 0 [] w:=(src _ _ _ rfl).1 rfl
  rcases hx.jj with ⟨_,hv,_⟩|⟨_,_,a,cap,hv⟩|⟨b,q,cap,hv,hl,_⟩
  ·refine⟨x,w,M, ?_,r,hx,Ext.refl M s w⟩
   rw[hv]
   exact lF ht hi vh (Nat.le_refl _)
  ·refine⟨x,w,M, ?_,r,hx,Ext.refl M s w⟩
   rw[hv]
   exact lF ht hi vh (Nat.zero_le _)
  ·refine⟨x,w,M, ?_,r,hx,Ext.refl M s w⟩
   rw[hv]
   exact lF ht hi vh hl
 | cons n0 new=>
  have eO:(n0::new)≠ []:=by simp
  generalize dh:n0::new=dV at *
  have Qr:zy=i.size:=Iy.resolve_left eO
  subst Qr
  obtain⟨Gr,news,hs,B4⟩:=(src _ _ _ rfl).2 eO rfl
  have hm:0<dV.length:=List.length_pos_iff.2 eO
  have s6:(rows.length+dV.length)*i.bytes≤140737488355328:=by rw[Nat.mul_succ]at wo;simp only[bC]at wo;omega
  have Qs:rows.length+dV.length≤1099511627776:=by rw[Nat.mul_succ]at wo;simp only[bC]at wo;omega
  -- what the first argument reads as
  obtain⟨base,cap,pP,hxv,hle,jk,hod,WA,aaT,hsx,hoG,ox⟩ : ∃ (base:Option Addr) (cap:Nat) (pP:List Value),x = .slice base rows.length cap∧rows.length≤cap∧pP.length=rows.length*i.size∧
   (Builtin.firstCells i.size rows.length (.slice base rows.length cap)).run P w.drew = .ok pP.toArray w.drew∧(∀ u∈pP,u.oneCell'=true)∧
   (∀ (k:Nat) (row:List D) (j:Nat) (d:D) (v:Value),rows[k]? = some row→row[j]? = some d→pP[k*i.size+j]? = some v→RD M s d v)∧(∀ row∈rows,row.length=i.size)∧
   (∀ b q,base=some ⟨b,q,none⟩→∀ o,o<rows.length*i.size→M.G b (q+o)=pP[o]?)∧
   ((base=none∧rows = []∧iP M s g zx 0 none cap)∨∃ b q,base=some ⟨b,q,none⟩∧iP M s g zx rows.length (some (b,q)) cap):=by
   rcases pJ with h0|h0
   ·subst h0
    rcases hx.jj with ⟨_,hv,ox⟩|⟨_,rfl,_⟩|⟨b,q,cap,hv,hl,_,_,_,ox⟩
    ·exact⟨none,0,[],hv,Nat.le_refl _,by simp,by simp[Builtin.firstCells],by simp,by simp,by simp,by simp, .inl ⟨rfl,rfl,ox⟩⟩
    ·exfalso;simp only[← dh]at he;cases he
    ·exact⟨some ⟨b,q,none⟩,cap,[],hv,hl,by simp,by simp[Builtin.firstCells,loadCells,loadCellsFrom],by simp,by simp,by simp,by simp, .inr ⟨b,q,rfl,ox⟩⟩
   ·subst h0
    obtain⟨pP,A7,ho2,ho3⟩:=Gq r ht hx
    rcases hx.jj with ⟨h0,hv,ox⟩|⟨_,rfl,_⟩|⟨b,q,cap,hv,hl,na,_,_,ox⟩
    ·subst h0
     refine⟨none,0,pP,hv,Nat.le_refl _,A7.newsLen, ?_,A7.one,ho2,by simp,by simp, .inl ⟨rfl,rfl,ox⟩⟩
     have:=A7.cellsD;rw[hv]at this;exact this
    ·exfalso;simp only[← dh]at he;cases he
    ·refine⟨some ⟨b,q,none⟩,cap,pP,hv,hl,A7.newsLen, ?_,A7.one,ho2,na,fun b' q' heq o ho=> ?_, .inr ⟨b,q,rfl,ox⟩⟩
     ·have:=A7.cellsD;rw[hv]at this;exact this
     ·cases heq;exact ho3 b q _ cap hv o ho
  subst hxv
  -- the way that makes a new row
  have grow : ∀ (hg:cap<rows.length+dV.length),∃ (w':World) (M1:Map) (vs:Array Value) (oX:Nat),
   (Builtin.append_ #[t,u] ty #[.slice base rows.length cap,y]).run P w = .ok (.slice (some ⟨w.heap.size,0,none⟩) (rows.length+dV.length) oX) w'∧
   w'.heap[w.heap.size]? = some (.cells vs e (0,0))∧vs.size=oX*i.size∧rows.length+dV.length≤oX∧M1=M.fI w.heap.size ((rows.length+dV.length)*i.size) vs∧
   l9 M s i.size (rows++dV) vs∧Rel M1 s w'∧Ext M s w M1 s w':=by
   intro hg
   have uy:=grownCap_ge w (rows.length+dV.length) cap e
   have dH:=run_append_grow_src (P:=P) w t u ty e i z ht hi hz base rows.length cap pP hod y dV.length news hs hg (by omega) (growslice_fits hg s6)
   have ei:=D7 (M:=M) (s:=s) hsx Gr jk hs.newsLen WA hs.one aaT B4 (Builtin.zeroCells z.cells (grownCap w (rows.length+dV.length) cap e - (rows.length+dV.length))) (tO CQ _)
   obtain⟨r1,e1⟩:=(r.of_heap (w':=w.drew) rfl).fI ((rows.length+dV.length)*i.size) _ e (0,0) ei.2.2.1
   refine⟨_,_,_,_,dH,heap_alloc_new w.drew _, ?_,uy,rfl,ei,r1,(Ext.of_heap (M:=M) (s:=s) (w:=w) (w':=w.drew) rfl rfl rfl rfl).trans e1⟩
   simp only[Array.size_append,List.size_toArray,List.length_append,size_zeroCells,xZ,jk,hs.newsLen, ← Nat.add_mul]
   congr 1;omega
  have hlen:(rows++dV).length=rows.length+dV.length:=by simp
  cases g with
  |shared=>simp only[← dh]at he;cases he
  | full=>
   have tM:cap=rows.length:=by
    rcases ox with ⟨_,h0,h1⟩|⟨_,_,_,h1⟩
    ·subst h0;exact h1
    ·exact h1
   obtain⟨w',M1,vs,oX,dH,hh,dO,hn,D8,ei,r1,e1⟩:=grow (by omega)
   simp only[← dh]at he
   simp only[dh]at he
   cases he
   have Iz:zs (bz eb i.size)=i.size:=Wy (fun h=>(Wz h).2) si
   have WB:bz eb i.size=0→e=pz:=fun h0=>by
    cases eb with
    |true=>exact(Wz rfl).1
    |false=>simp[bz]at h0;omega
   obtain⟨r2,l2⟩:=r1.Wx (rows.length+dV.length) w.heap.size oX (bz eb i.size) vs e hh (by rw[Iz];exact dO) hn WB
    (fun off ho=>by rw[Iz]at ho;rw[D8];simp[Map.fI];omega)
    (fun o ho=>by have:=r.qg ho;rw [D8];show M.mu o≠_;omega) (fun q c z' hl heq=>by
     have:M.be q=some (w.heap.size,c,z'):=by rw[D8]at heq;exact heq
     have:=r.sD hl this;omega)
   refine⟨_,w',_,dH,r2, ?_, ?_⟩
   ·obtain⟨f1,f2⟩:=ei.fixed (e1.le.trans l2) (b:=w.heap.size) (fun o ho=>by
     rw[D8,hlen]at *
     simp[Map.e7,Map.fI,ho])
    have key:=RD.slice (M:=M1.e7 s.aw.length (some (w.heap.size,oX,bz eb i.size))) (s:= {s with aw:=s.aw++ [some (rows.length+dV.length)]}) (.tok s.aw.length eb) i.size (rows++dV) w.heap.size 0 oX (by rw[hlen];exact hn) ei.2.1 f1 f2
     ⟨by simp,fun n qY=>by
      simp at qY
      subst qY
      exact⟨by rw[hlen];exact Nat.le_refl _,fun _=> .inr ⟨_,rfl,by simp[Map.e7]⟩⟩⟩
    rw[hlen]at key
    exact key
   ·refine⟨e1.le.trans l2,e1.kept,e1.tH,fun q b c z' hl heq=> ?_,e1.sb,e1.size,e1.os,e1.tape,e1.output⟩
    obtain⟨k,hk⟩:=hl
    rcases Nat.lt_or_ge q s.aw.length with h|h
    ·have IA:M1.be q=some (b,c,z'):=by
      have:(M1.e7 s.aw.length (some (w.heap.size,oX,bz eb i.size))).be q=M1.be q:=by simp[Map.e7];omega
      rw[this]at heq;exact heq
     simp only[List.getElem?_append_left h]at hk
     exact e1.qo q b c z' ⟨k,hk⟩ IA
    ·have:=(List.getElem?_eq_some_iff.1 hk).1
     simp at this
     have:q=s.aw.length:=by omega
     subst this
     have:(M1.e7 s.aw.length (some (w.heap.size,oX,bz eb i.size))).be s.aw.length=some (w.heap.size,oX,bz eb i.size):=by simp[Map.e7]
     rw[this]at heq;cases heq
     exact .inr (Nat.le_refl _)
  | tok q yb=>
   simp only[← dh]at he
   simp only[dh]at he
   split at he
   case isFalse=>cases he
   rename_i hq
   obtain⟨WB,hzx,hq⟩:=hq
   cases he
   have Iz:zs (bz yb i.size)=i.size:=Wy (fun h=>(Wz (WB h)).2) si
   have ajr:bz yb i.size=0→e=pz:=fun h0=>by
    cases yb with
    |true=>exact(Wz (WB rfl)).1
    |false=>simp[bz]at h0;omega
   have MX : ∀ (hg:cap<rows.length+dV.length),∃ v w' M',(Builtin.append_ #[t,u] ty #[.slice base rows.length cap,y]).run P w = .ok v w'∧Rel M' {s with aw:=s.aw.set q (some (rows.length+dV.length))} w'∧
    RD M' {s with aw:=s.aw.set q (some (rows.length+dV.length))} (.slice (.tok q yb) i.size (rows++dV)) v∧Ext M s w M' {s with aw:=s.aw.set q (some (rows.length+dV.length))} w':=by
    intro hg
    obtain⟨w',M1,vs,oX,dH,hh,dO,hn,D8,ei,r1,e1⟩:=grow hg
    have IB:q<s.aw.length:=(List.getElem?_eq_some_iff.1 hq).1
    obtain⟨r2,l2⟩:=r1.afe q rows.length (rows.length+dV.length) w.heap.size oX (bz yb i.size) vs e hq (by omega) hh (by rw[Iz];exact dO) hn ajr
     (fun off ho=>by rw[Iz]at ho;rw[D8];simp[Map.fI];omega)
     (fun o ho=>by have:=r.qg ho;rw [D8];show M.mu o≠_;omega) (fun q c z' hl heq=>by
      have:M.be q=some (w.heap.size,c,z'):=by rw[D8]at heq;exact heq
      have:=r.sD hl this;omega)
    refine⟨_,w',_,dH,r2, ?_, ?_⟩
    ·obtain⟨f1,f2⟩:=ei.fixed (e1.le.trans l2) (b:=w.heap.size) (fun o ho=>by
      rw[D8,hlen]at *
      simp[Map.e7,Map.fI,ho])
     have key:=RD.slice (M:=M1.e7 q (some (w.heap.size,oX,bz yb i.size))) (s:= {s with aw:=s.aw.set q (some (rows.length+dV.length))}) (.tok q yb) i.size (rows++dV) w.heap.size 0 oX (by rw[hlen];exact hn) ei.2.1 f1 f2
      ⟨by simp [IB],fun n qY=>by
       simp[IB]at qY
       subst qY
       exact⟨by rw[hlen];exact Nat.le_refl _,fun _=> .inr ⟨_,rfl,by simp[Map.e7]⟩⟩⟩
     rw[hlen]at key
     exact key
    ·refine⟨e1.le.trans l2,e1.kept,e1.tH,fun q' b c z' hl heq=> ?_,e1.sb,e1.size,e1.os,e1.tape,e1.output⟩
     obtain⟨k,hk⟩:=hl
     by_cases h:q'=q
     ·subst h
      have:(M1.e7 q' (some (w.heap.size,oX,bz yb i.size))).be q'=some (w.heap.size,oX,bz yb i.size):=by simp[Map.e7]
      rw[this]at heq;cases heq
      exact .inr (Nat.le_refl _)
     ·have IA:M1.be q'=some (b,c,z'):=by
       have:(M1.e7 q (some (w.heap.size,oX,bz yb i.size))).be q'=M1.be q':=by simp[Map.e7,h]
       rw[this]at heq;exact heq
      simp only[List.getElem?_set_ne (Ne.symm h)]at hk
      exact e1.qo q' b c z' ⟨k,hk⟩ IA
   rcases ox with ⟨rfl,rfl,h1⟩|⟨b,k,rfl,h1⟩
   ·obtain⟨_,h2⟩:=h1
    obtain⟨_,h3⟩:=h2 _ hq
    rcases h3 rfl with ⟨_,h4⟩|⟨b,h4,_⟩
    ·exact MX (by simp;omega)
    ·cases h4
   ·obtain⟨_,h2⟩:=h1
    obtain⟨_,h3⟩:=h2 _ hq
    rcases h3 rfl with ⟨_,h4⟩|⟨b2,h4,kJ⟩
    ·exact MX (by omega)
    cases h4
    subst hzx
    by_cases qW:rows.length+dV.length≤cap
    ·rcases r.tok q rows.length hq with ⟨h4,_⟩ | ⟨b',qs,yR,vs,T,h4,h5,h6,h7,h8⟩
     ·rw[kJ]at h4;cases h4
     ·rw [kJ]at h4;cases h4
      rw[Iz]at h6
      obtain⟨r2,e2⟩:=r.aff q rows.length dV.length b cap (bz yb i.size) i.size news Iz hq kJ hs.newsLen qW hm hs.one vs T h5 h6 h8.2
      have jo:rows.length*i.size+news.length≤vs.size:=by rw[hs.newsLen,h6, ← Nat.add_mul];exact Nat.mul_le_mul_right _ qW
      have ji:=run_storeCells_at P b (rows.length*i.size) T news 0 vs w h5 (by simpa using jo) hs.one
      simp only[Nat.add_zero]at ji
      have dH:(Builtin.append_ #[t,u] ty #[.slice (some ⟨b,0,none⟩) rows.length cap,y]).run P w = .ok (.slice (some ⟨b,0,none⟩) (rows.length+dV.length) cap) (w.setRow b (vs.toList.take (rows.length*i.size)++news++vs.toList.drop (rows.length*i.size+news.length)).toArray):=by
       rcases hs.kind with ⟨LC,hk⟩|hk<;>simp[Builtin.append_,run_underlying ht,run_underlying hk,sizeOf,typeInfo,hi,hs.len,qW,hs.cells,Addr.add_lit,ji]
      refine⟨_,_,_,dH,r2, ?_,e2⟩
      have hG : ∀ o,o<(rows++dV).length*i.size→(M.fix b (rows.length*i.size) news).G b o=(pP++news).toArray[o]? :=by
       intro o ho
       rw[hlen,Nat.add_mul]at ho
       rw[List.getElem?_toArray]
       by_cases h9:o<rows.length*i.size
       ·rw [List.getElem?_append_left (by omega)]
        have:(M.fix b (rows.length*i.size) news).G b o=M.G b o:=by simp[Map.fix];omega
        rw[this]
        have:=hoG b 0 rfl o h9
        rwa [Nat.zero_add]at this
       ·rw [List.getElem?_append_right (by omega),jk]
        have:(M.fix b (rows.length*i.size) news).G b o=news[o - rows.length*i.size]? :=by
         simp only[Map.fix];rw[if_pos ⟨trivial,by omega,by rw[hs.newsLen];omega⟩]
        rw[this]
      have ei:=D7 (M:=M) (s:=s) hsx Gr jk hs.newsLen WA hs.one aaT B4 #[] (by simp)
      rw[Array.append_empty]at ei
      obtain⟨f1,f2⟩:=ei.fixed e2.le (b:=b) hG
      have IB:q<s.aw.length:=(List.getElem?_eq_some_iff.1 hq).1
      have key:=RD.slice (M:=M.fix b (rows.length*i.size) news) (s:= {s with aw:=s.aw.set q (some (rows.length+dV.length))}) (.tok q yb) i.size (rows++dV) b 0 cap (by rw[hlen];exact qW) ei.2.1 f1 f2
       ⟨by simp [IB],fun n qY=>by
        simp[IB]at qY
        subst qY
        exact⟨by rw[hlen];exact Nat.le_refl _,fun _=> .inr ⟨_,rfl,kJ⟩⟩⟩
      rw[hlen]at key
      exact key
    ·exact MX (by omega)
theorem FA (r:Rel M s w) {u e':TypeId} {i:TypeInfo} (hu:P.underlying u=some (.slice e')) {y:Value} {dy:D} (hy:RD M s dy y) (g:Tag) (size:Nat) (rows:List (List D)) (hdy:dy = .slice g size rows) :
 (rows = []→Src P i.size u y 0 [] w)∧(rows≠ []→size=i.size→(∀ row∈rows,row.length=i.size)∧∃ news:List Value,Src P i.size u y rows.length news w∧
  (∀ (k:Nat) (row:List D) (j:Nat) (d:D) (v:Value),rows[k]? = some row→row[j]? = some d→news[k*i.size+j]? = some v→RD M s d v)):=by
 subst hdy
 refine⟨fun h0=>?_,fun eO dO=>?_⟩
 ·subst h0
  rcases hy.jj with ⟨_,rfl,_⟩|⟨_,_,a,cap,rfl⟩|⟨b,q,cap,rfl,_⟩
  ·exact Src.ofNil w hu 0
  ·exact Src.ofSlice w hu a 0 cap [] (by simp) (by simp) (by simp)
  ·exact Src.ofSlice w hu ⟨b,q,none⟩ 0 cap [] (by simp) (by simp) (by simp)
 ·subst dO
  obtain⟨news,h1,h2,_⟩:=Gq r hu hy
  refine⟨?_,news,h1,h2⟩
  rcases hy.jj with ⟨h0,_⟩|⟨h0,_⟩|⟨_,_,_,_,_,h,_⟩
  ·exact(eO h0).elim
  ·exact(eO h0).elim
  ·exact h
theorem Qt (r:Rel M s w) {t u ty e e':TypeId} {i:TypeInfo} {z:Value} (ht:P.underlying t=some (.slice e)) (hu:P.underlying u=some (.slice e')) (hi:P.info? e=some i) (hz:i.zero=some z)
 (xZ:z.cells.size=i.size) (CQ : ∀ v∈z.cells,v.oneCell'=true) {dx dy d:D} {x y:Value} {s':St} (hx:RD M s dx x) (hy:RD M s dy y) (si:0<i.size) (he:gY i.size i.bytes dx dy s=some (d,s')) :
 ∃ v w' M',(Builtin.append_ #[t,u] ty #[x,y]).run P w = .ok v w'∧Rel M' s' w'∧RD M' s' d v∧Ext M s w M' s' w':=
 Di false r ht hi hz xZ CQ hx (fun h=>by cases h) si (aaR he) (FA r hu hy)
theorem MY (r:Rel M s w) {t u ty e':TypeId} {i:TypeInfo} {z:Value} (ht:P.underlying t=some (.slice pz)) (hu:P.underlying u=some (.slice e')) (hi:P.info? pz=some i) (hz:i.zero=some z) (h1:i.size=1) (h2:i.bytes=1)
 (xZ:z.cells.size=i.size) (CQ : ∀ v∈z.cells,v.oneCell'=true) {dx dy d:D} {x y:Value} {s':St} (hx:RD M s dx x) (hy:RD M s dy y) (he:AU dx dy s=some (d,s')) :
 ∃ v w' M',(Builtin.append_ #[t,u] ty #[x,y]).run P w = .ok v w'∧Rel M' s' w'∧RD M' s' d v∧Ext M s w M' s' w':=
 Di true r ht hi hz xZ CQ hx (fun _=>⟨rfl,h1⟩) (by omega) (by rw[h1,h2];exact Qq he) (FA r hu hy)
theorem MZ (r:Rel M s w) {t u ty:TypeId} {i:TypeInfo} {z:Value} (ht:P.underlying t=some (.slice pz)) (hu:P.underlying u=some .string) (hi:P.info? pz=some i) (hz:i.zero=some z) (h1:i.size=1) (h2:i.bytes=1)
 (xZ:z.cells.size=i.size) (CQ : ∀ v∈z.cells,v.oneCell'=true) {dx d:D} {x:Value} {l:List UInt8} {s':St} (hx:RD M s dx x) (he:AU dx (.slice .shared 1 (l.map fun c=> [.int .u8 c.toNat])) s=some (d,s')) :
 ∃ v w' M',(Builtin.append_ #[t,u] ty #[x, .string ⟨⟨l⟩⟩]).run P w = .ok v w'∧Rel M' s' w'∧RD M' s' d v∧Ext M s w M' s' w':=by
 have hs:Src P i.size u (.string ⟨⟨l⟩⟩) l.length (l.map fun c=> .int .u8 c.toNat) w:=by
  rw[h1]
  exact Src.ofString w hu ⟨⟨l⟩⟩
 refine Di true r ht hi hz xZ CQ hx (fun _=>⟨rfl,h1⟩) (by omega) (by rw[h1,h2];exact Qq he) fun g size rows hdy=>?_
 cases hdy
 refine⟨fun h0=>?_,fun eO dO=>?_⟩
 ·have:l = []:=by simpa using h0
  subst this
  exact hs
 ·refine⟨fun row hr=> ?_,_,by simpa using hs,fun k row j d v e1 e2 e3=> ?_⟩
  ·obtain⟨c,_,rfl⟩:=List.mem_map.1 hr
   rw[h1];rfl
  ·rw [List.getElem?_map,Option.map_eq_some_iff]at e1
   obtain⟨c,e1,rfl⟩:=e1
   cases j with
   |zero=>
    simp at e2
    subst e2
    simp[h1,e1]at e3
    subst e3
    exact .int _ _
   |succ j=>simp at e2
end
end Go.Abs
namespace Go.Abs
section
variable {P:Program} {M:Map} {s:St} {w:World}
theorem map_some {α β:Type} {f:α→β} {x:Option α} {y:β} (h:x.map f=some y) : ∃ a,x=some a∧y=f a:=by
 cases x with
 |none=>cases h
 |some a=>cases h;exact⟨a,rfl,rfl⟩
theorem sE {t:TypeId} {z:List D} (h:zeroOf P t=some z) : ∃ i v,P.info? t=some i∧i.zero=some v∧v.cells.size=i.size∧nP v.cells.toList=some z:=by
 unfold zeroOf at h
 split at h
 ·rename_i i hi
  split at h
  ·rename_i v hv
   split at h
   ·exact⟨i,v,hi,hv, ‹_›,h⟩
   ·cases h
  ·cases h
 ·cases h
theorem qZ {z:List D} {v:Value} (h:nP v.cells.toList=some z):sZ M s z v.cells:=by
 obtain⟨h1,h2,h3⟩:=lu (M:=M) (s:=s) h
 exact⟨by simpa using h1.symm,fun u hu=>h2 u (by simpa using hu),fun i d u e1 e2=>h3 i d u e1 (by simpa using e2)⟩
theorem M3 {t:TypeId} {z:List D} (h:yQ P t=some z) : ∃ i v,P.info? t=some i∧i.zero=some v∧v.cells.size=i.size∧sZ M s z v.cells:=by
 unfold yQ at h
 split at h
 ·rename_i i hi
  split at h
  ·rename_i v hv
   split at h
   ·refine⟨i,v,hi,hv, ‹_›, ?_⟩
    obtain⟨h1,h2,h3⟩:=CO (M:=M) (s:=s) h
    exact⟨by simpa using h1.symm,fun u hu=>h2 u (by simpa using hu),fun i d u e1 e2=>h3 i d u e1 (by simpa using e2)⟩
   ·cases h
  ·cases h
 ·cases h
theorem A8 {t:TypeId} {tm:Tm} {act:Act} (hr:l7 M s tm act.tmps) : ∀ {l:List (Nat×Operand)} {ps:List (Nat×Nat×X)},AX P t l=some ps→
 (ps.map fun p=>(p.1,p.2.1,p.2.2.ev tm)).length=(l.map fun p=>(p.1,act.eval p.2)).length∧
 ∀ (j:Nat) (i:Nat) (v:Value) (off size:Nat) (d:D),(l.map fun p=>(p.1,act.eval p.2))[j]? = some (i,v)→(ps.map fun p=>(p.1,p.2.1,p.2.2.ev tm))[j]? = some (off,size,d)→
  (∃ a,mB P t i=some (off,size,a))∧RD M s d v
 | [],ps,h=>by cases h;exact⟨rfl,by simp⟩
 | (i0,x)::l,ps,h=>by
  unfold AX at h
  split at h
  ·rename_i off size a x' r' h1 h2 h3
   cases h
   obtain⟨g1,g2⟩:=A8 hr h3
   refine⟨by simpa using g1,fun j i v xg yR d e1 e2=>?_⟩
   cases j with
   |zero=>
    simp at e1 e2
    obtain⟨rfl,rfl⟩:=e1
    obtain⟨rfl,rfl,rfl⟩:=e2
    exact⟨⟨a,h1⟩,bS h2 hr⟩
   |succ j=>exact g2 j i v xg yR d (by simpa using e1) (by simpa using e2)
  ·cases h
theorem D9 {tm:Tm} {act:Act} (hr:l7 M s tm act.tmps) : ∀ {l:List (Nat×Operand)} {ps:List (Nat×X)},Iq l=some ps→
 (ps.map fun p=>(p.1,p.2.ev tm)).length=(l.map fun p=>(p.1,act.eval p.2)).length∧
 ∀ (j:Nat) (i:Nat) (v:Value) (i':Nat) (d:D),(l.map fun p=>(p.1,act.eval p.2))[j]? = some (i,v)→(ps.map fun p=>(p.1,p.2.ev tm))[j]? = some (i',d)→i'=i∧RD M s d v
 | [],ps,h=>by cases h;exact⟨rfl,by simp⟩
 | (i0,x)::l,ps,h=>by
  unfold Iq at h
  split at h
  ·rename_i x' r' h1 h2
   cases h
   obtain⟨g1,g2⟩:=D9 hr h2
   refine⟨by simpa using g1,fun j i v i' d e1 e2=>?_⟩
   cases j with
   |zero=>
    simp at e1 e2
    obtain⟨rfl,rfl⟩:=e1
    obtain⟨rfl,rfl⟩:=e2
    exact⟨rfl,bS h1 hr⟩
   |succ j=>exact g2 j i v i' d (by simpa using e1) (by simpa using e2)
  ·cases h
theorem Ea : ∀ (l:List Field),(∀ f∈l,(P.info? f.type).isSome)→
 ∃ ps:List (Nat×Nat),(l.mapM fun f=>do pure (f.offset, ← sizeOf f.type):Sem (List (Nat×Nat))).run P w = .ok ps w∧
  ∀ (j:Nat) (f:Field) (i:TypeInfo),l[j]? = some f→P.info? f.type=some i→ps[j]? = some (f.offset,i.size)
 | [],_=>⟨[],rfl,by simp⟩
 | f::l,h=>by
  obtain⟨i,hi⟩:=Option.isSome_iff_exists.1 (h f (by simp))
  obtain⟨ps,h1,h2⟩:=Ea l (fun g hg=>h g (by simp[hg]))
  refine⟨(f.offset,i.size)::ps, ?_,fun j g i' e1 e2=>?_⟩
  ·rw [List.mapM_cons]
   simp only[Sem.run_bind,sizeOf,fS P hi,Result.andThen_ok,Sem.run_pure]at h1 ⊢
   simp only[h1,Result.andThen_ok]
  ·cases j with
   |zero=>simp at e1;subst e1;rw[hi]at e2;cases e2;rfl
   |succ j=>exact h2 j g i' (by simpa using e1) e2
theorem M4 (r:Rel M s w) {t:TypeId} {fs:Array Field} {z:List D} {l:List (Nat×Operand)} {ps:List (Nat×Nat×X)} {tm:Tm} {act:Act} {cs:List D} (hr:l7 M s tm act.tmps)
 (ht:P.underlying t=some (.struct fs)) (Eb:(fs.toList.all fun f=>(P.info? f.type).isSome)=true) (hz:yQ P t=some z) (hp:AX P t l=some ps) (hf:qQ z (ps.map fun p=>(p.1,p.2.1,p.2.2.ev tm))=some cs) :
 cR P M s w (do pure (.value (← Instr.build t (l.toArray.map fun(i,x)=>(i,act.eval x))))) (.agg cs) s:=by
 obtain⟨i,v,h1,h2,h3,hc⟩:=M3 (M:=M) (s:=s) hz
 obtain⟨g1,g2⟩:=A8 hr hp
 obtain⟨pl,p1,p2⟩:=Ea (P:=P) (w:=w) fs.toList (fun f hf'=>by simpa using List.all_eq_true.1 Eb f hf')
 have Yr:(fs.mapM fun f=>do pure (f.offset, ← sizeOf f.type):Sem (Array (Nat×Nat))).run P w = .ok pl.toArray w:=by
  rw[Array.mapM_eq_mapM_toList,Sem.run_map,p1];rfl
 obtain⟨vs,f1,f2⟩:=Iw (place:=(pl.toArray[·]?)) (l.map fun p=>(p.1,act.eval p.2)) _ z v.cells cs hc g1 (fun j i v off size d e1 e2=>by
  obtain⟨⟨a,ha⟩,hd⟩:=g2 j i v off size d e1 e2
  refine⟨?_,hd⟩
  unfold mB at ha
  rw[ht]at ha
  simp only at ha
  split at ha
  ·rename_i fd hfd
   split at ha
   ·rename_i i' a' ic _
    split at ha
    ·cases ha
    ·cases ha
     simpa using p2 i fd i' (by simpa using hfd) ic
   ·cases ha
  ·cases ha) hf
 refine cR.pure (v:= .agg vs) r ?_ (.agg _ _ f2.1.symm f2.2.1 f2.2.2)
 have rU:(l.toArray.map fun(i,x)=>(i,act.eval x)).toList=l.map fun p=>(p.1,act.eval p.2):=by simp
 unfold Instr.build
 simp only[Sem.run_bind,zeroValue,fS P h1,h2,Result.andThen_ok,Sem.run_pure,run_underlying ht,Yr,rU,f1]
theorem CS (r:Rel M s w) {t e:TypeId} {i:TypeInfo} {z:List D} {n:Nat} {l:List (Nat×Operand)} {ps:List (Nat×X)} {tm:Tm} {act:Act} {rows:List (List D)} (hr:l7 M s tm act.tmps)
 (ht:P.underlying t=some (.slice e)) (hi:P.info? e=some i) (hz:zeroOf P e=some z) (si:0<i.size) (hn:n*i.size≤65536) (hp:Iq l=some ps)
 (hf:jX i.size (fR z n) (ps.map fun p=>(p.1,p.2.ev tm))=some rows) :
 ∃ (vs:Array Value) (T:TypeId),l9 M s i.size rows vs∧rows.length=n∧vs.size=n*i.size∧
  (Instr.buildSlice t n (l.toArray.map fun(i,x)=>(i,act.eval x))).run P w = .ok (.slice (some ⟨w.heap.size,0,none⟩) n n) (w.alloc (.cells vs T)):=by
 obtain⟨i',v,h1,h2,h3,h4⟩:=sE hz
 rw[hi]at h1;cases h1
 have hc:=qZ (M:=M) (s:=s) h4
 have WC:z.length=i.size:=by rw[← hc.1,h3]
 have Gs:=l9.zero hc (by omega) n
 rw[WC]at Gs
 obtain⟨g1,g2⟩:=D9 hr hp
 obtain⟨vs,f1,f2,f3,f4⟩:=A5 (l.map fun p=>(p.1,act.eval p.2)) _ _ _ rows Gs g1 g2 hf
 have hzr:=mg z n
 refine⟨vs,e,f2,by rw[f3,hzr],by rw[f4];simp, ?_⟩
 have s6 : ¬ (n*i.size > 2 ^ 24):=by omega
 have rU:(l.toArray.map fun(i,x)=>(i,act.eval x)).toList=l.map fun p=>(p.1,act.eval p.2):=by simp
 by_cases h0:n*i.size=0
 ·have mh:(Array.range (n*i.size)).map ((#[] : Array Value)[· % (#[] : Array Value).size]!)=(Array.range (n*i.size)).map (v.cells[· % v.cells.size]!):=by rw [h0];simp
  unfold Instr.buildSlice
  simp only[Sem.run_bind,run_underlying ht,Result.andThen_ok,sizeOf,fS P hi,Sem.run_pure,if_neg s6,if_pos h0,mh,rU,f1,newRow,run_newObj]
  rfl
 ·unfold Instr.buildSlice
  simp only[Sem.run_bind,run_underlying ht,Result.andThen_ok,sizeOf,fS P hi,Sem.run_pure,if_neg s6,if_neg h0,zeroValue,h2,rU,f1,newRow,run_newObj]
  rfl
end
end Go.Abs
namespace Go.Abs
section
variable {P:Program} {M:Map} {s:St} {w:World}
theorem foldl_push (ns:List Int) : ∀ r:ByteArray,ns.foldl (fun r n=>r.push (UInt8.ofNat n.toNat)) r = ⟨r.data++(ns.map fun n=>UInt8.ofNat n.toNat).toArray⟩:=by
 induction ns with
 |nil=>intro r;simp
 |cons n ns ih=>intro r;simp only[List.foldl_cons];rw[ih];simp[ByteArray.push]
theorem vi : ∀ {rows:List (List D)} {l:List UInt8},oo rows=some l→∃ ns:List Int,rows=ns.map (fun n=> [.int .u8 n])∧l=ns.map fun n=>UInt8.ofNat n.toNat
 | [],l,h=>by cases h;exact⟨[],rfl,rfl⟩
 | r::rs,l,h=>by
  unfold oo at h
  split at h
  ·rename_i b bs h1 h2
   cases h
   obtain⟨ns,g1,g2⟩:=vi h2
   unfold Gm at h1
   split at h1
   ·rename_i n
    cases h1
    exact⟨n::ns,by rw[g1];rfl,by rw[g2];rfl⟩
   ·cases h1
  ·cases h
theorem M5 (r:Rel M s w) {src dst e:TypeId} {g:Tag} {z:Nat} {rows:List (List D)} {v:Value} {l:List UInt8} (hs:P.underlying src=some (.slice e)) (he:P.underlying e=some (.int .u8)) (hd:P.underlying dst=some .string)
 (hv:RD M s (.slice g z rows) v) (hb:oo rows=some l):cR P M s w (do pure (.value (← convert src dst v))) (.str l) s:=by
 obtain⟨ns,rfl,rfl⟩:=vi hb
 refine cR.pure (v:= .string ⟨⟨ns.map fun n=>UInt8.ofNat n.toNat⟩⟩) r ?_ (.str _)
 rcases hv.jj with ⟨h0,rfl,_⟩|⟨h0,_,a,cap,rfl⟩|⟨b,q,cap,rfl,hl,dO,g1,g2,_⟩
 ·have:ns = []:=by simpa using h0
  subst this
  have:=run_convert_bytes_string w src dst e none 0 0 hs he hd
  simp only[Sem.run_bind,this,Conv.bytesToString,Sem.run_pure,Result.andThen_ok]
  rfl
 ·have:ns = []:=by simpa using h0
  subst this
  have h2:=run_convert_bytes_string w src dst e (some a) 0 cap hs he hd
  simp only[Sem.run_bind,h2,Conv.bytesToString,Sem.run_pure,Result.andThen_ok]
  rfl
 ·have mh:=run_loadCells_list (P:=P) w ⟨b,q,none⟩ (ns.map (Value.int .u8)) (fun j v hj=>by
   rw[mC]
   simp only[List.getElem?_map,Option.map_eq_some_iff]at hj
   obtain⟨n,hn,rfl⟩:=hj
   have ei:(ns.map (fun n=> [D.int .u8 n]))[j]? = some [.int .u8 n]:=by simp[hn]
   have hz:z=1:=by have:=dO [.int .u8 n] (List.mem_of_getElem? ei);simpa using this.symm
   subst hz
   obtain⟨u,hu⟩:=g1 j _ 0 _ ei rfl
   have:=g2 j _ 0 _ u ei rfl hu
   rw[this.iw]at hu
   have:=(r.comm _ _ _ hu).1
   simpa using this)
  simp only[List.length_map]at mh ⊢
  have h1:=run_bytesToString (P:=P) w ⟨b,q,none⟩ ns.length cap ns mh
  have h2:=run_convert_bytes_string w src dst e (some ⟨b,q,none⟩) ns.length cap hs he hd
  simp only[Sem.run_bind,h2,h1,Sem.run_pure,Result.andThen_ok,foldl_push]
  congr 3
  simp[ByteArray.empty,ByteArray.emptyWithCapacity]
  rfl
theorem IC (r:Rel M s w) {src dst e:TypeId} {l:List UInt8} (hs:P.underlying src=some .string) (hd:P.underlying dst=some (.slice e)) (he:P.underlying e=some (.int .u8)) :
 cR P M s w (do pure (.value (← convert src dst (.string ⟨⟨l⟩⟩)))) (.slice .shared 1 (l.map fun c=> [.int .u8 c.toNat])) s:=by
 have dH:=run_bytes_of_string (P:=P) w src dst e ⟨⟨l⟩⟩ hs hd he
 generalize tM:grownCap w (ByteArray.size ⟨⟨l⟩⟩) 0 e=cap at dH
 have uy:l.length≤cap:=by rw[← tM];exact grownCap_ge w l.length 0 e
 have ei : ∀ j,j<l.length→(bytesRow ⟨⟨l⟩⟩ cap)[j]? = some (.int .u8 ((l[j]?.getD 0).toNat:Int)):=by
  intro j hj
  unfold bytesRow
  rw[Array.getElem?_append_left (by simpa using hj)]
  simp[hj]
 have dO:(bytesRow ⟨⟨l⟩⟩ cap).size=cap:=by simp[bytesRow,B3];omega
 have gZ : ∀ v∈bytesRow ⟨⟨l⟩⟩ cap,v.oneCell'=true:=by
  intro v hv
  unfold bytesRow at hv
  simp at hv
  rcases hv with ⟨a,_,rfl⟩|⟨_,rfl⟩<;>rfl
 have hR:l9 M s 1 (l.map fun c=> [D.int .u8 c.toNat]) (bytesRow ⟨⟨l⟩⟩ cap):=by
  refine⟨by simp[dO];omega,by simp,gZ,fun i row j d v e1 e2 e3=>?_⟩
  simp only[List.getElem?_map,Option.map_eq_some_iff]at e1
  obtain⟨c,hc,rfl⟩:=e1
  cases j with
  |zero=>
   simp at e2;subst e2
   have hi:=(List.getElem?_eq_some_iff.1 hc).1
   rw[show i*1+0=i by omega,ei i hi,hc]at e3
   cases e3
   exact .int _ _
  |succ j=>simp at e2
 obtain⟨r1,e1⟩:=(r.of_heap (w':=w.drew) rfl).fI l.length (bytesRow ⟨⟨l⟩⟩ cap) e ((bytesRow ⟨⟨l⟩⟩ cap).size,(bytesRow ⟨⟨l⟩⟩ cap).size+1) gZ
 obtain⟨f1,f2⟩:=hR.fixed e1.le (b:=w.heap.size) (fun o ho=>by simp at ho;simp[Map.fI,ho])
 refine⟨.slice (some ⟨w.heap.size,0,none⟩) l.length cap,_,_, .inl (by simp only[Sem.run_bind,dH,Result.andThen_ok,Sem.run_pure];rfl),r1, ?_,(Ext.of_heap (M:=M) (s:=s) (w:=w) (w':=w.drew) rfl rfl rfl rfl).trans e1⟩
 have key:=RD.slice (M:=M.fI w.heap.size l.length (bytesRow ⟨⟨l⟩⟩ cap)) (s:=s) .shared 1 (l.map fun c=> [D.int .u8 c.toNat]) w.heap.size 0 cap (by simpa using uy) hR.2.1 f1 f2 trivial
 simp only[List.length_map]at key
 exact key
theorem TA (r:Rel M s w) {t e:TypeId} {q z:Nat} {yb:Bool} {rows:List (List D)} {v:Value} (ht:P.underlying t=some (.slice e)) (he:P.underlying e=some (.int .u8)) (hv:RD M s (.slice (.tok q yb) z rows) v) (eO:rows≠ []) (hq:s.aw[q]? = some (some rows.length)) :
 cR P M s w (do pure (.value (← convert t t v))) (.slice .shared z rows) {s with aw:=s.aw.set q none}:=by
 rcases hv.jj with ⟨h0,_,_⟩|⟨h0,_,_⟩|⟨b,k,cap,rfl,hl,dO,g1,g2,ox⟩
 ·exact(eO h0).elim
 ·exact(eO h0).elim
 ·obtain⟨_,h2⟩:=ox
  obtain⟨_,h3⟩:=h2 _ hq
  rcases h3 rfl with ⟨_,h4,_⟩|⟨b2,h4,kJ⟩
  ·subst h4
   exact(eO (List.eq_nil_of_length_eq_zero (Nat.le_zero.1 hl))).elim
  cases h4
  obtain⟨r1,l1⟩:=r.afg q
  rcases r.tok q rows.length hq with ⟨h4,_⟩|⟨b',qs,yR,vs,T,h4,h5,h6,h7,h8⟩
  ·rw[kJ]at h4;cases h4
  ·rw [kJ]at h4;cases h4
   have iF : ∀ p,St.live {s with aw:=s.aw.set q none} p→p≠q∧s.live p:=by
    rintro p ⟨n,hn⟩
    rw[List.getElem?_set]at hn
    split at hn
    ·simp at hn
    ·rename_i eO;exact⟨fun h=>eO h.symm,n,hn⟩
   obtain⟨r2,hh,na,ho,Ec,TB⟩:=r1.freeze (b:=b) vs.size 1 (fun o ho=>r.fh q b cap _ o ⟨_,hq⟩ kJ ho)
    (fun p c y hp heq=>(iF p hp).1 (r.fQ p q b c y cap _ (iF p hp).2 ⟨_,hq⟩ heq kJ))
   have aaV:w.shape? b=some (T,vs.size):=by simp[World.shape?,h5]
   refine⟨.slice (some ⟨b,0,none⟩) rows.length cap,_,M, .inl ?_,r2, ?_, ?_⟩
   ·simp[convert,run_underlying ht,run_underlying he,markStringish,aaV]
   ·have h9:=(RD.slice (M:=M) (s:=s) .shared z rows b 0 cap hl dO g1 g2 trivial).mono l1
    exact h9
   ·refine⟨l1,fun p _ _ h4=>hh p (fun e=>h4 q cap (bz yb z) ⟨_,hq⟩ (by rw [kJ,e])),fun o h3 h4=> ?_,fun p b' c y hp heq=> .inl ⟨(iF p hp).2,c,y,heq⟩,fun _ _ h=>(h rfl).elim,by rw [na];exact Nat.le_refl _,ho,Ec,TB⟩
    simp at h4;omega
theorem Qu (r:Rel M s w) {size:Nat} {rows:List (List D)} {vs:Array Value} (T:TypeId) (h:l9 M s size rows vs) (dO:vs.size=rows.length*size) (si:0<size) :
 ∃ M',RD M' {s with aw:=s.aw++ [some rows.length]} (.slice (.tok s.aw.length) size rows) (.slice (some ⟨w.heap.size,0,none⟩) rows.length rows.length)∧
 Rel M' {s with aw:=s.aw++ [some rows.length]} (w.alloc (.cells vs T))∧Ext M s w M' {s with aw:=s.aw++ [some rows.length]} (w.alloc (.cells vs T)):=by
 obtain⟨r1,e1⟩:=r.fI vs.size vs T (0,0) h.2.2.1
 have xZ:zs size=size:=by show(if size=0 then 1 else size)=size;rw[if_neg (by omega)]
 obtain⟨r2,l2⟩:=r1.Wx rows.length w.heap.size rows.length size vs T (heap_alloc_new w _) (by rw[xZ];exact dO) (Nat.le_refl _) (fun h=>by omega)
  (fun off ho=>by rw[xZ]at ho;simp[Map.fI];omega) (fun o ho=>by have:=r.qg ho;show M.mu o≠_;omega)
  (fun q c z' hl heq=>by have:=r.sD hl (show M.be q=some (w.heap.size,c,z')from heq);omega)
 obtain⟨f1,f2⟩:=h.fixed (e1.le.trans l2) (b:=w.heap.size) (fun o ho=>by
  have:o<vs.size:=Nat.lt_of_lt_of_le ho h.1
  simp[Map.e7,Map.fI,this])
 refine⟨_, ?_,r2, ?_⟩
 ·exact .slice _ size rows w.heap.size 0 rows.length (Nat.le_refl _) h.2.1 f1 f2 ⟨by simp,fun n hn=>by
   simp at hn;subst hn
   exact⟨Nat.le_refl _,fun _=> .inr ⟨_,rfl,by simp[Map.e7,bz]⟩⟩⟩
 ·refine⟨e1.le.trans l2,e1.kept,e1.tH,fun q b c z' hl heq=> ?_,e1.sb,e1.size,e1.os,e1.tape,e1.output⟩
  obtain⟨k,hk⟩:=hl
  rcases Nat.lt_or_ge q s.aw.length with h'|h'
  ·have IA:M.be q=some (b,c,z'):=by
    have:((M.fI w.heap.size vs.size vs).e7 s.aw.length (some (w.heap.size,rows.length,size))).be q=M.be q:=by simp[Map.e7,Map.fI];omega
    rw[this]at heq;exact heq
   simp only[List.getElem?_append_left h']at hk
   exact .inl ⟨⟨k,hk⟩,c,z',IA⟩
  ·have:=(List.getElem?_eq_some_iff.1 hk).1
   simp at this
   have:q=s.aw.length:=by omega
   subst this
   have:((M.fI w.heap.size vs.size vs).e7 s.aw.length (some (w.heap.size,rows.length,size))).be s.aw.length=some (w.heap.size,rows.length,size):=by simp[Map.e7]
   rw[this]at heq;cases heq
   exact .inr (Nat.le_refl _)
end
end Go.Abs
namespace Go.Abs
open Go.MapKept
section
variable {P:Program} {M:Map} {s:St} {w:World}
theorem wq : ∀ (a b:List MapEntry),gH (a++b)=gH a++gH b
 | [],b=>rfl
 |e::a,b=>by simp only[List.cons_append,gH,wq a b]
theorem Gt : ∀ (a:List MapEntry) (j:Nat) (e:MapEntry) (k v:Value),a[j]? = some e→e.key=k→gH (a.set j {e with key:=k,val:=v})=(gH a).set (2*j+1) v
 | [],j,e,k,v,h,_=>by simp at h
 |x::a,0,e,k,v,h,hk=>by
  simp at h;subst h;subst hk
  simp[gH]
 |x::a,j+1,e,k,v,h,hk=>by
  have:=Gt a j e k v (by simpa using h) hk
  simp only[List.set_cons_succ,gH,this]
  rw[show 2*(j+1)=(2*j+1)+1 by omega,List.set_cons_succ]
theorem TC (a b:List UInt8):((⟨⟨a⟩⟩:ByteArray) == ⟨⟨b⟩⟩)=(a==b):=by
 show((⟨a⟩:Array UInt8) == ⟨b⟩)=(a==b)
 simp
theorem find_spec {key:List UInt8} : ∀ (es:List MapEntry) (cs:List D) (i:Nat),(gH es).length=cs.length→(∀ (i:Nat) (d:D) (v:Value),cs[i]? = some d→(gH es)[i]? = some v→RD M s d v)→
 (∀ z d,yO key z cs=some d→(Instr.findNow .string (.string ⟨⟨key⟩⟩) es i=some none∧d=z)∨∃ (j:Nat) (e:MapEntry),Instr.findNow .string (.string ⟨⟨key⟩⟩) es i=some (some (i+j,e.val))∧RD M s d e.val)∧
 (∀ d jI,xe key d cs=some jI→(Instr.findNow .string (.string ⟨⟨key⟩⟩) es i=some none∧jI=cs++ [.str key,d])∨
  ∃ (j:Nat) (e:MapEntry),Instr.findNow .string (.string ⟨⟨key⟩⟩) es i=some (some (i+j,e.val))∧es[j]? = some e∧e.key = .string ⟨⟨key⟩⟩∧jI=cs.set (2*j+1) d)
 | [],cs,i,hl,hr=>by
  have:cs = []:=by cases cs<;>simp[gH]at hl;rfl
  subst this
  refine⟨fun z d h=> .inl ⟨rfl,by simp[yO]at h;exact h.symm⟩,fun d jI h=> .inl ⟨rfl,by simp[xe]at h;simp[← h]⟩⟩
 | x::es,cs,i,hl,hr=>by
  match cs,hl with
  | [],hl=>simp[gH]at hl
  | [_],hl=>simp[gH]at hl
  | c0::c1::r,hl=>
   simp only[gH,List.length_cons]at hl hr
   have h0:=hr 0 c0 x.key rfl rfl
   have h1:=hr 1 c1 x.val rfl rfl
   obtain⟨ih1,ih2⟩:=find_spec es r (i+1) (by omega) (fun j d v e1 e2=>hr (j+2) d v (by simpa using e1) (by simpa using e2))
   have hky : ∀ k,c0 = .str k→x.key = .string ⟨⟨k⟩⟩∧Instr.findNow .string (.string ⟨⟨key⟩⟩) (x::es) i=if key==k then some (some (i,x.val))else Instr.findNow .string (.string ⟨⟨key⟩⟩) es (i+1):=by
    intro k hk
    subst hk
    have hx:=h0.lr
    refine⟨hx, ?_⟩
    simp only[Instr.findNow,hx,Instr.sameNow,TC]
    cases hb:key==k<;>simp
   refine⟨fun z d h=>?_,fun d jI h=>?_⟩
   ·cases c0 <;> simp only [yO]at h <;> try (cases h;done)
    rename_i k
    obtain⟨k1,k2⟩:=hky k rfl
    rw[k2]
    by_cases Af:k=key
    ·subst Af
     simp at h
     subst h
     exact .inr ⟨0,x,by simp,h1⟩
    ·have e1:(k==key)=false:=by simpa using Af
     have e2:(key==k)=false:=by simpa using fun e:key=k=>Af (Eq.symm e)
     rw[e1]at h
     rw[e2]
     simp only[Bool.false_eq_true,↓reduceIte]at h ⊢
     rcases ih1 z d h with h2|⟨j,e,h2,h3⟩
     ·exact .inl h2
     ·exact .inr ⟨j+1,e,by rw[h2];congr 3;omega,h3⟩
   ·cases c0 <;> simp only [xe]at h <;> try (cases h;done)
    rename_i k
    obtain⟨k1,k2⟩:=hky k rfl
    rw[k2]
    by_cases Af:k=key
    ·subst Af
     simp at h
     subst h
     exact .inr ⟨0,x,by simp,rfl,k1,by simp⟩
    ·have e1:(k==key)=false:=by simpa using Af
     have e2:(key==k)=false:=by simpa using fun e:key=k=>Af (Eq.symm e)
     rw[e1]at h
     rw[e2]
     simp only[Bool.false_eq_true,↓reduceIte]at h ⊢
     split at h
     ·rename_i r' Qp
      cases h
      rcases ih2 d r' Qp with ⟨h2,h3⟩|⟨j,e,h2,h3,h4,h5⟩
      ·exact .inl ⟨h2,by rw[h3];rfl⟩
      ·refine .inr ⟨j+1,e,by rw [h2];congr 3;omega,by simpa using h3,h4, ?_⟩
       rw[h5,show 2*(j+1)+1=(2*j+1)+1+1 by omega]
       simp only[List.set_cons_succ]
     ·cases h
theorem Rel.tQ (r:Rel M s w) {o:Nat} {cs jI:List D} (he:s.ah[o]? = some cs) (hk:M.ob o = .map) (A9:Array MapEntry) (ck:Nat) (hl:(gH A9.toList).length=jI.length)
 (h1 : ∀ v∈gH A9.toList,v.oneCell'=true) (h2 : ∀ (i:Nat) (d:D) (v:Value),jI[i]? = some d→(gH A9.toList)[i]? = some v→RD M s d v) :
 Rel M {s with ah:=s.ah.set o jI} {w with heap:=w.heap.setIfInBounds (M.mu o) (.map A9 ck)}∧Ext M s w M {s with ah:=s.ah.set o jI} {w with heap:=w.heap.setIfInBounds (M.mu o) (.map A9 ck)}:=by
 obtain⟨vs,T,hh,hs,⟨gZ,Ww⟩,ib⟩:=r.obj o cs he
 obtain⟨es,ck0,(hh:w.heap[M.mu o]? = _),oY⟩:=hh.ME hk
 have ho:o<s.ah.length:=(List.getElem?_eq_some_iff.1 he).1
 obtain⟨uM,l6⟩:=heap_set (w:=w) (o':= .map A9 ck) hh
 have le:Le M s M {s with ah:=s.ah.set o jI}:=
  ⟨fun _ _ _ h=>h,by simp,fun _ _=> .refl _,Nat.le_refl _,fun t n _ h=>⟨n,h,Nat.le_refl _,fun _=>rfl⟩⟩
 refine⟨⟨fun b q v e=>?_,fun o' ds e=>?_,fun q hq xg=>r.jL q (by simpa using hq) xg,fun q q' hq mL e=>r.inj q q' (by simpa using hq) (by simpa using mL) e,fun t n e=>?_,
  fun t b c z q hl e hq=>r.fh t b c z q hl e (by simpa using hq),fun t t' b c z c' z' h h' e e'=>r.fQ t t' b c z c' z' h h' e e'⟩, ?_⟩
 ·obtain⟨h3,h4⟩:=r.comm b q v e
  refine⟨?_,h4⟩
  have hb:b≠M.mu o:=fun eq=>by subst eq;rw[r.jL o ho q]at e;cases e
  rw[← h3]
  simp[World.cell?,l6 b hb]
 ·rw [List.getElem?_set]at e
  split at e
  ·rename_i heq
   subst heq
   simp at e
   obtain⟨_,rfl⟩:=e
   refine⟨⟨gH A9.toList⟩,0, ?_,by simpa using hl,⟨fun v hv=>h1 v (by simpa using hv),fun T' h=>?_⟩,fun i d v e1 e2=>(h2 i d v e1 (by simpa using e2)).mono le⟩
   ·exact iE.ofMap hk ⟨A9,ck,uM,rfl⟩
   ·have:M.ty o=none:=by
     have:(M.loc o).2 = .map:=hk
     simp[Map.ty,this,Ob.ty?]
    rw[this]at h;cases h
  ·rename_i eO
   obtain⟨fF,T',h3,h4,h5,h6⟩:=r.obj o' ds e
   have nK:o'<s.ah.length:=(List.getElem?_eq_some_iff.1 e).1
   refine⟨fF,T', ?_,h4,h5,fun i d v e1 e2=>(h6 i d v e1 e2).mono le⟩
   exact h3.keep (l6 _ (fun eq=>eO (r.inj o o' ho nK eq.symm)))
 ·rcases r.tok t n e with h3 | ⟨b,cap,size,fF,T',h3,h4,h5⟩
  ·exact .inl h3
  ·refine .inr ⟨b,cap,size,fF,T',h3, ?_,h5⟩
   show(w.heap.setIfInBounds (M.mu o) (.map A9 ck))[b]? = _
   rw[l6 b (fun eq=>r.fh t b cap size o ⟨n,e⟩ h3 ho eq.symm)];exact h4
 ·refine⟨le,fun b hb h3 _=>l6 b (fun eq=>h3 o ho eq.symm),fun q h3 h4=> ?_,fun t b c z h e=> .inl ⟨h,c,z,e⟩,fun _ _ h=>(h rfl).elim,by simp,rfl,rfl,rfl⟩
  simp at h4;rcases h3 with h3|h3;omega;exact(h3 rfl).elim
theorem s8 (l:List UInt8):IsKey .string (.string ⟨⟨l⟩⟩):=by simp[IsKey]
theorem M6 (r:Rel M s w) {t kt e:TypeId} (ht:P.underlying t=some (.map kt e)):cR P M s w (do pure (.value (← Instr.makeMap t none))) (.fP s.ah.length) {s with ah:=s.ah++ [[]]}:=by
 obtain⟨r',e'⟩:=r.Ir [] (.map #[] 0) #[] 0 .map (fun hp e=>⟨#[],0,e,rfl⟩) (fun _ h=>by cases h) rfl (by simp) (by simp)
 have hm:(M.dN s.ah.length w.heap.size .map).mu s.ah.length=w.heap.size:=by simp[Map.dN,Map.mu]
 have hv:=RD.fP (M:=M.dN s.ah.length w.heap.size .map) (s:= {s with ah:=s.ah++ [[]]}) s.ah.length (by simp) (by simp[Map.dN,Map.ob])
 rw[hm]at hv
 refine⟨_,_,_, .inl ?_,r',hv,e'⟩
 simp only[Instr.makeMap,newObj,Sem.run_bind,Sem.run_pure,Sem.run,Result.andThen_ok]
 rfl
theorem M7 (r:Rel M s w) {t kt e:TypeId} {i:TypeInfo} {z:Value} {zd:D} (ht:P.underlying t=some (.map kt e)) (hk:P.underlying kt=some .string) (hi:P.info? e=some i) (hz:i.zero=some z) (hzd:sc z=some zd)
 {o:Nat} {key:List UInt8} {cs:List D} {d:D} (xT:M.ob o = .map) (ho:s.ah[o]? = some cs) (hg:yO key zd cs=some d) :
 cR P M s w (do pure (.value (← Instr.lookup t (.map (some (M.mu o))) (.string ⟨⟨key⟩⟩) false))) d s:=by
 obtain⟨vs,T,hh,hs,⟨gZ,Ww⟩,ib⟩:=r.obj o cs ho
 obtain⟨es,ck,(hh:w.heap[M.mu o]? = _),oY⟩:=hh.ME xT
 have Dk : ∀ (i:Nat) (d:D) (v:Value),cs[i]? = some d→(gH es.toList)[i]? = some v→RD M s d v:=fun i d v e1 e2=>ib i d v e1 (by rw[← oY]at e2;simpa using e2)
 have hzv:(zeroValue e).run P w = .ok z w:=by simp[zeroValue,fS P hi,hz]
 rcases(find_spec es.toList cs 0 (by rw[← oY];simpa using hs) Dk).1 zd d hg with ⟨h1,rfl⟩|⟨j,en,h1,h2⟩
 ·refine cR.pure (v:=z) r ?_ (qh hzd).1
  simp[Instr.lookup,run_underlying ht,MapKept.run_getObj_map hh,run_checkKey hk (s8 key),run_findKey hk h1,hzv]
 ·refine cR.pure (v:=en.val) r ?_ h2
  simp[Instr.lookup,run_underlying ht,MapKept.run_getObj_map hh,run_checkKey hk (s8 key),run_findKey hk h1]
theorem Qv (r:Rel M s w) {t kt e:TypeId} (ht:P.underlying t=some (.map kt e)) (hk:P.underlying kt=some .string)
 {o:Nat} {key:List UInt8} {cs jI:List D} {d:D} {v:Value} (xT:M.ob o = .map) (ho:s.ah[o]? = some cs) (hv:RD M s d v) (x7:v.oneCell'=true) (hg:xe key d cs=some jI) :
 cR P M s w (do Instr.mapUpdate t (.map (some (M.mu o))) (.string ⟨⟨key⟩⟩) v;pure .skip) (.tuple []) {s with ah:=s.ah.set o jI}:=by
 obtain⟨vs,T,hh,hs,⟨gZ,Ww⟩,ib⟩:=r.obj o cs ho
 obtain⟨es,ck,(hh:w.heap[M.mu o]? = _),oY⟩:=hh.ME xT
 have Dk : ∀ (i:Nat) (d:D) (v:Value),cs[i]? = some d→(gH es.toList)[i]? = some v→RD M s d v:=fun i d v e1 e2=>ib i d v e1 (by rw[← oY]at e2;simpa using e2)
 have hl:(gH es.toList).length=cs.length:=by rw[← oY];simpa using hs
 have WD : ∀ v∈gH es.toList,v.oneCell'=true:=fun v hv=>gZ v (by rw[← oY]at hv;simpa using hv)
 rcases(find_spec es.toList cs 0 hl Dk).2 d jI hg with ⟨h1,rfl⟩|⟨j,en,h1,h2,h3,rfl⟩
 ·obtain⟨r',e'⟩:=r.tQ (jI:=cs++ [.str key,d]) ho xT (es.push {key:= .string ⟨⟨key⟩⟩,val:=v,born:=ck}) (ck+1) (by simp [wq,gH,hl]) (fun u hu=>by
   simp only[Array.toList_push,wq,gH,List.mem_append,List.mem_cons,List.not_mem_nil,or_false]at hu
   rcases hu with hu|rfl|rfl
   ·exact WD u hu
   ·rfl
   ·exact x7) (fun i d' u e1 e2=>by
   simp only[Array.toList_push,wq,gH]at e2
   rcases Nat.lt_or_ge i cs.length with hi|hi
   ·rw [List.getElem?_append_left hi]at e1
    rw[List.getElem?_append_left (by omega)]at e2
    exact Dk i d' u e1 e2
   ·rw [List.getElem?_append_right hi]at e1
    rw[List.getElem?_append_right (by omega),hl]at e2
    match i - cs.length,e1,e2 with
    | 0,e1,e2=>simp at e1 e2;subst e1 e2;exact .str _
    | 1,e1,e2=>simp at e1 e2;subst e1 e2;exact hv
    |k+2,e1,e2=>simp at e1)
  refine⟨Go.undef,_,M, .inr ⟨?_,rfl⟩,r', .undef,e'⟩
  simp[Instr.mapUpdate,run_underlying ht,MapKept.run_getObj_map hh,run_checkKey hk (s8 key),run_findKey hk h1,MapKept.run_setObj_map _ hh]
 ·simp only [Nat.zero_add]at h1
  have hj:es[j]? = some en:=by simpa using h2
  have TD:(es.modify j fun e=> {e with key:= .string ⟨⟨key⟩⟩,val:=v}).toList=es.toList.set j {en with key:= .string ⟨⟨key⟩⟩,val:=v}:=by
   apply List.ext_getElem?
   intro i
   rw[Array.getElem?_toList,Array.getElem?_modify,List.getElem?_set]
   by_cases WE:j=i
   ·subst WE
    have:j<es.size:=by have:=(List.getElem?_eq_some_iff.1 h2).1;simpa using this
    simp[hj,this]
    have:=(Array.getElem?_eq_some_iff.1 hj).2
    rw[this]
   ·simp[WE]
  have il:=Gt es.toList j en (.string ⟨⟨key⟩⟩) v h2 h3
  obtain⟨r',e'⟩:=r.tQ (jI:=cs.set (2*j+1) d) ho xT (es.modify j fun e=> {e with key:= .string ⟨⟨key⟩⟩,val:=v}) ck (by rw[TD,il];simp[hl]) (fun u hu=>by
   rw[TD,il]at hu
   rcases List.mem_or_eq_of_mem_set hu with hu|rfl
   ·exact WD u hu
   ·exact x7) (fun i d' u e1 e2=>by
   rw[TD,il,List.getElem?_set]at e2
   rw[List.getElem?_set]at e1
   by_cases hi:2*j+1=i
   ·rw [if_pos hi]at e1 e2
    split at e1
    ·split at e2
     ·cases e1;cases e2;exact hv
     ·cases e2
    ·cases e1
   ·rw [if_neg hi]at e1 e2
    exact Dk i d' u e1 e2)
  refine⟨Go.undef,_,M, .inr ⟨?_,rfl⟩,r', .undef,e'⟩
  simp[Instr.mapUpdate,run_underlying ht,MapKept.run_getObj_map hh,run_checkKey hk (s8 key),run_findKey hk h1,hj,h3,run_keyThatStays (s8 key),MapKept.run_setObj_map _ hh]
end
end Go.Abs
namespace Go.Abs
section
variable {M:Map} {s:St} {w:World}
theorem Ed {o g:Nat} {cells:List D} (h:nO s o g=some cells):s.ah[o]? = some (.int .i64 g::cells):=by
 unfold nO at h
 split at h
 ·rename_i n cs e
  split at h
  ·rename_i hn;cases h;rw[e,hn]
  ·cases h
 ·cases h
theorem Rel.ID (r:Rel M s w) {o z g:Nat} {A:Nat→Option (Nat×Nat)} {cells:List D} (hm:M.ob o = .arr z A) (ha:nO s o g=some cells) :
 ∃ (us:Array Value) (T:TypeId) (cap:Nat),w.heap[M.mu o]? = some (.cells us T (0,0))∧A g=some (M.mu o,cap)∧(∀ g',g<g'→A g'=none)∧us.size=cap*z∧cells.length≤us.size∧
  (∀ u∈us,u.oneCell'=true)∧∀ (i:Nat) (d:D) (u:Value),cells[i]? = some d→us[i]? = some u→RD M s d u:=by
 obtain⟨vs,T,hh,hs,_,ib⟩:=r.obj o _ (Ed ha)
 obtain⟨us,g0,n,cap,h1,h2,h3,h4,h5,h6,h7⟩ : ∃ (us:Array Value) (g n cap:Nat),w.heap[(M.loc o).1]? = some (.cells us T (0,0))∧A g=some ((M.loc o).1,cap)∧(∀ g',g<g'→A g'=none)∧us.size=cap*z∧n≤us.size∧
  vs.toList = .int .i64 g::us.toList.take n∧∀ u∈us,u.oneCell'=true:=by
  unfold iE at hh
  rw[show(M.loc o).2 = .arr z A from hm]at hh
  exact hh
 have hY : ∀ i,vs[i]? = (Value.int .i64 g0::us.toList.take n)[i]? :=fun i=>by rw[← h6,Array.getElem?_toList]
 have hg:g0=g:=by
  have:=(ib 0 (.int .i64 g) (.int .i64 g0) rfl (by rw[hY];rfl))
  cases this
  rfl
 subst hg
 have hn:n=cells.length:=by
  have:vs.toList.length=(Value.int .i64 g0::us.toList.take n).length:=by rw[h6]
  simp at this hs
  omega
 subst hn
 refine⟨us,T,cap,h1,h2,h3,h4,h5,h7,fun i d u e1 e2=>ib (i+1) d u (by simpa using e1) ?_⟩
 rw[hY,List.getElem?_cons_succ,List.getElem?_take,if_pos (List.getElem?_eq_some_iff.1 e1).1]
 simpa using e2
def Map.q5 (M:Map) (o:Nat) (l:Nat×Ob):Map:= {M with loc:=fun q=>if q=o then l else M.loc q}
theorem Rel.TE (r:Rel M s w) {o z g:Nat} {A:Nat→Option (Nat×Nat)} {cells:List D} (hm:M.ob o = .arr z A) (ha:nO s o g=some cells) (b' g' qs:Nat) (A':Nat→Option (Nat×Nat))
 (hA : ∀ g x,A g=some x→A' g=some x) (xY:A' g'=some (b',qs)) (CP : ∀ LF,g'<LF→A' LF=none) (w':World) (us:Array Value) (T:TypeId) (hh:w'.heap[b']? = some (.cells us T (0,0))) (dO:us.size=qs*z)
 (vj:List D) (hl:vj.length≤us.size) (gZ : ∀ u∈us,u.oneCell'=true) (ib : ∀ (i:Nat) (d:D) (u:Value),vj[i]? = some d→us[i]? = some u→RD M s d u)
 (hb:b'=M.mu o∨w.heap.size≤b') (H0 : ∀ b,b<w.heap.size→b≠M.mu o→w'.heap[b]? = w.heap[b]?) (sF:w.heap.size≤w'.heap.size) (h1:w'.os=w.os) (h2:w'.tape=w.tape) (h3:w'.output=w.output) :
 Rel (M.q5 o (b', .arr z A')) {s with ah:=s.ah.set o (.int .i64 g'::vj)} w'∧Ext M s w (M.q5 o (b', .arr z A')) {s with ah:=s.ah.set o (.int .i64 g'::vj)} w':=by
 have ho:o<s.ah.length:=(List.getElem?_eq_some_iff.1 (Ed ha)).1
 have Ad:(M.loc o).2 = .arr z A:=hm
 have uM:(M.q5 o (b', .arr z A')).loc o=(b', .arr z A'):=by simp[Map.q5]
 have M8 : ∀ q,q≠o→(M.q5 o (b', .arr z A')).loc q=M.loc q:=fun q hq=>by simp[Map.q5,hq]
 have mX:(M.q5 o (b', .arr z A')).mu o=b':=congrArg Prod.fst uM
 have Dl : ∀ q,q≠o→(M.q5 o (b', .arr z A')).mu q=M.mu q:=fun q hq=>congrArg Prod.fst (M8 q hq)
 have le:Le M s (M.q5 o (b', .arr z A')) {s with ah:=s.ah.set o (.int .i64 g'::vj)}:=by
  refine⟨fun _ _ _ h=>h,by simp,fun q _=>?_,Nat.le_refl _,fun t n _ h=>⟨n,h,Nat.le_refl _,fun _=>rfl⟩⟩
  by_cases hq:q=o
  ·subst hq
   rw[uM,show M.loc q=((M.loc q).1, .arr z A) by rw[← Ad]]
   exact .arr _ _ z A A' hA
  ·rw[M8 q hq];exact .refl _
 have eO : ∀ q,q<s.ah.length→q≠o→M.mu q≠b':=fun q hq vk e=>by
  rcases hb with hb|hb
  ·exact vk (r.inj q o hq ho (e.trans hb))
  ·have:=r.qg hq;omega
 have hG : ∀ off,M.G b' off=none:=fun off=>by
  rcases hb with hb|hb
  ·rw[hb];exact r.jL o ho off
  ·exact r.MJ hb off
 refine⟨⟨fun b q v e=>?_,fun q ds e=>?_,fun q hq off=>?_,fun q q' hq mL e=>?_,fun t n e=>?_,fun t b c z' q hl e hq=>?_,fun t t' b c z c' z' h h' e e'=>r.fQ t t' b c z c' z' h h' e e'⟩, ?_⟩
 ·obtain⟨h4,h5⟩:=r.comm b q v e
  refine⟨?_,h5⟩
  have hbo:b≠M.mu o:=fun eq=>by subst eq;have e0:M.G (M.mu o) q=some v:=e;rw[r.jL o ho q]at e0;cases e0
  rw[← h4]
  simp[World.cell?,H0 b (r.AY e) hbo]
 ·simp only [List.getElem?_set]at e
  split at e
  ·rename_i hq
   subst hq
   cases e
   refine⟨⟨.int .i64 g'::us.toList.take vj.length⟩,T, ?_,by simp;omega,⟨fun v hv=>?_,fun T' hT=>?_⟩,fun i d v e1 e2=>?_⟩
   ·unfold iE
    rw[uM]
    exact⟨us,g',vj.length,qs,hh,xY,CP,dO,hl,rfl,gZ⟩
   ·simp at hv
    rcases hv with rfl|hv
    ·rfl
    ·exact gZ v (Array.mem_toList_iff.1 (List.mem_of_mem_take hv))
   ·have:(M.q5 o (b', .arr z A')).ty o=none:=by unfold Map.ty;rw [uM];rfl
    rw[this]at hT;cases hT
   ·cases i with
    |zero=>simp at e1 e2;subst e1 e2;exact .int _ _
    |succ i=>
     simp at e1 e2
     rw[List.getElem?_take]at e2
     split at e2
     ·exact(ib i d v e1 (by simpa using e2)).mono le
     ·cases e2
  ·rename_i hq
   have hq:q≠o:=fun e=>hq e.symm
   obtain⟨fF,T',h4,h5,h6,h7⟩:=r.obj q ds e
   have IB:q<s.ah.length:=(List.getElem?_eq_some_iff.1 e).1
   refine⟨fF,T', ?_,h5,⟨h6.1,by unfold Map.ty;rw[M8 q hq];exact h6.2⟩,fun i d v e1 e2=>(h7 i d v e1 e2).mono le⟩
   rw[M8 q hq]
   exact h4.keep (H0 _ h4.lt fun e=>hq (r.inj q o IB ho e))
 ·simp at hq
  by_cases vk:q=o
  ·subst vk;rw[mX];exact hG off
  ·rw[Dl q vk];exact r.jL q hq off
 ·simp at hq mL
  by_cases h4:q=o<;>by_cases h5:q'=o
  ·omega
  ·subst h4;rw[mX,Dl q' h5]at e;exact(eO q' mL h5 e.symm).elim
  ·subst h5;rw[mX,Dl q h4]at e;exact(eO q hq h4 e).elim
  ·rw[Dl q h4,Dl q' h5]at e;exact r.inj q q' hq mL e
 ·rcases r.tok t n e with h4 | ⟨b,cap,size,fF,T',h4,h5,h6⟩
  ·exact .inl h4
  ·refine .inr ⟨b,cap,size,fF,T',h4, ?_,h6⟩
   rw[H0 b (ke h5) (fun eq=>r.fh t b cap size o ⟨n,e⟩ h4 ho eq.symm)];exact h5
 ·simp at hq
  by_cases vk:q=o
  ·subst vk;rw [mX]
   rcases hb with hb|hb
   ·rw[hb];exact r.fh t b c z' q hl e hq
   ·have:=r.sD hl e;omega
  ·rw[Dl q vk];exact r.fh t b c z' q hl e hq
 ·refine⟨le,fun b rV h4 _=>H0 b rV (fun e=>h4 o ho e.symm),fun q h4 h5=> ?_,fun t b c z h e=> .inl ⟨h,c,z,e⟩,fun _ _ h=>(h rfl).elim,sF,h1,h2,h3⟩
  simp at h5
  by_cases vk:q=o
  ·subst vk
   rw[mX]at h4 ⊢
   rcases hb with hb|hb
   ·rcases h4 with h4 | h4
    ·omega
    ·exact(h4 hb).elim
   ·exact hb
  ·rw [Dl q vk]at h4
   rcases h4 with h4|h4
   ·omega
   ·exact(h4 rfl).elim
theorem Rel.aaX (r:Rel M s w) (z cap:Nat) (us:Array Value) (T:TypeId) (dO:us.size=cap*z) (cells:List D) (hl:cells.length≤us.size) (gZ : ∀ u∈us,u.oneCell'=true)
 (ib : ∀ (i:Nat) (d:D) (u:Value),cells[i]? = some d→us[i]? = some u→RD M s d u) :
 ∃ M',Rel M' {s with ah:=s.ah++ [.int .i64 ((0:Nat):Int)::cells]} (w.alloc (.cells us T))∧Ext M s w M' {s with ah:=s.ah++ [.int .i64 ((0:Nat):Int)::cells]} (w.alloc (.cells us T))∧
  ∀ len,len≤cap→RD M' {s with ah:=s.ah++ [.int .i64 ((0:Nat):Int)::cells]} (.eB z s.ah.length 0 len) (.slice (some ⟨w.heap.size,0,none⟩) len cap):=by
 obtain⟨r',e'⟩:=r.Ir (.int .i64 ((0:Nat):Int)::cells) (.cells us T) ⟨.int .i64 ((0:Nat):Int)::us.toList.take cells.length⟩ T (.arr z fun g=>if g=0 then some (w.heap.size,cap)else none)
  (fun hp e=>⟨us,0,cells.length,cap,e,rfl,fun g' h=>if_neg (by omega),dO,hl,rfl,gZ⟩) (fun _ h=>by cases h) (by simp;omega) (fun v hv=>by
   simp at hv
   rcases hv with rfl|hv
   ·rfl
   ·exact gZ v (Array.mem_toList_iff.1 (List.mem_of_mem_take hv))) (fun i d v e1 e2=>by
   cases i with
   |zero=>simp at e1 e2;subst e1 e2;exact .int _ _
   |succ i=>
    simp at e1 e2
    rw[List.getElem?_take]at e2
    split at e2
    ·exact(ib i d v e1 (by simpa using e2)).mono (se s w.heap.size _ _)
    ·cases e2)
 exact⟨_,r',e',fun len h=> .eB z _ 0 len w.heap.size cap _ (by simp) (by simp[Map.dN,Map.ob];rfl) (if_pos rfl) h⟩
end
end Go.Abs
namespace Go.Abs
section
variable {P:Program} {M:Map} {s:St} {w:World}
theorem LG (r:Rel M s w) {o g off:Nat} {v:Value} {cells:List D} (hx:RD M s (.fu o g off) v) (ha:nO s o g=some cells) :
 ∃ z A,M.ob o = .arr z A∧v = .pointer (some ⟨M.mu o,off,none⟩):=by
 obtain⟨z,b,cap,A,hv,ho,hm,hg⟩:=hx.Df
 obtain⟨us,T,qs,h1,h2,_⟩:=r.ID hm ha
 rw[hg]at h2;cases h2
 exact⟨z,A,hm,hv⟩
theorem KP (r:Rel M s w) {t:TypeId} {i:TypeInfo} {agg:Bool} (hi:P.info? t=some i) (hag:qR P t=some agg) {x d:D} {v:Value} {s':St} (hx:RD M s x v) (h:yP x agg i.size s=some (d,s')) :
 cR P M s w (do pure (.value (← Instr.loadAt t v))) d s':=by
 unfold yP at h
 split at h
 case h_2=>cases h
 rename_i o g off
 split at h
 case h_2=>cases h
 rename_i cells ha
 split at h
 case h_2=>cases h
 rename_i d' hp
 cases h
 obtain⟨z,A,hm,rfl⟩:=LG r hx ha
 obtain⟨us,T,cap,hh,_,_,_,hl,gZ,ib⟩:=r.ID hm ha
 let n:=if agg then i.size else 1
 have jo:off+n≤us.size:=by
  rcases qG hp with ⟨rfl,h1,_⟩|⟨rfl,h1⟩
  ·simp[n];omega
  ·have:=(List.getElem?_eq_some_iff.1 h1).1;simp[n];omega
 have hlen:((us.toList.drop off).take n).length=n:=by simp;omega
 have hY : ∀ (j:Nat) (u:Value),((us.toList.drop off).take n)[j]? = some u→us[off+j]? = some u:=by
  intro j u h
  rw[List.getElem?_take]at h
  split at h
  ·rw[List.getElem?_drop]at h;simpa using h
  ·cases h
 have dH:=yT (w:=w) P hi hag (M.mu o) off ((us.toList.drop off).take n) hlen (fun j u h=>by rw[jh hh];exact hY j u h)
 refine cR.pure (v:=if agg then .agg ((us.toList.drop off).take n).toArray else((us.toList.drop off).take n).getD 0 Go.undef) r (by simp[Instr.loadAt,Instr.sureAddr,dH]) ?_
 refine qX hp _ hlen (fun _ u hu=>gZ u ?_) (fun j d u e1 e2=>ib _ d u e1 (hY j u e2))
 exact Array.mem_toList_iff.1 (List.mem_of_mem_drop (List.mem_of_mem_take hu))
theorem x9 {vs:Array Value} {off:Nat} {us:List Value} {n:Nat} (hu:us.length=n) (h:off+n≤vs.size) (i:Nat) :
 (vs.toList.take off++us++vs.toList.drop (off+us.length)).toArray[i]? = if i<off then vs[i]? else if i<off+n then us[i - off]? else vs[i]? :=by
 subst hu
 simp only[List.getElem?_toArray]
 have hl:(vs.toList.take off).length=off:=by simp;omega
 split
 ·rename_i h3
  rw[List.append_assoc,List.getElem?_append_left (by omega),List.getElem?_take_of_lt h3];simp
 ·rename_i h3
  rw[List.append_assoc,List.getElem?_append_right (by omega),hl]
  split
  ·rename_i h4
   rw[List.getElem?_append_left (by omega)]
  ·rename_i h4
   rw[List.getElem?_append_right (by omega),List.getElem?_drop]
   rw[show off+us.length+(i - off - us.length)=i by omega];simp
theorem ya {vs:Array Value} {off k:Nat} {us:List Value} (h1 : ∀ v∈vs,v.oneCell'=true) (h2 : ∀ u∈us,u.oneCell'=true) : ∀ v∈(vs.toList.take off++us++vs.toList.drop k).toArray,v.oneCell'=true:=by
 intro v hv
 simp at hv
 rcases hv with hv|hv|hv
 ·exact h1 v (Array.mem_toList_iff.1 (List.mem_of_mem_take hv))
 ·exact h2 v hv
 ·exact h1 v (Array.mem_toList_iff.1 (List.mem_of_mem_drop hv))
theorem IE (r:Rel M s w) {t:TypeId} {i:TypeInfo} (hi:P.info? t=some i) {x y d:D} {v u:Value} {s':St} (hx:RD M s x v) (hy:RD M s y u) (h:AV x y.row i.size s=some (d,s')) :
 cR P M s w (do Instr.storeAt t v u;pure .skip) d s':=by
 unfold AV at h
 split at h
 case h_2=>cases h
 rename_i o g off row hr
 split at h
 case h_2=>cases h
 rename_i cells ha
 split at h
 case isFalse=>cases h
 rename_i hc
 obtain⟨hl,jo⟩:=hc
 cases h
 obtain⟨z,A,hm,rfl⟩:=LG r hx ha
 obtain⟨us,T,cap,hh,xY,CP,dO,hle,gZ,ib⟩:=r.ID hm ha
 obtain⟨h1,h2,h3⟩:=hy.row hr
 have hu:u.cells.toList.length=row.length:=by simpa using h1
 have ji:=run_storeCells_at P (M.mu o) off T u.cells.toList 0 us w hh (by omega) (fun u hu=>h2 u (by simpa using hu))
 simp only[Nat.add_zero]at ji
 generalize dh:(us.toList.take off++u.cells.toList++us.toList.drop (off+u.cells.toList.length)).toArray=iW at ji
 have qU:iW.size=us.size:=by rw[← dh];simp;omega
 have hY : ∀ i,iW[i]? = if i<off then us[i]? else if i<off+row.length then u.cells.toList[i - off]? else us[i]? :=fun i=>by rw[← dh];exact x9 hu (by omega) i
 have hlc:(iz cells off row).length=cells.length:=tJ cells off row (by omega)
 obtain⟨r',e'⟩:=r.TE hm ha (M.mu o) g cap A (fun _ _ h=>h) xY CP (w.setRow (M.mu o) iW) iW T (setRow_heap w (M.mu o) us iW T (0,0) hh) (by rw[qU,dO]) (iz cells off row) (by omega)
  (by rw [← dh];exact ya gZ (fun u hu=>h2 u (by simpa using hu))) (fun i d v e1 e2=>by
   rw[qT cells off row (by omega)]at e1
   rw[hY]at e2
   split at e1
   ·rename_i h4;simp only[h4,if_true]at e2;exact ib i d v e1 e2
   ·rename_i h4
    simp only[h4,if_false]at e2
    split at e1
    ·rename_i h5;simp only[h5,if_true]at e2;exact h3 _ d v e1 (by simpa using e2)
    ·rename_i h5;simp only[h5,if_false]at e2;exact ib i d v e1 e2) (.inl rfl) (fun b _ hb=>setRow_other w (M.mu o) b _ hb) (by simp) rfl rfl rfl
 refine⟨Go.undef,_,_, .inr ⟨?_,rfl⟩,r', .undef,e'⟩
 have ajs:u.cells.size=i.size:=by omega
 simp[Instr.storeAt,Instr.sureAddr,storeVar,sizeOf,fS P hi,ajs,ji]
theorem IF (r:Rel M s w) {t e:TypeId} {i:TypeInfo} (ht:P.underlying t=some (.slice e)) (hi:P.info? e=some i) {x y d:D} {v u:Value} (hx:RD M s x v) (hy:RD M s y u) (h:xR x y i.size=some d) :
 cR P M s w (do pure (.value (← Instr.indexAt t v u))) d s:=by
 unfold xR at h
 split at h
 case h_2=>cases h
 rename_i z o g len k n
 split at h
 case isFalse=>cases h
 rename_i hc
 obtain⟨h0,h1,rfl⟩:=hc
 cases h
 obtain⟨b,cap,A,rfl,ho,hm,hg,hl⟩:=hx.xV
 rw[hy.iw]
 refine cR.pure (v:= .pointer (some ⟨b,n.toNat*i.size,none⟩)) r ?_ (.fu _ _ _ _ b cap A ho hm hg)
 simp[Instr.indexAt,asIntOf,run_underlying ht,h0,h1,sizeOf,fS P hi,mC]
theorem M9 (r:Rel M s w) {t e:TypeId} {i:TypeInfo} {lv hv:Option Value} {lo hi:Option D} (ht:P.underlying t=some (.slice e)) (D6:P.info? e=some i) {x d:D} {v:Value} (hx:RD M s x v)
 (h1 : ∀ l,sW lo=some l→Qm lv l) (h2 : ∀ len l,sX hi len=some l→Qn hv len l) (h:xf x lo hi=some d) :
 cR P M s w (do pure (.value (← Instr.sliceAt t v lv hv none))) d s:=by
 unfold xf at h
 split at h
 ·rename_i z o g len
  split at h
  case h_2=>cases h
  rename_i l hh el eh
  split at h
  case isFalse=>cases h
  rename_i hc
  obtain⟨rfl,h0,hle⟩:=hc
  cases h
  obtain⟨b,cap,A,rfl,ho,hm,hg,hl⟩:=hx.xV
  have hb:=pA (P:=P) (w:=w) (isSlice:=true) (cap:=cap) (h1 _ el) (h2 _ _ eh) (Int.le_refl 0) h0 hle hl
  refine cR.pure (v:= .slice (some ⟨b,0,none⟩) hh.toNat cap) r ?_ (.eB z o g _ b cap A ho hm hg (by omega))
  simp[Instr.sliceAt,run_underlying ht,Instr.slice,hb,sizeOf,fS P D6,mC]
 ·rename_i z
  split at h
  case h_2=>cases h
  rename_i l hh el eh
  split at h
  case isFalse=>cases h
  rename_i hc
  obtain⟨rfl,rfl⟩:=hc
  cases h
  obtain⟨a,rfl⟩:=hx.Dg
  have hb:=pA (P:=P) (w:=w) (isSlice:=true) (len:=0) (cap:=0) (h1 _ el) (h2 _ _ eh) (Int.le_refl 0) (Int.le_refl 0) (Int.le_refl 0) (Nat.le_refl 0)
  refine cR.pure (v:= .slice a 0 0) r ?_ (.ew z a)
  cases a<;>simp[Instr.sliceAt,run_underlying ht,Instr.slice,hb,sizeOf,fS P D6,mC]
 ·cases h
theorem Na (r:Rel M s w) {t ty e:TypeId} (ht:P.underlying t=some (.slice e)) {x d:D} {v:Value} (hx:RD M s x v) (h:Ft x=some d) :
 cR P M s w (do pure (.value (← Builtin.len_ #[t] ty #[v]))) d s:=by
 unfold Ft at h
 split at h
 ·cases h
  obtain⟨b,cap,A,rfl,_⟩:=hx.xV
  exact mZ r ht
 ·cases h
  obtain⟨a,rfl⟩:=hx.Dg
  exact mZ r ht
 ·cases h
theorem yY {size:Nat} : ∀ {rows:List (List D)},(∀ row∈rows,row.length=size)→rows.flatten.length=rows.length*size∧
 ∀ (k:Nat) (d:D),rows.flatten[k]? = some d→∃ (i:Nat) (row:List D) (j:Nat),rows[i]? = some row∧row[j]? = some d∧k=i*size+j
 | [],_=>by simp
 | row::rows,h=>by
  have hr:=h row (List.mem_cons_self ..)
  obtain⟨h1,h2⟩:=yY fun q hq=>h q (List.mem_cons_of_mem _ hq)
  refine⟨by simp only[List.flatten_cons,List.length_append,h1,hr,List.length_cons,Nat.add_mul];omega,fun k d e=>?_⟩
  rw[List.flatten_cons]at e
  rcases Nat.lt_or_ge k row.length with hk|hk
  ·rw [List.getElem?_append_left hk]at e
   exact⟨0,row,k,rfl,e,by omega⟩
  ·rw [List.getElem?_append_right hk]at e
   obtain⟨i,ko,j,g1,g2,g3⟩:=h2 _ d e
   exact⟨i+1,ko,j,by simpa using g1,g2,by rw[Nat.add_mul];omega⟩
theorem Nb (r:Rel M s w) {t u ty e e':TypeId} {i:TypeInfo} {z:Value} (ht:P.underlying t=some (.slice e)) (hu:P.underlying u=some (.slice e')) (hi:P.info? e=some i) (hz:i.zero=some z)
 (xZ:z.cells.size=i.size) (CQ : ∀ v∈z.cells,v.oneCell'=true) {dx dy d:D} {x y:Value} {s':St} (hx:RD M s dx x) (hy:RD M s dy y) (si:0<i.size) (he:AW i.size i.bytes dx dy s=some (d,s')) :
 ∃ v w' M',(Builtin.append_ #[t,u] ty #[x,y]).run P w = .ok v w'∧Rel M' s' w'∧RD M' s' d v∧Ext M s w M' s' w':=by
 have src:=FA (i:=i) r hu hy
 unfold AW at he
 split at he
 ·-- behind an array
  rename_i z0 o g len g' zy new
  split at he
  case isFalse=>cases he
  rename_i hc
  obtain⟨rfl,Iy,wo⟩:=hc
  obtain⟨b,cap,A,rfl,ho,hm,hg,hlc⟩:=hx.xV
  cases new with
  |nil=>
   simp only at he
   cases he
   exact⟨_,w,M,lF ht hi ((src _ _ _ rfl).1 rfl) hlc,r,hx,Ext.refl M s w⟩
  |cons n0 new=>
  have eO:(n0::new)≠ []:=by simp
  generalize dh:n0::new=dV at *
  have Qr:zy=i.size:=Iy.resolve_left eO
  subst Qr
  obtain⟨Gr,news,hs,B4⟩:=(src _ _ _ rfl).2 eO rfl
  have Ad:0<dV.length:=List.length_pos_iff.2 eO
  simp only[← dh]at he
  simp only[dh]at he
  split at he
  case h_2=>cases he
  rename_i cells ha
  split at he
  case isFalse=>cases he
  rename_i oK
  cases he
  obtain⟨us,T,qs,hh,xY,CP,dO,hle,gZ,ib⟩:=r.ID hm ha
  rw[hg]at xY
  simp only[Option.some.injEq,Prod.mk.injEq]at xY
  obtain⟨rfl,rfl⟩:=xY
  obtain⟨il,Qw⟩:=yY Gr
  have IG:(cells.take (len*i.size)).length=len*i.size:=by simp;omega
  have hA : ∀ (b' c':Nat) (g0:Nat) (x:Nat×Nat),A g0=some x→(if g0=g+1 then some (b',c')else A g0)=some x:=fun b' c' g0 x h=>by
   rw[if_neg]
   ·exact h
   ·rintro rfl
    rw[CP (g+1) (by omega)]at h;cases h
  have s6:(len+dV.length)*i.bytes≤140737488355328:=by rw[Nat.mul_succ]at wo;simp only[bC]at wo;omega
  have Qs:len+dV.length≤1099511627776:=by rw[Nat.mul_succ]at wo;simp only[bC]at wo;omega
  have Qx:=hs.newsLen
  -- what is laid there
  have WG : ∀ (vs:Array Value),(∀ k,k<len*i.size→vs[k]? = us[k]?)→(∀ k,k<news.length→vs[len*i.size+k]? = news[k]?)→∀ (k:Nat) (d:D) (v:Value),
   (cells.take (len*i.size)++dV.flatten)[k]? = some d→vs[k]? = some v→RD M s d v:=fun vs g1 g2 k d v e1 e2=>by
   rcases Nat.lt_or_ge k (len*i.size)with hk|hk
   ·rw [List.getElem?_append_left (by omega),List.getElem?_take_of_lt hk]at e1
    rw[g1 k hk]at e2
    exact ib k d v e1 e2
   ·rw [List.getElem?_append_right (by omega),IG]at e1
    have bU:=(List.getElem?_eq_some_iff.1 e1).1
    have:=g2 (k - len*i.size) (by omega)
    rw[show len*i.size+(k - len*i.size)=k by omega]at this
    rw[this]at e2
    obtain⟨a,row,j,f1,f2,f3⟩:=Qw _ d e1
    rw[f3]at e2
    exact B4 a row j d v f1 f2 e2
  by_cases qW:len+dV.length≤cap
  ·have jo:len*i.size+news.length≤us.size:=by rw [Qx,dO, ← Nat.add_mul];exact Nat.mul_le_mul_right _ qW
   have ji:=run_storeCells_at P (M.mu o) (len*i.size) T news 0 us w hh (by simpa using jo) hs.one
   simp only[Nat.add_zero]at ji
   have dH:(Builtin.append_ #[t,u] ty #[.slice (some ⟨M.mu o,0,none⟩) len cap,y]).run P w = .ok (.slice (some ⟨M.mu o,0,none⟩) (len+dV.length) cap) (w.setRow (M.mu o) (us.toList.take (len*i.size)++news++us.toList.drop (len*i.size+news.length)).toArray):=by
    rcases hs.kind with ⟨LC,hk⟩|hk<;>simp[Builtin.append_,run_underlying ht,run_underlying hk,sizeOf,typeInfo,hi,hs.len,qW,hs.cells,Addr.add_lit,ji]
   have hY:=x9 (vs:=us) (off:=len*i.size) (us:=news) rfl jo
   generalize q7:(us.toList.take (len*i.size)++news++us.toList.drop (len*i.size+news.length)).toArray=iW at dH hY
   have qU:iW.size=us.size:=by rw[← q7];simp;omega
   obtain⟨r',e'⟩:=r.TE hm ha (M.mu o) (g+1) cap (fun g0=>if g0=g+1 then some (M.mu o,cap)else A g0) (hA _ _) (if_pos rfl) (fun LF h=>by rw[if_neg (by omega)];exact CP LF (by omega))
    (w.setRow (M.mu o) iW) iW T (setRow_heap w (M.mu o) us iW T (0,0) hh) (by rw[qU,dO]) (cells.take (len*i.size)++dV.flatten) (by rw[List.length_append,IG,il,qU];omega)
    (by rw[← q7];exact ya gZ hs.one) (WG iW (fun k hk=>by rw[hY,if_pos hk]) (fun k hk=>by rw[hY,if_neg (by omega),if_pos (by omega)];congr 1;omega)) (.inl rfl) (fun b _ hb=>setRow_other w (M.mu o) b _ hb) (by simp) rfl rfl rfl
   refine⟨_,_,_,dH,r', ?_,e'⟩
   exact .eB i.size o (g+1) _ (M.mu o) cap _ (by simpa using ho) (by simp[Map.ob,Map.q5];rfl) (if_pos rfl) qW
  ·have CT:cap<len+dV.length:=by omega
   have uy:=grownCap_ge w (len+dV.length) cap e
   have LH:(Builtin.firstCells i.size len (.slice (some ⟨M.mu o,0,none⟩) len cap)).run P w.drew = .ok (us.toList.take (len*i.size)).toArray w.drew:=
    (Src.ofSlice w ht ⟨M.mu o,0,none⟩ len cap (us.toList.take (len*i.size)) (by simp;omega) (fun j v hj=>by
     rw[mC,Nat.zero_add,jh hh]
     rw[List.getElem?_take]at hj
     split at hj
     ·simpa using hj
     ·cases hj) (fun v hv=>gZ v (Array.mem_toList_iff.1 (List.mem_of_mem_take hv)))).cellsD
   have dH:=run_append_grow_src (P:=P) w t u ty e i z ht hi hz (some ⟨M.mu o,0,none⟩) len cap (us.toList.take (len*i.size)) LH y dV.length news hs CT (by omega) (growslice_fits CT s6)
   generalize q7:(us.toList.take (len*i.size)++news).toArray++Builtin.zeroCells z.cells (grownCap w (len+dV.length) cap e - (len+dV.length))=iW at dH
   have ux:(us.toList.take (len*i.size)).length=len*i.size:=by simp;omega
   have qU:iW.size=grownCap w (len+dV.length) cap e*i.size:=by
    rw[← q7]
    simp only[Array.size_append,List.size_toArray,List.length_append,size_zeroCells,xZ,ux,Qx, ← Nat.add_mul]
    congr 1;omega
   have Nc : ∀ v∈iW,v.oneCell'=true:=fun v hv=>by
    rw[← q7,Array.mem_append]at hv
    rcases hv with hv|hv
    ·simp at hv
     rcases hv with hv|hv
     ·exact gZ v (Array.mem_toList_iff.1 (List.mem_of_mem_take hv))
     ·exact hs.one v hv
    ·exact tO CQ _ v hv
   have afl : ∀ k,k<len*i.size→iW[k]? = us[k]? :=fun k hk=>by
    rw[← q7,Array.getElem?_append_left (by simp;omega),List.getElem?_toArray,List.getElem?_append_left (by omega),List.getElem?_take_of_lt hk];simp
   have ml : ∀ k,k<news.length→iW[len*i.size+k]? = news[k]? :=fun k hk=>by
    rw[← q7,Array.getElem?_append_left (by simp;omega),List.getElem?_toArray,List.getElem?_append_right (by omega),ux]
    congr 1;omega
   have FB:(len+dV.length)*i.size≤iW.size:=by rw[qU];exact Nat.mul_le_mul_right _ uy
   have TF:w.heap.size≤(w.drew.alloc (.cells iW e)).heap.size:=by
    have e1:w.drew.heap.size=w.heap.size:=rfl
    have e2:(w.drew.alloc (.cells iW e)).heap.size=w.drew.heap.size+1:=by simp
    omega
   obtain⟨r',e'⟩:=r.TE hm ha w.heap.size (g+1) (grownCap w (len+dV.length) cap e) (fun g0=>if g0=g+1 then some (w.heap.size,grownCap w (len+dV.length) cap e)else A g0) (hA _ _) (if_pos rfl) (fun LF h=>by rw[if_neg (by omega)];exact CP LF (by omega))
    (w.drew.alloc (.cells iW e)) iW e (heap_alloc_new w.drew _) qU (cells.take (len*i.size)++dV.flatten) (by rw[List.length_append,IG,il];rw[Nat.add_mul]at FB;omega)
    Nc (WG iW afl ml) (.inr (Nat.le_refl _)) (fun b hb _=>heap_alloc_old w.drew _ b hb) TF rfl rfl rfl
   refine⟨_,_,_,dH,r', ?_,e'⟩
   exact .eB i.size o (g+1) _ w.heap.size _ _ (by simpa using ho) (by simp[Map.ob,Map.q5];rfl) (if_pos rfl) uy
 ·-- the first array
  rename_i z0 g' zy new
  split at he
  case isFalse=>cases he
  rename_i hc
  obtain⟨rfl,Iy,wo⟩:=hc
  obtain⟨a,rfl⟩:=hx.Dg
  cases new with
  |nil=>
   simp only at he
   cases he
   exact⟨_,w,M,lF ht hi ((src _ _ _ rfl).1 rfl) (Nat.le_refl 0),r,hx,Ext.refl M s w⟩
  |cons n0 new=>
  have eO:(n0::new)≠ []:=by simp
  generalize dh:n0::new=dV at *
  have Qr:zy=i.size:=Iy.resolve_left eO
  subst Qr
  obtain⟨Gr,news,hs,B4⟩:=(src _ _ _ rfl).2 eO rfl
  have Ad:0<dV.length:=List.length_pos_iff.2 eO
  simp only[← dh]at he
  simp only[dh]at he
  cases he
  obtain⟨il,Qw⟩:=yY Gr
  have Qx:=hs.newsLen
  have s6:(0+dV.length)*i.bytes≤140737488355328:=by rw[Nat.mul_succ]at wo;simp only[bC]at wo;rw[Nat.zero_add];omega
  have Qs:dV.length≤1099511627776:=by rw[Nat.mul_succ]at wo;simp only[bC]at wo;omega
  have CT:0<0+dV.length:=by omega
  have uy:=grownCap_ge w (0+dV.length) 0 e
  have LH:(Builtin.firstCells i.size 0 (.slice a 0 0)).run P w.drew = .ok ([] : List Value).toArray w.drew:=by
   cases a with
   |none=>simp[Builtin.firstCells]
   |some a=>simp[Builtin.firstCells,loadCells,loadCellsFrom]
  have dH:=run_append_grow_src (P:=P) w t u ty e i z ht hi hz a 0 0 [] LH y dV.length news hs CT (by omega) (growslice_fits CT s6)
  generalize q7:(([] : List Value)++news).toArray++Builtin.zeroCells z.cells (grownCap w (0+dV.length) 0 e - (0+dV.length))=iW at dH
  have qU:iW.size=grownCap w (0+dV.length) 0 e*i.size:=by
   rw[← q7]
   simp only[Array.size_append,List.size_toArray,List.nil_append,size_zeroCells,xZ,Qx, ← Nat.add_mul]
   congr 1;omega
  have Nc : ∀ v∈iW,v.oneCell'=true:=fun v hv=>by
   rw[← q7,Array.mem_append]at hv
   rcases hv with hv|hv
   ·exact hs.one v (by simpa using hv)
   ·exact tO CQ _ v hv
  have ml : ∀ k,k<news.length→iW[k]? = news[k]? :=fun k hk=>by
   rw[← q7,Array.getElem?_append_left (by simpa using hk)];simp
  have FB:dV.length*i.size≤iW.size:=by rw[qU];exact Nat.mul_le_mul_right _ (by omega)
  have rd:Rel M s w.drew:=r.of_heap rfl
  obtain⟨M',r',e',f'⟩:=rd.aaX i.size (grownCap w (0+dV.length) 0 e) iW e qU dV.flatten (by omega) Nc (fun k d v e1 e2=>by
   have hk:=(List.getElem?_eq_some_iff.1 e1).1
   rw[ml k (by omega)]at e2
   obtain⟨a,row,j,f1,f2,f3⟩:=Qw _ d e1
   rw[f3]at e2
   exact B4 a row j d v f1 f2 e2)
  refine⟨_,_,M',dH,r', ?_,(Ext.of_heap (M:=M) (s:=s) (w:=w) (w':=w.drew) rfl rfl rfl rfl).trans e'⟩
  have:=f' dV.length (by omega)
  simpa using this
 ·cases he
theorem Nd (r:Rel M s w) {t e:TypeId} {i:TypeInfo} {z:List D} (ht:P.underlying t=some (.slice e)) (hi:P.info? e=some i) (hz:zeroOf P e=some z) (si:0<i.size) {n:Int} (h0:0≤n) (h1:n*((i.bytes:Int)+1)≤bC) :
 cR P M s w (do pure (.value (← Instr.makeSlice t (.int .i64 n) (.int .i64 n)))) (.eB i.size s.ah.length 0 n.toNat) {s with ah:=s.ah++ [.int .i64 ((0:Nat):Int)::(fR z n.toNat).flatten]}:=by
 obtain⟨i',v,g1,g2,g3,g4⟩:=sE hz
 rw[hi]at g1;cases g1
 have Gu:=qZ (M:=M) (s:=s) g4
 have hmul:n*((i.bytes:Int)+1)=(i.bytes:Int)*n+n:=by rw[Int.mul_add,Int.mul_one,Int.mul_comm]
 have hnb:0≤(i.bytes:Int)*n:=Int.mul_nonneg (by omega) h0
 have hmx:(bC:Int)=1099511627776:=rfl
 have dH:=run_make (P:=P) w t e i v ht hi g2 .i64 .i64 n n h0 (Int.le_refl _) (by omega) (by omega)
 have WC:z.length=i.size:=by have:=Gu.1;omega
 obtain⟨q1,q2,q3,q4⟩:=l9.zero Gu (by omega) n.toNat
 obtain⟨il,Qw⟩:=yY (rows:=fR z n.toNat) (size:=z.length) (fun row hr=>by rw[oW z _ row hr])
 rw[mg]at il
 have Gv:madeCells v.cells (n.toNat*i.size)=(Array.range (n.toNat*z.length)).map (v.cells[· % v.cells.size]!):=by rw[WC];rfl
 obtain⟨M',r',e',f'⟩:=r.aaX i.size n.toNat (madeCells v.cells (n.toNat*i.size)) e (by rw[Gv];simp[WC]) (fR z n.toNat).flatten (by rw[il,Gv];simp) (by rw[Gv];exact q3) (fun k d u e1 e2=>by
  obtain⟨a,row,j,f1,f2,f3⟩:=Qw k d e1
  rw[Gv,f3]at e2
  exact q4 a row j d u f1 f2 e2)
 refine⟨_,_,M', .inl ?_,r',f' n.toNat (Nat.le_refl _),e'⟩
 simp only[Sem.run_bind,dH,Result.andThen_ok,Sem.run_pure]
end
end Go.Abs
namespace Go.Abs
section
variable {P:Program} {M:Map} {s:St} {w:World}
theorem LI {tm:Tm} {act:Act} (hr:l7 M s tm act.tmps) : ∀ {l:List Operand} {xs:List X},xS l=some xs→
 xs.length=l.length∧∀ (i:Nat) (d:D) (v:Value),(xs.map (·.ev tm))[i]? = some d→(l.map act.eval)[i]? = some v→RD M s d v
 | [],xs,h=>by cases h;exact⟨rfl,by simp⟩
 | x::l,xs,h=>by
  unfold xS at h
  split at h
  ·rename_i x' r' h1 h2
   cases h
   obtain⟨g1,g2⟩:=LI hr h2
   refine⟨by simp[g1],fun i d v e1 e2=>?_⟩
   cases i with
   |zero=>simp at e1 e2;subst e1;subst e2;exact bS h1 hr
   |succ i=>exact g2 i d v (by simpa using e1) (by simpa using e2)
  ·cases h
theorem II {lo:Option Operand} {Gw:Option X} {tm:Tm} {act:Act} (hr:l7 M s tm act.tmps) (h:Wt lo=some Gw) {l:Int} (hl:sW (Gw.map (·.ev tm))=some l):Qm (lo.map act.eval) l:=by
 cases lo with
 |none=>cases h;simp only[Option.map_none,sW,Option.some.injEq]at hl;exact .inl ⟨rfl,hl.symm⟩
 |some x=>
  obtain⟨y,hy,rfl⟩:=map_some (f:=some) h
  have:=bS hy hr
  simp only[Option.map_some]at hl ⊢
  cases hd:y.ev tm<;>rw[hd]at hl this<;>simp only[sW]at hl<;>try (cases hl;done)
  cases hl
  rw[this.iw]
  exact .inr ⟨_,rfl⟩
theorem IJ {hi:Option Operand} {ic:Option X} {tm:Tm} {act:Act} (hr:l7 M s tm act.tmps) (h:Wt hi=some ic) {len:Nat} {l:Int} (hl:sX (ic.map (·.ev tm)) len=some l):Qn (hi.map act.eval) len l:=by
 cases hi with
 |none=>cases h;simp only[Option.map_none,sX,Option.some.injEq]at hl;exact .inl ⟨rfl,hl.symm⟩
 |some x=>
  obtain⟨y,hy,rfl⟩:=map_some (f:=some) h
  have:=bS hy hr
  simp only[Option.map_some]at hl ⊢
  cases hd:y.ev tm<;>rw[hd]at hl this<;>simp only[sX]at hl<;>try (cases hl;done)
  cases hl
  rw[this.iw]
  exact .inr ⟨_,rfl⟩
theorem Nf {t:TypeId} {f off size:Nat} {agg:Bool} (h:mB P t f=some (off,size,agg)) {cs:List D} {vs:Array Value} (hl:cs.length=vs.size) (h1 : ∀ v∈vs,v.oneCell'=true)
 (h2 : ∀ (i:Nat) (d:D) (v:Value),cs[i]? = some d→vs[i]? = some v→RD M s d v) {d:D} (hp:part cs off agg size=some d) (r:Rel M s w) :
 cR P M s w (do pure (.value (← Instr.field t (.agg vs) f))) d s:=by
 let n:=if agg then size else 1
 have jo:off+n≤vs.size:=by
  rcases qG hp with ⟨rfl,h1,_⟩|⟨rfl,h1⟩
  ·simp[n];omega
  ·have:=(List.getElem?_eq_some_iff.1 h1).1;simp[n];omega
 have hlen:((vs.toList.drop off).take n).length=n:=by simp;omega
 have hY : ∀ (j:Nat),j<((vs.toList.drop off).take n).length→vs[off+j]? = ((vs.toList.drop off).take n)[j]? :=by
  intro j h
  rw[hlen]at h
  rw[List.getElem?_take,if_pos h,List.getElem?_drop];simp
 refine cR.pure (v:=if agg then .agg ((vs.toList.drop off).take n).toArray else((vs.toList.drop off).take n).getD 0 Go.undef) r (by simp only[Sem.run_bind,Qf h vs _ hlen hY,Result.andThen_ok,Sem.run_pure]) ?_
 refine qX hp _ hlen (fun _ u hu=>h1 u (Array.mem_toList_iff.1 (List.mem_of_mem_drop (List.mem_of_mem_take hu)))) (fun j d u e1 e2=>h2 _ d u e1 ?_)
 rw[hY j (List.getElem?_eq_some_iff.1 e2).1];exact e2
theorem sG {o:Oper} {ao:AO} {tm:Tm} {act:Act} {d:D} {s':St} (hc:D3 P o=some ao) (r:Rel M s w) (hr:l7 M s tm act.tmps) (he:aJ ao tm s=some (d,s')) :
 cR P M s w (execOp act.eval o) d s':=by
 obtain⟨dst,op,type,pos,after,guard⟩:=o
 unfold D3 at hc
 simp only at hc
 cases op with
 |move x=>
  obtain⟨y,hy,rfl⟩:=map_some hc
  cases he
  exact cR.pure r rfl (bS hy hr)
 |assign x=>
  obtain⟨y,hy,rfl⟩:=map_some hc
  cases he
  exact cR.pure r rfl (bS hy hr)
 | pick c a b=>
  simp only at hc
  split at hc
  ·rename_i c' a' b' h1 h2 h3
   cases hc
   simp only[aJ]at he
   split at he
   ·rename_i t ht
    cases he
    have hcb:=bS h1 hr
    rw[ht]at hcb
    have:=hcb.nQ
    refine cR.pure (v:=if t then act.eval a else act.eval b) r ?_ ?_
    ·simp only [execOp,this,asBool]
     simp
    ·cases t
     ·exact bS h3 hr
     ·exact bS h2 hr
   ·cases he
  ·cases hc
 | alloc t=>
  simp only at hc
  split at hc
  ·obtain⟨z,hz,rfl⟩:=map_some hc
   simp only[aJ]at he
   split at he
   ·cases he;exact KN r hz
   ·cases he
  ·obtain⟨z,hz,rfl⟩:=map_some hc
   cases he
   exact MO r hz
 | box t x=>
  simp only at hc
  split at hc
  ·obtain⟨y,hy,rfl⟩:=map_some hc
   simp only[aJ]at he
   split at he
   ·rename_i row ei
    cases he
    exact Qe r (bS hy hr) ei
   ·cases he
  ·obtain⟨y,hy,rfl⟩:=map_some hc
   simp only[aJ]at he
   split at he
   ·rename_i row ei
    cases he
    exact Tr r (bS hy hr) ei
   ·cases he
 | build t parts=>
  simp only at hc
  split at hc
  ·rename_i fs z ps h1 h2 h3
   split at hc
   ·rename_i Eb
    cases hc
    simp only[aJ]at he
    split at he
    ·rename_i cs lb
     cases he
     have:=M4 r hr h1 Eb h2 h3 lb
     simpa[execOp]using this
    ·cases he
   ·cases hc
  ·cases hc
 | buildSlice t n parts=>
  simp only at hc
  split at hc
  ·rename_i e hu
   split at hc
   ·rename_i i z ps h1 h2 h3
    split at hc
    ·rename_i lG
     cases hc
     simp only[aJ]at he
     split at he
     ·rename_i rows kh
      cases he
      obtain⟨vs,T,g1,g2,g3,g4⟩:=CS r hr hu h1 h2 lG.1 lG.2 h3 kh
      obtain⟨f1,f2,f3⟩:=MW r T g1
      refine⟨_,_,_, .inl ?_,f2,f1,f3⟩
      simp only[Array.toArray_toList]at g4
      simp only[execOp,Sem.run_bind,g4,Result.andThen_ok,Sem.run_pure]
      rw[g2]
     ·cases he
    ·cases hc
   ·cases hc
  ·cases hc
 | load t x=>
  simp only at hc
  split at hc
  ·rename_i y a i h1 h2 h3
   cases hc
   have hx:=bS h1 hr
   simp only[aJ]at he
   split at he
   ·rename_i o off ho
    rw[ho]at hx
    have IK:=hx.AZ
    obtain⟨hv,_⟩:=hx.sg
    split at he
    ·rename_i cs lb
     split at he
     ·rename_i d' ld
      cases he
      have:=Hz r h3 h2 lb IK ld
      simp only[execOp,hv]
      exact this
     ·cases he
    ·cases he
   ·rename_i row off ho
    rw[ho]at hx
    obtain⟨b,k,hv,g1,g2⟩:=hx.yS
    split at he
    ·rename_i d' ld
     cases he
     have:=HA r h3 h2 g1 g2 ld
     simp only[execOp,hv]
     exact this
    ·cases he
   ·exact KP r h3 h2 hx he
  ·cases hc
 | store t a x=>
  simp only at hc
  split at hc
  ·rename_i a' x' i h1 h2 h3
   cases hc
   have ha:=bS h1 hr
   have hx:=bS h2 hr
   simp only[aJ]at he
   split at he
   ·rename_i o off row ho ei
    rw[ho]at ha
    have IK:=ha.AZ
    obtain⟨hv,_⟩:=ha.sg
    split at he
    ·rename_i cs lb
     split at he
     ·rename_i jo
      cases he
      have:=MP r h3 lb IK hx ei jo.1 jo.2
      simp only[execOp,hv]
      exact this
     ·cases he
    ·cases he
   ·exact IE r h3 ha hx he
  ·cases hc
 | nilCheck x=>
  obtain⟨y,hy,rfl⟩:=map_some hc
  have hx:=bS hy hr
  simp only[aJ]at he
  split at he
  ·rename_i o off ho
   cases he
   rw[ho]at hx
   have hv:=hx.sg.1
   rw[hv]at hx
   simp only[execOp,hv]
   exact yV r hx
  ·rename_i row off ho
   cases he
   rw[ho]at hx
   obtain⟨b,k,hv,_⟩:=hx.yS
   rw[hv]at hx
   simp only[execOp,hv]
   exact yV r hx
  ·split at he
   case h_2=>cases he
   rename_i d' s9
   cases he
   unfold MF at s9
   split at s9
   ·rename_i o g off hq
    cases s9
    rw[hq]at hx
    obtain⟨z,b,cap,A,hv,_⟩:=hx.Df
    rw[hv]at hx
    simp only[execOp,hv]
    exact yV r hx
   ·cases s9
 | binOp op t x y yt=>
  simp only at hc
  split at hc
  ·rename_i x' y' h1 h2
   have hx:=bS h1 hr
   have hy:=bS h2 hr
   have fin : ∀ d',xd op (x'.ev tm) (y'.ev tm)=some d'→(d',s)=(d,s')→cR P M s w (execOp act.eval ⟨dst, .binOp op t x y yt,type,pos,after,guard⟩) d s':=by
    intro d' ld heq
    cases heq
    exact Ts r hx hy ld
   have aaY:(match xd op (x'.ev tm) (y'.ev tm)with|some d=>some (d,s)|none=>none)=some (d,s')→cR P M s w (execOp act.eval ⟨dst, .binOp op t x y yt,type,pos,after,guard⟩) d s':=by
    intro h
    split at h
    ·rename_i d' ld
     exact fin d' ld (by cases h;rfl)
    ·cases h
   have TG : ∀ o:FO,((o = .eq∧op = .eql)∨(o = .Ij∧op = .add)∨(o = .Qa∧op = .eql))→aJ (.qP o x' y') tm s=some (d,s')→cR P M s w (execOp act.eval ⟨dst, .binOp op t x y yt,type,pos,after,guard⟩) d s':=by
    intro o ho h
    simp only[aJ]at h
    split at h
    ·rename_i d' ld
     cases h
     exact Qj r ho hx hy ld
    ·cases h
   have aaZ : ∀ neg,op=(if neg then .neq else .eql)→P.underlying t=some .bool→aJ (.Gk neg x' y') tm s=some (d,s')→cR P M s w (execOp act.eval ⟨dst, .binOp op t x y yt,type,pos,after,guard⟩) d s':=by
    intro neg mM ht h
    simp only[aJ]at h
    split at h
    ·rename_i p q hp hq
     cases h
     rw[hp]at hx;rw[hq]at hy
     simp only[execOp,hx.nQ,hy.nQ,mM]
     exact Tt r ht
    ·cases h
   have aa0 : ∀ neg e,op=(if neg then .neq else .eql)→P.underlying t=some (.pointer e)→aJ (.Gl neg x' y') tm s=some (d,s')→cR P M s w (execOp act.eval ⟨dst, .binOp op t x y yt,type,pos,after,guard⟩) d s':=by
    intro neg e mM ht h
    simp only[aJ]at h
    split at h
    ·rename_i hp hq
     cases h
     rw[hp]at hx;rw[hq]at hy
     simp only[execOp,hx.sf,hy.sf,mM]
     have:=Dh r (neg:=neg) (x:=x) (y:=y) (a:=none) ht
     cases neg<;>simpa using this
    ·rename_i o off hp hq
     cases h
     rw[hp]at hx;rw[hq]at hy
     simp only[execOp,hx.sg.1,hy.sf,mM]
     have:=Dh r (neg:=neg) (x:=x) (y:=y) (a:=some ⟨M.mu o,off,none⟩) ht
     cases neg<;>simpa using this
    ·rename_i row off hp hq
     cases h
     rw[hp]at hx;rw[hq]at hy
     obtain⟨b,k,hv,_⟩:=hx.yS
     simp only[execOp,hv,hy.sf,mM]
     have:=Dh r (neg:=neg) (x:=x) (y:=y) (a:=some ⟨b,k+off,none⟩) ht
     cases neg<;>simpa using this
    ·cases h
   have aa1 : ∀ neg ks,op=(if neg then .neq else .eql)→pY P t=some ks→aJ (.eqs neg ks x' y') tm s=some (d,s')→cR P M s w (execOp act.eval ⟨dst, .binOp op t x y yt,type,pos,after,guard⟩) d s':=by
    intro neg ks mM ht h
    simp only[aJ]at h
    split at h
    ·rename_i p q hp hq
     split at h
     ·rename_i e' s9
      cases h
      rw[hp]at hx;rw[hq]at hy
      simp only[execOp,mM]
      exact Tw r ht hx hy s9
     ·cases h
    ·cases h
   split at hc
   ·cases hc;exact aaY he
   ·cases hc;exact aaY he
   ·rename_i hu;cases hc;exact aaZ false rfl hu he
   ·rename_i hu;cases hc;exact aaZ true rfl hu he
   ·rename_i hu;cases hc;exact aa0 false _ rfl hu he
   ·rename_i hu;cases hc;exact aa0 true _ rfl hu he
   ·obtain⟨ks,hk,rfl⟩:=map_some hc;exact aa1 false ks rfl hk he
   ·obtain⟨ks,hk,rfl⟩:=map_some hc;exact aa1 true ks rfl hk he
   ·cases hc;exact TG .eq (.inl ⟨rfl,rfl⟩) he
   ·cases hc;exact TG .Ij (.inr (.inl ⟨rfl,rfl⟩)) he
   ·cases hc;exact TG .Qa (.inr (.inr ⟨rfl,rfl⟩)) he
   ·cases hc
  ·cases hc
 | unOp op t x=>
  obtain⟨y,hy,rfl⟩:=map_some hc
  have hx:=bS hy hr
  simp only[aJ]at he
  split at he
  ·rename_i d' ld
   cases he
   unfold Ip at ld
   split at ld
   ·rename_i k n hk
    cases ld
    rw[hk]at hx
    exact cR.pure (v:= .int k (k.wrap (0 - n))) r (by simp[execOp,hx.iw,Op.unary,Op.intArith]) (.int _ _)
   ·rename_i b hb
    cases ld
    rw[hb]at hx
    exact cR.pure (v:= .bool (!b)) r (by simp[execOp,hx.nQ,Op.unary]) (.bool _)
   ·cases ld
  ·cases he
 | convert src av2 x=>
  simp only at hc
  split at hc
  ·rename_i y k1 k h1 h2 h3
   cases hc
   have hx:=bS h1 hr
   simp only[aJ]at he
   split at he
   ·rename_i k2 n hn
    cases he
    rw[hn]at hx
    refine cR.pure (v:= .int k (k.wrap n)) r ?_ (.int _ _)
    simp[execOp,hx.iw,convert,run_underlying h2,run_underlying h3,Conv.intToInt]
   ·cases he
  ·rename_i y e h1 h2 h3
   split at hc
   ·rename_i h4
    cases hc
    have hx:=bS h1 hr
    simp only[aJ]at he
    split at he
    ·rename_i g z rows kh
     split at he
     ·rename_i b hb
      cases he
      rw[kh]at hx
      exact M5 r h2 h4 h3 hx hb
     ·cases he
    ·cases he
   ·cases hc
  ·rename_i y e e2 h1 h2 h3
   split at hc
   ·rename_i h4
    split at hc
    ·rename_i rW
     cases hc
     subst rW
     have hx:=bS h1 hr
     simp only[aJ]at he
     split at he
     ·rename_i t z rows kh
      split at he
      ·rename_i lG
       cases he
       rw[kh]at hx
       exact TA r h2 h4 hx lG.1 lG.2
      ·cases he
     ·cases he
    ·cases hc
   ·cases hc
  ·rename_i y e h1 h2 h3
   split at hc
   ·rename_i i h4 h5
    split at hc
    ·cases hc
     have hx:=bS h1 hr
     simp only[aJ]at he
     split at he
     ·rename_i l hl
      cases he
      rw[hl]at hx
      simp only[execOp,hx.lr]
      exact IC r h2 h3 h4
     ·cases he
    ·cases hc
   ·cases hc
  ·rename_i y k0 k h1 h2 h3
   cases hc
   have hx:=bS h1 hr
   simp only[aJ]at he
   split at he
   ·rename_i d' ld
    cases he
    obtain⟨j,n,hn,rfl⟩:=MS ld
    rw[hn]at hx
    refine cR.pure (v:= .float k (k.nearest n)) r ?_ (.val _ rfl)
    simp[execOp,hx.iw,convert,run_underlying h2,run_underlying h3,Conv.intToFloat]
   ·cases he
  ·rename_i y k0 k h1 h2 h3
   cases hc
   have hx:=bS h1 hr
   simp only[aJ]at he
   split at he
   ·rename_i d' ld
    cases he
    obtain⟨f,b,n,hn,h4,h5,rfl⟩:=MT ld
    rw[hn]at hx
    refine cR.pure (v:= .int k n) r ?_ (.int _ _)
    simp[execOp,hx.mY,convert,run_underlying h2,run_underlying h3,Conv.floatToInt,h4,h5]
   ·cases he
  ·cases hc
 | slice t x lo hi mx=>
  cases mx with
  |some m=>cases hc
  | none=>
   simp only at hc
   split at hc
   ·rename_i y Gw ic h1 h2 h3 h4
    cases hc
    have hx:=bS h1 hr
    simp only[aJ]at he
    split at he
    ·rename_i u hu
     rw[hu]at hx
     split at he
     ·rename_i l h hl hh
      split at he
      ·rename_i lG
       cases he
       have:=Qo r h4 (II hr h2 hl) (IJ hr h3 hh) lG.1 lG.2.1 lG.2.2
       simp only[execOp,hx.lr,Option.map_none]
       exact this
      ·cases he
     ·cases he
    ·cases he
   ·rename_i y Gw ic e h1 h2 h3 h4
    split at hc
    ·rename_i i D6
     cases hc
     have hx:=bS h1 hr
     simp only[aJ]at he
     split at he
     ·rename_i g z rows kh
      rw[kh]at hx
      split at he
      ·rename_i l h hl hh
       split at he
       ·rename_i lG
        cases he
        have:=Ty r h4 D6 lG.1 hx (II hr h2 hl) (IJ hr h3 hh) lG.2.1 lG.2.2.1 lG.2.2.2
        simp only[execOp,Option.map_none]
        exact this
       ·cases he
      ·cases he
     ·split at he
      case h_2=>cases he
      rename_i d' s9
      cases he
      have:=M9 r h4 D6 hx (fun l e=>II hr h2 e) (fun len l e=>IJ hr h3 e) s9
      simp only[execOp,Option.map_none]
      exact this
    ·cases hc
   ·cases hc
 | fieldAddr t x f=>
  simp only at hc
  split at hc
  ·rename_i y off size a h1 h2
   cases hc
   have hx:=bS h1 hr
   simp only[aJ]at he
   split at he
   ·rename_i o k ho
    cases he
    rw[ho]at hx
    have IK:=hx.AZ
    obtain⟨hv,hD⟩:=hx.sg
    refine cR.pure (v:= .pointer (some ⟨M.mu o,k+off,none⟩)) r ?_ (.ptr _ _ hD IK)
    simp only[execOp,hv,Sem.run_bind,A1 h2,Result.andThen_ok,Sem.run_pure]
   ·rename_i row k ho
    cases he
    rw[ho]at hx
    obtain⟨b,q,hv,g1,g2⟩:=hx.yS
    refine cR.pure (v:= .pointer (some ⟨b,q+(k+off),none⟩)) r ?_ (.dA _ _ _ _ g1 g2)
    simp only[execOp,hv,Sem.run_bind,A1 h2,Result.andThen_ok,Sem.run_pure,Nat.add_assoc]
   ·split at he
    case h_2=>cases he
    rename_i d' s9
    cases he
    unfold D2 at s9
    split at s9
    ·rename_i o g k hq
     cases s9
     rw[hq]at hx
     obtain⟨z,b,cap,A,hv,ho,hm,hg⟩:=hx.Df
     refine cR.pure (v:= .pointer (some ⟨b,k+off,none⟩)) r ?_ (.fu _ _ _ _ b cap A ho hm hg)
     simp only[execOp,hv,Sem.run_bind,A1 h2,Result.andThen_ok,Sem.run_pure]
    ·cases s9
  ·cases hc
 | field t x f=>
  simp only at hc
  split at hc
  ·rename_i y off size a h1 h2
   cases hc
   have hx:=bS h1 hr
   simp only[aJ]at he
   split at he
   ·rename_i cs lb
    split at he
    ·rename_i d' ld
     cases he
     rw[lb]at hx
     obtain⟨vs,hv,g1,g2,g3⟩:=hx.Fw
     simp only[execOp,hv]
     exact Nf h2 g1 g2 g3 ld r
    ·cases he
   ·cases he
  ·cases hc
 | indexAddr t x i=>
  simp only at hc
  split at hc
  ·rename_i y j e h1 h2 h3
   split at hc
   ·rename_i inf Nh
    split at hc
    ·cases hc
     have hx:=bS h1 hr
     have hj:=bS h2 hr
     simp only[aJ]at he
     split at he
     ·rename_i g z rows k n kh hn
      split at he
      ·rename_i lG
       obtain⟨IL,hz⟩:=lG
       subst hz
       split at he
       ·rename_i row ei
        cases he
        rw[kh]at hx;rw[hn]at hj
        simp only[execOp,hj.iw]
        exact MV r h3 Nh hx IL ei
       ·cases he
      ·cases he
     ·split at he
      case h_2=>cases he
      rename_i d' s9
      cases he
      exact IF r h3 Nh hx hj s9
    ·cases hc
   ·cases hc
  ·cases hc
 | index t x i=>
  simp only at hc
  split at hc
  ·rename_i y j h1 h2 h3
   cases hc
   have hx:=bS h1 hr
   have hj:=bS h2 hr
   simp only[aJ]at he
   split at he
   ·rename_i l k n hl hn
    split at he
    ·rename_i IL
     split at he
     ·rename_i c hcc
      cases he
      rw[hl]at hx;rw[hn]at hj
      simp only[execOp,hj.iw,hx.lr]
      exact Ql r h3 IL hcc
     ·cases he
    ·cases he
   ·cases he
  ·cases hc
 | extract x i=>
  obtain⟨y,hy,rfl⟩:=map_some hc
  have hx:=bS hy hr
  simp only[aJ]at he
  split at he
  ·rename_i ds Ba
   split at he
   ·rename_i d' ld
    cases he
    rw[Ba]at hx
    obtain⟨vs,hv,g1,g2⟩:=hx.Gn
    have hD:=(List.getElem?_eq_some_iff.1 ld).1
    have Bb:vs[i]? = some vs[i]:=Array.getElem?_eq_getElem (by omega)
    refine cR.pure (v:=vs[i]) r ?_ (g2 i _ _ ld Bb)
    simp[execOp,hv,Instr.extract,Bb]
   ·cases he
  ·cases he
 | call c=>
  obtain⟨callee,args,mN⟩:=c
  cases callee with
  |value f=>cases hc
  |invoke f m=>cases hc
  | builtin bi=>
   have two : ∀ {x y:Operand} {x' y':X} {isMax:Bool},cX x=some x'→cX y=some y'→bi=(if isMax then .max else .min)→args.toList = [x,y]→aJ (.mm isMax x' y') tm s=some (d,s')→
    cR P M s w (execOp act.eval ⟨dst, .call ⟨.builtin bi,args,mN⟩,type,pos,after,guard⟩) d s':=by
    intro x y x' y' isMax h1 h2 hb ha h
    have ie:args = #[x,y]:=by rw[← Array.toArray_toList (xs:=args),ha]
    subst ie
    have hx:=bS h1 hr
    have hy:=bS h2 hr
    simp only[aJ]at h
    split at h
    ·rename_i k a k' b Qy IK
     split at h
     ·rename_i Af
      subst Af
      cases h
      rw[Qy]at hx;rw[IK]at hy
      refine cR.pure (v:= .int k (if isMax then(if b > a then b else a)else(if b<a then b else a))) r ?_ (.int _ _)
      subst hb
      cases isMax
      ·simp[execOp,resolve,invoke,builtin,Builtin.min_,Builtin.min2,hx.iw,hy.iw]
      ·simp[execOp,resolve,invoke,builtin,Builtin.max_,Builtin.max2,hx.iw,hy.iw]
     ·cases h
    ·cases h
   cases bi<;>simp only at hc<;>try (cases hc;done)
   case append=>
    split at hc
    ·rename_i x y t u ha q8
     split at hc
     ·rename_i e e' x' y' h1 h2 h3 h4
      split at hc
      ·rename_i i z hi hz
       split at hc
       ·rename_i si
        cases hc
        have ie:args = #[x,y]:=by rw[← Array.toArray_toList (xs:=args),ha]
        have IM:mN = #[t,u]:=by rw[← Array.toArray_toList (xs:=mN),q8]
        subst ie;subst IM
        obtain⟨i',v,g1,g2,g3,g4⟩:=sE hz
        rw[hi]at g1;cases g1
        have Gu:=qZ (M:=M) (s:=s) g4
        split at he
        ·rename_i hb
         obtain⟨rfl,IN,hb2⟩:=hb
         obtain⟨v',w',M',f1,f2,f3,f4⟩:=MY (ty:=type) r h1 h2 hi g2 IN hb2 g3 Gu.2.1 (bS h3 hr) (bS h4 hr) he
         refine⟨v',w',M', .inl ?_,f2,f3,f4⟩
         simp[execOp,resolve,invoke,builtin,f1]
        ·have hxx:=bS h3 hr
         simp only[aJ]at he
         split at he
         ·rename_i gq zq rq hq
          rw[hq]at hxx
          obtain⟨v',w',M',f1,f2,f3,f4⟩:=Qt (ty:=type) r h1 h2 hi g2 g3 Gu.2.1 hxx (bS h4 hr) si he
          refine⟨v',w',M', .inl ?_,f2,f3,f4⟩
          simp[execOp,resolve,invoke,builtin,f1]
         ·obtain⟨v',w',M',f1,f2,f3,f4⟩:=Nb (ty:=type) r h1 h2 hi g2 g3 Gu.2.1 hxx (bS h4 hr) si he
          refine⟨v',w',M', .inl ?_,f2,f3,f4⟩
          simp[execOp,resolve,invoke,builtin,f1]
       ·cases hc
      ·cases hc
     ·rename_i e x' y' h1 h2 h3 h4
      split at hc
      ·rename_i i z hi hz
       split at hc
       ·rename_i hb
        cases hc
        obtain⟨rfl,IN,hb2⟩:=hb
        have ie:args = #[x,y]:=by rw[← Array.toArray_toList (xs:=args),ha]
        have IM:mN = #[t,u]:=by rw[← Array.toArray_toList (xs:=mN),q8]
        subst ie;subst IM
        obtain⟨i',v,g1,g2,g3,g4⟩:=sE hz
        rw[hi]at g1;cases g1
        have Gu:=qZ (M:=M) (s:=s) g4
        have hy:=bS h4 hr
        simp only[aJ]at he
        split at he
        ·rename_i l hl
         rw[hl]at hy
         obtain⟨v',w',M',f1,f2,f3,f4⟩:=MZ (ty:=type) r h1 h2 hi g2 IN hb2 g3 Gu.2.1 (bS h3 hr) he
         refine⟨v',w',M', .inl ?_,f2,f3,f4⟩
         simp[execOp,resolve,invoke,builtin,hy.lr,f1]
        ·cases he
       ·cases hc
      ·cases hc
     ·cases hc
    ·cases hc
   case len=>
    split at hc
    ·rename_i x t ha q8
     have ie:args = #[x]:=by rw[← Array.toArray_toList (xs:=args),ha]
     have IM:mN = #[t]:=by rw[← Array.toArray_toList (xs:=mN),q8]
     subst ie;subst IM
     have hex:execOp act.eval ⟨dst, .call ⟨.builtin .len, #[x], #[t]⟩,type,pos,after,guard⟩=(do pure (.value (← Builtin.len_ #[t] type #[act.eval x]))):=by
      simp[execOp,resolve,invoke,builtin]
     rw[hex]
     split at hc
     ·rename_i ht
      obtain⟨y,hy,rfl⟩:=map_some hc
      have hx:=bS hy hr
      simp only[aJ]at he
      split at he
      ·rename_i l hl
       cases he
       rw[hl]at hx
       rw[hx.lr]
       exact Iv r ht
      ·cases he
     ·rename_i e ht
      obtain⟨y,hy,rfl⟩:=map_some hc
      have hx:=bS hy hr
      simp only[aJ]at he
      split at he
      ·rename_i g z rows kh
       cases he
       rw[kh]at hx
       rcases hx.jj with ⟨h0,hv,_⟩|⟨h0,_,a,cap,hv⟩|⟨b,q,cap,hv,_⟩
       ·rw[hv,h0];exact mZ r ht
       ·rw[hv,h0];exact mZ r ht
       ·rw[hv];exact mZ r ht
      ·split at he
       case h_2=>cases he
       rename_i d' s9
       cases he
       exact Na r ht hx s9
     ·cases hc
    ·cases hc
   case max=>
    split at hc
    ·rename_i x y ha
     split at hc
     ·rename_i x' y' h1 h2
      cases hc
      exact two (isMax:=true) h1 h2 rfl ha he
     ·cases hc
    ·cases hc
   case min=>
    split at hc
    ·rename_i x y ha
     split at hc
     ·rename_i x' y' h1 h2
      cases hc
      exact two (isMax:=false) h1 h2 rfl ha he
     ·cases hc
    ·cases hc
   case complex=>
    split at hc
    ·rename_i x y ha
     split at hc
     ·rename_i x' y' h1 h2
      cases hc
      have ie:args = #[x,y]:=by rw[← Array.toArray_toList (xs:=args),ha]
      subst ie
      have hx:=bS h1 hr
      have hy:=bS h2 hr
      simp only[aJ]at he
      split at he
      ·rename_i d' ld
       cases he
       obtain⟨k,a,b,wu,rV,rfl⟩:=Qg ld
       rw[wu]at hx;rw[rV]at hy
       refine cR.pure (v:= .complex k a b) r ?_ (.val _ rfl)
       have hb:Builtin.complex_ mN type #[.float k a, .float k b] = pure (.complex k a b):=if_pos rfl
       simp[execOp,resolve,invoke,builtin,hb,hx.mY,hy.mY]
      ·cases he
     ·cases hc
    ·cases hc
   case real=>
    split at hc
    ·rename_i x ha
     obtain⟨x',h1,rfl⟩:=map_some hc
     have ie:args = #[x]:=by rw[← Array.toArray_toList (xs:=args),ha]
     subst ie
     have hx:=bS h1 hr
     simp only[aJ]at he
     split at he
     ·rename_i d' ld
      cases he
      obtain⟨k,a,b,wu,rfl⟩:=Qh ld
      rw[wu]at hx
      refine cR.pure (v:= .float k a) r ?_ (.val _ rfl)
      have hb:Builtin.real_ mN type #[.complex k a b] = pure (.float k a):=rfl
      simp[execOp,resolve,invoke,builtin,hb,hx.mY]
     ·cases he
    ·cases hc
   case imag=>
    split at hc
    ·rename_i x ha
     obtain⟨x',h1,rfl⟩:=map_some hc
     have ie:args = #[x]:=by rw[← Array.toArray_toList (xs:=args),ha]
     subst ie
     have hx:=bS h1 hr
     simp only[aJ]at he
     split at he
     ·rename_i d' ld
      cases he
      obtain⟨k,a,b,wu,rfl⟩:=Qi ld
      rw[wu]at hx
      refine cR.pure (v:= .float k b) r ?_ (.val _ rfl)
      have hb:Builtin.imag_ mN type #[.complex k a b] = pure (.float k b):=rfl
      simp[execOp,resolve,invoke,builtin,hb,hx.mY]
     ·cases he
    ·cases hc
 | makeFunc fn first captured=>
  cases fn<;>simp only at hc<;>try (cases hc;done)
  split at hc
  ·rename_i f h0
   obtain⟨xs,oM,rfl⟩:=map_some hc
   simp only[aJ,Option.some.injEq,Prod.mk.injEq]at he
   obtain⟨rfl,rfl⟩:=he
   obtain⟨c1,c2⟩:=LI hr oM
   have hf:first = #[]:=Array.eq_empty_of_size_eq_zero h0
   subst hf
   refine cR.pure (v:= .func (.func f) #[] (captured.map act.eval)) r ?_ (.gd _ _ _ (by simp[c1]) (fun i d v e1 e2=>c2 i d v e1 (by simpa using e2)))
   simp[execOp,Instr.makeFunc]
  ·cases hc
 | makeMap t rv=>
  cases rv with
  | none=>
   simp only at hc
   split at hc
   ·rename_i ht
    cases hc
    simp only[aJ,Option.some.injEq,Prod.mk.injEq]at he
    obtain⟨rfl,rfl⟩:=he
    simp only[execOp,Option.map_none]
    exact M6 r ht
   ·cases hc
  |some x=>cases hc
 | makeSlice t l c=>
  simp only at hc
  split at hc
  ·rename_i l' c' e h1 h2 ht
   split at hc
   ·rename_i i z hi hz
    split at hc
    ·rename_i si
     cases hc
     have hl:=bS h1 hr
     have hcx:=bS h2 hr
     simp only[aJ]at he
     split at he
     ·rename_i n m hn hm
      split at he
      ·rename_i lG
       obtain⟨rfl,h0,hmx⟩:=lG
       cases he
       rw[hn]at hl;rw[hm]at hcx
       simp only[execOp,hl.iw,hcx.iw]
       exact Nd r ht hi hz si h0 hmx
      ·cases he
     ·cases he
    ·cases hc
   ·cases hc
  ·cases hc
 | mapUpdate t m k v=>
  simp only at hc
  split at hc
  ·rename_i kt et m' k' v' ht h1 h2 h3
   split at hc
   ·rename_i hkt
    cases hc
    have hm:=bS h1 hr
    have hk:=bS h2 hr
    have hv:=bS h3 hr
    simp only[aJ]at he
    split at he
    ·rename_i o key g z rows ho TH kh
     rw[ho]at hm;rw[TH]at hk;rw[kh]at hv
     obtain⟨hmv,hD,xT⟩:=hm.Iu
     split at he
     ·rename_i cs lb
      split at he
      ·rename_i jI ajv
       cases he
       have x7:(act.eval v).oneCell'=true:=by
        rcases hv.jj with ⟨_,h,_⟩|⟨_,_,a,cap,h⟩|⟨b,q,cap,h,_⟩<;>rw[h]<;>rfl
       simp only[execOp,hmv,hk.lr]
       exact Qv r ht hkt xT lb hv x7 ajv
      ·cases he
     ·cases he
    ·cases he
   ·cases hc
  ·cases hc
 | lookup t m k ok=>
  cases ok<;>simp only at hc<;>try (cases hc;done)
  split at hc
  ·rename_i kt et m' k' ht h1 h2
   split at hc
   ·rename_i i hkt hi
    split at hc
    ·rename_i z hz
     obtain⟨zd,hzd,rfl⟩:=map_some hc
     have hm:=bS h1 hr
     have hk:=bS h2 hr
     simp only[aJ]at he
     split at he
     ·rename_i o key ho TH
      rw[ho]at hm;rw[TH]at hk
      obtain⟨hmv,hD,xT⟩:=hm.Iu
      split at he
      ·rename_i cs lb
       split at he
       ·rename_i d' ld
        cases he
        simp only[execOp,hmv,hk.lr]
        exact M7 r ht hkt hi hz hzd xT lb ld
       ·cases he
      ·cases he
     ·cases he
    ·cases hc
   ·cases hc
  ·cases hc
 |_=>cases hc
theorem yZ {o:Oper} {z:List D} {k n:Nat} {ps:List (Nat×X)} {tm:Tm} {act:Act} {d:D} {s':St} (hc:D3 P o=some (.du z k n ps)) (r:Rel M s w) (hr:l7 M s tm act.tmps) (he:aJ (.u9 z k n ps) tm s=some (d,s')) :
 cR P M s w (execOp act.eval o) d s':=by
 obtain⟨dst,op,type,pos,after,guard⟩:=o
 unfold D3 at hc
 simp only at hc
 cases op with
 | buildSlice t n' parts=>
  simp only at hc
  split at hc
  ·rename_i e hu
   split at hc
   ·rename_i i z ps h1 h2 h3
    split at hc
    ·rename_i lG
     cases hc
     simp only[aJ]at he
     split at he
     ·rename_i rows kh
      cases he
      obtain⟨vs,T,g1,g2,g3,g4⟩:=CS r hr hu h1 h2 lG.1 lG.2 h3 kh
      obtain⟨M',f1,f2,f3⟩:=Qu r T g1 (by rw[g3,g2]) lG.1
      refine⟨_,_,_, .inl ?_,f2,f1,f3⟩
      simp only[Array.toArray_toList]at g4
      simp only[execOp,Sem.run_bind,g4,Result.andThen_ok,Sem.run_pure]
      rw[g2]
     ·cases he
    ·cases hc
   ·cases hc
  ·cases hc
 |_=>
  exfalso
  revert hc
  try simp only
  repeat' split
  all_goals (first|(intro h;cases h;done)|(intro h;obtain⟨_,_,h⟩:=map_some h;cases h;done)|contradiction|(simp;done)|(intro h;simp_all;done))
end
end Go.Abs
namespace Go.Abs
structure fU where
 M:Map
 s:St
 w:World
 laid:Laid M s w
 CW : ∀ b o v,M.G b o=some v→b<w.heap.size
def Holds (B:fU) (nt:Nat) (tm:Tm) (s:St) (act:Act) (w:World):Prop:=
 ∃ M,Ext B.M B.s B.w M s w∧Rel M s w∧l7 M s tm act.tmps∧act.tmps.size=nt∧act.defers = []
def pQ (B:fU) (nt:Nat) (Q:Exit→Tm→St→Prop):Exit→Act→World→Prop:=fun e act w=>∃ tm s,Q e tm s∧Holds B nt tm s act w
def bM (P:Program) (f:FuncId) (args:List D) (s:St) (Q:D→St→Prop):Prop:=
 ∀ (M:Map) (w:World) (fJ:Array Value),Rel M s w→Laid M s w→fJ.size=args.length→(∀ (i:Nat) (d:D) (v:Value),args[i]? = some d→fJ[i]? = some v→RD M s d v)→
  Calls P f fJ w fun e w'=>∃ M' d v s',e = .returned v∧Q d s'∧Ext M s w M' s' w'∧Rel M' s' w'∧RD M' s' d v
theorem bM.mono {P:Program} {f:FuncId} {args:List D} {s:St} {Q Q':D→St→Prop} (h:bM P f args s Q) (hq : ∀ d s',Q d s'→Q' d s'):bM P f args s Q':=
 fun M w fJ r hd hl ha=>(h M w fJ r hd hl ha).mono fun _ _ ⟨M',d,v,s',h1,h2,h3⟩=>⟨M',d,v,s',h1,hq _ _ h2,h3⟩
def guarded (g:Option (Nat×Bool)) (tm:Tm) (A B:Prop):Prop:=
 match g with
 |none=>A
 |some (t,want)=>
  match tm.get t with
  | .bool b=>(b=want→A)∧(b=(!want)→B)
  | .tuple _=>B
  |_=>False
def iY (P:Program):List AI→(Tm→St→Prop)→Tm→St→Prop
 | [],K,tm,s=>K tm s
 | .op dst g o::r,K,tm,s=>
  guarded g tm (match aJ o tm s with|some (d,s')=>iY P r K (tm.put dst d) s'|none=>False) (iY P r K (tm.put dst (.tuple [])) s)
 | .call dst g f xs::r,K,tm,s=>
  guarded g tm (bM P f (xs.map (·.ev tm)) s fun d s'=>iY P r K (tm.put dst d) s') (iY P r K (tm.put dst (.tuple [])) s)
 | .nil dst g neg x::r,K,tm,s=>
  guarded g tm (match x.ev tm with
   | .slice _ _ rows=>∀ b:Bool,(rows≠ []→b=false)→iY P r K (tm.put dst (.bool (if neg then !b else b))) s
   |_=>False) (iY P r K (tm.put dst (.tuple [])) s)
 | .jt dst g t xs::r,K,tm,s=>
  guarded g tm (match tm.get t with
   | .gd f nN=>enters P f=true∧bM P f (xs.map (·.ev tm)++nN) s fun d s'=>iY P r K (tm.put dst d) s'
   |_=>False) (iY P r K (tm.put dst (.tuple [])) s)
section
variable {P:Program}
theorem Bc {f:FuncId} (h:enters P f=true) (args:Array Value) (w:World):(callFunc f args).run P w = .ok (.enter f args) w:=by
 unfold enters at h
 split at h
 ·rename_i fn hf
  simp only[Bool.and_eq_true,Bool.not_eq_true']at h
  obtain⟨h1,h2⟩:=h
  have h3:fn.body.isNone=false:=by cases hb:fn.body<;>simp_all
  simp only[callFunc,Sem.run_bind,run_program,Result.andThen_ok,hf,h2,h3]
  simp
 ·cases h
theorem xi (ρ:Operand→Value) (dst:Option Tmp) (f:FuncId) (args:Array Operand) (mN:Array TypeId) (ty:TypeId) (pos:String) (after:Array Edge) (g:Option (Nat×Bool))
 (hρ:ρ (.func f) = .func (.func f) #[] #[]) (h:enters P f=true) (w:World) :
 (execOp ρ ⟨dst, .call ⟨.value (.func f),args,mN⟩,ty,pos,after,g⟩).run P w = .ok (.enter f (args.map ρ)) w:=by
 simp[execOp,resolve,hρ,Deferred.ofValue,invoke,Bc h]
theorem Bd (ρ:Operand→Value) (dst:Option Tmp) (x:Operand) (f:FuncId) (nN:Array Value) (args:Array Operand) (mN:Array TypeId) (ty:TypeId) (pos:String) (after:Array Edge) (g:Option (Nat×Bool))
 (hρ:ρ x = .func (.func f) #[] nN) (h:enters P f=true) (w:World) :
 (execOp ρ ⟨dst, .call ⟨.value x,args,mN⟩,ty,pos,after,g⟩).run P w = .ok (.enter f (args.map ρ++nN)) w:=by
 simp[execOp,resolve,hρ,Deferred.ofValue,invoke,Bc h]
theorem wv {M:Map} {s:St} {tm:Tm} {act:Act} (hr:l7 M s tm act.tmps) : ∀ {l:List Operand} {xs:List X},xS l=some xs→
 xs.length=l.length∧∀ (i:Nat) (d:D) (v:Value),(xs.map (·.ev tm))[i]? = some d→(l.map act.eval)[i]? = some v→RD M s d v
 | [],xs,h=>by cases h;exact⟨rfl,by simp⟩
 | x::l,xs,h=>by
  unfold xS at h
  split at h
  ·rename_i x' r' h1 h2
   cases h
   obtain⟨g1,g2⟩:=wv hr h2
   refine⟨by simp[g1],fun i d v e1 e2=>?_⟩
   cases i with
   |zero=>simp at e1 e2;subst e1;subst e2;exact bS h1 hr
   |succ i=>exact g2 i d v (by simpa using e1) (by simpa using e2)
  ·cases h
theorem Gx {M:Map} {s:St} {tm:Tm} {act:Act} {args:Array Operand} {xs:List X} {nN:List D} {vs:Array Value} (oM:xS args.toList=some xs) (ht:l7 M s tm act.tmps) (hlen:nN.length=vs.size)
 (Ee : ∀ (i:Nat) (d:D) (v:Value),nN[i]? = some d→vs[i]? = some v→RD M s d v) :
 (args.map act.eval++vs).size=(xs.map (·.ev tm)++nN).length∧∀ (i:Nat) (d:D) (v:Value),(xs.map (·.ev tm)++nN)[i]? = some d→(args.map act.eval++vs)[i]? = some v→RD M s d v:=by
 obtain⟨c1,c2⟩:=wv ht oM
 refine⟨by simp[c1,hlen],fun i d v e1 e2=>?_⟩
 rcases Nat.lt_or_ge i args.size with oa|oa
 ·rw [List.getElem?_append_left (by simp [c1];exact oa)]at e1
  rw[Array.getElem?_append_left (by simp;exact oa)]at e2
  exact c2 i d v e1 (by simpa using e2)
 ·rw [List.getElem?_append_right (by simp [c1];exact oa)]at e1
  rw[Array.getElem?_append_right (by simp;exact oa)]at e2
  simp only[List.length_map,c1,Array.size_map,Array.length_toList]at e1 e2
  exact Ee _ d v e1 e2
theorem Ag {M:Map} {s:St} {w:World} {o:Oper} {neg:Bool} {x:X} {tm:Tm} {act:Act} (hc:Fv P o=some (neg,x)) (hr:l7 M s tm act.tmps) {g:Tag} {z:Nat} {rows:List (List D)} (hx:x.ev tm = .slice g z rows) :
 ∃ b:Bool,(rows≠ []→b=false)∧(execOp act.eval o).run P w = .ok (.value (.bool (if neg then !b else b))) w:=by
 obtain⟨dst,op,type,pos,after,guard⟩:=o
 unfold Fv at hc
 split at hc
 ·rename_i op t y yt heq
  simp only at heq
  subst heq
  have fin : ∀ e,P.underlying t=some (.slice e)→cX y=some x→op=(if neg then .neq else .eql)→∃ b:Bool,(rows≠ []→b=false)∧
   (execOp act.eval ⟨dst, .binOp op t y (.const (.slice none 0 0)) yt,type,pos,after,guard⟩).run P w = .ok (.value (.bool (if neg then !b else b))) w:=by
   intro e ht hy mM
   have hv:=bS hy hr
   rw[hx]at hv
   have key : ∀ (a:Option Addr) (n c:Nat),act.eval y = .slice a n c→(execOp act.eval ⟨dst, .binOp op t y (.const (.slice none 0 0)) yt,type,pos,after,guard⟩).run P w = .ok (.value (.bool (if neg then !a.isNone else a.isNone))) w:=by
    intro a n c oZ
    have hg:=jJ (P:=P) (w:=w) (op:=op) (t:=t) (x:=y) (y:= .const (.slice none 0 0)) (a:= .slice a n c) (b:= .slice none 0 0) ⟨by simp,by simp⟩
    have he:(Op.equal t (.slice a n c) (.slice none 0 0)).run P w = .ok a.isNone w:=by
     have : ∀ d,(Op.equalIn (d+1) t (.slice a n c) (.slice none 0 0)).run P w = .ok a.isNone w:=by
      intro d
      cases a<;>simp[Op.equalIn,run_underlying ht]
     exact this 9999
    have ajx:act.eval (.const (.slice none 0 0)) = .slice none 0 0:=rfl
    simp only[execOp,oZ,ajx]
    rw[mM]at hg ⊢
    cases neg
    ·simp only [Bool.false_eq_true,if_false]at hg ⊢
     simp[hg,binOp,he]
    ·simp only [if_true]at hg ⊢
     simp[hg,binOp,he]
   rcases hv.jj with ⟨h0,oZ,_⟩|⟨_,_,a,cap,oZ⟩|⟨b,q,cap,oZ,_⟩
   ·exact⟨true,fun h=>(h h0).elim,key none 0 0 oZ⟩
   ·exact⟨false,fun _=>rfl,key _ _ _ oZ⟩
   ·exact⟨false,fun _=>rfl,key _ _ _ oZ⟩
  split at hc
  ·cases hc
   exact fin _ ‹_› ‹_› rfl
  ·cases hc
   exact fin _ ‹_› ‹_› rfl
  ·cases hc
 ·cases hc
variable {B:fU} {nt:Nat}
theorem Holds.put {tm:Tm} {s:St} {act:Act} {w:World} {M':Map} {s':St} {w':World} {M:Map} (e:Ext B.M B.s B.w M s w) (ht:l7 M s tm act.tmps) (hn:act.tmps.size=nt) (hd:act.defers = [])
 {dst:Option Nat} (qt : ∀ t,dst=some t→t<nt) {d:D} {v:Value} (e':Ext M s w M' s' w') (r':Rel M' s' w') (hv:RD M' s' d v):Holds B nt (tm.put dst d) s' (act.put dst v) w':=by
 refine⟨M',e.trans e',r',(ht.mono e'.le).put (fun t h=>by rw[hn];exact qt t h) hv, ?_, ?_⟩
 ·cases dst<;>simp[Act.put,hn]
 ·cases dst<;>simp[Act.put,hd]
theorem yc {ops:Array Oper} {o:Oper} {ai:AI} (h:cI P nt ops o=some ai) : ∀ t,o.dst=some t→t<nt:=by
 intro t ht
 unfold cI at h
 split at h
 ·cases h
 ·split at h
  ·rename_i hD;rw[ht]at hD;simpa[Wu]using hD
  ·cases h
theorem ki {ops:Array Oper} {o:Oper} {g:Option (Nat×Bool)} (hg:ve ops o.guard=some g) {M:Map} {s:St} {tm:Tm} {act:Act} (hr:l7 M s tm act.tmps) {A C:Prop} (h:guarded g tm A C) :
 (Region.wanted o (yielded ops act.tmps)=true∧A)∨(Region.wanted o (yielded ops act.tmps)=false∧C):=by
 unfold ve at hg
 split at hg
 ·rename_i hn
  cases hg
  exact .inl ⟨by simp[Region.wanted,hn],h⟩
 ·rename_i j want hn
  split at hg
  ·rename_i t ht
   cases hg
   have WH:=hr t
   unfold guarded at h
   simp only at h
   split at h
   ·rename_i b hb
    rw[hb]at WH
    have hv:=WH.nQ
    have afm:act.tmps[t]? = some (.bool b):=by
     cases hc:act.tmps[t]? with
     |none=>simp[Array.getD_eq_getD_getElem?,hc,Go.undef]at hv
     |some v=>simp[Array.getD_eq_getD_getElem?,hc]at hv;rw[hv]
    have hy:yielded ops act.tmps j=some b:=by simp[yielded,ht,afm]
    have hw:Region.wanted o (yielded ops act.tmps)=(some b==some want):=by simp[Region.wanted,hn,hy]
    by_cases hbw:b=want
    ·exact .inl ⟨by rw[hw,hbw];simp,h.1 hbw⟩
    ·refine .inr ⟨by rw [hw];simp [hbw],h.2 ?_⟩
     cases b<;>cases want<;>simp_all
   ·rename_i ds Ba
    rw[Ba]at WH
    obtain⟨vs,hv,_⟩:=WH.Gn
    refine .inr ⟨?_,h⟩
    have hy:yielded ops act.tmps j=none:=by
     unfold yielded
     rw[ht]
     cases hc:act.tmps[t]? with
     |none=>simp[hc]
     |some v=>simp[Array.getD_eq_getD_getElem?,hc]at hv;simp[hc,hv]
    simp[Region.wanted,hn,hy]
   ·exact h.elim
  ·cases hg
theorem Be {ops:Array Oper} {Q:Exit→Tm→St→Prop} : ∀ (l:List Nat) (ol:List Oper) (is:List AI),l.map (ops[·]?)=ol.map some→qS P nt ops ol=some is→
 ∀ (tm:Tm) (s:St) (act:Act) (w:World),iY P is (Q .normal) tm s→Holds B nt tm s act w→wpOps P ops (pQ B nt Q) l act w
 | [],[],is,_,hc,tm,s,act,w,h,hh=>by cases hc;exact⟨tm,s,h,hh⟩
 | [],_::_,_,hl,_,_,_,_,_,_,_=>by simp at hl
 |_::_,[],_,hl,_,_,_,_,_,_,_=>by simp at hl
 | i::l,o::ol,is,hl,hc,tm,s,act,w,h,hh=>by
  simp only[List.map_cons,List.cons.injEq]at hl
  obtain⟨hi,hl⟩:=hl
  unfold qS at hc
  split at hc
  ·rename_i ai QA h1 h2
   cases hc
   obtain⟨M,e,r,ht,hn,hd⟩:=hh
   have qt:=yc h1
   have ih:=fun tm s act w=>Be (Q:=Q) l ol QA hl h2 tm s act w
   have skip : ∀ (x:Prop),iY P QA (Q .normal) (tm.put o.dst (.tuple [])) s→wpOps P ops (pQ B nt Q) l (act.put o.dst Go.undef) w:=fun _ hk=>
    ih _ _ _ _ hk (Holds.put e ht hn hd qt (Ext.refl M s w) r .undef)
   simp only[wpOps,hi]
   unfold cI at h1
   split at h1
   ·cases h1
   ·rename_i g hg
    split at h1
    ·unfold sC at h1
     split at h1
     ·-- a call
      rename_i f args mN mM
      split at h1
      ·rename_i za
       obtain⟨xs,oM,rfl⟩:=map_some h1
       unfold iY at h
       rcases ki hg ht h with ⟨hw,hA⟩|⟨hw,hB⟩
       ·simp only [hw,if_true]
        left
        have hex:(execOp act.eval o).run P w = .ok (.enter f (args.map act.eval)) w:=by
         obtain⟨dst,op,type,pos,after,guard⟩:=o
         simp only at mM
         subst mM
         exact xi act.eval dst f args mN type pos after guard rfl za w
        obtain⟨c1,c2⟩:=wv ht oM
        unfold Oper.wp
        rw[hex,Oper.upon_enter]
        refine(hA M w (args.map act.eval) r (B.laid.ext e) (by simp[c1]) (fun i d v e1 e2=>c2 i d v e1 (by simpa using e2))).mono ?_
        rintro en w' ⟨M',d,v,s',rfl,hk,e',r',hv⟩
        exact ih _ _ _ _ hk (Holds.put e ht hn hd qt e' r' hv)
       ·simp only [hw]
        exact skip True hB
      ·cases h1
     ·-- what a slot holds is called
      rename_i t args mN mM
      obtain⟨xs,oM,rfl⟩:=map_some h1
      unfold iY at h
      rcases ki hg ht h with ⟨hw,hA⟩|⟨hw,hB⟩
      ·simp only [hw,if_true]
       left
       split at hA
       ·rename_i f nN oK
        obtain⟨za,hA⟩:=hA
        have QB:=ht t
        rw[oK]at QB
        obtain⟨vs,oY,hlen,Ee⟩:=QB.LD
        have hex:(execOp act.eval o).run P w = .ok (.enter f (args.map act.eval++vs)) w:=by
         obtain⟨dst,op,type,pos,after,guard⟩:=o
         simp only at mM
         subst mM
         exact Bd act.eval dst (.tmp t) f vs args mN type pos after guard oY za w
        unfold Oper.wp
        rw[hex,Oper.upon_enter]
        have cc:=Gx oM ht hlen Ee
        refine(hA M w (args.map act.eval++vs) r (B.laid.ext e) cc.1 cc.2).mono ?_
        rintro en w' ⟨M',d,v,s',rfl,hk,e',r',hv⟩
        exact ih _ _ _ _ hk (Holds.put e ht hn hd qt e' r' hv)
       ·exact hA.elim
      ·simp only [hw]
       exact skip True hB
     ·split at h1
      ·-- a slice held against nil
       rename_i neg x Dm
       cases h1
       unfold iY at h
       rcases ki hg ht h with ⟨hw,hA⟩|⟨hw,hB⟩
       ·simp only [hw,if_true]
        left
        split at hA
        ·rename_i g' z rows hx
         obtain⟨b,hb,hex⟩:=Ag (w:=w) Dm ht hx
         unfold Oper.wp
         rw[hex,Oper.upon_value]
         exact ih _ _ _ _ (hA b hb) (Holds.put e ht hn hd qt (Ext.refl M s w) r (.bool _))
        ·exact hA.elim
       ·simp only [hw]
        exact skip True hB
      ·-- any other operation
       have fin : ∀ ao,ai = .op o.dst g ao→(∀ d s',aJ ao tm s=some (d,s')→cR P M s w (execOp act.eval o) d s')→
        (if Region.wanted o (yielded ops act.tmps)=true then o.wp P act w (wpOps P ops (pQ B nt Q) l) (pQ B nt Q)∨(o.asks P act w∧LetsOut (pQ B nt Q))else wpOps P ops (pQ B nt Q) l (act.put o.dst Go.undef) w):=by
        intro ao wx hdo
        subst wx
        unfold iY at h
        rcases ki hg ht h with ⟨hw,hA⟩|⟨hw,hB⟩
        ·simp only [hw,if_true]
         left
         split at hA
         ·rename_i d s' qI
          obtain⟨v,w',M',dH,r',hv,e'⟩:=hdo d s' qI
          unfold Oper.wp
          rcases dH with dH|⟨dH,rfl⟩
          ·rw [dH,Oper.upon_value]
           exact ih _ _ _ _ hA (Holds.put e ht hn hd qt e' r' hv)
          ·rw [dH,Oper.upon_skip]
           exact ih _ _ _ _ hA (Holds.put e ht hn hd qt e' r' hv)
         ·exact hA.elim
        ·simp only [hw]
         exact skip True hB
       split at h1
       ·rename_i z k n ps oc
        cases h1
        refine fin _ rfl (fun d s' qI=>?_)
        split at qI
        ·exact yZ oc r ht qI
        ·exact sG oc r ht qI
       ·rename_i ao oc
        cases h1
        exact fin _ rfl (fun d s' qI=>sG oc r ht qI)
       ·cases h1
    ·cases h1
  ·cases hc
end
end Go.Abs
namespace Go.Abs
def Turned (P:Program) (nt:Nat):AC→Code→Prop
 | .skip,c=>c = .skip
 | .run is,c=>∃ id ops,c = .region id ops false∧qS P nt ops ops.toList=some is
 | .par is lS,c=>∃ id ops,c = .region id ops true∧qS P nt ops ops.toList=some is∧P.follows .mixedOrders=true∧∃ pt,Il is (ops.toList.map mV) pt lS=true
 | .seq a b,c=>∃ x y,c = .seq x y∧cC P nt x=some a∧cC P nt y=some b
 | .cond x a b,c=>∃ o p q,c = .cond o p q∧cX o=some x∧cC P nt p=some a∧cC P nt q=some b
 | .block id a,c=>∃ x,c = .block id x∧cC P nt x=some a
 | .loop a,c=>∃ x,c = .loop x∧cC P nt x=some a
 | .exit id,c=>c = .exit id
 | .scope a,c=>∃ x,c = .scope x∧cC P nt x=some a
 | .label l,c=>c = .label l
 | .goto l,c=>c = .goto l
 | .ret,c=>c = .ret
theorem lH {P:Program} {nt:Nat} {c:Code} {ac:AC} (h:cC P nt c=some ac):Turned P nt ac c:=by
 cases c with
 |skip=>cases h;rfl
 | region id ops draw=>
  cases draw
  ·obtain⟨is,h1,rfl⟩:=map_some (x:=qS P nt ops ops.toList) (f:=AC.run) (by simpa [cC]using h)
   exact⟨id,ops,rfl,h1⟩
  ·simp only [cC]at h
   split at h
   ·rename_i hm
    obtain⟨is,h1,h2⟩:=Option.bind_eq_some_iff.1 h
    unfold Wv at h2
    split at h2
    ·rename_i hp
     cases h2
     exact⟨id,ops,rfl,h1,hm,_,hp⟩
    ·cases h2
   ·cases h
 |seq a b=>
  simp only[cC]at h
  split at h
  ·rename_i a' b' h1 h2;cases h;exact⟨a,b,rfl,h1,h2⟩
  ·cases h
 |cond x a b=>
  simp only[cC]at h
  split at h
  ·rename_i x' a' b' h1 h2 h3;cases h;exact⟨x,a,b,rfl,h1,h2,h3⟩
  ·cases h
 |block id a=>
  obtain⟨a',h1,rfl⟩:=map_some (x:=cC P nt a) (f:=AC.block id) (by simpa[cC]using h)
  exact⟨a,rfl,h1⟩
 |loop a=>
  obtain⟨a',h1,rfl⟩:=map_some (x:=cC P nt a) (f:=AC.loop) (by simpa[cC]using h)
  exact⟨a,rfl,h1⟩
 |rangeFunc f p a b=>simp[cC]at h
 |exit id=>cases h;rfl
 |scope a=>
  obtain⟨a',h1,rfl⟩:=map_some (x:=cC P nt a) (f:=AC.scope) (by simpa[cC]using h)
  exact⟨a,rfl,h1⟩
 |label l=>cases h;rfl
 |goto l=>cases h;rfl
 |ret=>cases h;rfl
 |refuse w=>simp[cC]at h
def Sem (P:Program) (B:fU) (nt:Nat) (ac:AC) (Q:Exit→Tm→St→Prop) (tm:Tm) (s:St):Prop:=
 ∀ c,cC P nt c=some ac→∀ act w,Holds B nt tm s act w→c.wp P (pQ B nt Q) act w
def nR (next:Tm→St→Prop) (Q:Exit→Tm→St→Prop):Exit→Tm→St→Prop
 | .normal,tm,s=>next tm s
 |e,tm,s=>Q e tm s
def kB (id:Nat) (Q:Exit→Tm→St→Prop):Exit→Tm→St→Prop
 | .exit i,tm,s=>if i=id then Q .normal tm s else Q (.exit i) tm s
 |e,tm,s=>Q e tm s
section
variable {P:Program} {B:fU} {nt:Nat} {Q:Exit→Tm→St→Prop} {tm:Tm} {s:St}
theorem Sem.mono {ac:AC} {Q':Exit→Tm→St→Prop} (h:Sem P B nt ac Q tm s) (hq : ∀ e tm s,Q e tm s→Q' e tm s):Sem P B nt ac Q' tm s:=
 fun c hc act w hh=>wp_mono (h c hc act w hh) fun _ _ _ ⟨tm,s,h1,h2⟩=>⟨tm,s,hq _ _ _ h1,h2⟩
theorem Sem.skip (h:Q .normal tm s):Sem P B nt .skip Q tm s:=by
 intro c hc act w hh
 cases lH hc
 exact wp_skip ⟨tm,s,h,hh⟩
theorem Sem.label {l:Nat} (h:Q .normal tm s):Sem P B nt (.label l) Q tm s:=by
 intro c hc act w hh
 cases lH hc
 exact wp_label ⟨tm,s,h,hh⟩
theorem Sem.exit {id:Nat} (h:Q (.exit id) tm s):Sem P B nt (.exit id) Q tm s:=by
 intro c hc act w hh
 cases lH hc
 exact wp_exit ⟨tm,s,h,hh⟩
theorem Sem.goto {l:Nat} (h:Q (.goto l) tm s):Sem P B nt (.goto l) Q tm s:=by
 intro c hc act w hh
 cases lH hc
 exact wp_goto ⟨tm,s,h,hh⟩
theorem Sem.ret (h:Q .ret tm s):Sem P B nt .ret Q tm s:=by
 intro c hc act w hh
 cases lH hc
 exact wp_ret ⟨tm,s,h,hh⟩
theorem Bf (ops:Array Oper):(List.range ops.size).map (ops[·]?)=ops.toList.map some:=by
 apply List.ext_getElem?
 intro i
 by_cases h:i<ops.size
 ·simp[h]
 ·simp[h]
theorem Sem.run {is:List AI} (h:iY P is (Q .normal) tm s):Sem P B nt (.run is) Q tm s:=by
 intro c hc act w hh
 obtain⟨id,ops,rfl,hi⟩:=lH hc
 exact wp_region (Be (Q:=Q) (List.range ops.size) ops.toList is (Bf ops) hi tm s act w h hh)
theorem Sem.seq {a b:AC} (h:Sem P B nt a (nR (Sem P B nt b Q) Q) tm s):Sem P B nt (.seq a b) Q tm s:=by
 intro c hc act w hh
 obtain⟨x,y,rfl,h1,h2⟩:=lH hc
 refine wp_seq (wp_mono (h x h1 act w hh) fun e act w hp=>?_)
 obtain⟨bx,s',hq,j9⟩:=hp
 cases e with
 |normal=>exact hq y h2 act w j9
 |exit id=>exact⟨bx,s',hq,j9⟩
 |goto l=>exact⟨bx,s',hq,j9⟩
 |ret=>exact⟨bx,s',hq,j9⟩
 |panic ch=>exact⟨bx,s',hq,j9⟩
 |outgrown=>exact⟨bx,s',hq,j9⟩
theorem Sem.cond {x:X} {a b:AC} {t:Bool} (hx:x.ev tm = .bool t) (h1:t=true→Sem P B nt a Q tm s) (h2:t=false→Sem P B nt b Q tm s):Sem P B nt (.cond x a b) Q tm s:=by
 intro c hc act w hh
 obtain⟨o,p,q,rfl,g1,g2,g3⟩:=lH hc
 have j9:=hh
 obtain⟨M,e,r,ht,hn,hd⟩:=hh
 have hv:=bS g1 ht
 rw[hx]at hv
 exact wp_cond_split hv.nQ (fun h=>h1 h p g2 act w j9) (fun h=>h2 h q g3 act w j9)
theorem Sem.block {id:Nat} {a:AC} (h:Sem P B nt a (kB id Q) tm s):Sem P B nt (.block id a) Q tm s:=by
 intro c hc act w hh
 obtain⟨x,rfl,h1⟩:=lH hc
 refine wp_block (wp_mono (h x h1 act w hh) fun e act w hp=>?_)
 obtain⟨bx,s',hq,j9⟩:=hp
 cases e with
 |exit i=>
  simp only[kB]at hq
  simp only[Exit.inBlock]
  split at hq
  ·rename_i h;rw[if_pos h];exact⟨bx,s',hq,j9⟩
  ·rename_i h;rw[if_neg h];exact⟨bx,s',hq,j9⟩
 |normal=>exact⟨bx,s',hq,j9⟩
 |goto l=>exact⟨bx,s',hq,j9⟩
 |ret=>exact⟨bx,s',hq,j9⟩
 |panic ch=>exact⟨bx,s',hq,j9⟩
 |outgrown=>exact⟨bx,s',hq,j9⟩
def zb (P:Program) (c:Code) (Q:Exit→Act→World→Prop) (a:Act) (w:World):Prop:=
 ∀ (b:Frame) (k:List Item) (cs:List Frame),∃ e a' w',Q e a' w'∧Arrives P (lone (b.at a (.code c:: .inLoop c::k)) cs w) b k cs e a' w'
theorem zb.wp {c:Code} {Q:Exit→Act→World→Prop} {a:Act} {w:World} (h:zb P c Q a w):(Code.loop c).wp P Q a w:=fun b k cs=>
 let ⟨e,a',w',hq,ie⟩:=h b k cs
 ⟨e,a',w',hq, .of_steps (.one step_loop) ie⟩
theorem zb.once {c:Code} {Q:Exit→Act→World→Prop} {a:Act} {w:World} (h:c.wp P (Exit.then (zb P c Q) Q) a w):zb P c Q a w:=by
 intro b k cs
 obtain⟨e,a₁,w₁,hq,ie⟩:=h b (.inLoop c::k) cs
 cases e with
 |normal=>
  obtain⟨e₂,a₂,w₂,hq₂,Ni⟩:=hq b k cs
  exact⟨e₂,a₂,w₂,hq₂, .of_steps (Steps.trans ie (.one step_inLoop)) Ni⟩
 |exit id=>exact⟨_,a₁,w₁,hq, .pass (x:= .inLoop c) rfl (fun _ _=> .inl (by simp)) ie⟩
 |goto l=>exact⟨_,a₁,w₁,hq, .pass (x:= .inLoop c) rfl (fun _ _=> .inl (by simp)) ie⟩
 |ret=>exact⟨_,a₁,w₁,hq, .pass (x:= .inLoop c) rfl (fun _ _=> .inl (by simp)) ie⟩
 |panic ch=>exact⟨_,a₁,w₁,hq, .pass (x:= .inLoop c) rfl (fun _ _=> .inl (by simp)) ie⟩
 |outgrown=>exact⟨_,a₁,w₁,hq, .pass (x:= .inLoop c) rfl (fun _ _=> .inl (by simp)) ie⟩
def bt (P:Program) (B:fU) (nt:Nat) (ac:AC) (Q:Exit→Tm→St→Prop) (tm:Tm) (s:St):Prop:=
 ∀ c,cC P nt c=some ac→∀ act w,Holds B nt tm s act w→zb P c (pQ B nt Q) act w
theorem Sem.loop {a:AC} (h:bt P B nt a Q tm s):Sem P B nt (.loop a) Q tm s:=by
 intro c hc act w hh
 obtain⟨x,rfl,h1⟩:=lH hc
 exact(h x h1 act w hh).wp
theorem bt.once {a:AC} (h:Sem P B nt a (nR (bt P B nt a Q) Q) tm s):bt P B nt a Q tm s:=by
 intro c hc act w hh
 refine zb.once (wp_mono (h c hc act w hh) fun e act w hp=>?_)
 obtain⟨bx,s',hq,j9⟩:=hp
 cases e with
 |normal=>exact hq c hc act w j9
 |exit id=>exact⟨bx,s',hq,j9⟩
 |goto l=>exact⟨bx,s',hq,j9⟩
 |ret=>exact⟨bx,s',hq,j9⟩
 |panic ch=>exact⟨bx,s',hq,j9⟩
 |outgrown=>exact⟨bx,s',hq,j9⟩
def vl (P:Program) (c r:Code) (Q:Exit→Act→World→Prop) (a:Act) (w:World):Prop:=
 ∀ (b:Frame) (k:List Item) (cs:List Frame),∃ e a' w',Q e a' w'∧Arrives P (lone (b.at a (.code r:: .inScope c::k)) cs w) b k cs e a' w'
def afn (P:Program) (c:Code) (Q:Exit→Act→World→Prop):Exit→Act→World→Prop
 | .goto l,a,w=>∃ rest,findLabel c l=some rest∧vl P c rest Q a w
 |e,a,w=>Q e a w
theorem vl.wp {c:Code} {Q:Exit→Act→World→Prop} {a:Act} {w:World} (h:vl P c c Q a w):(Code.scope c).wp P Q a w:=fun b k cs=>
 let ⟨e,a',w',hq,ie⟩:=h b k cs
 ⟨e,a',w',hq, .of_steps (.one step_scope) ie⟩
theorem vl.once {c r:Code} {Q:Exit→Act→World→Prop} {a:Act} {w:World} (h:r.wp P (afn P c Q) a w):vl P c r Q a w:=by
 intro b k cs
 obtain⟨e,a₁,w₁,hq,ie⟩:=h b (.inScope c::k) cs
 cases e with
 |normal=>exact⟨.normal,a₁,w₁,hq,Steps.trans ie (.one step_inScope)⟩
 |exit id=>exact⟨.exit id,a₁,w₁,hq,fun k' hk=>ie k' (by simp[exitTo,hk])⟩
 |goto l=>
  obtain⟨rest,hf,hs⟩:=hq
  obtain⟨e₂,a₂,w₂,hq₂,Ni⟩:=hs b k cs
  exact⟨e₂,a₂,w₂,hq₂, .of_steps (ie _ (by simp[gotoIn,hf])) Ni⟩
 |ret=>exact⟨_,a₁,w₁,hq,ie⟩
 |panic ch=>exact⟨_,a₁,w₁,hq,ie⟩
 |outgrown=>exact⟨_,a₁,w₁,hq,ie⟩
def uN:AC→Nat→Option AC
 | .seq a b,l=>
  match uN a l with
  |some r=>some (.seq r b)
  |none=>uN b l
 | .label l',l=>if l'==l then some .skip else none
 |_,_=>none
theorem KS : ∀ {c:Code} {ac:AC},cC P nt c=some ac→∀ l,(uN ac l=none→findLabel c l=none)∧∀ r,uN ac l=some r→∃ rest,findLabel c l=some rest∧cC P nt rest=some r:=by
 intro c
 induction c with
 | seq a b QD QE=>
  intro ac h l
  simp only[cC]at h
  split at h
  ·rename_i a' b' h1 h2
   cases h
   obtain⟨n1,s1⟩:=QD h1 l
   obtain⟨n2,s2⟩:=QE h2 l
   simp only[uN,findLabel]
   cases hf:uN a' l with
   |none=>
    rw[n1 hf]
    exact⟨n2,s2⟩
   |some r=>
    obtain⟨rest,g1,g2⟩:=s1 r hf
    rw[g1]
    refine⟨(by intro h;cases h),fun r' h=>?_⟩
    cases h
    exact⟨_,rfl,by simp[cC,g2,h2]⟩
  ·cases h
 |label l'=>
  intro ac h l
  cases h
  simp only[uN,findLabel]
  split
  ·exact⟨(by intro h;cases h),(by intro r h;cases h;exact⟨_,rfl,rfl⟩)⟩
  ·exact⟨fun _=>rfl,(by intro r h;cases h)⟩
 | _=>
  intro ac h l
  have:=lH h
  cases ac<;>simp only[Turned]at this<;>first
   |(exfalso;obtain⟨_,_,this⟩:=this;cases this.1;done)
   |exact⟨fun _=>rfl,(by intro r h;cases h)⟩
   |(exfalso;cases this;done)
   |(exfalso;obtain⟨_,this⟩:=this;cases this.1;done)
   |(exfalso;obtain⟨_,_,_,_,this⟩:=this;cases this.1;done)
def lI (P:Program) (B:fU) (nt:Nat) (ac r:AC) (Q:Exit→Tm→St→Prop) (tm:Tm) (s:St):Prop:=
 ∀ c rest,cC P nt c=some ac→cC P nt rest=some r→∀ act w,Holds B nt tm s act w→vl P c rest (pQ B nt Q) act w
def zc (P:Program) (B:fU) (nt:Nat) (ac:AC) (Q:Exit→Tm→St→Prop):Exit→Tm→St→Prop
 | .goto l,tm,s=>∃ r,uN ac l=some r∧lI P B nt ac r Q tm s
 |e,tm,s=>Q e tm s
theorem Sem.scope {a:AC} (h:lI P B nt a a Q tm s):Sem P B nt (.scope a) Q tm s:=by
 intro c hc act w hh
 obtain⟨x,rfl,h1⟩:=lH hc
 exact(h x x h1 h1 act w hh).wp
theorem lI.once {a r:AC} (h:Sem P B nt r (zc P B nt a Q) tm s):lI P B nt a r Q tm s:=by
 intro c rest hc H2 act w hh
 refine vl.once (wp_mono (h rest H2 act w hh) fun e act w hp=>?_)
 obtain⟨bx,s',hq,j9⟩:=hp
 cases e with
 |normal=>exact⟨bx,s',hq,j9⟩
 |exit id=>exact⟨bx,s',hq,j9⟩
 |goto l=>
  obtain⟨r',hf,hs⟩:=hq
  obtain⟨B5,g1,g2⟩:=(KS hc l).2 r' hf
  exact⟨B5,g1,hs c B5 hc g2 act w j9⟩
 |ret=>exact⟨bx,s',hq,j9⟩
 |panic ch=>exact⟨bx,s',hq,j9⟩
 |outgrown=>exact⟨bx,s',hq,j9⟩
def Tag.fg (m:Nat):Tag→Tag
 | .tok t y=>if t<m then .tok t y else .shared
 |g=>g
mutual
def D.fg (n m:Nat):D→D
 | .ptr o off=>if o<n then .ptr o off else .junk
 | .dA row off=> .dA (D.gv n m row) off
 | .slice g z rows=> .slice (g.fg m) z (D.kv n m rows)
 | .agg cs=> .agg (D.gv n m cs)
 | .tuple ds=> .tuple (D.gv n m ds)
 | .junk=> .junk
 | .int k x=> .int k x
 | .bool b=> .bool b
 | .str l=> .str l
 | .dR=> .dR
 | .val v=> .val v
 | .fq T o=>if o<n then .fq T o else .junk
 | .gd f cs=> .gd f (D.gv n m cs)
 | .fP o=>if o<n then .fP o else .junk
 | .eB z o g len=>if o<n then .eB z o g len else .junk
 | .fu o g off=>if o<n then .fu o g off else .junk
 | .ew z=> .ew z
def D.gv (n m:Nat):List D→List D
 | []=> []
 |d::r=>D.fg n m d::D.gv n m r
def D.kv (n m:Nat):List (List D)→List (List D)
 | []=> []
 |d::r=>D.gv n m d::D.kv n m r
end
theorem nc (n m:Nat) : ∀ l,D.gv n m l=l.map (D.fg n m)
 | []=>by simp[D.gv]
 |d::r=>by simp[D.gv,nc n m r]
theorem QF (n m:Nat) : ∀ l,D.kv n m l=l.map (D.gv n m)
 | []=>by simp[D.kv]
 |d::r=>by simp[D.kv,QF n m r]
def St.cut (s:St) (n m:Nat):St:=⟨(s.ah.take n).map (D.gv n m),s.aw.take m⟩
def Tm.fg (n m:Nat) (tm:Tm):Tm:=tm.map fun p=>(p.1,p.2.fg n m)
def Tm.keep (ks:List Nat) (tm:Tm):Tm:=tm.filter fun p=>ks.contains p.1
theorem nS (s:St) (n m:Nat):(s.cut n m).ah.length=min n s.ah.length:=by simp[St.cut]
theorem iP.fg {M:Map} {g:Tag} {z len cap:Nat} {base:Option (Nat×Nat)} (n m:Nat) (h:iP M s g z len base cap):iP M (s.cut n m) (g.fg m) z len base cap:=by
 cases g with
 |full=>exact h
 |shared=>exact h
 | tok t y=>
  simp only[Tag.fg]
  split
  ·rename_i ht
   obtain⟨h1,h2⟩:=h
   refine⟨by simp[St.cut];omega,fun k hk=>h2 k ?_⟩
   simpa[St.cut,List.getElem?_take_of_lt ht]using hk
  ·trivial
theorem RD.fg {M:Map} {d:D} {v:Value} (n m:Nat) (h:RD M s d v):RD M (s.cut n m) (d.fg n m) v:=by
 induction h with
 |junk v=>simp only[D.fg];exact .junk v
 |int k x=>simp only[D.fg];exact .int k x
 |bool b=>simp only[D.fg];exact .bool b
 |str l=>simp only[D.fg];exact .str l
 |dR=>simp only[D.fg];exact .dR
 |val v hv=>simp only[D.fg];exact .val v hv
 |fq T o v h ht hv=>
  simp only[D.fg]
  split
  ·exact .fq T o v (by rw[nS];omega) ht hv
  ·exact .junk _
 |fP o h hm=>
  simp only[D.fg]
  split
  ·exact .fP o (by rw[nS];omega) hm
  ·exact .junk _
 |ew z a=>simp only[D.fg];exact .ew z a
 |eB z o g len b cap A h hm ha hl=>
  simp only[D.fg]
  split
  ·exact .eB z o g len b cap A (by rw[nS];omega) hm ha hl
  ·exact .junk _
 |fu z o g off b cap A h hm ha=>
  simp only[D.fg]
  split
  ·exact .fu z o g off b cap A (by rw[nS];omega) hm ha
  ·exact .junk _
 |gd f ds vs hl _ ih=>
  simp only[D.fg,nc]
  refine .gd f _ vs (by simpa using hl) (fun i d v e1 e2=>?_)
  simp only[List.getElem?_map,Option.map_eq_some_iff]at e1
  obtain⟨d',e1,rfl⟩:=e1
  exact ih i d' v e1 e2
 |ptr o off h hm=>
  simp only[D.fg]
  split
  ·exact .ptr o off (by rw[nS];omega) hm
  ·exact .junk _
 | dA row off b k h1 h2 ih=>
  simp only[D.fg,nc]
  refine .dA _ off b k (fun i d e=>?_) (fun i d u e eu=>?_)
  ·simp only [List.getElem?_map,Option.map_eq_some_iff]at e
   obtain⟨d',e,rfl⟩:=e
   exact h1 i d' e
  ·simp only [List.getElem?_map,Option.map_eq_some_iff]at e
   obtain⟨d',e,rfl⟩:=e
   exact ih i d' u e eu
 |iA g z cap hc ht=>simp only[D.fg,D.kv];exact .iA _ z cap hc (ht.fg n m)
 |lC z a cap=>simp only[D.fg,D.kv,Tag.fg];exact .lC z a cap
 | slice g z rows b k cap hl hs h1 h2 ht ih=>
  simp only[D.fg,QF]
  have hlen:(rows.map (D.gv n m)).length=rows.length:=by simp
  have key:=RD.slice (M:=M) (s:=s.cut n m) (g.fg m) z (rows.map (D.gv n m)) b k cap (by rw[hlen];exact hl) (fun row hr=>by
   obtain⟨ko,h',rfl⟩:=List.mem_map.1 hr
   rw[nc,List.length_map];exact hs ko h')
   (fun i row j d e1 e2=>by
    simp only[List.getElem?_map,Option.map_eq_some_iff]at e1
    obtain⟨ko,e1,rfl⟩:=e1
    rw[nc]at e2
    simp only[List.getElem?_map,Option.map_eq_some_iff]at e2
    obtain⟨d',e2,rfl⟩:=e2
    exact h1 i ko j d' e1 e2)
   (fun i row j d u e1 e2 eu=>by
    simp only[List.getElem?_map,Option.map_eq_some_iff]at e1
    obtain⟨ko,e1,rfl⟩:=e1
    rw[nc]at e2
    simp only[List.getElem?_map,Option.map_eq_some_iff]at e2
    obtain⟨d',e2,rfl⟩:=e2
    exact ih i ko j d' u e1 e2 eu)
   (by rw[hlen];exact ht.fg n m)
  rw[hlen]at key
  exact key
 |agg cells vs hl h1 _ ih=>
  simp only[D.fg,nc]
  refine .agg _ vs (by simpa using hl) h1 (fun i d v e1 e2=>?_)
  simp only[List.getElem?_map,Option.map_eq_some_iff]at e1
  obtain⟨d',e1,rfl⟩:=e1
  exact ih i d' v e1 e2
 |tuple ds vs hl _ ih=>
  simp only[D.fg,nc]
  refine .tuple _ vs (by simpa using hl) (fun i d v e1 e2=>?_)
  simp only[List.getElem?_map,Option.map_eq_some_iff]at e1
  obtain⟨d',e1,rfl⟩:=e1
  exact ih i d' v e1 e2
theorem FC {t k n m:Nat} (h:(s.cut n m).aw[t]? = some (some k)):s.aw[t]? = some (some k):=by
 simp only[St.cut,List.getElem?_take]at h
 split at h
 ·exact h
 ·cases h
theorem vm {t n m:Nat} (h:(s.cut n m).live t):s.live t:=by
 obtain⟨k,hk⟩:=h
 exact⟨k,FC hk⟩
theorem Rel.cut {M:Map} {w:World} (n m:Nat) (r:Rel M s w):Rel M (s.cut n m) w:=by
 have hD : ∀ o,o<(s.cut n m).ah.length→o<s.ah.length:=fun o h=>by rw[nS]at h;omega
 refine⟨r.comm,fun o ds e=>?_,fun o ho=>r.jL o (hD o ho),fun o o' h h'=>r.inj o o' (hD o h) (hD o' h'),fun t k e=>r.tok t k (FC e),
  fun t b c z o hl e ho=>r.fh t b c z o (vm hl) e (hD o ho),fun t t' b c z c' z' h h' e e'=>r.fQ t t' b c z c' z' (vm h) (vm h') e e'⟩
 simp only[St.cut,List.getElem?_map,Option.map_eq_some_iff,List.getElem?_take]at e
 obtain⟨nJ,e,rfl⟩:=e
 split at e
 ·obtain⟨vs,T,h1,h2,h3,h4⟩:=r.obj o nJ e
  refine⟨vs,T,h1,by rw[nc];simpa using h2,h3,fun i d v e1 e2=>?_⟩
  rw[nc]at e1
  simp only[List.getElem?_map,Option.map_eq_some_iff]at e1
  obtain⟨d',e1,rfl⟩:=e1
  exact(h4 i d' v e1 e2).fg n m
 ·cases e
theorem Ext.cut {M0 M:Map} {s0:St} {w0 w:World} {n m:Nat} (e:Ext M0 s0 w0 M s w) (hn:s0.ah.length≤n) (hm:s0.aw.length≤m):Ext M0 s0 w0 M (s.cut n m) w:=by
 have hD : ∀ o,o<(s.cut n m).ah.length→o<s.ah.length:=fun o h=>by rw[nS]at h;omega
 refine⟨⟨e.le.G,by rw[nS];have:=e.le.n;omega,e.le.loc,by simp[St.cut];have:=e.le.t;omega,fun t k h1 h2=>e.le.tk t k h1 (FC h2)⟩,e.kept,fun o h1 h2=>e.tH o h1 (hD o h2),fun t b c z h=>e.qo t b c z (vm h),e.sb,e.size,e.os,e.tape,e.output⟩
end
end Go.Abs
namespace Go.Abs
def mS:Nat→List D→Tm
 |_,[]=> []
 |n,d::r=>(n,d)::mS (n+1) r
def aV:List (Nat×Option (Bool×Nat))→Tm→St→Option (List D)
 | [],_,_=>some []
 |(t,none)::r,tm,s=>match aV r tm s with|some l=>some (tm.get t::l)|none=>none
 | (t,some (agg,size))::r,tm,s=>
  match tm.get t with
  | .ptr o off=>
   match s.ah[o]? with
   |some cs=>match part cs off agg size,aV r tm s with|some d,some l=>some (d::l)|_,_=>none
   |none=>none
  |_=>none
def aX:List D→D
 | [d]=>d
 |l=> .tuple l
def ajB (B:fU) (res:List (Nat×Option (Bool×Nat))) (Q:D→St→Prop):Exit→Tm→St→Prop
 | .normal,tm,s| .ret,tm,s=>∃ l,aV res tm s=some l∧∃ n m,B.s.ah.length≤n∧B.s.aw.length≤m∧Q ((aX l).fg n m) (s.cut n m)
 |_,_,_=>False
section
variable {P:Program} {M:Map} {s:St} {w:World}
theorem Gy : ∀ (l:List D) (n t:Nat),(mS n l).get t=if n≤t then(l[t - n]?).getD .junk else .junk
 | [],n,t=>by simp[mS,Tm.get]
 | d::r,n,t=>by
  simp only[mS,Tm.get,Gy r (n+1) t]
  by_cases h:n=t
  ·subst h;simp
  ·rw [if_neg h]
   by_cases h2:n+1≤t
   ·rw[if_pos h2,if_pos (by omega),show t - n=(t - (n+1))+1 by omega];simp
   ·rw[if_neg h2,if_neg (by omega)]
def Bg (tmps:Array Value):ResultVar→Go.Sem Value
 | .tmp t=>pure (tmps.getD t Go.undef)
 | .cell a t=>do loadVar t (← asAddr (tmps.getD a Go.undef))
theorem Dn (r:Rel M s w) {tm:Tm} {tmps:Array Value} (ht:l7 M s tm tmps) : ∀ {rs:List ResultVar} {res:List (Nat×Option (Bool×Nat))} {l:List D},De P rs=some res→aV res tm s=some l→
 ∃ vs:List Value,(rs.mapM (Bg tmps)).run P w = .ok vs w∧vs.length=l.length∧
  ∀ (i:Nat) (d:D) (v:Value),l[i]? = some d→vs[i]? = some v→RD M s d v
 | [],res,l,hc,hl=>by cases hc;cases hl;exact⟨[],rfl,rfl,by simp⟩
 | .tmp t::rs,res,l,hc,hl=>by
  obtain⟨ajC,h1,rfl⟩:=map_some (by simpa[De]using hc)
  simp only[aV]at hl
  split at hl
  ·rename_i l' l8
   cases hl
   obtain⟨vs,g1,g2,g3⟩:=Dn r ht h1 l8
   refine⟨tmps.getD t Go.undef::vs, ?_,by simp[g2],fun i d v e1 e2=>?_⟩
   ·rw [List.mapM_cons]
    simp only[Bg,Go.Sem.run_bind,Go.Sem.run_pure,Result.andThen_ok,g1]
   ·cases i with
    |zero=>simp only[List.getElem?_cons_zero,Option.some.injEq]at e1 e2;subst e1;subst e2;exact ht t
    |succ i=>exact g3 i d v (by simpa using e1) (by simpa using e2)
  ·cases hl
 | .cell a t::rs,res,l,hc,hl=>by
  simp only[De]at hc
  split at hc
  ·rename_i g i ajC h1 h2 h3
   cases hc
   simp only[aV]at hl
   split at hl
   ·rename_i o off ho
    split at hl
    ·rename_i cs lb
     split at hl
     ·rename_i d l' hd l8
      cases hl
      obtain⟨vs,g1,g2,g3⟩:=Dn r ht h3 l8
      have hv:=ht a
      rw[ho]at hv
      have hk:=hv.AZ
      obtain⟨hv,_⟩:=hv.sg
      have afo : ∃ v,(loadVar t ⟨M.mu o,off,none⟩).run P w = .ok v w∧RD M s d v:=by
       obtain⟨fF,T,hh,dO,⟨gZ,_⟩,Dk⟩:=r.obj o cs lb
       replace hh:w.heap[M.mu o]? = some (.cells fF T (0,0)):=hh.cells hk
       let n:=if g then i.size else 1
       have jo:off+n≤fF.size:=by
        rcases qG hd with ⟨rfl,hq,_⟩|⟨rfl,hq⟩
        ·simp[n];omega
        ·have:=(List.getElem?_eq_some_iff.1 hq).1;simp[n];omega
       have hlen:((fF.toList.drop off).take n).length=n:=by simp;omega
       have hY : ∀ (j:Nat) (u:Value),((fF.toList.drop off).take n)[j]? = some u→fF[off+j]? = some u:=by
        intro j u h
        rw[List.getElem?_take]at h
        split at h
        ·rw[List.getElem?_drop]at h;simpa using h
        ·cases h
       refine⟨_,yT (w:=w) P h2 h1 (M.mu o) off ((fF.toList.drop off).take n) hlen (fun j u h=>by rw[jh hh];exact hY j u h), ?_⟩
       exact qX hd _ hlen (fun _ u hu=>gZ u (Array.mem_toList_iff.1 (List.mem_of_mem_drop (List.mem_of_mem_take hu)))) (fun j d u e1 e2=>Dk _ d u e1 (hY j u e2))
      obtain⟨v,hlv,hvd⟩:=afo
      refine⟨v::vs, ?_,by simp[g2],fun i d' v' e1 e2=>?_⟩
      ·rw [List.mapM_cons]
       have gZ:(Bg tmps (.cell a t)).run P w = .ok v w:=by
        simp only[Bg,Go.Sem.run_bind,hv,asAddr,Go.Sem.run_pure,Result.andThen_ok,hlv]
       simp only[Go.Sem.run_bind,gZ,Result.andThen_ok,g1,Go.Sem.run_pure]
      ·cases i with
       |zero=>simp only[List.getElem?_cons_zero,Option.some.injEq]at e1 e2;subst e1;subst e2;exact hvd
       |succ i=>exact g3 i d' v' (by simpa using e1) (by simpa using e2)
     ·cases hl
    ·cases hl
   ·cases hl
  ·cases hc
theorem HE (r:Rel M s w) {tm:Tm} {tmps:Array Value} (ht:l7 M s tm tmps) {fn:Func} {res:List (Nat×Option (Bool×Nat))} {l:List D} (hc:De P fn.results.toList=some res) (hl:aV res tm s=some l) :
 ∃ v,(results fn tmps).run P w = .ok v w∧RD M s (aX l) v:=by
 obtain⟨vs,g1,g2,g3⟩:=Dn (P:=P) r ht hc hl
 have dH:(results fn tmps).run P w = .ok (if h:vs.toArray.size=1 then vs.toArray[0]else .tuple vs.toArray) w:=by
  have e:results fn tmps=(do let vs ← fn.results.mapM (Bg tmps);pure (if h:vs.size=1 then vs[0]else .tuple vs)):=by
   unfold results
   rfl
  rw[e,Array.mapM_eq_mapM_toList]
  simp only[Go.Sem.run_bind,Go.Sem.run_map,g1,Result.andThen_ok,Go.Sem.run_pure]
 refine⟨_,dH, ?_⟩
 clear dH g1 hl
 match l,vs,g2,g3 with
 | [],[],_,_=>exact .tuple [] #[] rfl (by simp)
 | [d],[v],_,g3=>exact g3 0 d v rfl rfl
 |d::d'::l,v::v'::vs,h,g3=>
  have : ¬ ((v::v'::vs).toArray.size=1):=by simp
  rw[dif_neg this]
  exact .tuple _ _ (by simpa using h.symm) (fun i d v e1 e2=>g3 i d v e1 (by simpa using e2))
def TI (res:List (Nat×Option (Bool×Nat))) (Q:D→St→Prop):Exit→Tm→St→Prop
 | .normal,tm,s| .ret,tm,s=>∃ l,aV res tm s=some l∧Q (aX l) s
 |_,_,_=>False
theorem bM.QH {f:FuncId} {fn:Func} {af:AF} {args:List D} {Q:D→St→Prop} (hf:P.funcs[f]? = some fn) (hc:cF P fn=some af) (hl:args.length≤af.ntmps)
 (h : ∀ B:fU,B.s=s→Sem P B af.ntmps af.body (TI af.results Q) (mS 0 args) s):bM P f args s Q:=by
 intro M w fJ r kx dO ha
 unfold cF at hc
 split at hc
 ·rename_i c B6
  split at hc
  ·rename_i b res h1 h2
   cases hc
   simp only at h hl
   refine calls_of_wp hf B6 ?_
   have hs:=h ⟨M,s,w,kx,fun b o v e=>r.AY e⟩ rfl c h1 {tmps:=fJ++Array.replicate (fn.ntmps - fJ.size) Go.undef,defers:= []} w
    ⟨M,Ext.refl M s w,r,fun t=>by
     rw[Gy]
     simp only[Nat.zero_le,if_true,Nat.sub_zero]
     cases hd:args[t]? with
     |none=>exact .junk _
     | some d=>
      have hD:=(List.getElem?_eq_some_iff.1 hd).1
      have hv:fJ[t]? = some fJ[t]:=Array.getElem?_eq_getElem (by omega)
      have:(fJ++Array.replicate (fn.ntmps - fJ.size) Go.undef).getD t Go.undef=fJ[t]:=by
       rw[Array.getD_eq_getD_getElem?,Array.getElem?_append_left (by omega),hv];rfl
      rw[this]
      exact ha t d _ hd hv,by simp;omega,rfl⟩
   refine wp_mono hs fun e act w' hp=>?_
   obtain⟨tm,s',hq,M',ajD,r',ht,_,hdf⟩:=hp
   have fin:(∃ l,aV res tm s'=some l∧Q (aX l) s')→act.defers = []∧∃ v,(results fn act.tmps).run P w' = .ok v w'∧
    ∃ M' d v' s',Ending.returned v = .returned v'∧Q d s'∧Ext M s w M' s' w'∧Rel M' s' w'∧RD M' s' d v':=by
    rintro⟨l,hl,hQ⟩
    obtain⟨v,dH,ib⟩:=HE (P:=P) r' ht h2 hl
    exact⟨hdf,v,dH,M',_,v,_,rfl,hQ,ajD,r',ib⟩
   cases e with
   |normal=>exact fin hq
   |ret=>exact fin hq
   |exit id=>exact hq.elim
   |goto l=>exact hq.elim
   |panic ch=>exact hq.elim
   |outgrown=>exact hq.elim
  ·cases hc
 ·cases hc
theorem bM.intro {f:FuncId} {fn:Func} {af:AF} {args:List D} {Q:D→St→Prop} (hf:P.funcs[f]? = some fn) (hc:cF P fn=some af) (hl:args.length≤af.ntmps)
 (h : ∀ B:fU,B.s=s→Sem P B af.ntmps af.body (ajB B af.results Q) (mS 0 args) s):bM P f args s Q:=by
 intro M w fJ r kx dO ha
 refine(bM.QH (Q:=fun d s'=>∃ n m,s.ah.length≤n∧s.aw.length≤m∧Q (d.fg n m) (s'.cut n m)) hf hc hl (fun B hB=>(h B hB).mono fun e tm s' hq=>?_) M w fJ r kx dO ha).mono ?_
 ·subst hB
  cases e<;>exact hq
 ·rintro e w' ⟨M',d,v,s',h1,⟨n,m,hn,hm,hQ⟩,h3,h4,h5⟩
  exact⟨M',_,v,_,h1,hQ,h3.cut hn hm,h4.cut n m,h5.fg n m⟩
end
end Go.Abs
