/-
  What is proved here: part 0 of the road to the claim (Globs, Abs, Lang, Rel, Sound, Sound2, Sound3, Sound4, Sound5, Sound6, Sound7, SoundM, RelA, SoundA, Sound8, Code, Flow, Call).
  No conditions.
-/
import GoSem.Core.Value
import Derived.Orders
import Derived.Calls
import Derived.Below
import Derived.Laws.AppendOwn
import Derived.Deep.AppendSrc
import Derived.Laws.StructEq
import Derived.Laws.Slices
import Derived.Laws.Strings
import Derived.Laws.IdiomStrings
import Derived.Laws.BytesString
import Derived.MapKept
import Derived.Laws.MakeOwn
import Derived.Scope

set_option linter.unusedSimpArgs false
set_option linter.unusedVariables false
namespace Go.Abs
def afI:Nat→Option (Array Value):=fun _=>none
def q7:TypeId:=1000000
inductive Tag where
 |full
 |shared
 |tok (t:Nat) (byte:Bool:=false) -- 'byte': its row's block bears the bytes' type
inductive D where
 |junk
 |int (k:IntKind) (n:Int)
 |bool (b:Bool)
 |str (s:List UInt8)
 |eY
 |ptr (o off:Nat)
 |dN (row:List D) (off:Nat)
 |slice (g:Tag) (size:Nat) (rows:List (List D))
 |agg (cells:List D)
 |tuple (vs:List D)
 |val (v:Value)
 |gb (T:TypeId) (o:Nat)
 |ix (f:Nat) (pC:List D) -- a function value with what it captured
 |gW (o:Nat) -- a map, kept as an object: keys and values by turns
 |dH (z o g len:Nat) -- a slice from an array's beginning: the object, its generation
 |gd (o g off:Nat) -- a pointer into an array
 |fk (z:Nat) -- an empty slice without room: what is laid behind it becomes an array
instance:Inhabited D:=⟨.junk⟩
inductive Ob where
 |any
 |ty (T:TypeId)
 |map
 |arr (z:Nat) (A:Nat→Option (Nat×Nat))
def Ob.plain:Ob→Prop
 | .any=>True
 | .ty _=>True
 |_=>False
inductive wU:Nat×Ob→Nat×Ob→Prop where
 |refl (x:Nat×Ob):wU x x
 |arr (b b' z:Nat) (A A':Nat→Option (Nat×Nat)) (h : ∀ g x,A g=some x→A' g=some x):wU (b, .arr z A) (b', .arr z A')
theorem wU.trans {x y z:Nat×Ob} (h:wU x y) (k:wU y z):wU x z:=by
 cases h with
 |refl=>exact k
 |arr b b' z A A' h=>
  cases k with
  |refl=>exact .arr b b' z A A' h
  |arr _ b'' _ _ A'' h'=>exact .arr b b'' z A A'' fun g x e=>h' g x (h g x e)
structure Map where
 G:Nat→Nat→Option Value
 loc:Nat→Nat×Ob
 be:Nat→Option (Nat×Nat×Nat)
def Map.mu (M:Map) (o:Nat):Nat:=(M.loc o).1
def Ob.ty? : Ob→Option TypeId
 | .ty T=>some T
 |_=>none
def Map.ob (M:Map) (o:Nat):Ob:=(M.loc o).2
def Map.ty (M:Map) (o:Nat):Option TypeId:=(M.loc o).2.ty?
structure St where
 aj:List (List D)
 az:List (Option Nat)
def zs (z:Nat):Nat:=if z=0 then 1 else z
def bz (byte:Bool) (size:Nat):Nat:=match byte with|true=>0|false=>size
def jL (M:Map) (s:St) (g:Tag) (size len:Nat) (base:Option (Nat×Nat)) (cap:Nat):Prop:=
 match g with
 | .full=>cap=len
 | .shared=>True
 | .tok t y=>t<s.az.length∧∀ n,s.az[t]? = some (some n)→len≤n∧
  (len=n→(M.be t=none∧cap=0∧(y=true→base=none))∨∃ b,base=some (b,0)∧M.be t=some (b,cap,bz y size))
inductive RD (M:Map) (s:St):D→Value→Prop where
 |junk (v:Value):RD M s .junk v
 |int (k:IntKind) (n:Int):RD M s (.int k n) (.int k n)
 |bool (b:Bool):RD M s (.bool b) (.bool b)
 |str (l:List UInt8):RD M s (.str l) (.string ⟨⟨l⟩⟩)
 |eY:RD M s .eY (.pointer none)
 |ptr (o off:Nat) (h:o<s.aj.length) (hm:(M.ob o).plain):RD M s (.ptr o off) (.pointer (some ⟨M.mu o,off,none⟩))
 |dN (row:List D) (off b k:Nat) (h1 : ∀ (i:Nat) (d:D),row[i]? = some d→∃ u,M.G b (k+i)=some u)
  (h2 : ∀ (i:Nat) (d:D) (u:Value),row[i]? = some d→M.G b (k+i)=some u→RD M s d u) :
  RD M s (.dN row off) (.pointer (some ⟨b,k+off,none⟩))
 |jH (g:Tag) (size cap:Nat) (hc:cap=0) (ht:jL M s g size 0 none cap):RD M s (.slice g size []) (.slice none 0 cap)
 |mX (size:Nat) (a:Addr) (cap:Nat):RD M s (.slice .shared size []) (.slice (some a) 0 cap)
 |slice (g:Tag) (size:Nat) (rows:List (List D)) (b k cap:Nat) (hl:rows.length≤cap)
  (hs : ∀ row∈rows,row.length=size)
  (h1 : ∀ (i:Nat) (row:List D) (j:Nat) (d:D),rows[i]? = some row→row[j]? = some d→∃ u,M.G b (k+(i*size+j))=some u)
  (h2 : ∀ (i:Nat) (row:List D) (j:Nat) (d:D) (u:Value),rows[i]? = some row→row[j]? = some d→M.G b (k+(i*size+j))=some u→RD M s d u)
  (ht:jL M s g size rows.length (some (b,k)) cap) :
  RD M s (.slice g size rows) (.slice (some ⟨b,k,none⟩) rows.length cap)
 |agg (cells:List D) (vs:Array Value) (hl:cells.length=vs.size) (h1 : ∀ v∈vs,v.oneCell'=true)
  (h : ∀ (i:Nat) (d:D) (v:Value),cells[i]? = some d→vs[i]? = some v→RD M s d v):RD M s (.agg cells) (.agg vs)
 |tuple (ds:List D) (vs:Array Value) (hl:ds.length=vs.size)
  (h : ∀ (i:Nat) (d:D) (v:Value),ds[i]? = some d→vs[i]? = some v→RD M s d v):RD M s (.tuple ds) (.tuple vs)
 |val (v:Value) (h:v.oneCell'=true):RD M s (.val v) v
 |gb (T:TypeId) (o:Nat) (v:Value) (h:o<s.aj.length) (ht:M.ty o=some T) (hv:v = .pointer none∨v = .pointer (some ⟨M.mu o,0,none⟩)):RD M s (.gb T o) v
 |ix (f:Nat) (ds:List D) (vs:Array Value) (hl:ds.length=vs.size)
  (h : ∀ (i:Nat) (d:D) (v:Value),ds[i]? = some d→vs[i]? = some v→RD M s d v):RD M s (.ix f ds) (.func (.func f) #[] vs)
 |gW (o:Nat) (h:o<s.aj.length) (hm:M.ob o = .map):RD M s (.gW o) (.map (some (M.mu o)))
 |dH (z o g len b cap:Nat) (A:Nat→Option (Nat×Nat)) (h:o<s.aj.length) (hm:M.ob o = .arr z A) (ha:A g=some (b,cap)) (hl:len≤cap):RD M s (.dH z o g len) (.slice (some ⟨b,0,none⟩) len cap)
 |gd (z o g off b cap:Nat) (A:Nat→Option (Nat×Nat)) (h:o<s.aj.length) (hm:M.ob o = .arr z A) (ha:A g=some (b,cap)):RD M s (.gd o g off) (.pointer (some ⟨b,off,none⟩))
 |fk (z:Nat) (a:Option Addr):RD M s (.fk z) (.slice a 0 0)
structure Le (M:Map) (s:St) (M':Map) (s':St):Prop where
 G : ∀ b o v,M.G b o=some v→M'.G b o=some v
 n:s.aj.length≤s'.aj.length
 loc : ∀ o,o<s.aj.length→wU (M.loc o) (M'.loc o)
 t:s.az.length≤s'.az.length
 tk : ∀ t n',t<s.az.length→s'.az[t]? = some (some n')→∃ n,s.az[t]? = some (some n)∧n≤n'∧(n'=n→M'.be t=M.be t)
theorem Le.same {M:Map} {s:St} {M':Map} {s':St} (h:Le M s M' s') {o:Nat} (ho:o<s.aj.length) (hk : ∀ z A,M.ob o≠ .arr z A):M'.loc o=M.loc o:=by
 have:=h.loc o ho
 have wG : ∀ z A,(M.loc o).2≠ .arr z A:=hk
 generalize M.loc o=x at *
 generalize M'.loc o=y at *
 cases this with
 |refl=>rfl
 |arr b b' z A A' h=>exact(wG z A rfl).elim
theorem Ob.JO {x:Ob} (h:x.plain) : ∀ z A,x≠ .arr z A:=fun z A e=>by subst e;exact h
theorem Le.mu {M:Map} {s:St} {M':Map} {s':St} (h:Le M s M' s') {o:Nat} (ho:o<s.aj.length) (hk : ∀ z A,M.ob o≠ .arr z A):M'.mu o=M.mu o:=congrArg Prod.fst (h.same ho hk)
theorem Le.ob {M:Map} {s:St} {M':Map} {s':St} (h:Le M s M' s') {o:Nat} (ho:o<s.aj.length) (hk : ∀ z A,M.ob o≠ .arr z A):M'.ob o=M.ob o:=congrArg Prod.snd (h.same ho hk)
theorem wU.ty {x y:Nat×Ob} (h:wU x y):y.2.ty? = x.2.ty? :=by cases h<;>rfl
theorem Le.ty {M:Map} {s:St} {M':Map} {s':St} (h:Le M s M' s') : ∀ o,o<s.aj.length→M'.ty o=M.ty o:=fun o ho=>(h.loc o ho).ty
theorem Le.arr {M:Map} {s:St} {M':Map} {s':St} (h:Le M s M' s') {o z:Nat} {A:Nat→Option (Nat×Nat)} (ho:o<s.aj.length) (hm:M.ob o = .arr z A) : ∃ A',M'.ob o = .arr z A'∧∀ g x,A g=some x→A' g=some x:=by
 have:=h.loc o ho
 have xm:(M.loc o).2 = .arr z A:=hm
 show ∃ A',(M'.loc o).2=_∧_
 generalize M.loc o=x at *
 generalize M'.loc o=y at *
 cases this with
 |refl=>exact⟨A,xm,fun _ _ h=>h⟩
 |arr b b' z A A' h=>cases xm;exact⟨A',rfl,h⟩
theorem Le.refl (M:Map) (s:St):Le M s M s:=⟨fun _ _ _ h=>h,Nat.le_refl _,fun _ _=> .refl _,Nat.le_refl _,fun _ n _ h=>⟨n,h,Nat.le_refl _,fun _=>rfl⟩⟩
theorem Le.trans {M M' PV:Map} {s s' UO:St} (h:Le M s M' s') (k:Le M' s' PV UO):Le M s PV UO:=
 ⟨fun b o v e=>k.G b o v (h.G b o v e),Nat.le_trans h.n k.n,fun o ho=>(h.loc o ho).trans (k.loc o (Nat.lt_of_lt_of_le ho h.n)),Nat.le_trans h.t k.t,
  fun t n'' ht e=>by
   obtain⟨n',e',l,b⟩:=k.tk t n'' (Nat.lt_of_lt_of_le ht h.t) e
   obtain⟨n,PW,l',b'⟩:=h.tk t n' ht e'
   refine⟨n,PW,Nat.le_trans l' l,fun eq=>?_⟩
   have h1:n'=n:=by omega
   have h2:n''=n':=by omega
   rw[b h2,b' h1]⟩
theorem jL.mono {M M':Map} {s s':St} (h:Le M s M' s') {g:Tag} {size len cap:Nat} {base:Option (Nat×Nat)} (ht:jL M s g size len base cap) :
 jL M' s' g size len base cap:=by
 cases g with
 |full=>exact ht
 |shared=>trivial
 |tok t y=>
  obtain⟨hD,ht⟩:=ht
  refine⟨Nat.lt_of_lt_of_le hD h.t,fun n' e'=>?_⟩
  obtain⟨n,e,l,b⟩:=h.tk t n' hD e'
  obtain⟨l',b'⟩:=ht n e
  refine⟨Nat.le_trans l' l,fun eq=>?_⟩
  have h1:n'=n:=by omega
  have h2:len=n:=by omega
  rw[b h1]
  exact b' h2
theorem RD.mono {M M':Map} {s s':St} (h:Le M s M' s') {d:D} {v:Value} (r:RD M s d v):RD M' s' d v:=by
 induction r with
 |junk v=>exact .junk v
 |int k n=>exact .int k n
 |bool b=>exact .bool b
 |str l=>exact .str l
 |eY=>exact .eY
 |ptr o off ho hm=>rw[← h.mu ho (Ob.JO hm)];exact .ptr o off (Nat.lt_of_lt_of_le ho h.n) (by rw[h.ob ho (Ob.JO hm)];exact hm)
 | dN row off b k h1 h2 ih=>
  refine .dN row off b k (fun i d e=>?_) (fun i d u e eu=>?_)
  ·obtain⟨u,hu⟩:=h1 i d e;exact⟨u,h.G _ _ _ hu⟩
  ·obtain⟨u',hu⟩:=h1 i d e
   have:=h.G _ _ _ hu
   rw[eu]at this
   cases this
   exact ih i d u e hu
 |jH g size cap hc ht=>exact .jH g size cap hc (ht.mono h)
 |mX size a cap=>exact .mX size a cap
 | slice g size rows b k cap hl hs h1 h2 ht ih=>
  refine .slice g size rows b k cap hl hs (fun i row j d e e2=>?_) (fun i row j d u e e2 eu=>?_) (ht.mono h)
  ·obtain⟨u,hu⟩:=h1 i row j d e e2;exact⟨u,h.G _ _ _ hu⟩
  ·obtain⟨u',hu⟩:=h1 i row j d e e2
   have:=h.G _ _ _ hu
   rw[eu]at this
   cases this
   exact ih i row j d u e e2 hu
 |agg cells vs hl h1 _ ih=>exact .agg cells vs hl h1 ih
 |tuple ds vs hl _ ih=>exact .tuple ds vs hl ih
 |val v hv=>exact .val v hv
 |gb T o v ho ht hv=>exact .gb T o v (Nat.lt_of_lt_of_le ho h.n) (by rw[h.ty o ho];exact ht) (by rw[h.mu ho (fun z A e=>by rw[Map.ty,show(M.loc o).2=_ from e]at ht;cases ht)];exact hv)
 |ix f ds vs hl _ ih=>exact .ix f ds vs hl ih
 |gW o ho hm=>
  have hk : ∀ z A,M.ob o≠ .arr z A:=fun z A e=>by rw[hm]at e;cases e
  rw[← h.mu ho hk];exact .gW o (Nat.lt_of_lt_of_le ho h.n) (by rw[h.ob ho hk];exact hm)
 |dH z o g len b cap A ho hm ha hl=>
  obtain⟨A',h1,h2⟩:=h.arr ho hm
  exact .dH z o g len b cap A' (Nat.lt_of_lt_of_le ho h.n) h1 (h2 g _ ha) hl
 |gd z o g off b cap A ho hm ha=>
  obtain⟨A',h1,h2⟩:=h.arr ho hm
  exact .gd z o g off b cap A' (Nat.lt_of_lt_of_le ho h.n) h1 (h2 g _ ha)
 |fk z a=>exact .fk z a
def St.live (s:St) (t:Nat):Prop:=∃ n,s.az[t]? = some (some n)
def iS:List MapEntry→List Value
 | []=> []
 |e::l=>e.key::e.val::iS l
def jx (hp:Array Obj) (l:Nat×Ob) (vs:Array Value) (T:TypeId):Prop:=
 match l.2 with
 | .map=>∃ es ck,hp[l.1]? = some (.map es ck)∧vs.toList=iS es.toList
 | .arr z A=>∃ (us:Array Value) (g n cap:Nat),hp[l.1]? = some (.cells us T (0,0))∧A g=some (l.1,cap)∧(∀ g',g<g'→A g'=none)∧us.size=cap*z∧n≤us.size∧
  vs.toList = .int .i64 g::us.toList.take n∧∀ u∈us,u.oneCell'=true
 |_=>hp[l.1]? = some (.cells vs T (0,0))
theorem jx.cells {hp:Array Obj} {l:Nat×Ob} {vs:Array Value} {T:TypeId} (h:jx hp l vs T) (hk:l.2.plain):hp[l.1]? = some (.cells vs T (0,0)):=by
 obtain⟨b,k⟩:=l
 cases k with
 |map=>exact hk.elim
 |arr _ _=>exact hk.elim
 |any=>exact h
 |ty _=>exact h
theorem jx.of {hp:Array Obj} {l:Nat×Ob} {vs:Array Value} {T:TypeId} (h:hp[l.1]? = some (.cells vs T (0,0))) (hk:l.2.plain):jx hp l vs T:=by
 obtain⟨b,k⟩:=l
 cases k with
 |map=>exact hk.elim
 |arr _ _=>exact hk.elim
 |any=>exact h
 |ty _=>exact h
theorem jx.Ra {hp:Array Obj} {l:Nat×Ob} {vs:Array Value} {T:TypeId} (h:jx hp l vs T) (hk:l.2 = .map) : ∃ es ck,hp[l.1]? = some (.map es ck)∧vs.toList=iS es.toList:=by
 unfold jx at h
 rw[hk]at h
 exact h
theorem jx.ofMap {hp:Array Obj} {l:Nat×Ob} {vs:Array Value} {T:TypeId} (hk:l.2 = .map) (h : ∃ es ck,hp[l.1]? = some (.map es ck)∧vs.toList=iS es.toList):jx hp l vs T:=by
 unfold jx
 rw[hk]
 exact h
theorem jx.some {hp:Array Obj} {l:Nat×Ob} {vs:Array Value} {T:TypeId} (h:jx hp l vs T) : ∃ o,hp[l.1]? = some o:=by
 obtain⟨b,k⟩:=l
 cases k with
 |map=>obtain⟨es,ck,h,_⟩:=h;exact⟨_,h⟩
 |arr _ _=>obtain⟨us,g,n,cap,h,_⟩:=h;exact⟨_,h⟩
 |any=>exact⟨_,h⟩
 |ty _=>exact⟨_,h⟩
theorem jx.lt {hp:Array Obj} {l:Nat×Ob} {vs:Array Value} {T:TypeId} (h:jx hp l vs T):l.1<hp.size:=by
 obtain⟨o,h⟩:=h.some
 exact(Array.getElem?_eq_some_iff.1 h).1
theorem jx.keep {hp oA:Array Obj} {l:Nat×Ob} {vs:Array Value} {T:TypeId} (h:jx hp l vs T) (e:oA[l.1]? = hp[l.1]?):jx oA l vs T:=by
 unfold jx at h ⊢
 rw[e];exact h
structure Rel (M:Map) (s:St) (w:World):Prop where
 comm : ∀ b o v,M.G b o=some v→w.cell? ⟨b,o,none⟩=some v∧v.oneCell'=true
 obj : ∀ (o:Nat) (ds:List D),s.aj[o]? = some ds→∃ (vs:Array Value) (T:TypeId),jx w.heap (M.loc o) vs T∧vs.size=ds.length∧
  ((∀ v∈vs,v.oneCell'=true)∧∀ T',M.ty o=some T'→T'=T)∧∀ (i:Nat) (d:D) (v:Value),ds[i]? = some d→vs[i]? = some v→RD M s d v
 km : ∀ o,o<s.aj.length→∀ off,M.G (M.mu o) off=none
 inj : ∀ o o',o<s.aj.length→o'<s.aj.length→M.mu o=M.mu o'→o=o'
 tok : ∀ t n,s.az[t]? = some (some n)→(M.be t=none∧n=0)∨∃ (b cap z:Nat) (vs:Array Value) (T:TypeId),M.be t=some (b,cap,z)∧
  w.heap[b]? = some (.cells vs T (0,0))∧vs.size=cap*zs z∧n≤cap∧(∀ off,n*zs z≤off→M.G b off=none)∧(z=0→T=q7)
 fM : ∀ t b c z o,s.live t→M.be t=some (b,c,z)→o<s.aj.length→M.mu o≠b
 gQ : ∀ t t' b c z c' z',s.live t→s.live t'→M.be t=some (b,c,z)→M.be t'=some (b,c',z')→t=t'
structure Ext (M:Map) (s:St) (w:World) (M':Map) (s':St) (w':World):Prop where
 le:Le M s M' s'
 kept : ∀ b,b<w.heap.size→(∀ o,o<s.aj.length→M.mu o≠b)→(∀ t c z,s.live t→M.be t≠some (b,c,z))→w'.heap[b]? = w.heap[b]?
 sn : ∀ o,(s.aj.length≤o∨M'.mu o≠M.mu o)→o<s'.aj.length→w.heap.size≤M'.mu o
 rD : ∀ t b c z,s'.live t→M'.be t=some (b,c,z)→(s.live t∧∃ c' z',M.be t=some (b,c',z'))∨w.heap.size≤b
 sq : ∀ b o,M'.G b o≠M.G b o→w.heap.size≤b∨∃ t c z,s.live t∧M.be t=some (b,c,z)
 size:w.heap.size≤w'.heap.size
 os:w'.os=w.os
 tape:w'.tape=w.tape
 output:w'.output=w.output
theorem Ext.refl (M:Map) (s:St) (w:World):Ext M s w M s w:=
 ⟨Le.refl M s,fun _ _ _ _=>rfl,fun o h h'=>by rcases h with h|h;omega;exact(h rfl).elim,fun t b c z h e=> .inl ⟨h,c,z,e⟩,fun _ _ h=>(h rfl).elim,Nat.le_refl _,rfl,rfl,rfl⟩
theorem Ext.mo {M M':Map} {s s':St} {w w':World} (h:Ext M s w M' s' w') {o:Nat} (ho:o<s'.aj.length):(o<s.aj.length∧M'.mu o=M.mu o)∨w.heap.size≤M'.mu o:=by
 by_cases h1:s.aj.length≤o
 ·exact .inr (h.sn o (.inl h1) ho)
 ·by_cases h2:M'.mu o=M.mu o
  ·exact .inl ⟨by omega,h2⟩
  ·exact .inr (h.sn o (.inr h2) ho)
theorem Ext.trans {M M' PV:Map} {s s' UO:St} {w w' w'':World} (h:Ext M s w M' s' w') (k:Ext M' s' w' PV UO w''):Ext M s w PV UO w'':=by
 refine⟨h.le.trans k.le,fun b hb ho ht=>?_,fun o h1 h2=>?_,fun t b c z h1 e=>?_,fun b o fu=>?_,Nat.le_trans h.size k.size,
  k.os.trans h.os,k.tape.trans h.tape,k.output.trans h.output⟩
 ·rw [k.kept b (Nat.lt_of_lt_of_le hb h.size) (fun o hD e=> ?_) (fun t c z hD e=> ?_),h.kept b hb ho ht]
  ·rcases h.mo hD with ⟨h1,h2⟩ | h1
   ·exact ho o h1 (h2.symm.trans e)
   ·omega
  ·rcases h.rD t b c z hD e with ⟨h1,c',z',e'⟩ | h1
   ·exact ht t c' z' h1 e'
   ·omega
 ·rcases k.mo h2 with ⟨h3,h4⟩ | h3
  ·rw [h4]
   refine h.sn o ?_ h3
   rcases h1 with h1|h1
   ·exact .inl h1
   ·exact .inr (by rw[h4]at h1;exact h1)
  ·exact Nat.le_trans h.size h3
 ·rcases k.rD t b c z h1 e with ⟨h2,c',z',e'⟩ | h2
  ·exact h.rD t b c' z' h2 e'
  ·exact .inr (Nat.le_trans h.size h2)
 ·by_cases e:M'.G b o=M.G b o
  ·have:PV.G b o≠M'.G b o:=fun e'=>fu (e'.trans e)
   rcases k.sq b o this with h1|⟨t,c,z,h1,h2⟩
   ·exact .inl (Nat.le_trans h.size h1)
   ·rcases h.rD t b c z h1 h2 with ⟨h3,c',z',e'⟩ | h3
    ·exact .inr ⟨t,c',z',h3,e'⟩
    ·exact .inl h3
  ·exact h.sq b o e
def Laid (M:Map) (s:St) (w:World):Prop:=∀ g cs,afI g=some cs→
 (∃ T fr,w.heap[g]? = some (.cells cs T fr))∧(∀ o,o<s.aj.length→M.mu o≠g)∧∀ t c z,s.live t→M.be t≠some (g,c,z)
theorem Laid.ext {M M':Map} {s s':St} {w w':World} (h:Laid M s w) (e:Ext M s w M' s' w'):Laid M' s' w':=by
 intro g cs hg
 obtain⟨⟨T,fr,h1⟩,h2,h3⟩:=h g cs hg
 have hD:g<w.heap.size:=(Array.getElem?_eq_some_iff.1 h1).1
 refine⟨⟨T,fr,by rw[e.kept g hD h2 h3];exact h1⟩,fun o ho=>?_,fun t c z hl hb=>?_⟩
 ·rcases e.mo ho with ⟨h4,h5⟩ | h4
  ·rw[h5];exact h2 o h4
  ·omega
 ·rcases e.rD t g c z hl hb with ⟨h4,c',z',h5⟩ | h4
  ·exact h3 t c' z' h4 h5
  ·omega
abbrev Tm:=List (Nat×D)
def Tm.get:Tm→Nat→D
 | [],_=> .junk
 |(k,d)::r,t=>if k=t then d else Tm.get r t
def Tm.set:Tm→Nat→D→Tm
 | [],t,d=> [(t,d)]
 |(k,e)::r,t,d=>if k=t then(k,d)::r else(k,e)::Tm.set r t d
def Tm.put (tm:Tm) (dst:Option Nat) (d:D):Tm:=
 match dst with
 |some t=>tm.set t d
 |none=>tm
inductive X where
 |s (t:Nat)
 |k (d:D)
def X.ev (tm:Tm):X→D
 | .s t=>tm.get t
 | .k d=>d
inductive FO where
 |ofInt (k:FloatKind)
 |toInt (k:IntKind)
 |LO
 |real
 |imag
 |eq
 |LP
 |UP
inductive AO where
 |mv (x:X)
 |pick (c a b:X)
 |alloc (zero:List D)
 |box (x:X)
 |build (zero:List D) (parts:List (Nat×Nat×X))
 |dm (zero:List D) (size n:Nat) (parts:List (Nat×X))
 |xn (zero:List D) (size n:Nat) (parts:List (Nat×X))
 |Dd (x:X)
 |load (x:X) (agg:Bool) (size:Nat)
 |store (p x:X) (size:Nat)
 |cm (x:X)
 |bin (op:BinOp) (x y:X)
 |JP (neg:Bool) (x y:X)
 |eqs (neg:Bool) (ks:List Nat) (x y:X) -- the fields' kinds: 0 an integer, 1 a bool, 2 a text
 |JQ (neg:Bool) (x y:X)
 |un (op:UnOp) (x:X)
 |conv (k:IntKind) (x:X)
 |GY (x:X)
 |Au (x:X)
 |GZ (size:Nat) (x:X) (lo hi:Option X)
 |LQ (x:X) (lo hi:Option X)
 |av (x:X) (off:Nat)
 |De (x:X) (off:Nat) (agg:Bool) (size:Nat)
 |bZ (x i:X) (size:Nat)
 |Df (x i:X)
 |ext (x:X) (i:Nat)
 |len (x:X)
 |xo (x:X)
 |app (size bytes:Nat) (x y:X)
 |mm (isMax:Bool) (x y:X)
 |vy (zero:List D) (T:TypeId) -- a new object whose first cell is to hold its own address
 |Dg (x:X) (T:TypeId)
 |Dh (x y:X) -- bytes behind others
 |apps (x y:X) -- a text's bytes behind others
 |wV (f:Nat) (xs:List X) -- a function value
 |wW
 |Bp (m k v:X) -- a text's slice in a map
 |yD (m k:X) (zero:D)
 |Di (size bytes:Nat) (zero:List D) (l c:X) -- a new array of zeros
 |sX (o:FO) (x y:X)
inductive AI where
 |ky (dst:Option Nat) (g:Option (Nat×Bool)) (t:Nat) (xs:List X) -- what a slot holds is called
 |nil (dst:Option Nat) (g:Option (Nat×Bool)) (neg:Bool) (x:X) -- is a slice nil? (of an empty one nothing is known)
 |op (dst:Option Nat) (g:Option (Nat×Bool)) (o:AO)
 |call (dst:Option Nat) (g:Option (Nat×Bool)) (f:Nat) (xs:List X)
inductive AC where
 |skip
 |run (is:List AI)
 |par (is:List AI) (nE:List (Nat×Nat))
 |seq (a b:AC)
 |cond (x:X) (a b:AC)
 |block (id:Nat) (a:AC)
 |loop (a:AC)
 |exit (id:Nat)
 |scope (a:AC)
 |label (l:Nat)
 |goto (l:Nat)
 |ret
structure AF where
 ntmps:Nat
 results:List (Nat×Option (Bool×Nat)) -- a slot; or a slot that holds the address, whether an aggregate, how many cells
 body:AC
inductive AK where
 |pure
 |load
 |alloc
 |core
 deriving DecidableEq
def AO.kind:AO→AK
 | .alloc _=> .core
 | .box _=> .core
 | .xn .. => .core
 | .Dd _=> .core
 | .store .. => .core
 | .app .. => .core
 | .vy .. => .core
 | .Dg .. => .core
 | .Dh .. => .core
 | .apps .. => .core
 | .wW=> .core
 | .Bp .. => .core
 | .Di .. => .core
 | .yD .. => .load
 | .load .. => .load
 |_=> .pure
def AI.kind:AI→AK
 | .op (some _) none (.alloc _)=> .alloc
 | .op _ _ o=>o.kind
 |_=> .core
def AI.dst:AI→Option Nat
 | .op d _ _=>d
 | .call d _ _ _=>d
 | .nil d _ _ _=>d
 | .ky d _ _ _=>d
def X.reads:X→List Nat
 | .s t=> [t]
 | .k _=> []
def pT:List X→List Nat
 | []=> []
 |x::r=>x.reads++pT r
def Dj:Option X→List Nat
 |none=> []
 |some x=>x.reads
def AO.reads:AO→List Nat
 | .mv x=>x.reads
 | .pick c a b=>c.reads++(a.reads++b.reads)
 | .alloc _=> []
 | .box x=>x.reads
 | .build _ ps=>pT (ps.map (·.2.2))
 | .dm _ _ _ ps=>pT (ps.map (·.2))
 | .xn _ _ _ ps=>pT (ps.map (·.2))
 | .Dd x=>x.reads
 | .load x _ _=>x.reads
 | .store p x _=>p.reads++x.reads
 | .cm x=>x.reads
 | .bin _ x y=>x.reads++y.reads
 | .JP _ x y=>x.reads++y.reads
 | .eqs _ _ x y=>x.reads++y.reads
 | .JQ _ x y=>x.reads++y.reads
 | .un _ x=>x.reads
 | .conv _ x=>x.reads
 | .GY x=>x.reads
 | .Au x=>x.reads
 | .GZ _ x lo hi=>x.reads++(Dj lo++Dj hi)
 | .LQ x lo hi=>x.reads++(Dj lo++Dj hi)
 | .av x _=>x.reads
 | .De x _ _ _=>x.reads
 | .bZ x i _=>x.reads++i.reads
 | .Df x i=>x.reads++i.reads
 | .ext x _=>x.reads
 | .len x=>x.reads
 | .xo x=>x.reads
 | .app _ _ x y=>x.reads++y.reads
 | .mm _ x y=>x.reads++y.reads
 | .vy _ _=> []
 | .Dg x _=>x.reads
 | .Dh x y=>x.reads++y.reads
 | .apps x y=>x.reads++y.reads
 | .wV _ xs=>pT xs
 | .wW=> []
 | .Bp m k v=>m.reads++(k.reads++v.reads)
 | .yD m k _=>m.reads++k.reads
 | .Di _ _ _ l c=>l.reads++c.reads
 | .sX _ x y=>x.reads++y.reads
def xp:Option (Nat×Bool)→List Nat
 |none=> []
 |some (t,_)=> [t]
def AI.reads:AI→List Nat
 | .op _ g o=>xp g++o.reads
 | .call _ g _ xs=>xp g++pT xs
 | .nil _ g _ x=>xp g++x.reads
 | .ky _ g t xs=>xp g++(t::pT xs)
def G1 (d:Option Nat) (l:List Nat):Bool:=
 match d with
 |none=>true
 |some t=> !l.contains t
def AI.apart (a q:AI):Bool:=
 G1 a.dst q.reads && G1 q.dst a.reads && (match a.dst,q.dst with|some x,some y=>x != y|_,_=>true)
def ji (l:List (List Nat)) (i:Nat):List Nat:=l.getD i []
def kz (is:List AI) (i:Nat):AK:=
 match is[i]? with
 |some a=>a.kind
 |none=> .core
def mP (is:List AI) (i j:Nat):Bool:=
 match is[i]?,is[j]? with
 |some a,some b=>a.apart b
 |_,_=>false
def iT:AK→Bool
 | .core=>true
 | .alloc=>true
 |_=>false
def kQ (is:List AI) (l:List Nat):Nat:=(l.filter fun i=>iT (kz is i)).length
def mI (is:List AI) (pq:List Nat):List Nat→Bool
 | []=>true
 |a::r=>(!(kz is a == .alloc && pq.contains a) ||r.all pq.contains) && mI is pq r
def qA (is:List AI) (pt:List (List Nat)) (pre:List Nat) (q b:Nat):Bool:=
 match kz is q with
 | .core=>pre.all (ji pt q).contains
 | .alloc=>pre.all fun a=>mP is a q
 | .pure=>(pre.all fun a=>(ji pt q).contains a ||mP is a q) && mI is (ji pt q) pre
 | .load=>(pre.all fun a=>(ji pt q).contains a ||mP is a q) && mI is (ji pt q) pre &&
  decide (kQ is (pre.filter fun a=> !(ji pt q).contains a)≤b)
def wH (is:List AI) (af pt:List (List Nat)):List Nat→List (Nat×Nat)→Bool
 |_,[]=>true
 |pre,(q,b)::r=>qA is pt pre q b && !pre.contains q && ((ji af q).all fun j=>j != q && !(r.map (·.1)).contains j) && wH is af pt (q::pre) r
def Av (af pt:List (List Nat)):Nat→Bool
 | 0=>true
 |i+1=>((ji pt i).all fun j=>(ji af i).contains j ||(ji af i).any fun k=>(ji pt k).contains j) && Av af pt i
def LR (is:List AI) (af pt:List (List Nat)) (nE:List (Nat×Nat)):Bool:=
 Av af pt is.length && wH is af pt [] nE && (List.range is.length).all (nE.map (·.1)).contains && nE.all (fun p=>decide (p.1<is.length)) &&
  (List.range is.length).all fun i=>(ji af i).all fun j=>decide (j<is.length)
def oB (o:Oper):List Nat:=(o.after.toList.filter (Region.binds .any)).map (·.on)
def LS:List (List Nat)→List (List Nat)→List (List Nat)
 |done,[]=>done
 |done,es::r=>LS (done++ [(es.flatMap fun k=>ji done k).foldl (fun l j=>if l.contains j then l else l++ [j]) es]) r
def abh (is:List AI) (pt:List (List Nat)):List Nat→List Nat→List Nat→List Nat
 | [],rest,out=>out++((rest.filter fun j=>kz is j == .alloc)++rest.filter fun j=> !(kz is j == .alloc))
 |c::cs,rest,out=>
  let X8:=rest.filter fun j=>(ji pt c).contains j
  abh is pt cs (rest.filter fun j=> !(X8.contains j) && j != c) (out++((X8.filter fun j=>kz is j == .alloc)++(X8.filter fun j=> !(kz is j == .alloc))++ [c]))
def abi (is:List AI) (pt:List (List Nat)):List Nat→List Nat→List (Nat×Nat)
 |_,[]=> []
 |pre,q::r=>(q,if kz is q == .load then kQ is (pre.filter fun a=> !(ji pt q).contains a)else 0)::abi is pt (q::pre) r
def UQ (is:List AI) (af:List (List Nat)):List (Nat×Nat):=
 let pt:=LS [] af
 let all:=List.range is.length
 abi is pt [] (abh is pt (all.filter fun i=>kz is i == .core) all [])
def D.row:D→Option (List D)
 | .agg cs=>some cs
 | .junk=>none
 | .tuple _=>none
 |d=>some [d]
def part (cs:List D) (off:Nat) (agg:Bool) (size:Nat):Option D:=
 match agg with
 |true=>if off+size≤cs.length then some (.agg ((cs.drop off).take size))else none
 |false=>cs[off]?
def gR (cs:List D) (off:Nat) (r:List D):List D:=cs.take off++r++cs.drop (off+r.length)
def sY (cells:List D):List (Nat×Nat×D)→Option (List D)
 | []=>some cells
 |(off,size,d)::rest=>
  match d.row with
  |none=>none
  |some r=>if r.length=size∧off+size≤cells.length then sY (gR cells off r) rest else none
def gY (zero:List D):Nat→List (List D)
 | 0=> []
 |n+1=>zero::gY zero n
def lg (size:Nat) (rows:List (List D)):List (Nat×D)→Option (List (List D))
 | []=>some rows
 |(i,d)::rest=>
  match d.row with
  |none=>none
  |some r=>if r.length=size∧i<rows.length then lg size (rows.set i r) rest else none
def bytesLess:List UInt8→List UInt8→Bool:=Op.bytesLess
def bp:Nat:=1099511627776
def afJ (k:IntKind) (a b:Int):Int:=k.wrap ((BitVec.ofInt k.bits a &&& BitVec.ofInt k.bits b).toNat)
def bOr (k:IntKind) (a b:Int):Int:=k.wrap ((BitVec.ofInt k.bits a |||BitVec.ofInt k.bits b).toNat)
def LU (k:IntKind) (a b:Int):Int:=k.wrap ((BitVec.ofInt k.bits a ^^^ BitVec.ofInt k.bits b).toNat)
def afK (k:IntKind) (a b:Int):Int:=k.wrap (a*2 ^ (min b.toNat k.bits))
def afL (k:IntKind) (a b:Int):Int:=a.fdiv (2 ^ (min b.toNat k.bits))
def gu (op:BinOp) (k:IntKind) (a b:Int):Option D:=
 match op with
 | .add=>some (.int k (k.wrap (a+b)))
 | .sub=>some (.int k (k.wrap (a - b)))
 | .mul=>some (.int k (k.wrap (a*b)))
 | .quo=>if b=0 then none else some (.int k (k.wrap (a.tdiv b)))
 | .rem=>if b=0 then none else some (.int k (a.tmod b))
 | .eql=>some (.bool (a==b))
 | .neq=>some (.bool (a != b))
 | .lss=>some (.bool (decide (a<b)))
 | .leq=>some (.bool (decide (a≤b)))
 | .gtr=>some (.bool (decide (a > b)))
 | .geq=>some (.bool (decide (a≥b)))
 | .and=>some (.int k (afJ k a b))
 | .or=>some (.int k (bOr k a b))
 | .xor=>some (.int k (LU k a b))
 | .shl=>if b<0 then none else some (.int k (afK k a b))
 | .shr=>if b<0 then none else some (.int k (afL k a b))
 |_=>none
def pU (op:BinOp) (a b:List UInt8):Option D:=
 match op with
 | .add=>if a.length+b.length≤bp then some (.str (a++b))else none
 | .eql=>some (.bool (a==b))
 | .neq=>some (.bool (!(a==b)))
 | .lss=>some (.bool (bytesLess a b))
 |_=>none
def zG (op:BinOp) (x y:D):Option D:=
 match x,y with
 | .int k a, .int k' b=>if k=k' then gu op k a b else none
 | .str a, .str b=>pU op a b
 |_,_=>none
def oD:Nat→D→D→Option Bool
 | 0, .int k a, .int k' b=>if k=k' then some (a==b)else none
 | 1, .bool a, .bool b=>some (a==b)
 | 2, .str a, .str b=>some (a==b)
 |_,_,_=>none
def mQ:List Nat→List D→List D→Option Bool
 | [],[],[]=>some true
 |k::ks,x::xs,y::ys=>
  match oD k x y with
  |none=>none
  |some true=>mQ ks xs ys
  |some false=>some false
 |_,_,_=>none
def JR (op:UnOp) (x:D):Option D:=
 match op,x with
 | .neg, .int k n=>some (.int k (k.wrap (0 - n)))
 | .not, .bool b=>some (.bool (!b))
 | .xor, .int k n=>some (.int k (LU k (if k.signed then -1 else k.max) n))
 |_,_=>none
def JS:List D→Option UInt8
 | [.int .u8 n]=>some (UInt8.ofNat n.toNat)
 |_=>none
def qb:List (List D)→Option (List UInt8)
 | []=>some []
 |r::rs=>
  match JS r,qb rs with
  |some b,some bs=>some (b::bs)
  |_,_=>none
def Tag.cut (g:Tag) (whole:Bool):Tag:=
 match g with
 | .full=>if whole then .full else .shared
 |g=>g
def vz (lo:Option D):Option Int:=
 match lo with
 |none=>some 0
 |some (.int _ n)=>some n
 |_=>none
def vA (hi:Option D) (len:Nat):Option Int:=
 match hi with
 |none=>some len
 |some (.int _ n)=>some n
 |_=>none
def jW (size bytes:Nat) (x y:D) (s:St):Option (D×St):=
 match x,y with
 | .slice g z rows, .slice _ z' new=>
  if(rows = []∨z=size)∧(new = []∨z'=size)∧(rows.length+new.length)*(bytes+1)≤bp then
   match new with
   | []=>some (.slice g z rows,s)
   |_::_=>
    match g with
    | .full=>some (.slice (.tok s.az.length) size (rows++new),{s with az:=s.az++ [some (rows.length+new.length)]})
    | .shared=>none
    | .tok _ true=>none
    | .tok t false=>if z=size∧s.az[t]? = some (some rows.length)then some (.slice (.tok t) size (rows++new),{s with az:=s.az.set t (some (rows.length+new.length))})else none
  else none
 |_,_=>none
def Dk (x y:D) (s:St):Option (D×St):=
 match x,y with
 | .slice g z rows, .slice _ z' new=>
  if(rows = []∨z=1)∧(new = []∨z'=1)∧(rows.length+new.length)*2≤bp then
   match new with
   | []=>some (.slice g z rows,s)
   |_::_=>
    match g with
    | .full=>some (.slice (.tok s.az.length true) 1 (rows++new),{s with az:=s.az++ [some (rows.length+new.length)]})
    | .shared=>none
    | .tok t y=>if z=1∧s.az[t]? = some (some rows.length)then some (.slice (.tok t y) 1 (rows++new),{s with az:=s.az.set t (some (rows.length+new.length))})else none
  else none
 |_,_=>none
def Bq (key:List UInt8) (zero:D):List D→Option D
 | []=>some zero
 | .str k::d::r=>if k==key then some d else Bq key zero r
 |_=>none
def zH (key:List UInt8) (v:D):List D→Option (List D)
 | []=>some [.str key,v]
 | .str k::d::r=>if k==key then some (.str k::v::r)else match zH key v r with|some r'=>some (.str k::d::r')|none=>none
 |_=>none
def mr (s:St) (o g:Nat):Option (List D):=
 match s.aj[o]? with
 |some (.int .i64 n::cells)=>if n=(g:Int)then some cells else none
 |_=>none
def Br (d:D) (agg:Bool) (size:Nat) (s:St):Option (D×St):=
 match d with
 | .gd o g off=>
  match mr s o g with
  |some cells=>(match part cells off agg size with|some d=>some (d,s)|none=>none)
  |none=>none
 |_=>none
def Dl (d:D) (r:Option (List D)) (size:Nat) (s:St):Option (D×St):=
 match d,r with
 | .gd o g off,some r=>match mr s o g with
  |some cells=>if r.length=size∧off+size≤cells.length then some (.tuple [],{s with aj:=s.aj.set o (.int .i64 g::gR cells off r)})else none
  |none=>none
 |_,_=>none
def Rb (d:D):Option D:=
 match d with
 | .gd o g off=>some (.gd o g off)
 |_=>none
def G2 (d:D) (off:Nat):Option D:=
 match d with
 | .gd o g k=>some (.gd o g (k+off))
 |_=>none
def Aw (d e:D) (size:Nat):Option D:=
 match d,e with
 | .dH z o g len, .int _ n=>if 0≤n∧n<len∧z=size then some (.gd o g (n.toNat*z))else none
 |_,_=>none
def zI (d:D) (lo hi:Option D):Option D:=
 match d with
 | .dH z o g len=>
  match vz lo,vA hi len with
  |some l,some h=>if l=0∧0≤h∧h≤len then some (.dH z o g h.toNat)else none
  |_,_=>none
 | .fk z=>
  match vz lo,vA hi 0 with
  |some l,some h=>if l=0∧h=0 then some (.fk z)else none
  |_,_=>none
 |_=>none
def IW (d:D):Option D:=
 match d with
 | .dH _ _ _ len=>some (.int .i64 len)
 | .fk _=>some (.int .i64 0)
 |_=>none
def zJ (size bytes:Nat) (x y:D) (s:St):Option (D×St):=
 match x,y with
 | .dH z o g len, .slice _ z' new=>
  if z=size∧(new = []∨z'=size)∧(len+new.length)*(bytes+1)≤bp then
   match new with
   | []=>some (.dH z o g len,s)
   |_::_=>match mr s o g with
    |some cells=>if len*z≤cells.length then some (.dH z o (g+1) (len+new.length),{s with aj:=s.aj.set o (.int .i64 ((g+1:Nat):Int)::(cells.take (len*z)++new.flatten))})else none
    |none=>none
  else none
 | .fk z, .slice _ z' new=>
  if z=size∧(new = []∨z'=size)∧new.length*(bytes+1)≤bp then
   match new with
   | []=>some (.fk z,s)
   |_::_=>some (.dH z s.aj.length 0 new.length,{s with aj:=s.aj++ [.int .i64 ((0:Nat):Int)::new.flatten]})
  else none
 |_,_=>none
def X9 (k:FloatKind) (a b:Nat):Option Nat:=k.format.add a b
def sr (o:FO) (x y:D):Option D:=
 match o,x,y with
 | .ofInt k, .int _ n,_=>some (.val (.float k (k.nearest n)))
 | .toInt k, .val (.float s b),_=>match (s.decode b).toInt .zero with|some n=>if k.min≤n∧n≤k.max then some (.int k n)else none|none=>none
 | .LO, .val (.float k a), .val (.float k' b)=>if k=k' then some (.val (.complex k a b))else none
 | .real, .val (.complex k a _),_=>some (.val (.float k a))
 | .imag, .val (.complex k _ b),_=>some (.val (.float k b))
 | .eq, .val (.float k a), .val (.float k' b)=>if k=k' then some (.bool (k.format.order a b==some .eq))else none
 | .LP, .val (.complex k a b), .val (.complex k' c d)=>if k=k' then(match X9 k a c,X9 k b d with|some e,some f=>some (.val (.complex k e f))|_,_=>none)else none
 | .UP, .val (.complex k a b), .val (.complex k' c d)=>if k=k' then some (.bool (k.format.order a c==some .eq && k.format.order b d==some .eq))else none
 |_,_,_=>none
def aY (o:AO) (tm:Tm) (s:St):Option (D×St):=
 match o with
 | .mv x=>some (x.ev tm,s)
 | .pick c a b=>
  match c.ev tm with
  | .bool t=>some (if t then a.ev tm else b.ev tm,s)
  |_=>none
 | .alloc zero=>some (.ptr s.aj.length 0,{s with aj:=s.aj++ [zero]})
 | .box x=>
  match (x.ev tm).row with
  |some r=>some (.ptr s.aj.length 0,{s with aj:=s.aj++ [r]})
  |none=>none
 | .build zero parts=>
  match sY zero (parts.map fun p=>(p.1,p.2.1,p.2.2.ev tm))with
  |some cs=>some (.agg cs,s)
  |none=>none
 | .dm zero size n parts=>
  match lg size (gY zero n) (parts.map fun p=>(p.1,p.2.ev tm))with
  |some rows=>some (.slice .full size rows,s)
  |none=>none
 | .xn zero size n parts=>
  match lg size (gY zero n) (parts.map fun p=>(p.1,p.2.ev tm))with
  |some rows=>some (.slice (.tok s.az.length) size rows,{s with az:=s.az++ [some rows.length]})
  |none=>none
 | .Dd x=>
  match x.ev tm with
  | .slice (.tok t _) z rows=>if rows≠ []∧s.az[t]? = some (some rows.length)then some (.slice .shared z rows,{s with az:=s.az.set t none})else none
  |_=>none
 | .load x agg size=>
  match x.ev tm with
  | .ptr o off=>
   match s.aj[o]? with
   |some cs=>match part cs off agg size with|some d=>some (d,s)|none=>none
   |none=>none
  | .dN row off=>match part row off agg size with|some d=>some (d,s)|none=>none
  |d=>Br d agg size s
 | .store p x size=>
  match p.ev tm,(x.ev tm).row with
  | .ptr o off,some r=>
   match s.aj[o]? with
   |some cs=>if r.length=size∧off+size≤cs.length then some (.tuple [],{s with aj:=s.aj.set o (gR cs off r)})else none
   |none=>none
  |d,r=>Dl d r size s
 | .cm x=>
  match x.ev tm with
  | .ptr o off=>some (.ptr o off,s)
  | .dN row off=>some (.dN row off,s)
  |d=>match Rb d with|some d=>some (d,s)|none=>none
 | .bin op x y=>match zG op (x.ev tm) (y.ev tm)with|some d=>some (d,s)|none=>none
 | .JP neg x y=>
  match x.ev tm,y.ev tm with
  | .bool a, .bool b=>some (.bool (if neg then !(a==b)else a==b),s)
  |_,_=>none
 | .eqs neg ks x y=>
  match x.ev tm,y.ev tm with
  | .agg a, .agg b=>match mQ ks a b with|some e=>some (.bool (if neg then !e else e),s)|none=>none
  |_,_=>none
 | .JQ neg x y=>
  match x.ev tm,y.ev tm with
  | .eY, .eY=>some (.bool (!neg),s)
  | .ptr _ _, .eY=>some (.bool neg,s)
  | .dN _ _, .eY=>some (.bool neg,s)
  |_,_=>none
 | .un op x=>match JR op (x.ev tm)with|some d=>some (d,s)|none=>none
 | .conv k x=>match x.ev tm with| .int _ n=>some (.int k (k.wrap n),s)|_=>none
 | .GY x=>
  match x.ev tm with
  | .slice _ _ rows=>match qb rows with|some b=>some (.str b,s)|none=>none
  |_=>none
 | .Au x=>
  match x.ev tm with
  | .str l=>some (.slice .shared 1 (l.map fun c=> [.int .u8 c.toNat]),s)
  |_=>none
 | .GZ size x lo hi=>
  match x.ev tm with
  | .slice g z rows=>
   match vz (lo.map (·.ev tm)),vA (hi.map (·.ev tm)) rows.length with
   | some l,some h=>
    if(rows = []∨z=size)∧0≤l∧l≤h∧h≤rows.length then
     some (.slice (if l=0 then g.cut (h=rows.length)else .shared) z ((rows.take h.toNat).drop l.toNat),s)else none
   |_,_=>none
  |d=>match zI d (lo.map (·.ev tm)) (hi.map (·.ev tm))with|some d=>some (d,s)|none=>none
 | .LQ x lo hi=>
  match x.ev tm with
  | .str t=>
   match vz (lo.map (·.ev tm)),vA (hi.map (·.ev tm)) t.length with
   |some l,some h=>if 0≤l∧l≤h∧h≤t.length then some (.str ((t.take h.toNat).drop l.toNat),s)else none
   |_,_=>none
  |_=>none
 | .av x off=>
  match x.ev tm with
  | .ptr o k=>some (.ptr o (k+off),s)
  | .dN row k=>some (.dN row (k+off),s)
  |d=>match G2 d off with|some d=>some (d,s)|none=>none
 | .De x off agg size=>
  match x.ev tm with
  | .agg cs=>match part cs off agg size with|some d=>some (d,s)|none=>none
  |_=>none
 | .bZ x i size=>
  match x.ev tm,i.ev tm with
  | .slice _ z rows, .int _ n=>
   if 0≤n∧z=size then
    match rows[n.toNat]? with
    |some row=>some (.dN row 0,s)
    |none=>none
   else none
  |d,e=>match Aw d e size with|some d=>some (d,s)|none=>none
 | .Df x i=>
  match x.ev tm,i.ev tm with
  | .str t, .int _ n=>
   if 0≤n then
    match t[n.toNat]? with
    |some c=>some (.int .u8 c.toNat,s)
    |none=>none
   else none
  |_,_=>none
 | .ext x i=>
  match x.ev tm with
  | .tuple ds=>match ds[i]? with|some d=>some (d,s)|none=>none
  |_=>none
 | .xo x=>
  match x.ev tm with
  | .str t=>some (.int .i64 t.length,s)
  |_=>none
 | .len x=>
  match x.ev tm with
  | .slice _ _ rows=>some (.int .i64 rows.length,s)
  |d=>match IW d with|some d=>some (d,s)|none=>none
 | .app size bytes x y=>
  match x.ev tm with
  | .slice g z rows=>jW size bytes (.slice g z rows) (y.ev tm) s
  |d=>zJ size bytes d (y.ev tm) s
 | .mm isMax x y=>
  match x.ev tm,y.ev tm with
  | .int k a, .int k' b=>if k=k' then some (.int k (if isMax then(if b > a then b else a)else(if b<a then b else a)),s)else none
  |_,_=>none
 | .vy zero T=>
  match zero with
  | .eY::r=>some (.ptr s.aj.length 0,{s with aj:=s.aj++ [.gb T s.aj.length::r]})
  |_=>none
 | .Dg x T=>
  match (x.ev tm).row with
  |some (.eY::r)=>some (.ptr s.aj.length 0,{s with aj:=s.aj++ [.gb T s.aj.length::r]})
  |_=>none
 | .Dh x y=>Dk (x.ev tm) (y.ev tm) s
 | .apps x y=>
  match y.ev tm with
  | .str l=>Dk (x.ev tm) (.slice .shared 1 (l.map fun c=> [.int .u8 c.toNat])) s
  |_=>none
 | .wV f xs=>some (.ix f (xs.map (·.ev tm)),s)
 | .wW=>some (.gW s.aj.length,{s with aj:=s.aj++ [[]]})
 | .Bp m k v=>
  match m.ev tm,k.ev tm,v.ev tm with
  | .gW o, .str key, .slice g z rows=>
   match s.aj[o]? with
   |some cs=>match zH key (.slice g z rows) cs with|some kT=>some (.tuple [],{s with aj:=s.aj.set o kT})|none=>none
   |none=>none
  |_,_,_=>none
 | .yD m k zero=>
  match m.ev tm,k.ev tm with
  | .gW o, .str key=>
   match s.aj[o]? with
   |some cs=>match Bq key zero cs with|some d=>some (d,s)|none=>none
   |none=>none
  |_,_=>none
 | .Di size bytes zero l c=>
  match l.ev tm,c.ev tm with
  | .int .i64 n, .int .i64 m=>if n=m∧0≤n∧n*((bytes:Int)+1)≤bp then some (.dH size s.aj.length 0 n.toNat,{s with aj:=s.aj++ [.int .i64 ((0:Nat):Int)::(gY zero n.toNat).flatten]})else none
  |_,_=>none
 | .sX o x y=>match sr o (x.ev tm) (y.ev tm)with|some d=>some (d,s)|none=>none
def Ya (b:ByteArray):List UInt8:=b.data.toList
def uB:Value→Option D
 | .int k n=>some (.int k n)
 | .bool b=>some (.bool b)
 | .string b=>some (.str (Ya b))
 | .pointer none=>some .eY
 | .slice none 0 0=>some (.slice .full 0 [])
 | .nilIface=>some (.val .nilIface)
 | .float k b=>some (.val (.float k b))
 | .complex k a b=>some (.val (.complex k a b))
 |_=>none
def pE:List Value→Option (List D)
 | []=>some []
 |v::r=>match uB v,pE r with|some d,some ds=>some (d::ds)|_,_=>none
def FQ:Value→Option D
 | .slice none 0 0=>some (.val (.slice none 0 0))
 |v=>uB v
def yE:List Value→Option (List D)
 | []=>some []
 |v::r=>match FQ v,yE r with|some d,some ds=>some (d::ds)|_,_=>none
def Rc:Value→Option D
 | .agg cs=>(pE cs.toList).map .agg
 | .tuple ⟨[]⟩=>some (.tuple [])
 |v=>uB v
def cX:Operand→Option X
 | .tmp t=>some (.s t)
 | .const v=>(Rc v).map .k
 | .func f=>some (.k (.ix f []))
 |_=>none
def Ax:List Operand→Option (List X)
 | []=>some []
 |x::r=>match cX x,Ax r with|some d,some ds=>some (d::ds)|_,_=>none
def cXo:Option Operand→Option (Option X)
 |none=>some none
 |some x=>(cX x).map some
section
variable (P:Program)
def sZ (t:TypeId):Option Bool:=
 match P.underlying t with
 |some (.struct _)|some (.array _ _)=>some true
 |some _=>some false
 |none=>none
def zeroOf (t:TypeId):Option (List D):=
 match P.info? t with
 |some i=>match i.zero with|some z=>if z.cells.size=i.size then pE z.cells.toList else none|none=>none
 |none=>none
def n8 (t:TypeId) (f:Nat):Option (Nat×Nat×Bool):=
 match P.underlying t with
 | some (.struct fs)=>
  match fs[f]? with
  |some fd=>match P.info? fd.type,sZ P fd.type with
   |some i,some a=>if i.size=0 then none else some (fd.offset,i.size,a)
   |_,_=>none
  |none=>none
 |_=>none
def UR (t u:TypeId):Bool:=
 match P.underlying u with
 |some (.pointer e)=>e==t
 |_=>false
def afM (t:TypeId):Bool:=
 match P.underlying t with
 |some (.struct fs)=>
  match fs[0]? with
  |some f=>UR P t f.type
  |none=>false
 |_=>false
def Re (t:TypeId):Bool:=
 match P.underlying t with
 |some (.struct fs)=>
  match fs[0]? with
  |some f=>UR P t f.type ||afM P f.type
  |none=>false
 |_=>false
def Rf (self:Bool) (l:List Value):Option (List D):=if self then yE l else pE l
def Bs (t:TypeId):Option (List D):=
 match P.info? t with
 |some i=>match i.zero with|some z=>if z.cells.size=i.size then Rf (Re P t) z.cells.toList else none|none=>none
 |none=>none
def Dm (t:TypeId):List (Nat×Operand)→Option (List (Nat×Nat×X))
 | []=>some []
 |(i,x)::r=>match n8 P t i,cX x,Dm t r with
  |some (off,size,_),some x',some r'=>some ((off,size,x')::r')
  |_,_,_=>none
def LV:List (Nat×Operand)→Option (List (Nat×X))
 | []=>some []
 |(i,x)::r=>match cX x,LV r with
  |some x',some r'=>some ((i,x')::r')
  |_,_=>none
def j9 (t:TypeId):Option Nat:=
 match P.underlying t with
 |some (.int _)=>some 0
 |some .bool=>some 1
 |some .string=>some 2
 |_=>none
def EC:Nat→List Field→Option (List Nat)
 |_,[]=>some []
 | n,f::fs=>
  if f.offset=n∧f.name≠ "_" then
   match j9 P f.type,EC (n+1) fs with
   |some k,some ks=>some (k::ks)
   |_,_=>none
  else none
def rP (t:TypeId):Option (List Nat):=
 match P.underlying t with
 |some (.struct fs)=>if P.eqGuardType P.depth t=false∧P.stoodInHeld t=false then EC P 0 fs.toList else none
 |_=>none
def G3 (o:Oper):Option AO:=
 match o.op with
 | .move x| .assign x=>(cX x).map .mv
 | .pick c a b=>match cX c,cX a,cX b with|some c,some a,some b=>some (.pick c a b)|_,_,_=>none
 | .alloc t=>if Re P t then(Bs P t).map (.vy · t)else(zeroOf P t).map .alloc
 | .box t x=>if Re P t then(cX x).map (.Dg · t)else(cX x).map .box
 | .build t parts=>
  match P.underlying t,Bs P t,Dm P t parts.toList with
  |some (.struct fs),some z,some ps=>if fs.toList.all fun f=>(P.info? f.type).isSome then some (.build z ps)else none
  |_,_,_=>none
 | .buildSlice t n parts=>
  match P.underlying t with
  |some (.slice e)=>
   match P.info? e,zeroOf P e,LV parts.toList with
   |some i,some z,some ps=>if 0<i.size∧n*i.size≤65536 then some (.dm z i.size n ps)else none
   |_,_,_=>none
  |_=>none
 | .load t x=>
  match cX x,sZ P t,P.info? t with
  |some x,some a,some i=>some (.load x a i.size)
  |_,_,_=>none
 | .store t a x=>
  match cX a,cX x,P.info? t with
  |some a,some x,some i=>some (.store a x i.size)
  |_,_,_=>none
 | .nilCheck x=>(cX x).map .cm
 | .binOp op t x y _=>
  match cX x,cX y with
  |some x,some y=>
   match P.underlying t,op with
   |some (.int _),_=>some (.bin op x y)
   |some .string,_=>some (.bin op x y)
   |some .bool, .eql=>some (.JP false x y)
   |some .bool, .neq=>some (.JP true x y)
   |some (.pointer _), .eql=>some (.JQ false x y)
   |some (.pointer _), .neq=>some (.JQ true x y)
   |some (.struct _), .eql=>(rP P t).map (.eqs false · x y)
   |some (.struct _), .neq=>(rP P t).map (.eqs true · x y)
   |some (.float _), .eql=>some (.sX .eq x y)
   |some (.complex _), .add=>some (.sX .LP x y)
   |some (.complex _), .eql=>some (.sX .UP x y)
   |_,_=>none
  |_,_=>none
 | .unOp op _ x=>(cX x).map (.un op)
 | .convert src dst x=>
  match cX x,P.underlying src,P.underlying dst with
  |some x,some (.int _),some (.int k)=>some (.conv k x)
  |some x,some (.slice e),some .string=>match P.underlying e with|some (.int .u8)=>some (.GY x)|_=>none
  |some x,some (.slice e),some (.slice _)=>match P.underlying e with|some (.int .u8)=>if src=dst then some (.Dd x)else none|_=>none
  |some x,some .string,some (.slice e)=>match P.underlying e,P.info? e with|some (.int .u8),some i=>if i.size=1 then some (.Au x)else none|_,_=>none
  |some x,some (.int _),some (.float k)=>some (.sX (.ofInt k) x x)
  |some x,some (.float _),some (.int k)=>some (.sX (.toInt k) x x)
  |_,_,_=>none
 | .slice t x lo hi none=>
  match cX x,cXo lo,cXo hi,P.underlying t with
  |some x,some lo,some hi,some .string=>some (.LQ x lo hi)
  |some x,some lo,some hi,some (.slice e)=>match P.info? e with|some i=>some (.GZ i.size x lo hi)|none=>none
  |_,_,_,_=>none
 | .fieldAddr t x f=>match cX x,n8 P t f with|some x,some (off,_,_)=>some (.av x off)|_,_=>none
 | .field t x f=>match cX x,n8 P t f with|some x,some (off,size,a)=>some (.De x off a size)|_,_=>none
 | .indexAddr t x i=>
  match cX x,cX i,P.underlying t with
  |some x,some i,some (.slice e)=>match P.info? e with|some j=>if 0<j.size then some (.bZ x i j.size)else none|none=>none
  |_,_,_=>none
 | .index t x i=>match cX x,cX i,P.underlying t with|some x,some i,some .string=>some (.Df x i)|_,_,_=>none
 | .extract x i=>(cX x).map (.ext · i)
 | .call {callee:= .builtin .len,args,argTypes}=>
  match args.toList,argTypes.toList with
  | [x],[t]=>match P.underlying t with
   |some .string=>(cX x).map .xo
   |some (.slice _)=>(cX x).map .len
   |_=>none
  |_,_=>none
 | .call {callee:= .builtin .append,args,argTypes}=>
  match args.toList,argTypes.toList with
  | [x,y],[t,u]=>match P.underlying t,P.underlying u,cX x,cX y with
   |some (.slice e),some (.slice _),some x,some y=>match P.info? e,zeroOf P e with
    |some i,some _=>if 0<i.size then some (if e=q7∧i.size=1∧i.bytes=1 then .Dh x y else .app i.size i.bytes x y)else none
    |_,_=>none
   |some (.slice e),some .string,some x,some y=>match P.info? e,zeroOf P e with
    |some i,some _=>if e=q7∧i.size=1∧i.bytes=1 then some (.apps x y)else none
    |_,_=>none
   |_,_,_,_=>none
  |_,_=>none
 | .call {callee:= .builtin .max,args, ..}=>
  match args.toList with
  | [x,y]=>match cX x,cX y with|some x,some y=>some (.mm true x y)|_,_=>none
  |_=>none
 | .call {callee:= .builtin .min,args, ..}=>
  match args.toList with
  | [x,y]=>match cX x,cX y with|some x,some y=>some (.mm false x y)|_,_=>none
  |_=>none
 | .call {callee:= .builtin .complex,args, ..}=>
  match args.toList with
  | [x,y]=>match cX x,cX y with|some x,some y=>some (.sX .LO x y)|_,_=>none
  |_=>none
 | .call {callee:= .builtin .real,args, ..}=>
  match args.toList with
  | [x]=>(cX x).map fun x=> .sX .real x x
  |_=>none
 | .call {callee:= .builtin .imag,args, ..}=>
  match args.toList with
  | [x]=>(cX x).map fun x=> .sX .imag x x
  |_=>none
 | .makeSlice t l c=>
  match cX l,cX c,P.underlying t with
  |some l,some c,some (.slice e)=>match P.info? e,zeroOf P e with
   |some i,some z=>if 0<i.size then some (.Di i.size i.bytes z l c)else none
   |_,_=>none
  |_,_,_=>none
 | .makeFunc (.func f) first captured=>if first.size=0 then(Ax captured.toList).map (.wV f)else none
 | .makeMap t none=>match P.underlying t with|some (.map _ _)=>some .wW|_=>none
 | .mapUpdate t m k v=>
  match P.underlying t,cX m,cX k,cX v with
  |some (.map kt _),some m,some k,some v=>match P.underlying kt with|some .string=>some (.Bp m k v)|_=>none
  |_,_,_,_=>none
 | .lookup t m k false=>
  match P.underlying t,cX m,cX k with
  |some (.map kt e),some m,some k=>
   match P.underlying kt,P.info? e with
   |some .string,some i=>match i.zero with|some z=>(uB z).map (.yD m k)|none=>none
   |_,_=>none
  |_,_,_=>none
 |_=>none
def xq (ops:Array Oper):Option (Nat×Bool)→Option (Option (Nat×Bool))
 |none=>some none
 |some (j,b)=>
  match (ops[j]?).bind (·.dst)with
  |some t=>some (some (t,b))
  |none=>none
def enters (f:FuncId):Bool:=
 match P.funcs[f]? with
 |some fn=>fn.body.isSome && !(fn.name == "runtime.NumGoroutine")
 |none=>false
def frozenIn (ops:Array Oper) (dst:Option Nat):Bool:=
 ops.toList.any fun o=>match o.op,dst with
  | .convert s d (.tmp t),some t'=>t==t' && s==d
  |_,_=>false
def IY (o:Oper):Option (Bool×X):=
 match o.op with
 | .binOp op t x (.const (.slice none 0 0)) _=>
  match P.underlying t,op,cX x with
  |some (.slice _), .eql,some x=>some (false,x)
  |some (.slice _), .neq,some x=>some (true,x)
  |_,_,_=>none
 |_=>none
def abk (nt:Nat) (dst:Option Nat):Bool:=
 match dst with
 |some d=>decide (d<nt)
 |none=>true
def u7 (ops:Array Oper) (o:Oper) (g:Option (Nat×Bool)):Option AI:=
 match o.op with
 | .call {callee:= .value (.func f),args, ..}=>if enters P f then(Ax args.toList).map (.call o.dst g f)else none
 | .call {callee:= .value (.tmp t),args, ..}=>(Ax args.toList).map (.ky o.dst g t)
 | _=>
  match IY P o with
  |some (neg,x)=>some (.nil o.dst g neg x)
  |none=>
   match G3 P o with
   |some (.dm z k n ps)=>some (.op o.dst g (if frozenIn ops o.dst then .xn z k n ps else .dm z k n ps))
   |some ao=>some (.op o.dst g ao)
   |none=>none
def cI (nt:Nat) (ops:Array Oper) (o:Oper):Option AI:=
 match xq ops o.guard with
 |none=>none
 |some g=>if abk nt o.dst=true then u7 P ops o g else none
def s5 (nt:Nat) (ops:Array Oper):List Oper→Option (List AI)
 | []=>some []
 |o::r=>match cI P nt ops o,s5 nt ops r with|some i,some is=>some (i::is)|_,_=>none
def abl (is:List AI) (af:List (List Nat)):Option AC:=
 if LR is af (LS [] af) (UQ is af)then some (.par is (UQ is af))else none
def cC (nt:Nat):Code→Option AC
 | .skip=>some .skip
 | .region _ ops false=>(s5 P nt ops ops.toList).map .run
 | .region _ ops true=>if P.follows .mixedOrders then(s5 P nt ops ops.toList).bind (abl · (ops.toList.map oB))else none
 | .seq a b=>match cC nt a,cC nt b with|some a,some b=>some (.seq a b)|_,_=>none
 | .cond x a b=>match cX x,cC nt a,cC nt b with|some x,some a,some b=>some (.cond x a b)|_,_,_=>none
 | .block id a=>(cC nt a).map (.block id)
 | .loop a=>(cC nt a).map .loop
 | .exit id=>some (.exit id)
 | .scope a=>(cC nt a).map .scope
 | .label l=>some (.label l)
 | .goto l=>some (.goto l)
 | .ret=>some .ret
 |_=>none
def FR:List ResultVar→Option (List (Nat×Option (Bool×Nat)))
 | []=>some []
 | .tmp t::r=>(FR r).map ((t,none):: ·)
 | .cell a t::r=>match sZ P t,P.info? t,FR r with
  |some g,some i,some r'=>some ((a,some (g,i.size))::r')
  |_,_,_=>none
def cF (fn:Func):Option AF:=
 match fn.body with
 |some c=>match cC P fn.ntmps c,FR P fn.results.toList with
  |some b,some r=>some ⟨fn.ntmps,r,b⟩
  |_,_=>none
 |none=>none
end
end Go.Abs
namespace Go.Abs
theorem jy {w:World} {b:Nat} {vs:Array Value} {T:TypeId} {fr:Nat×Nat} (h:w.heap[b]? = some (.cells vs T fr)) (o:Nat):w.cell? ⟨b,o,none⟩=vs[o]? :=by
 simp[World.cell?,h]
theorem lu {w:World} {b:Nat} {o:Obj} (h:w.heap[b]? = some o):b<w.heap.size:=(Array.getElem?_eq_some_iff.1 h).1
section
variable {M:Map} {s:St} {w:World}
theorem Rel.Dn (r:Rel M s w) {b o:Nat} {v:Value} (h:M.G b o=some v):b<w.heap.size:=World.block_lt_of_cell? w _ (r.comm b o v h).1
theorem Rel.Rg (r:Rel M s w) {b:Nat} (h:w.heap.size≤b) (o:Nat):M.G b o=none:=by
 cases e:M.G b o with
 |none=>rfl
 |some v=>have:=r.Dn e;omega
theorem Rel.sb (r:Rel M s w) {o:Nat} (h:o<s.aj.length):M.mu o<w.heap.size:=by
 obtain⟨vs,T,hh,_⟩:=r.obj o _ (List.getElem?_eq_getElem h)
 exact hh.lt
theorem Rel.u9 (r:Rel M s w) {t b c z:Nat} (h:s.live t) (e:M.be t=some (b,c,z)):b<w.heap.size:=by
 obtain⟨n,hn⟩:=h
 rcases r.tok t n hn with ⟨h1,_⟩|⟨b',cap,size,vs,T,h1,h2,_⟩
 ·rw[e]at h1;cases h1
 ·rw[e]at h1;cases h1;exact lu h2
theorem Rel.of_heap (r:Rel M s w) {w':World} (h:w'.heap=w.heap):Rel M s w':=by
 refine⟨fun b o v e=>?_,fun o ds e=>?_,r.km,r.inj,fun t n e=>?_,r.fM,r.gQ⟩
 ·obtain⟨h1,h2⟩:=r.comm b o v e
  refine⟨?_,h2⟩
  rw[← h1];simp[World.cell?,h]
 ·rw[h];exact r.obj o ds e
 ·rw[h];exact r.tok t n e
theorem Ext.of_heap {w':World} (h:w'.heap=w.heap) (h1:w'.os=w.os) (h2:w'.tape=w.tape) (h3:w'.output=w.output):Ext M s w M s w':=
 ⟨Le.refl M s,fun _ _ _ _=>by rw[h],fun o h h'=>by rcases h with h|h;omega;exact(h rfl).elim,fun t b c z h e=> .inl ⟨h,c,z,e⟩,fun _ _ h=>(h rfl).elim,by rw[h];exact Nat.le_refl _,h1,h2,h3⟩
def Map.eJ (M:Map) (n b:Nat) (x:Ob:= .any):Map:= {M with loc:=fun o=>if o=n then(b,x)else M.loc o}
theorem vB (M:Map) {n:Nat} (b:Nat) (x:Ob) {o:Nat} (ho:o<n):(M.eJ n b x).loc o=M.loc o:=by simp[Map.eJ];omega
theorem uC (s:St) (b:Nat) (ds:List D) (x:Ob:= .any):Le M s (M.eJ s.aj.length b x) {s with aj:=s.aj++ [ds]}:=
 ⟨fun _ _ _ h=>h,by simp,fun o ho=>by rw[vB M b x ho];exact .refl _,Nat.le_refl _,fun t n _ h=>⟨n,h,Nat.le_refl _,fun _=>rfl⟩⟩
theorem Rel.LW (r:Rel M s w) (ds:List D) (ob:Obj) (vs:Array Value) (T:TypeId) (x:Ob) (Ay : ∀ hp:Array Obj,hp[w.heap.size]? = some ob→jx hp (w.heap.size,x) vs T) (hx : ∀ T',x.ty? = some T'→T'=T) (hl:vs.size=ds.length) (h1 : ∀ v∈vs,v.oneCell'=true)
 (h2 : ∀ (i:Nat) (d:D) (v:Value),ds[i]? = some d→vs[i]? = some v→RD (M.eJ s.aj.length w.heap.size x) {s with aj:=s.aj++ [ds]} d v) :
 Rel (M.eJ s.aj.length w.heap.size x) {s with aj:=s.aj++ [ds]} (w.alloc ob)∧
 Ext M s w (M.eJ s.aj.length w.heap.size x) {s with aj:=s.aj++ [ds]} (w.alloc ob):=by
 have le:=uC (M:=M) s w.heap.size ds x
 have kA : ∀ o,o<s.aj.length→(M.eJ s.aj.length w.heap.size x).loc o=M.loc o:=fun o ho=>vB M _ x ho
 have oE : ∀ o,o<s.aj.length→(M.eJ s.aj.length w.heap.size x).mu o=M.mu o:=fun o ho=>congrArg Prod.fst (kA o ho)
 have dw:(M.eJ s.aj.length w.heap.size x).mu s.aj.length=w.heap.size:=by simp[Map.eJ,Map.mu]
 have akk:(M.eJ s.aj.length w.heap.size x).ty s.aj.length=x.ty? :=by simp[Map.eJ,Map.ty]
 have akl:(M.eJ s.aj.length w.heap.size x).loc s.aj.length=(w.heap.size,x):=by simp[Map.eJ]
 refine⟨⟨fun b o v e=>?_,fun o pk e=>?_,fun o ho off=>?_,fun o o' ho po e=>?_,fun t n e=>?_,fun t b c z o hl e ho=>?_,fun t t' b c z c' z' h h' e e'=>r.gQ t t' b c z c' z' h h' e e'⟩, ?_⟩
 ·obtain⟨h3,h4⟩:=r.comm b o v e
  refine⟨?_,h4⟩
  rw[World.cell?_alloc_lt]
  ·exact h3
  ·exact r.Dn e
 ·rcases Nat.lt_or_ge o s.aj.length with ho | ho
  ·rw [List.getElem?_append_left ho]at e
   obtain⟨gv,T',h3,h4,h5,h6⟩:=r.obj o pk e
   refine⟨gv,T', ?_,h4,⟨h5.1,by rw[le.ty o ho];exact h5.2⟩,fun i d v e1 e2=>(h6 i d v e1 e2).mono le⟩
   rw[kA o ho];exact h3.keep (heap_alloc_old w _ _ h3.lt)
  ·rw [List.getElem?_append_right ho]at e
   have:o=s.aj.length:=by
    have:=(List.getElem?_eq_some_iff.1 e).1
    simp at this;omega
   subst this
   simp at e;subst e
   refine⟨vs,T, ?_,hl,⟨h1,by rw[akk];exact hx⟩,fun i d v e1 e2=>h2 i d v e1 e2⟩
   rw[akl];exact Ay _ (heap_alloc_new w _)
 ·simp at ho
  rcases Nat.lt_or_ge o s.aj.length with h3|h3
  ·rw[oE o h3];exact r.km o h3 off
  ·have:o=s.aj.length:=by omega
   subst this
   rw[dw];exact r.Rg (Nat.le_refl _) off
 ·simp at ho po
  rcases Nat.lt_or_ge o s.aj.length with h3|h3<;>rcases Nat.lt_or_ge o' s.aj.length with h4|h4
  ·rw[oE o h3,oE o' h4]at e;exact r.inj o o' h3 h4 e
  ·have:o'=s.aj.length:=by omega
   subst this
   rw[oE o h3,dw]at e
   have:=r.sb h3;omega
  ·have:o=s.aj.length:=by omega
   subst this
   rw[oE o' h4,dw]at e
   have:=r.sb h4;omega
  ·omega
 ·rcases r.tok t n e with h3 | ⟨b,cap,size,gv,T',h3,h4,h5⟩
  ·exact .inl h3
  ·exact .inr ⟨b,cap,size,gv,T',h3,by rw[heap_alloc_old w _ _ (lu h4)];exact h4,h5⟩
 ·simp at ho
  rcases Nat.lt_or_ge o s.aj.length with h3|h3
  ·rw[oE o h3];exact r.fM t b c z o hl e h3
  ·have:o=s.aj.length:=by omega
   subst this
   rw[dw]
   have:=r.u9 hl e;omega
 ·refine⟨le,fun b hb _ _=>heap_alloc_old w _ b hb,fun o h3 h4=> ?_,fun t b c z h e=> .inl ⟨h,c,z,e⟩,fun _ _ h=>(h rfl).elim,by simp,rfl,rfl,rfl⟩
  simp at h4
  rcases Nat.lt_or_ge o s.aj.length with h5|h5
  ·rcases h3 with h3 | h3
   ·omega
   ·exact(h3 (oE o h5)).elim
  have:o=s.aj.length:=by omega
  subst this
  rw[dw];exact Nat.le_refl _
theorem Rel.LX (r:Rel M s w) (ds:List D) (vs:Array Value) (T:TypeId) (x:Ob) (hk:x.plain) (hx : ∀ T',x.ty? = some T'→T'=T) (hl:vs.size=ds.length) (h1 : ∀ v∈vs,v.oneCell'=true)
 (h2 : ∀ (i:Nat) (d:D) (v:Value),ds[i]? = some d→vs[i]? = some v→RD (M.eJ s.aj.length w.heap.size x) {s with aj:=s.aj++ [ds]} d v) :
 Rel (M.eJ s.aj.length w.heap.size x) {s with aj:=s.aj++ [ds]} (w.alloc (.cells vs T))∧
 Ext M s w (M.eJ s.aj.length w.heap.size x) {s with aj:=s.aj++ [ds]} (w.alloc (.cells vs T)):=
 r.LW ds _ vs T x (fun hp e=>jx.of e hk) hx hl h1 h2
theorem Rel.eJ (r:Rel M s w) (ds:List D) (vs:Array Value) (T:TypeId) (hl:vs.size=ds.length) (h1 : ∀ v∈vs,v.oneCell'=true)
 (h2 : ∀ (i:Nat) (d:D) (v:Value),ds[i]? = some d→vs[i]? = some v→RD M s d v) :
 Rel (M.eJ s.aj.length w.heap.size) {s with aj:=s.aj++ [ds]} (w.alloc (.cells vs T))∧
 Ext M s w (M.eJ s.aj.length w.heap.size) {s with aj:=s.aj++ [ds]} (w.alloc (.cells vs T)):=
 r.LX ds vs T .any trivial (fun _ h=>by cases h) hl h1 fun i d v e1 e2=>(h2 i d v e1 e2).mono (uC s w.heap.size ds)
theorem s6 (cs:List D) (off:Nat) (r:List D) (h:off+r.length≤cs.length) (i:Nat) :
 (gR cs off r)[i]? = if i<off then cs[i]? else if i<off+r.length then r[i - off]? else cs[i]? :=by
 unfold gR
 have hl:(cs.take off).length=off:=by simp;omega
 split
 ·rename_i h1
  rw[List.append_assoc,List.getElem?_append_left (by omega),List.getElem?_take_of_lt h1]
 ·rename_i h1
  rw[List.append_assoc,List.getElem?_append_right (by omega),hl]
  split
  ·rename_i h2
   rw[List.getElem?_append_left (by omega)]
  ·rename_i h2
   rw[List.getElem?_append_right (by omega),List.getElem?_drop]
   congr 1;omega
theorem wa (cs:List D) (off:Nat) (r:List D) (h:off+r.length≤cs.length):(gR cs off r).length=cs.length:=by
 unfold gR;simp;omega
theorem Rel.Rh (P:Program) (r:Rel M s w) {o off:Nat} {cs:List D} (he:s.aj[o]? = some cs) (hk:(M.ob o).plain) (row:List D) (us:List Value) (hu:us.length=row.length) (kn:off+row.length≤cs.length)
 (h1 : ∀ u∈us,u.oneCell'=true) (h2 : ∀ (i:Nat) (d:D) (v:Value),row[i]? = some d→us[i]? = some v→RD M s d v) :
 ∃ w',(storeCells (⟨M.mu o,off,none⟩:Addr) us).run P w = .ok () w'∧Rel M {s with aj:=s.aj.set o (gR cs off row)} w'∧Ext M s w M {s with aj:=s.aj.set o (gR cs off row)} w':=by
 obtain⟨vs,T,hh,hs,⟨iM,hty⟩,jI⟩:=r.obj o cs he
 replace hh:=hh.cells hk
 have ho:o<s.aj.length:=(List.getElem?_eq_some_iff.1 he).1
 have iL:=run_storeCells_at P (M.mu o) off T us 0 vs w hh (by omega) h1
 simp only[Nat.add_zero]at iL
 have le:Le M s M {s with aj:=s.aj.set o (gR cs off row)}:=
  ⟨fun _ _ _ h=>h,by simp,fun _ _=> .refl _,Nat.le_refl _,fun t n _ h=>⟨n,h,Nat.le_refl _,fun _=>rfl⟩⟩
 generalize dw:(vs.toList.take off++us++vs.toList.drop (off+us.length)).toArray=jS at iL
 have s8:jS.size=vs.size:=by rw[← dw];simp;omega
 have gA : ∀ i,jS[i]? = if i<off then vs[i]? else if i<off+row.length then us[i - off]? else vs[i]? :=by
  intro i
  rw[← dw]
  simp only[List.getElem?_toArray]
  have hl:(vs.toList.take off).length=off:=by simp;omega
  split
  ·rename_i h3
   rw[List.append_assoc,List.getElem?_append_left (by omega),List.getElem?_take_of_lt h3];simp
  ·rename_i h3
   rw[List.append_assoc,List.getElem?_append_right (by omega),hl]
   split
   ·rename_i h4
    rw[List.getElem?_append_left (by omega)]
   ·rename_i h4
    rw[List.getElem?_append_right (by omega),List.getElem?_drop]
    rw[show off+us.length+(i - off - us.length)=i by omega];simp
 have nO : ∀ b,b≠M.mu o→(w.setRow (M.mu o) jS).heap[b]? = w.heap[b]? :=fun b hb=>setRow_other w (M.mu o) b _ hb
 refine⟨_,iL,⟨fun b q v e=>?_,fun o' ds e=>?_,fun q hq su=>r.km q (by simpa using hq) su,fun q q' hq lq e=>r.inj q q' (by simpa using hq) (by simpa using lq) e,fun t n e=>?_,
  fun t b c z q hl e hq=>r.fM t b c z q hl e (by simpa using hq),fun t t' b c z c' z' h h' e e'=>r.gQ t t' b c z c' z' h h' e e'⟩, ?_⟩
 ·obtain⟨h3,h4⟩:=r.comm b q v e
  refine⟨?_,h4⟩
  have hb:b≠M.mu o:=fun eq=>by subst eq;rw[r.km o ho q]at e;cases e
  rw[← h3]
  simp[World.cell?,nO b hb]
 ·rw [List.getElem?_set]at e
  split at e
  ·rename_i heq
   subst heq
   simp at e
   obtain⟨_,rfl⟩:=e
   refine⟨jS,T,jx.of (l:=M.loc o) (setRow_heap w (M.mu o) vs jS T (0,0) hh) hk,by rw[s8,hs,wa cs off row kn],⟨fun v hv=>?_,hty⟩,fun i d v e1 e2=>?_⟩
   ·rw [← dw]at hv
    simp at hv
    rcases hv with hv|hv|hv
    ·exact iM v (Array.mem_toList_iff.1 (List.mem_of_mem_take hv))
    ·exact h1 v hv
    ·exact iM v (Array.mem_toList_iff.1 (List.mem_of_mem_drop hv))
   ·rw [s6 cs off row kn]at e1
    rw[gA]at e2
    split at e1
    ·rename_i h3;simp only[h3,if_true]at e2;exact(jI i d v e1 e2).mono le
    ·rename_i h3
     simp only[h3,if_false]at e2
     split at e1
     ·rename_i h4;simp only[h4,if_true]at e2;exact(h2 _ d v e1 e2).mono le
     ·rename_i h4;simp only[h4,if_false]at e2;exact(jI i d v e1 e2).mono le
  ·rename_i fu
   obtain⟨gv,T',h3,h4,h5,h6⟩:=r.obj o' ds e
   have po:o'<s.aj.length:=(List.getElem?_eq_some_iff.1 e).1
   refine⟨gv,T', ?_,h4,h5,fun i d v e1 e2=>(h6 i d v e1 e2).mono le⟩
   exact h3.keep (nO _ (fun eq=>fu (r.inj o o' ho po eq.symm)))
 ·rcases r.tok t n e with h3 | ⟨b,cap,size,gv,T',h3,h4,h5⟩
  ·exact .inl h3
  ·refine .inr ⟨b,cap,size,gv,T',h3, ?_,h5⟩
   rw[nO b (fun eq=>r.fM t b cap size o ⟨n,e⟩ h3 ho eq.symm)];exact h4
 ·refine⟨le,fun b hb h3 _=>nO b (fun eq=>h3 o ho eq.symm),fun q h3 h4=> ?_,fun t b c z h e=> .inl ⟨h,c,z,e⟩,fun _ _ h=>(h rfl).elim,by simp,rfl,rfl,rfl⟩
  simp at h4;rcases h3 with h3|h3;omega;exact(h3 rfl).elim
def Map.gK (M:Map) (b n:Nat) (vs:Array Value):Map:= {M with G:=fun b' o=>if b'=b then(if o<n then vs[o]? else none)else M.G b' o}
theorem US (r:Rel M s w) (n:Nat) (vs:Array Value):Le M s (M.gK w.heap.size n vs) s:=
 ⟨fun b o v h=>by
  have hb:b≠w.heap.size:=fun e=>by have:=r.Dn h;omega
  simp[Map.gK,hb,h],Nat.le_refl _,fun _ _=> .refl _,Nat.le_refl _,fun t n _ h=>⟨n,h,Nat.le_refl _,fun _=>rfl⟩⟩
theorem Rel.gK (r:Rel M s w) (n:Nat) (vs:Array Value) (T:TypeId) (fr:Nat×Nat) (h1 : ∀ v∈vs,v.oneCell'=true) :
 Rel (M.gK w.heap.size n vs) s (w.alloc (.cells vs T fr))∧Ext M s w (M.gK w.heap.size n vs) s (w.alloc (.cells vs T fr)):=by
 have le:=US r n vs
 have hold : ∀ b,b<w.heap.size→∀ o,(M.gK w.heap.size n vs).G b o=M.G b o:=fun b hb o=>by
  have:b≠w.heap.size:=by omega
  simp[Map.gK,this]
 refine⟨⟨fun b o v e=>?_,fun o ds e=>?_,fun o ho off=>?_,r.inj,fun t k e=>?_,r.fM,r.gQ⟩, ?_⟩
 ·by_cases hb:b=w.heap.size
  ·subst hb
   simp[Map.gK]at e
   obtain⟨_,e⟩:=e
   refine⟨by rw[jy (heap_alloc_new w _)];exact e,h1 v (Array.mem_of_getElem? e)⟩
  ·simp [Map.gK,hb]at e
   obtain⟨h3,h4⟩:=r.comm b o v e
   refine⟨?_,h4⟩
   rw[World.cell?_alloc_lt]
   ·exact h3
   ·exact r.Dn e
 ·obtain⟨gv,T',h3,h4,h5,h6⟩:=r.obj o ds e
  exact⟨gv,T',h3.keep (heap_alloc_old w _ _ h3.lt),h4,h5,fun i d v e1 e2=>(h6 i d v e1 e2).mono le⟩
 ·rw [hold]
  ·exact r.km o ho off
  ·exact r.sb ho
 ·rcases r.tok t k e with h3 | ⟨b,cap,size,gv,T',h3,h4,h5,h6,h7⟩
  ·exact .inl h3
  ·exact .inr ⟨b,cap,size,gv,T',h3,by rw[heap_alloc_old w _ _ (lu h4)];exact h4,h5,h6,fun off ho=>by rw[hold b (lu h4)];exact h7.1 off ho,h7.2⟩
 ·refine⟨le,fun b hb _ _=>heap_alloc_old w _ b hb,fun o h3 h4=>by rcases h3 with h3 | h3;omega;exact(h3 rfl).elim,fun t b c z h e=> .inl ⟨h,c,z,e⟩,fun b o h=> ?_,by simp,rfl,rfl,rfl⟩
  rcases Nat.lt_or_ge b w.heap.size with hb|hb
  ·exact(h (hold b hb o)).elim
  ·exact .inl hb
def Map.fN (M:Map) (t:Nat) (x:Option (Nat×Nat×Nat)):Map:= {M with be:=fun t'=>if t'=t then x else M.be t'}
theorem Rel.abn (r:Rel M s w) (n b cap size:Nat) (vs:Array Value) (T:TypeId) (hb:w.heap[b]? = some (.cells vs T (0,0))) (dL:vs.size=cap*zs size) (hn:n≤cap) (hy:size=0→T=q7)
 (hG : ∀ off,n*zs size≤off→M.G b off=none) (ho : ∀ o,o<s.aj.length→M.mu o≠b) (ht : ∀ t c z,s.live t→M.be t≠some (b,c,z)) :
 Rel (M.fN s.az.length (some (b,cap,size))) {s with az:=s.az++ [some n]} w∧Le M s (M.fN s.az.length (some (b,cap,size))) {s with az:=s.az++ [some n]}:=by
 have jz : ∀ t,St.live {s with az:=s.az++ [some n]} t→s.live t∨t=s.az.length:=by
  rintro t ⟨k,hk⟩
  rcases Nat.lt_or_ge t s.az.length with h|h
  ·rw[List.getElem?_append_left h]at hk;exact .inl ⟨k,hk⟩
  ·have:=(List.getElem?_eq_some_iff.1 hk).1
   simp at this;exact .inr (by omega)
 have hD : ∀ t,s.live t→t<s.az.length:=fun t ⟨k,hk⟩=>(List.getElem?_eq_some_iff.1 hk).1
 have hold : ∀ t,t<s.az.length→(M.fN s.az.length (some (b,cap,size))).be t=M.be t:=fun t h=>by simp[Map.fN];omega
 have dw:(M.fN s.az.length (some (b,cap,size))).be s.az.length=some (b,cap,size):=by simp[Map.fN]
 have le:Le M s (M.fN s.az.length (some (b,cap,size))) {s with az:=s.az++ [some n]}:=
  ⟨fun _ _ _ h=>h,Nat.le_refl _,fun _ _=> .refl _,by simp,fun t k h e=>by
   rw[List.getElem?_append_left h]at e
   exact⟨k,e,Nat.le_refl _,fun _=>hold t h⟩⟩
 refine⟨⟨r.comm,fun o ds e=>?_,r.km,r.inj,fun t k e=>?_,fun t b' c z o hl e po=>?_,fun t t' b' c z c' z' h h' e e'=>?_⟩,le⟩
 ·obtain⟨gv,T',h3,h4,h5,h6⟩:=r.obj o ds e
  exact⟨gv,T',h3,h4,h5,fun i d v e1 e2=>(h6 i d v e1 e2).mono le⟩
 ·rcases Nat.lt_or_ge t s.az.length with h | h
  ·rw [List.getElem?_append_left h]at e
   rw[hold t h];exact r.tok t k e
  ·have:=(List.getElem?_eq_some_iff.1 e).1
   simp at this
   have:t=s.az.length:=by omega
   subst this
   simp at e;subst e
   exact .inr ⟨b,cap,size,vs,T,dw,hb,dL,hn,hG,hy⟩
 ·rcases jz t hl with h | h
  ·rw[hold t (hD t h)]at e;exact r.fM t b' c z o h e po
  ·subst h;rw[dw]at e;cases e;exact ho o po
 ·rcases jz t h with h | h <;> rcases jz t' h' with h' | h'
  ·rw[hold t (hD t h)]at e;rw[hold t' (hD t' h')]at e';exact r.gQ t t' b' c z c' z' h h' e e'
  ·subst h';rw[dw]at e';cases e';rw[hold t (hD t h)]at e;exact(ht t c z h e).elim
  ·subst h;rw[dw]at e;cases e;rw[hold t' (hD t' h')]at e';exact(ht t' c' z' h' e').elim
  ·omega
theorem Rel.akm (r:Rel M s w) (t n n' b cap size:Nat) (vs:Array Value) (T:TypeId) (G5:s.az[t]? = some (some n)) (hnn:n<n') (hb:w.heap[b]? = some (.cells vs T (0,0))) (dL:vs.size=cap*zs size) (hn:n'≤cap) (hy:size=0→T=q7)
 (hG : ∀ off,n'*zs size≤off→M.G b off=none) (ho : ∀ o,o<s.aj.length→M.mu o≠b) (ht : ∀ t c z,s.live t→M.be t≠some (b,c,z)) :
 Rel (M.fN t (some (b,cap,size))) {s with az:=s.az.set t (some n')} w∧Le M s (M.fN t (some (b,cap,size))) {s with az:=s.az.set t (some n')}:=by
 have wI:t<s.az.length:=(List.getElem?_eq_some_iff.1 G5).1
 have jz : ∀ q,St.live {s with az:=s.az.set t (some n')} q→s.live q:=by
  rintro q ⟨k,hk⟩
  rw[List.getElem?_set]at hk
  split at hk
  ·rename_i h;subst h;exact⟨n,G5⟩
  ·exact⟨k,hk⟩
 have hold : ∀ q,q≠t→(M.fN t (some (b,cap,size))).be q=M.be q:=fun q h=>by simp[Map.fN,h]
 have dw:(M.fN t (some (b,cap,size))).be t=some (b,cap,size):=by simp[Map.fN]
 have le:Le M s (M.fN t (some (b,cap,size))) {s with az:=s.az.set t (some n')}:=
  ⟨fun _ _ _ h=>h,Nat.le_refl _,fun _ _=> .refl _,by simp,fun q k h e=>by
   rw[List.getElem?_set]at e
   split at e
   ·rename_i h2;subst h2
    simp at e;subst e
    exact⟨n,G5,by omega,fun h=>by omega⟩
   ·rename_i h2
    exact⟨k,e,Nat.le_refl _,fun _=>hold q (fun h=>h2 h.symm)⟩⟩
 refine⟨⟨r.comm,fun o ds e=>?_,r.km,r.inj,fun q k e=>?_,fun q b' c z o hl e po=>?_,fun q q' b' c z c' z' h h' e e'=>?_⟩,le⟩
 ·obtain⟨gv,T',h3,h4,h5,h6⟩:=r.obj o ds e
  exact⟨gv,T',h3,h4,h5,fun i d v e1 e2=>(h6 i d v e1 e2).mono le⟩
 ·rw [List.getElem?_set]at e
  split at e
  ·rename_i h2;subst h2
   simp at e;subst e
   exact .inr ⟨b,cap,size,vs,T,dw,hb,dL,hn,hG,hy⟩
  ·rename_i h2
   rw[hold q (fun h=>h2 h.symm)];exact r.tok q k e
 ·by_cases h:q=t
  ·subst h;rw[dw]at e;cases e;exact ho o po
  ·rw[hold q h]at e;exact r.fM q b' c z o (jz q hl) e po
 ·by_cases h1:q=t <;> by_cases h2:q'=t
  ·omega
  ·subst h1;rw[dw]at e;cases e;rw[hold q' h2]at e';exact(ht q' c' z' (jz q' h') e').elim
  ·subst h2;rw[dw]at e';cases e';rw[hold q h1]at e;exact(ht q c z (jz q h) e).elim
  ·rw[hold q h1]at e;rw[hold q' h2]at e';exact r.gQ q q' b' c z c' z' (jz q h) (jz q' h') e e'
def Map.fix (M:Map) (b lo:Nat) (us:List Value):Map:=
 {M with G:=fun b' o=>if b'=b∧lo≤o∧o<lo+us.length then us[o - lo]? else M.G b' o}
theorem Rel.akn (r:Rel M s w) (t n m b cap z size:Nat) (us:List Value) (hz:zs z=size) (G5:s.az[t]? = some (some n)) (l7:M.be t=some (b,cap,z)) (Fp:us.length=m*size) (jo:n+m≤cap) (hm:0<m)
 (h1 : ∀ u∈us,u.oneCell'=true) (vs:Array Value) (T:TypeId) (hh:w.heap[b]? = some (.cells vs T (0,0))) (dL:vs.size=cap*size) (hy:z=0→T=q7) :
 Rel (M.fix b (n*size) us) {s with az:=s.az.set t (some (n+m))} (w.setRow b (vs.toList.take (n*size)++us++vs.toList.drop (n*size+us.length)).toArray)∧
 Ext M s w (M.fix b (n*size) us) {s with az:=s.az.set t (some (n+m))} (w.setRow b (vs.toList.take (n*size)++us++vs.toList.drop (n*size+us.length)).toArray):=by
 have wI:t<s.az.length:=(List.getElem?_eq_some_iff.1 G5).1
 have Az:s.live t:=⟨n,G5⟩
 have Ri : ∀ off,n*size≤off→M.G b off=none:=by
  rcases r.tok t n G5 with ⟨h3,_⟩|⟨b',sv,Bt,gv,T',h3,h4,h5,h6,h7⟩
  ·rw[l7]at h3;cases h3
  ·rw[l7]at h3;cases h3;rw[← hz];exact h7.1
 have kn:n*size+us.length≤vs.size:=by rw[Fp,dL, ← Nat.add_mul];exact Nat.mul_le_mul_right _ jo
 have jz : ∀ q,St.live {s with az:=s.az.set t (some (n+m))} q→s.live q:=by
  rintro q ⟨k,hk⟩
  rw[List.getElem?_set]at hk
  split at hk
  ·rename_i h;subst h;exact Az
  ·exact⟨k,hk⟩
 generalize dw:(vs.toList.take (n*size)++us++vs.toList.drop (n*size+us.length)).toArray=jS
 have s8:jS.size=vs.size:=by rw[← dw];simp;omega
 have gA : ∀ i,jS[i]? = if i<n*size then vs[i]? else if i<n*size+us.length then us[i - n*size]? else vs[i]? :=by
  intro i
  rw[← dw]
  simp only[List.getElem?_toArray]
  have hl:(vs.toList.take (n*size)).length=n*size:=by simp;omega
  split
  ·rename_i h3
   rw[List.append_assoc,List.getElem?_append_left (by omega),List.getElem?_take_of_lt h3];simp
  ·rename_i h3
   rw[List.append_assoc,List.getElem?_append_right (by omega),hl]
   split
   ·rename_i h4
    rw[List.getElem?_append_left (by omega)]
   ·rename_i h4
    rw[List.getElem?_append_right (by omega),List.getElem?_drop]
    rw[show n*size+us.length+(i - n*size - us.length)=i by omega];simp
 have eI:(w.setRow b jS).heap[b]? = some (.cells jS T (0,0)):=setRow_heap w b vs jS T (0,0) hh
 have nO : ∀ q,q≠b→(w.setRow b jS).heap[q]? = w.heap[q]? :=fun q hq=>setRow_other w b q _ hq
 have le:Le M s (M.fix b (n*size) us) {s with az:=s.az.set t (some (n+m))}:=by
  refine⟨fun b' o v h=>?_,Nat.le_refl _,fun _ _=> .refl _,by simp,fun q k h e=>?_⟩
  ·show(if b'=b∧n*size≤o∧o<n*size+us.length then us[o - n*size]? else M.G b' o)=some v
   rw[if_neg]
   ·exact h
   ·rintro⟨rfl,h3,_⟩;rw[Ri o h3]at h;cases h
  ·rw [List.getElem?_set]at e
   split at e
   ·rename_i h2;subst h2
    simp at e;subst e
    exact⟨n,G5,by omega,fun h=>by omega⟩
   ·exact⟨k,e,Nat.le_refl _,fun _=>rfl⟩
 have mY : ∀ b' o,b'≠b→(M.fix b (n*size) us).G b' o=M.G b' o:=fun b' o h=>by simp[Map.fix,h]
 refine⟨⟨fun b' o v e=>?_,fun o ds e=>?_,fun o ho off=>?_,r.inj,fun q k e=>?_,fun q b' c z o hl e po=>r.fM q b' c z o (jz q hl) e po,
  fun q q' b' c z c' z' h h' e e'=>r.gQ q q' b' c z c' z' (jz q h) (jz q' h') e e'⟩, ?_⟩
 ·by_cases hb:b'=b
  ·subst hb
   rw[jy eI,gA]
   have e':(if b'=b'∧n*size≤o∧o<n*size+us.length then us[o - n*size]? else M.G b' o)=some v:=e
   by_cases h3:n*size≤o
   ·by_cases h4:o<n*size+us.length
    ·rw [if_pos ⟨rfl,h3,h4⟩]at e'
     rw[if_neg (by omega),if_pos h4]
     exact⟨e',h1 v (List.mem_of_getElem? e')⟩
    ·rw[if_neg (fun h=>h4 h.2.2),Ri o h3]at e';cases e'
   ·rw [if_neg (fun h=>h3 h.2.1)]at e'
    obtain⟨h5,h6⟩:=r.comm b' o v e'
    rw[jy hh]at h5
    rw[if_pos (by omega)]
    exact⟨h5,h6⟩
  ·rw [mY b' o hb]at e
   obtain⟨h5,h6⟩:=r.comm b' o v e
   refine⟨?_,h6⟩
   rw[← h5]
   simp[World.cell?,nO b' hb]
 ·obtain⟨gv,T',h3,h4,h5,h6⟩:=r.obj o ds e
  have ho:o<s.aj.length:=(List.getElem?_eq_some_iff.1 e).1
  refine⟨gv,T', ?_,h4,h5,fun i d v e1 e2=>(h6 i d v e1 e2).mono le⟩
  exact h3.keep (nO _ (r.fM t b cap z o Az l7 ho))
 ·show(M.fix b (n*size) us).G (M.mu o) off=none
  rw[mY _ _ (r.fM t b cap z o Az l7 ho)];exact r.km o ho off
 ·rw [List.getElem?_set]at e
  split at e
  ·rename_i h2;subst h2
   simp at e;subst e
   refine .inr ⟨b,cap,z,jS,T,l7,eI,by rw[s8,dL,hz],jo,fun off ho=>?_,hy⟩
   rw[hz]at ho
   show(if b=b∧n*size≤off∧off<n*size+us.length then us[off - n*size]? else M.G b off)=none
   rw[Nat.add_mul]at ho
   rw[if_neg (by rintro⟨_,_,h⟩;omega)]
   exact Ri off (by omega)
  ·rename_i h2
   rcases r.tok q k e with h3|⟨b',sv,Bt,gv,T',h3,h4,h5,h6,h7⟩
   ·exact .inl h3
   ·have fu:b'≠b:=fun h=>h2 (r.gQ t q b cap z sv Bt Az ⟨k,e⟩ l7 (by rw [h3,h]))
    exact .inr ⟨b',sv,Bt,gv,T',h3,by rw[nO b' fu];exact h4,h5,h6,fun off ho=>by rw[mY b' off fu];exact h7.1 off ho,h7.2⟩
 ·refine⟨le,fun q _ _ h4=>nO q (fun h=>h4 t cap z Az (by rw [l7,h])),fun o h3 h4=>by simp at h4;rcases h3 with h3 | h3;omega;exact(h3 rfl).elim,fun q b' c z h e=> .inl ⟨jz q h,c,z,e⟩,fun b' o h=> ?_,by simp,rfl,rfl,rfl⟩
  by_cases hb:b'=b
  ·exact .inr ⟨t,cap,z,Az,by rw[l7,hb]⟩
  ·exact(h (mY b' o hb)).elim
theorem Rel.freeze (r:Rel M s w) {b:Nat} (off n:Nat) (ho : ∀ o,o<s.aj.length→M.mu o≠b) (ht : ∀ t c z,s.live t→M.be t≠some (b,c,z)) :
 Rel M s (w.freeze ⟨b,off,none⟩ n)∧(∀ q,q≠b→(w.freeze ⟨b,off,none⟩ n).heap[q]? = w.heap[q]?)∧(w.freeze ⟨b,off,none⟩ n).heap.size=w.heap.size∧
 (w.freeze ⟨b,off,none⟩ n).os=w.os∧(w.freeze ⟨b,off,none⟩ n).tape=w.tape∧(w.freeze ⟨b,off,none⟩ n).output=w.output:=by
 by_cases hn:n=0
 ·simp[World.freeze,hn,r]
 ·have hh : ∀ q,q≠b→(w.freeze ⟨b,off,none⟩ n).heap[q]? = w.heap[q]? :=fun q hq=>by
   simp[World.freeze,hn,Array.getElem?_modify,Ne.symm hq]
  have jA : ∀ q o,(w.freeze ⟨b,off,none⟩ n).cell? ⟨q,o,none⟩=w.cell? ⟨q,o,none⟩:=by
   intro q o
   by_cases hq:q=b
   ·subst hq
    unfold World.cell?
    simp only[World.freeze,hn,if_false,Array.getElem?_modify,if_true]
    cases h:w.heap[q]? with
    |none=>rfl
    |some x=>cases x<;>rfl
   ·simp[World.cell?,hh q hq]
  refine⟨⟨fun q o v e=>?_,fun o ds e=>?_,r.km,r.inj,fun t k e=>?_,r.fM,r.gQ⟩,hh,by simp[World.freeze,hn],by simp[World.freeze,hn],by simp[World.freeze,hn],by simp[World.freeze,hn]⟩
  ·rw[jA];exact r.comm q o v e
  ·obtain⟨vs,T,h1,h2⟩:=r.obj o ds e
   exact⟨vs,T,h1.keep (hh _ (ho o (List.getElem?_eq_some_iff.1 e).1)),h2⟩
  ·rcases r.tok t k e with h3 | ⟨b',cap,size,vs,T,h3,h4,h5⟩
   ·exact .inl h3
   ·refine .inr ⟨b',cap,size,vs,T,h3, ?_,h5⟩
    rw[hh]
    ·exact h4
    ·rintro rfl;exact ht t cap size ⟨k,e⟩ h3
theorem Rel.ako (r:Rel M s w) (t:Nat):Rel M {s with az:=s.az.set t none} w∧Le M s M {s with az:=s.az.set t none}:=by
 have jz : ∀ q,St.live {s with az:=s.az.set t none} q→s.live q:=by
  rintro q ⟨k,hk⟩
  rw[List.getElem?_set]at hk
  split at hk
  ·split at hk<;>simp at hk
  ·exact⟨k,hk⟩
 have wb : ∀ (q k:Nat),(s.az.set t none)[q]? = some (some k)→s.az[q]? = some (some k):=by
  intro q k e
  rw[List.getElem?_set]at e
  split at e
  ·split at e<;>simp at e
  ·exact e
 have le:Le M s M {s with az:=s.az.set t none}:=
  ⟨fun _ _ _ h=>h,Nat.le_refl _,fun _ _=> .refl _,by simp,fun q k _ e=>⟨k,wb q k e,Nat.le_refl _,fun _=>rfl⟩⟩
 refine⟨⟨r.comm,fun o ds e=>?_,r.km,r.inj,fun q k e=>r.tok q k (wb q k e),fun q b' c z o hl e po=>r.fM q b' c z o (jz q hl) e po,
  fun q q' b' c z c' z' h h' e e'=>r.gQ q q' b' c z c' z' (jz q h) (jz q' h') e e'⟩,le⟩
 obtain⟨gv,T',h3,h4,h5,h6⟩:=r.obj o ds e
 exact⟨gv,T',h3,h4,h5,fun i d v e1 e2=>(h6 i d v e1 e2).mono le⟩
end
end Go.Abs
namespace Go.Abs
section
variable {M:Map} {s:St} {w:World}
theorem RD.jf {k:IntKind} {n:Int} {v:Value} (h:RD M s (.int k n) v):v = .int k n:=by cases h;rfl
theorem RD.pF {b:Bool} {v:Value} (h:RD M s (.bool b) v):v = .bool b:=by cases h;rfl
theorem RD.mR {l:List UInt8} {v:Value} (h:RD M s (.str l) v):v = .string ⟨⟨l⟩⟩:=by cases h;rfl
theorem RD.uD {v:Value} (h:RD M s .eY v):v = .pointer none:=by cases h;rfl
theorem RD.uE {o off:Nat} {v:Value} (h:RD M s (.ptr o off) v):v = .pointer (some ⟨M.mu o,off,none⟩)∧o<s.aj.length:=by
 cases h with|ptr _ _ h hm=>exact⟨rfl,h⟩
theorem RD.Dp {o off:Nat} {v:Value} (h:RD M s (.ptr o off) v):(M.ob o).plain:=by cases h with|ptr _ _ h hm=>exact hm
theorem RD.LY {o:Nat} {v:Value} (h:RD M s (.gW o) v):v = .map (some (M.mu o))∧o<s.aj.length∧M.ob o = .map:=by cases h with|gW _ h hm=>exact⟨rfl,h,hm⟩
theorem RD.uF {z o g len:Nat} {v:Value} (h:RD M s (.dH z o g len) v) : ∃ b cap A,v = .slice (some ⟨b,0,none⟩) len cap∧o<s.aj.length∧M.ob o = .arr z A∧A g=some (b,cap)∧len≤cap:=by
 cases h with|dH _ _ _ _ b cap A h hm ha hl=>exact⟨b,cap,A,rfl,h,hm,ha,hl⟩
theorem RD.FT {o g off:Nat} {v:Value} (h:RD M s (.gd o g off) v) : ∃ z b cap A,v = .pointer (some ⟨b,off,none⟩)∧o<s.aj.length∧M.ob o = .arr z A∧A g=some (b,cap):=by
 cases h with|gd z _ _ _ b cap A h hm ha=>exact⟨z,b,cap,A,rfl,h,hm,ha⟩
theorem RD.FU {z:Nat} {v:Value} (h:RD M s (.fk z) v) : ∃ a,v = .slice a 0 0:=by cases h with|fk _ a=>exact⟨a,rfl⟩
theorem RD.PX {f:Nat} {ds:List D} {v:Value} (h:RD M s (.ix f ds) v) : ∃ vs:Array Value,v = .func (.func f) #[] vs∧ds.length=vs.size∧
 ∀ (i:Nat) (d:D) (v:Value),ds[i]? = some d→vs[i]? = some v→RD M s d v:=by
 cases h with|ix _ _ vs h1 h2=>exact⟨vs,rfl,h1,h2⟩
theorem RD.Bu {row:List D} {off:Nat} {v:Value} (h:RD M s (.dN row off) v) : ∃ b k,v = .pointer (some ⟨b,k+off,none⟩)∧
 (∀ (i:Nat) (d:D),row[i]? = some d→∃ u,M.G b (k+i)=some u)∧(∀ (i:Nat) (d:D) (u:Value),row[i]? = some d→M.G b (k+i)=some u→RD M s d u):=by
 cases h with|dN _ _ b k h1 h2=>exact⟨b,k,rfl,h1,h2⟩
theorem RD.IZ {ds:List D} {v:Value} (h:RD M s (.agg ds) v) : ∃ vs:Array Value,v = .agg vs∧ds.length=vs.size∧(∀ v∈vs,v.oneCell'=true)∧
 ∀ (i:Nat) (d:D) (v:Value),ds[i]? = some d→vs[i]? = some v→RD M s d v:=by
 cases h with|agg _ vs h1 h2 h3=>exact⟨vs,rfl,h1,h2,h3⟩
theorem RD.JT {ds:List D} {v:Value} (h:RD M s (.tuple ds) v) : ∃ vs:Array Value,v = .tuple vs∧ds.length=vs.size∧
 ∀ (i:Nat) (d:D) (v:Value),ds[i]? = some d→vs[i]? = some v→RD M s d v:=by
 cases h with|tuple _ vs h1 h2=>exact⟨vs,rfl,h1,h2⟩
theorem RD.undef:RD M s (.tuple []) Go.undef:= .tuple [] #[] rfl (fun i d v h=>by simp at h)
theorem RD.kb {g:Tag} {z:Nat} {rows:List (List D)} {v:Value} (h:RD M s (.slice g z rows) v) :
 (rows = []∧v = .slice none 0 0∧jL M s g z 0 none 0)∨(rows = []∧g = .shared∧∃ a cap,v = .slice (some a) 0 cap)∨
 ∃ b k cap,v = .slice (some ⟨b,k,none⟩) rows.length cap∧rows.length≤cap∧(∀ row∈rows,row.length=z)∧
  (∀ (i:Nat) (row:List D) (j:Nat) (d:D),rows[i]? = some row→row[j]? = some d→∃ u,M.G b (k+(i*z+j))=some u)∧
  (∀ (i:Nat) (row:List D) (j:Nat) (d:D) (u:Value),rows[i]? = some row→row[j]? = some d→M.G b (k+(i*z+j))=some u→RD M s d u)∧
  jL M s g z rows.length (some (b,k)) cap:=by
 cases h with
 |jH _ _ cap hc ht=>subst hc;exact .inl ⟨rfl,rfl,ht⟩
 |mX _ a cap=>exact .inr (.inl ⟨rfl,rfl,a,cap,rfl⟩)
 |slice _ _ _ b k cap hl hs h1 h2 ht=>exact .inr (.inr ⟨b,k,cap,rfl,hl,hs,h1,h2,ht⟩)
theorem RD.row {d:D} {v:Value} (h:RD M s d v) {r:List D} (hr:d.row=some r):v.cells.size=r.length∧(∀ u∈v.cells,u.oneCell'=true)∧
 ∀ (i:Nat) (d':D) (u:Value),r[i]? = some d'→v.cells[i]? = some u→RD M s d' u:=by
 have one : ∀ (x:Value),x.oneCell'=true→x.cells = #[x]:=by intro x hx;cases x<;>first|rfl|(simp[Value.oneCell']at hx)
 have go : ∀ (x:Value),x.oneCell'=true→RD M s d x→d.row=some [d]→x.cells.size=r.length∧(∀ u∈x.cells,u.oneCell'=true)∧
  ∀ (i:Nat) (d':D) (u:Value),r[i]? = some d'→x.cells[i]? = some u→RD M s d' u:=by
  intro x hx hd h1
  rw[h1]at hr;cases hr
  rw[one x hx]
  refine⟨rfl,by simp[hx],fun i d' u e1 e2=>?_⟩
  cases i with
  |zero=>simp at e1 e2;subst e1;subst e2;exact hd
  |succ i=>simp at e1
 cases h with
 |junk v=>cases hr
 |int k n=>exact go _ rfl (.int k n) rfl
 |bool b=>exact go _ rfl (.bool b) rfl
 |str l=>exact go _ rfl (.str l) rfl
 |eY=>exact go _ rfl .eY rfl
 |val v hv=>exact go _ hv (.val v hv) rfl
 |gb T o v h ht hv=>exact go _ (by rcases hv with rfl|rfl<;>rfl) (.gb T o v h ht hv) rfl
 |ptr o off h hm=>exact go _ rfl (.ptr o off h hm) rfl
 |ix f ds vs hl h=>exact go _ rfl (.ix f ds vs hl h) rfl
 |gW o h hm=>exact go _ rfl (.gW o h hm) rfl
 |dN row off b k h1 h2=>exact go _ rfl (.dN row off b k h1 h2) rfl
 |jH g z cap hc ht=>exact go _ rfl (.jH g z cap hc ht) rfl
 |mX z a cap=>exact go _ rfl (.mX z a cap) rfl
 |slice g z rows b k cap hl hs h1 h2 ht=>exact go _ rfl (.slice g z rows b k cap hl hs h1 h2 ht) rfl
 |dH z o g len b cap A h hm ha hl=>exact go _ rfl (.dH z o g len b cap A h hm ha hl) rfl
 |gd z o g off b cap A h hm ha=>exact go _ rfl (.gd z o g off b cap A h hm ha) rfl
 |fk z a=>exact go _ rfl (.fk z a) rfl
 |agg cells vs hl h1 h2=>cases hr;exact⟨hl.symm,h1,h2⟩
 |tuple ds vs hl h1=>cases hr
theorem sc {v:Value} {d:D} (h:uB v=some d):RD M s d v∧v.oneCell'=true:=by
 unfold uB at h
 split at h<;>first|(cases h;done)|skip
 ·cases h;exact⟨.int _ _,rfl⟩
 ·cases h;exact⟨.bool _,rfl⟩
 ·cases h;exact⟨.str _,rfl⟩
 ·cases h;exact⟨.eY,rfl⟩
 ·cases h;exact⟨.jH _ _ 0 rfl rfl,rfl⟩
 ·cases h;exact⟨.val _ rfl,rfl⟩
 ·cases h;exact⟨.val _ rfl,rfl⟩
 ·cases h;exact⟨.val _ rfl,rfl⟩
theorem mS : ∀ {vs:List Value} {ds:List D},pE vs=some ds→ds.length=vs.length∧(∀ v∈vs,v.oneCell'=true)∧
 ∀ (i:Nat) (d:D) (v:Value),ds[i]? = some d→vs[i]? = some v→RD M s d v
 | [],ds,h=>by cases h;exact⟨rfl,by simp,by simp⟩
 | v::r,ds,h=>by
  unfold pE at h
  split at h
  ·rename_i d pk h1 h2
   cases h
   obtain⟨a,b⟩:=sc (M:=M) (s:=s) h1
   obtain⟨i1,i2,i3⟩:=mS h2
   refine⟨by simp[i1],fun u hu=>?_,fun i d' u e1 e2=>?_⟩
   ·rcases List.mem_cons.1 hu with rfl | hu
    ·exact b
    ·exact i2 u hu
   ·cases i with
    |zero=>simp at e1 e2;subst e1;subst e2;exact a
    |succ i=>simp at e1 e2;exact i3 i d' u e1 e2
  ·cases h
theorem I0 {v:Value} {d:D} (h:FQ v=some d):RD M s d v∧v.oneCell'=true:=by
 unfold FQ at h
 split at h
 ·cases h;exact⟨.val _ rfl,rfl⟩
 ·exact sc h
theorem yF : ∀ {vs:List Value} {ds:List D},yE vs=some ds→ds.length=vs.length∧(∀ v∈vs,v.oneCell'=true)∧
 ∀ (i:Nat) (d:D) (v:Value),ds[i]? = some d→vs[i]? = some v→RD M s d v
 | [],ds,h=>by cases h;exact⟨rfl,by simp,by simp⟩
 | v::r,ds,h=>by
  unfold yE at h
  split at h
  ·rename_i d pk h1 h2
   cases h
   obtain⟨g1,g2⟩:=I0 (M:=M) (s:=s) h1
   obtain⟨k1,k2,k3⟩:=yF h2
   refine⟨by simp[k1],fun u hu=>?_,fun i d' u e1 e2=>?_⟩
   ·rcases List.mem_cons.1 hu with rfl | hu
    ·exact g2
    ·exact k2 u hu
   ·cases i with
    |zero=>simp at e1 e2;subst e1;subst e2;exact g1
    |succ i=>exact k3 i d' u (by simpa using e1) (by simpa using e2)
  ·cases h
theorem Fq {b:Bool} {vs:List Value} {ds:List D} (h:Rf b vs=some ds):ds.length=vs.length∧(∀ v∈vs,v.oneCell'=true)∧
 ∀ (i:Nat) (d:D) (v:Value),ds[i]? = some d→vs[i]? = some v→RD M s d v:=by
 unfold Rf at h
 split at h
 ·exact yF h
 ·exact mS h
theorem Rj {v:Value} {d:D} (h:Rc v=some d):RD M s d v:=by
 unfold Rc at h
 split at h
 ·rename_i cs
  cases hc:pE cs.toList with
  |none=>rw[hc]at h;cases h
  |some ds=>
   rw[hc]at h;cases h
   obtain⟨h1,h2,h3⟩:=mS (M:=M) (s:=s) hc
   exact .agg ds cs (by simpa using h1) (fun v hv=>h2 v (by simpa using hv)) (fun i d v e1 e2=>h3 i d v e1 (by simpa using e2))
 ·cases h;exact .undef
 ·exact(sc h).1
def nP (M:Map) (s:St) (tm:Tm) (tmps:Array Value):Prop:=∀ t,RD M s (tm.get t) (tmps.getD t Go.undef)
theorem nP.mono {M':Map} {s':St} {tm:Tm} {tmps:Array Value} (h:nP M s tm tmps) (le:Le M s M' s'):nP M' s' tm tmps:=fun t=>(h t).mono le
theorem cf {x:Operand} {y:X} (h:cX x=some y) {tm:Tm} {act:Act} (hr:nP M s tm act.tmps):RD M s (y.ev tm) (act.eval x):=by
 unfold cX at h
 split at h
 ·cases h;exact hr _
 ·rename_i v
  cases hv:Rc v with
  |none=>rw[hv]at h;cases h
  |some d=>rw[hv]at h;cases h;exact Rj hv
 ·cases h;exact .ix _ [] #[] rfl (by simp)
 ·cases h
theorem Tm.I1 (tm:Tm) (t:Nat) (d:D) (u:Nat):(tm.set t d).get u=if u=t then d else tm.get u:=by
 induction tm with
 |nil=>
  simp only[Tm.set,Tm.get]
  by_cases h:t=u
  ·simp[h]
  ·rw[if_neg h,if_neg (fun e=>h e.symm)]
 | cons p r ih=>
  obtain⟨k,e⟩:=p
  simp only[Tm.set]
  split
  ·rename_i h
   subst h
   simp only[Tm.get]
   by_cases h:k=u
   ·simp[h]
   ·rw[if_neg h,if_neg (fun e=>h e.symm),if_neg h]
  ·rename_i h
   simp only[Tm.get,ih]
   by_cases h1:k=u
   ·subst h1;simp[h]
   ·simp[h1]
theorem nP.put {tm:Tm} {act:Act} (h:nP M s tm act.tmps) {dst:Option Nat} (hd : ∀ t,dst=some t→t<act.tmps.size) {d:D} {v:Value} (hv:RD M s d v) :
 nP M s (tm.put dst d) (act.put dst v).tmps:=by
 intro u
 cases dst with
 |none=>exact h u
 | some t=>
  simp only[Tm.put,Act.put,Tm.I1]
  have ht:=hd t rfl
  by_cases hu:u=t
  ·subst hu
   simp[ht];exact hv
  ·rw [if_neg hu]
   have:=h u
   simpa[Array.getElem?_setIfInBounds_ne (fun e=>hu e.symm)]using this
theorem gZ (P:Program) {t:TypeId} {i:TypeInfo} (h:P.info? t=some i) (w:World):(typeInfo t).run P w = .ok i w:=by
 simp[typeInfo,h]
theorem n9 (b o n:Nat):Addr.add ⟨b,o,none⟩ n = ⟨b,o+n,none⟩:=Addr.add_lit b o n
theorem Bv (P:Program) {t:TypeId} {i:TypeInfo} {agg:Bool} (hi:P.info? t=some i) (ha:sZ P t=some agg) (b k:Nat) (us:List Value)
 (hl:us.length=if agg then i.size else 1) (h : ∀ (j:Nat) (u:Value),us[j]? = some u→w.cell? ⟨b,k+j,none⟩=some u) :
 (loadVar t ⟨b,k,none⟩).run P w = .ok (if agg then .agg us.toArray else us.getD 0 Go.undef) w:=by
 have Dq:(isAgg t).run P w = .ok agg w:=by
  unfold sZ at ha
  unfold isAgg
  cases hu:P.underlying t with
  |none=>rw[hu]at ha;cases ha
  |some d=>
   rw[hu]at ha
   simp only[Sem.run_bind,run_underlying hu,Result.andThen_ok]
   cases d<;>simp_all
 cases agg with
 |true=>
  simp only[if_true]at hl ⊢
  have hc:=run_loadCells_list (P:=P) w ⟨b,k,none⟩ us (fun j v e=>by rw[n9];exact h j v e)
  simp[loadVar,Dq,sizeOf,gZ P hi, ← hl,hc]
 | false=>
  simp only[Bool.false_eq_true,if_false]at hl ⊢
  match us,hl with
  | [u],_=>
   have:=h 0 u rfl
   simp only[Nat.add_zero]at this
   simp[loadVar,Dq,this]
theorem sM {cs:List D} {off:Nat} {agg:Bool} {size:Nat} {d:D} (h:part cs off agg size=some d) :
 (agg=true∧off+size≤cs.length∧d = .agg ((cs.drop off).take size))∨(agg=false∧cs[off]? = some d):=by
 unfold part at h
 split at h
 ·split at h
  ·cases h;exact .inl ⟨rfl, ‹_›,rfl⟩
  ·cases h
 ·exact .inr ⟨rfl,h⟩
theorem s9 {cs:List D} {off size:Nat} {agg:Bool} {d:D} (h:part cs off agg size=some d) (us:List Value) (hl:us.length=if agg then size else 1)
 (iM:agg=true→∀ u∈us,u.oneCell'=true)
 (hr : ∀ (j:Nat) (d:D) (u:Value),cs[off+j]? = some d→us[j]? = some u→RD M s d u):RD M s d (if agg then .agg us.toArray else us.getD 0 Go.undef):=by
 rcases sM h with ⟨rfl,h1,rfl⟩|⟨rfl,h1⟩
 ·simp only [if_true]at hl ⊢
  refine .agg _ _ (by simp[hl];omega) (fun v hv=>iM rfl v (by simpa using hv)) (fun i d v e1 e2=>?_)
  rw[List.getElem?_take]at e1
  split at e1
  ·rw [List.getElem?_drop]at e1
   exact hr i d v e1 (by simpa using e2)
  ·cases e1
 ·simp only [Bool.false_eq_true,if_false]at hl ⊢
  match us,hl with
  | [u],_=>exact hr 0 d u (by simpa using h1) rfl
end
end Go.Abs
namespace Go.Abs
def dj (P:Program) (M:Map) (s:St) (w:World) (x:Sem Next) (d:D) (s':St):Prop:=
 ∃ v w' M',(x.run P w = .ok (.value v) w'∨(x.run P w = .ok .skip w'∧v=Go.undef))∧Rel M' s' w'∧RD M' s' d v∧Ext M s w M' s' w'
section
variable {P:Program} {M:Map} {s:St} {w:World}
theorem dj.pure {x:Sem Next} {d:D} {v:Value} (r:Rel M s w) (h:x.run P w = .ok (.value v) w) (hd:RD M s d v):dj P M s w x d s:=
 ⟨v,w,M, .inl h,r,hd,Ext.refl M s w⟩
theorem Rk (r:Rel M s w) {t:TypeId} {z:List D} (hz:zeroOf P t=some z) :
 dj P M s w (do pure (.value (← Instr.alloc t true (.tuple #[])))) (.ptr s.aj.length 0) {s with aj:=s.aj++ [z]}:=by
 unfold zeroOf at hz
 split at hz
 ·rename_i i hi
  split at hz
  ·rename_i v hv
   split at hz
   ·rename_i dL
    obtain⟨h1,h2,h3⟩:=mS (M:=M) (s:=s) hz
    obtain⟨r',e'⟩:=r.eJ z v.cells t (by rw[h1];simp) (fun u hu=>h2 u (by simpa using hu)) (fun i d u e1 e2=>h3 i d u e1 (by simpa using e2))
    refine⟨_,_,_, .inl ?_,r', .ptr _ _ (by simp) (by simp[Map.eJ,Map.ob,Ob.plain]),e'⟩
    simp[Instr.alloc,zeroValue,gZ P hi,hv,newVar,newRow,Map.eJ,Map.mu]
   ·cases hz
  ·cases hz
 ·cases hz
theorem OU (r:Rel M s w) {t:TypeId} {z:List D} (hz:Bs P t=some (.eY::z)) :
 dj P M s w (do pure (.value (← Instr.alloc t true (.tuple #[])))) (.ptr s.aj.length 0) {s with aj:=s.aj++ [.gb t s.aj.length::z]}:=by
 unfold Bs at hz
 split at hz
 ·rename_i i hi
  split at hz
  ·rename_i v hv
   split at hz
   ·rename_i dL
    obtain⟨h1,h2,h3⟩:=Fq (M:=M) (s:=s) hz
    obtain⟨r',e'⟩:=r.LX (.gb t s.aj.length::z) v.cells t (.ty t) trivial (fun _ h=>by cases h;rfl) (by simp at h1 ⊢;omega) (fun u hu=>h2 u (by simpa using hu)) (fun i d u e1 e2=>by
     cases i with
     |zero=>
      simp at e1;subst e1
      have:=(h3 0 .eY u rfl (by simpa using e2)).uD
      exact .gb t _ u (by simp) (by simp[Map.eJ,Map.ty,Ob.ty?]) (.inl this)
     |succ i=>exact(h3 (i+1) d u (by simpa using e1) (by simpa using e2)).mono (uC s w.heap.size _ _))
    refine⟨_,_,_, .inl ?_,r', .ptr _ _ (by simp) (by simp[Map.eJ,Map.ob,Ob.plain]),e'⟩
    simp[Instr.alloc,zeroValue,gZ P hi,hv,newVar,newRow,Map.eJ,Map.mu]
   ·cases hz
  ·cases hz
 ·cases hz
theorem Yc (r:Rel M s w) {t:TypeId} {d:D} {v:Value} {row:List D} (hd:RD M s d v) (hr:d.row=some row) :
 dj P M s w (do pure (.value (← Instr.box t v))) (.ptr s.aj.length 0) {s with aj:=s.aj++ [row]}:=by
 obtain⟨h1,h2,h3⟩:=hd.row hr
 obtain⟨r',e'⟩:=r.eJ row v.cells t h1 h2 h3
 refine⟨_,_,_, .inl ?_,r', .ptr _ _ (by simp) (by simp[Map.eJ,Map.ob,Ob.plain]),e'⟩
 simp[Instr.box,newVar,newRow,Map.eJ,Map.mu]
theorem UT (r:Rel M s w) {t:TypeId} {d:D} {v:Value} {row:List D} (hd:RD M s d v) (hr:d.row=some (.eY::row)) :
 dj P M s w (do pure (.value (← Instr.box t v))) (.ptr s.aj.length 0) {s with aj:=s.aj++ [.gb t s.aj.length::row]}:=by
 obtain⟨h1,h2,h3⟩:=hd.row hr
 obtain⟨r',e'⟩:=r.LX (.gb t s.aj.length::row) v.cells t (.ty t) trivial (fun _ h=>by cases h;rfl) (by simp at h1 ⊢;omega) h2 (fun i d u e1 e2=>by
  cases i with
  |zero=>
   simp at e1;subst e1
   have:=(h3 0 .eY u rfl e2).uD
   exact .gb t _ u (by simp) (by simp[Map.eJ,Map.ty,Ob.ty?]) (.inl this)
  |succ i=>exact(h3 (i+1) d u (by simpa using e1) e2).mono (uC s w.heap.size _ _))
 refine⟨_,_,_, .inl ?_,r', .ptr _ _ (by simp) (by simp[Map.eJ,Map.ob,Ob.plain]),e'⟩
 simp[Instr.box,newVar,newRow,Map.eJ,Map.mu]
theorem K3 (r:Rel M s w) {t:TypeId} {i:TypeInfo} {agg:Bool} (hi:P.info? t=some i) (ha:sZ P t=some agg) {o off:Nat} {cs:List D} {d:D}
 (ho:s.aj[o]? = some cs) (hk:(M.ob o).plain) (hp:part cs off agg i.size=some d) :
 dj P M s w (do pure (.value (← Instr.loadAt t (.pointer (some ⟨M.mu o,off,none⟩))))) d s:=by
 obtain⟨vs,T,hh,dL,⟨iM,_⟩,jI⟩:=r.obj o cs ho
 replace hh:w.heap[M.mu o]? = some (.cells vs T (0,0)):=hh.cells hk
 let n:=if agg then i.size else 1
 have kn:off+n≤vs.size:=by
  rcases sM hp with ⟨rfl,h1,_⟩|⟨rfl,h1⟩
  ·simp[n];omega
  ·have:=(List.getElem?_eq_some_iff.1 h1).1;simp[n];omega
 have hlen:((vs.toList.drop off).take n).length=n:=by simp;omega
 have gA : ∀ (j:Nat) (u:Value),((vs.toList.drop off).take n)[j]? = some u→vs[off+j]? = some u:=by
  intro j u h
  rw[List.getElem?_take]at h
  split at h
  ·rw[List.getElem?_drop]at h;simpa using h
  ·cases h
 have ew:=Bv (w:=w) P hi ha (M.mu o) off ((vs.toList.drop off).take n) hlen (fun j u h=>by rw[jy hh];exact gA j u h)
 refine dj.pure (v:=if agg then .agg ((vs.toList.drop off).take n).toArray else((vs.toList.drop off).take n).getD 0 Go.undef) r (by simp[Instr.loadAt,Instr.sureAddr,ew]) ?_
 refine s9 hp _ hlen (fun _ u hu=>iM u ?_) (fun j d u e1 e2=>jI _ d u e1 (gA j u e2))
 exact Array.mem_toList_iff.1 (List.mem_of_mem_drop (List.mem_of_mem_take hu))
theorem Bw {b:Nat} : ∀ (n k:Nat),(∀ j,j<n→∃ u,M.G b (k+j)=some u)→∃ us:List Value,us.length=n∧∀ (j:Nat) (u:Value),us[j]? = some u→M.G b (k+j)=some u
 | 0,_,_=>⟨[],rfl,fun j u h=>by simp at h⟩
 |n+1,k,h=>by
  obtain⟨u0,h0⟩:=h 0 (by omega)
  obtain⟨us,h1,h2⟩:=Bw n (k+1) (fun j hj=>by obtain⟨u,hu⟩:=h (j+1) (by omega);exact⟨u,by rw[show k+1+j=k+(j+1) by omega];exact hu⟩)
  refine⟨u0::us,by simp[h1],fun j u hj=>?_⟩
  cases j with
  |zero=>simp at hj;subst hj;exact h0
  |succ j=>simp at hj;have:=h2 j u hj;rw[show k+(j+1)=k+1+j by omega];exact this
theorem K4 (r:Rel M s w) {t:TypeId} {i:TypeInfo} {agg:Bool} (hi:P.info? t=some i) (ha:sZ P t=some agg) {row:List D} {off b k:Nat} {d:D}
 (h1 : ∀ (i:Nat) (d:D),row[i]? = some d→∃ u,M.G b (k+i)=some u) (h2 : ∀ (i:Nat) (d:D) (u:Value),row[i]? = some d→M.G b (k+i)=some u→RD M s d u)
 (hp:part row off agg i.size=some d) :
 dj P M s w (do pure (.value (← Instr.loadAt t (.pointer (some ⟨b,k+off,none⟩))))) d s:=by
 let n:=if agg then i.size else 1
 have kn:off+n≤row.length:=by
  rcases sM hp with ⟨rfl,h1,_⟩|⟨rfl,h1⟩
  ·simp[n];omega
  ·have:=(List.getElem?_eq_some_iff.1 h1).1;simp[n];omega
 obtain⟨us,hl,Fp⟩:=Bw (M:=M) (b:=b) n (k+off) (fun j hj=>by
  obtain⟨d,hd⟩ : ∃ d,row[off+j]? = some d:=⟨_,List.getElem?_eq_getElem (by omega)⟩
  obtain⟨u,hu⟩:=h1 _ d hd
  exact⟨u,by rw[show k+off+j=k+(off+j) by omega];exact hu⟩)
 have ew:=Bv (w:=w) P hi ha b (k+off) us hl (fun j u h=>(r.comm _ _ _ (Fp j u h)).1)
 refine dj.pure (v:=if agg then .agg us.toArray else us.getD 0 Go.undef) r (by simp[Instr.loadAt,Instr.sureAddr,ew]) ?_
 refine s9 hp us hl (fun _ u hu=>?_) (fun j d u e1 e2=>h2 _ d u e1 (by rw[show k+(off+j)=k+off+j by omega];exact Fp j u e2))
 obtain⟨j,hj⟩:=List.mem_iff_getElem?.1 hu
 exact(r.comm _ _ _ (Fp j u hj)).2
theorem Rm (r:Rel M s w) {t:TypeId} {i:TypeInfo} (hi:P.info? t=some i) {o off:Nat} {cs row:List D} {d:D} {v:Value} (ho:s.aj[o]? = some cs) (hk:(M.ob o).plain)
 (hd:RD M s d v) (hr:d.row=some row) (hl:row.length=i.size) (kn:off+i.size≤cs.length) :
 dj P M s w (do Instr.storeAt t (.pointer (some ⟨M.mu o,off,none⟩)) v;pure .skip) (.tuple []) {s with aj:=s.aj.set o (gR cs off row)}:=by
 obtain⟨h1,h2,h3⟩:=hd.row hr
 obtain⟨w',ew,r',e'⟩:=r.Rh P ho hk row v.cells.toList (by simpa using h1) (by rw[hl];exact kn) (fun u hu=>h2 u (by simpa using hu)) (fun i d u e1 e2=>h3 i d u e1 (by simpa using e2))
 refine⟨Go.undef,w',M, .inr ⟨?_,rfl⟩,r', .undef,e'⟩
 have dL:v.cells.size=i.size:=by omega
 simp[Instr.storeAt,Instr.sureAddr,storeVar,sizeOf,gZ P hi,dL,ew]
theorem Bx (r:Rel M s w) {d:D} {a:Addr} (hd:RD M s d (.pointer (some a))) :
 dj P M s w (pure (.value (.pointer (some a)))) d s:=dj.pure r rfl hd
theorem Dr {t:TypeId} {f off size:Nat} {agg:Bool} (h:n8 P t f=some (off,size,agg)) (b k:Nat) :
 (Instr.fieldAt t (.pointer (some ⟨b,k,none⟩)) f).run P w = .ok (.pointer (some ⟨b,k+off,none⟩)) w:=by
 unfold n8 at h
 split at h
 ·rename_i fs hu
  split at h
  ·rename_i fd hf
   split at h
   ·rename_i i a hi ha
    split at h
    ·cases h
    ·rename_i fu
     cases h
     simp[Instr.fieldAt,run_underlying hu,hf,Instr.sureAddr,fieldPlace,sizeOf,gZ P hi,fu,n9]
   ·cases h
  ·cases h
 ·cases h
theorem UU {t:TypeId} {f off size:Nat} {agg:Bool} (h:n8 P t f=some (off,size,agg)) (vs:Array Value) (us:List Value) (hl:us.length=if agg then size else 1)
 (hg : ∀ j,j<us.length→vs[off+j]? = us[j]?) :
 (Instr.field t (.agg vs) f).run P w = .ok (if agg then .agg us.toArray else us.getD 0 Go.undef) w:=by
 unfold n8 at h
 split at h
 ·rename_i fs hu
  split at h
  ·rename_i fd hf
   split at h
   ·rename_i i a hi ha
    split at h
    ·cases h
    ·rename_i fu
     cases h
     have Dq:(isAgg fd.type).run P w = .ok agg w:=by
      unfold sZ at ha
      unfold isAgg
      cases hu:P.underlying fd.type with
      |none=>rw[hu]at ha;cases ha
      |some d=>
       rw[hu]at ha
       simp only[Sem.run_bind,run_underlying hu,Result.andThen_ok]
       cases d<;>simp_all
     cases agg with
     | true=>
      simp only[if_true]at hl ⊢
      have:vs.extract fd.offset (fd.offset+i.size)=us.toArray:=by
       apply Array.ext_getElem?
       intro j
       rw[Array.getElem?_extract]
       by_cases hj:j<us.length
       ·rw [← hl,if_pos (by
         have h1:=hg j hj
         rw[List.getElem?_eq_getElem hj]at h1
         have:=(Array.getElem?_eq_some_iff.1 h1).1
         have h2:=hg (us.length - 1) (by omega)
         rw[List.getElem?_eq_getElem (by omega)]at h2
         have:=(Array.getElem?_eq_some_iff.1 h2).1
         omega),hg j hj]
        simp
       ·have hn:us.toArray[j]? = none:=by simp;omega
        rw[hn,if_neg (by omega)]
      simp[Instr.field,run_underlying hu,hf,asAgg,Go.part,Dq,sizeOf,gZ P hi,this]
     | false=>
      simp only[Bool.false_eq_true,if_false]at hl ⊢
      match us,hl with
      | [u],_=>
       have:=hg 0 (by simp)
       simp at this
       simp[Instr.field,run_underlying hu,hf,asAgg,Go.part,Dq,this]
   ·cases h
  ·cases h
 ·cases h
end
end Go.Abs
namespace Go.Abs
section
variable {P:Program} {M:Map} {s:St} {w:World}
theorem Rn {op : BinOp} {t : TypeId} {k : IntKind} {a b : Int} {d : D} (h : gu op k a b = some d) :
   ∃ v, (binOp op t (.int k a) (.int k b)).run P w = .ok v w ∧ RD M s d v := by
 cases op<;>simp only[gu]at h
 case shl|shr =>
   split at h
   · cases h
   · rename_i hb
     cases h
     refine ⟨_, ?_, .int _ _⟩
     simp only[binOp, Op.shift, if_neg hb]
     rfl
 case and|or|xor =>
   cases h
   refine ⟨_, ?_, .int _ _⟩
   simp only[binOp, Op.intBits, ne_eq, not_true_eq_false, if_false]
   rfl
 all_goals first
   |(cases h; done)
   | (split at h
      · cases h
      · cases h
        exact ⟨_, by simp[binOp, Op.intDiv, *], .int _ _⟩)
   |(cases h; exact ⟨_, by simp[binOp, Op.intArith], .int _ _⟩)
   |(cases h; exact ⟨_, by simp[binOp, Op.intCmp], .bool _⟩)
theorem Ro {op:BinOp} {t:TypeId} {a b:List UInt8} {d:D} (h:pU op a b=some d) :
 ∃ v,(binOp op t (.string ⟨⟨a⟩⟩) (.string ⟨⟨b⟩⟩)).run P w = .ok v w∧RD M s d v:=by
 have sz : ∀ l:List UInt8,(⟨⟨l⟩⟩:ByteArray).size=l.length:=fun _=>rfl
 cases op<;>simp only[pU]at h<;>first
  |(cases h;done)
  |skip
 case add=>
  split at h
  ·rename_i hl
   cases h
   refine⟨.string ⟨⟨a++b⟩⟩, ?_, .str _⟩
   have h1 : ¬ ((((⟨⟨a⟩⟩:ByteArray).size+(⟨⟨b⟩⟩:ByteArray).size:Nat):Int) > IntKind.i64.max):=by
    rw[sz,sz,IntKind.max_i64];simp only[bp]at hl;omega
   simp only[binOp,Op.stringOp,h1,if_false]
   simp only[Sem.run_pure]
   congr 2
  ·cases h
 case eql=>cases h;exact⟨_,by simp[binOp,Op.stringOp], .bool _⟩
 case neq=>cases h;exact⟨_,by simp[binOp,Op.stringOp], .bool _⟩
 case lss=>cases h;exact⟨_,by simp[binOp,Op.stringOp,bytesLess], .bool _⟩
theorem kU {op:BinOp} {t:TypeId} {x y:Operand} {a b:Value} (h:(∀ vs,a≠ .agg vs)∧a≠ .nilIface):(eqGuard op t x y a b).run P w = .ok () w:=by
 obtain⟨h1,h2⟩:=h
 cases a<;>first
  |exact(h2 rfl).elim
  |exact(h1 _ rfl).elim
  |(cases op<;>simp[eqGuard])
theorem Yd (r:Rel M s w) {op:BinOp} {t:TypeId} {x y:Operand} {dx dy d:D} {a b:Value} (ha:RD M s dx a) (hb:RD M s dy b) (h:zG op dx dy=some d) :
 dj P M s w (do pure (.value (← (do eqGuard op t x y a b;binOp op t a b)))) d s:=by
 unfold zG at h
 split at h
 ·rename_i k n k' m
  split at h
  ·rename_i hk;subst hk
   rw[ha.jf,hb.jf]
   obtain⟨v,hv,hd⟩:=Rn (P:=P) (M:=M) (s:=s) (w:=w) (t:=t) h
   exact dj.pure r (by simp[kU (P:=P) (w:=w) (op:=op) (t:=t) (x:=x) (y:=y) (a:= .int k n) (b:= .int k m) ⟨by simp,by simp⟩,hv]) hd
  ·cases h
 ·rename_i l m
  rw[ha.mR,hb.mR]
  obtain⟨v,hv,hd⟩:=Ro (P:=P) (M:=M) (s:=s) (w:=w) (t:=t) h
  exact dj.pure r (by simp[kU (P:=P) (w:=w) (op:=op) (t:=t) (x:=x) (y:=y) (a:= .string ⟨⟨l⟩⟩) (b:= .string ⟨⟨m⟩⟩) ⟨by simp,by simp⟩,hv]) hd
 ·cases h
theorem RD.oG {v u:Value} (h:RD M s (.val v) u):u=v:=by cases h;rfl
theorem Rp {k:FloatKind} {x y d:D} (h:sr (.ofInt k) x y=some d) : ∃ j n,x = .int j n∧d = .val (.float k (k.nearest n)):=by
 cases x<;>first|(cases h;done)|(cases h;exact⟨_,_,rfl,rfl⟩)
theorem Rq {k:IntKind} {x y d:D} (h:sr (.toInt k) x y=some d) : ∃ s b n,x = .val (.float s b)∧(s.decode b).toInt .zero=some n∧(k.min≤n∧n≤k.max)∧d = .int k n:=by
 cases x with
 | val v=>
  cases v with
  | float s b=>
   simp only[sr]at h
   split at h
   ·rename_i n hn
    split at h
    ·rename_i hr;cases h;exact⟨_,_,_,rfl,hn,hr,rfl⟩
    ·cases h
   ·cases h
  |_=>cases h
 |_=>cases h
theorem UW {x y d:D} (h:sr .LO x y=some d) : ∃ k a b,x = .val (.float k a)∧y = .val (.float k b)∧d = .val (.complex k a b):=by
 unfold sr at h
 split at h<;>first|(cases h;done)|skip
 all_goals (first|(rename_i heq;cases heq;done)|skip)
 all_goals
  split at h
  ·rename_i hk;subst hk;cases h;first|exact⟨_,_,_,rfl,rfl,rfl⟩|(rename_i heq _ _;cases heq)
  ·cases h
theorem UX {x y d:D} (h:sr .real x y=some d) : ∃ k a b,x = .val (.complex k a b)∧d = .val (.float k a):=by
 cases x with
 |val v=>cases v<;>first|(cases h;done)|(cases h;exact⟨_,_,_,rfl,rfl⟩)
 |_=>cases h
theorem UY {x y d:D} (h:sr .imag x y=some d) : ∃ k a b,x = .val (.complex k a b)∧d = .val (.float k b):=by
 cases x with
 |val v=>cases v<;>first|(cases h;done)|(cases h;exact⟨_,_,_,rfl,rfl⟩)
 |_=>cases h
theorem UZ (r:Rel M s w) {op:BinOp} {o:FO} (ho:(o = .eq∧op = .eql)∨(o = .LP∧op = .add)∨(o = .UP∧op = .eql)) {t:TypeId} {x y:Operand} {dx dy d:D} {a b:Value} (ha:RD M s dx a) (hb:RD M s dy b) (h:sr o dx dy=some d) :
 dj P M s w (do pure (.value (← (do eqGuard op t x y a b;binOp op t a b)))) d s:=by
 unfold sr at h
 split at h<;>(try simp only[reduceCtorEq,false_and,true_and,false_or,or_false]at ho)
 ·rename_i k p k' q
  split at h<;>cases h
  rename_i hk;subst hk;subst ho
  cases ha.oG;cases hb.oG
  exact dj.pure r (by simp[kU (P:=P) (w:=w) (op:= .eql) (t:=t) (x:=x) (y:=y) (a:= .float k p) (b:= .float k q) ⟨by simp,by simp⟩,binOp,Op.floatCmp]) (.bool _)
 ·rename_i k p p' k' q q'
  split at h
  ·rename_i hk;subst hk;subst ho
   cases ha.oG;cases hb.oG
   split at h
   ·rename_i e f h1 h2
    cases h
    simp only[X9]at h1 h2
    exact dj.pure r (by simp[kU (P:=P) (w:=w) (op:= .add) (t:=t) (x:=x) (y:=y) (a:= .complex k p p') (b:= .complex k q q') ⟨by simp,by simp⟩,binOp,Op.complexOp,Op.Complex.arith,Op.floatArith,h1,h2]) (.val _ rfl)
   ·cases h
  ·cases h
 ·rename_i k p p' k' q q'
  split at h<;>cases h
  rename_i hk;subst hk;subst ho
  cases ha.oG;cases hb.oG
  exact dj.pure r (by simp[kU (P:=P) (w:=w) (op:= .eql) (t:=t) (x:=x) (y:=y) (a:= .complex k p p') (b:= .complex k q q') ⟨by simp,by simp⟩,binOp,Op.complexOp,Op.Complex.cmp,Op.floatCmp,asBool]) (.bool _)
 ·cases h
theorem Ye (r:Rel M s w) {neg:Bool} {t:TypeId} {x y:Operand} {p q:Bool} (ht:P.underlying t=some .bool) :
 dj P M s w (do pure (.value (← (do eqGuard (if neg then .neq else .eql) t x y (.bool p) (.bool q);binOp (if neg then .neq else .eql) t (.bool p) (.bool q))))) (.bool (if neg then !(p==q)else p==q)) s:=by
 refine dj.pure (v:= .bool (if neg then !(p==q)else p==q)) r ?_ (.bool _)
 have hg:=kU (P:=P) (w:=w) (op:=if neg then .neq else .eql) (t:=t) (x:=x) (y:=y) (a:= .bool p) (b:= .bool q) ⟨by simp,by simp⟩
 have he:(Op.equal t (.bool p) (.bool q)).run P w = .ok (p==q) w:=by
  exact run_equalIn_bool w 9999 t p q ht
 cases neg
 ·simp only [Bool.false_eq_true,if_false]at hg ⊢
  simp[hg,binOp,he]
 ·simp only [if_true]at hg ⊢
  simp[hg,binOp,he]
theorem OV (n:Nat) {t e:TypeId} {a:Option Addr} (ht:P.underlying t=some (.pointer e)):(Op.equalIn (n+1) t (.pointer a) (.pointer none)).run P w = .ok a.isNone w:=by
 cases a<;>simp[Op.equalIn,run_underlying ht]
theorem FV (r:Rel M s w) {neg:Bool} {t e:TypeId} {x y:Operand} {a:Option Addr} (ht:P.underlying t=some (.pointer e)) :
 dj P M s w (do pure (.value (← (do eqGuard (if neg then .neq else .eql) t x y (.pointer a) (.pointer none);binOp (if neg then .neq else .eql) t (.pointer a) (.pointer none))))) (.bool (if neg then !a.isNone else a.isNone)) s:=by
 refine dj.pure (v:= .bool (if neg then !a.isNone else a.isNone)) r ?_ (.bool _)
 have hg:=kU (P:=P) (w:=w) (op:=if neg then .neq else .eql) (t:=t) (x:=x) (y:=y) (a:= .pointer a) (b:= .pointer none) ⟨by simp,by simp⟩
 have he:(Op.equal t (.pointer a) (.pointer none)).run P w = .ok a.isNone w:=by
  exact OV 9999 ht
 cases neg
 ·simp only [Bool.false_eq_true,if_false]at hg ⊢
  simp[hg,binOp,he]
 ·simp only [if_true]at hg ⊢
  simp[hg,binOp,he]
theorem Rr (n:Nat) {t:TypeId} {k:Nat} (hk:j9 P t=some k) {x y:D} {v u:Value} (rv:RD M s x v) (ru:RD M s y u) {b:Bool} (h:oD k x y=some b) :
 (Op.equalIn (n+1) t v u).run P w = .ok b w:=by
 unfold j9 at hk
 split at hk<;>first|(cases hk;done)|skip
 ·rename_i kk hu
  cases hk
  cases x<;>cases y<;>simp[oD]at h
  obtain⟨rfl,rfl⟩:=h
  rw[rv.jf,ru.jf]
  exact run_equalIn_int w n t _ _ _ _ hu
 ·rename_i hu
  cases hk
  cases x<;>cases y<;>simp[oD]at h
  subst h
  rw[rv.pF,ru.pF]
  exact run_equalIn_bool w n t _ _ hu
 ·rename_i hu
  cases hk
  cases x<;>cases y<;>simp[oD]at h
  subst h
  rw[rv.mR,ru.mR]
  rw[run_equalIn_string w n t _ _ hu]
  simp
theorem Ds (n:Nat) : ∀ (fs:List Field) (off:Nat) (ks:List Nat) (xs ys:List D) (vs us:Array Value) (e:Bool),
 EC P off fs=some ks→(∀ (i:Nat) (d:D) (v:Value),xs[i]? = some d→vs[off+i]? = some v→RD M s d v)→(∀ i,i<xs.length→(vs[off+i]?).isSome)→
 (∀ (i:Nat) (d:D) (v:Value),ys[i]? = some d→us[off+i]? = some v→RD M s d v)→(∀ i,i<ys.length→(us[off+i]?).isSome)→
 mQ ks xs ys=some e→(Op.eqFields (n+1) vs us fs).run P w = .ok e w
 | [],off,ks,xs,ys,vs,us,e,hk,_,_,_,_,h=>by
  cases hk
  cases xs<;>cases ys<;>simp[mQ]at h
  subst h;rfl
 | f::fs,off,ks,xs,ys,vs,us,e,hk,h1,h2,h3,h4,h=>by
  unfold EC at hk
  split at hk
  ·rename_i hf
   obtain⟨ho,akp⟩:=hf
   split at hk
   ·rename_i k ks' yG cd
    cases hk
    match xs,ys with
    | [],[]=>cases h
    | [],_::_=>cases h
    |_::_,[]=>cases h
    | x::xs,y::ys=>
     obtain⟨v,hv⟩:=Option.isSome_iff_exists.1 (h2 0 (by simp))
     obtain⟨u,hu⟩:=Option.isSome_iff_exists.1 (h4 0 (by simp))
     simp only[Nat.add_zero]at hv hu
     have rv:=h1 0 x v rfl hv
     have ru:=h3 0 y u rfl hu
     have Dq:(isAgg f.type).run P w = .ok false w:=by
      unfold isAgg
      unfold j9 at yG
      cases hu:P.underlying f.type with
      |none=>rw[hu]at yG;simp at yG
      |some d=>simp only[Sem.run_bind,run_underlying hu,Result.andThen_ok];rw[hu]at yG;cases d<;>simp_all
     have pv:(Go.part f.type vs f.offset).run P w = .ok v w:=by simp[Go.part,Dq,ho,hv]
     have pu:(Go.part f.type us f.offset).run P w = .ok u w:=by simp[Go.part,Dq,ho,hu]
     cases hc:oD k x y with
     |none=>simp[mQ,hc]at h
     | some b=>
      have hb:=Rr (w:=w) n yG rv ru hc
      simp only[mQ,hc]at h
      simp only[Op.eqFields,if_pos akp,Sem.run_bind,pv,pu,hb,Result.andThen_ok,Sem.run_ite,Sem.run_pure]
      cases b with
      |false=>cases h;rfl
      | true=>
       have:=Ds n fs (off+1) ks' xs ys vs us e cd
        (fun i d v e1 e2=>h1 (i+1) d v (by simpa using e1) (by rw[show off+(i+1)=off+1+i by omega];exact e2))
        (fun i hi=>by have:=h2 (i+1) (by simpa using hi);rwa [show off+(i+1)=off+1+i by omega]at this)
        (fun i d v e1 e2=>h3 (i+1) d v (by simpa using e1) (by rw[show off+(i+1)=off+1+i by omega];exact e2))
        (fun i hi=>by have:=h4 (i+1) (by simpa using hi);rwa [show off+(i+1)=off+1+i by omega]at this) h
       simp[this]
   ·cases hk
  ·cases hk
theorem Yg (r:Rel M s w) {neg:Bool} {t:TypeId} {x y:Operand} {ks:List Nat} {xs ys:List D} {a b:Value} {e:Bool} (ht:rP P t=some ks) (ha:RD M s (.agg xs) a) (hb:RD M s (.agg ys) b) (he:mQ ks xs ys=some e) :
 dj P M s w (do pure (.value (← (do eqGuard (if neg then .neq else .eql) t x y a b;binOp (if neg then .neq else .eql) t a b)))) (.bool (if neg then !e else e)) s:=by
 obtain⟨vs,rfl,hl,_,h1⟩:=ha.IZ
 obtain⟨us,rfl,mZ,_,h2⟩:=hb.IZ
 unfold rP at ht
 split at ht
 ·rename_i fs hu
  split at ht
  ·rename_i hg
   obtain⟨ur,Dt⟩:=hg
   have hf:P.fieldsOf t=fs:=by simp[Program.fieldsOf,hu]
   have ew:(Op.equalIn 10000 t (.agg vs) (.agg us)).run P w = .ok e w:=by
    rw[run_equalIn_struct w 9999 t vs us (by rw[hf];exact hu) Dt,hf]
    exact Ds 9998 fs.toList 0 ks xs ys vs us e ht (fun i d v e1 e2=>h1 i d v e1 (by simpa using e2)) (fun i hi=>by simp;omega)
     (fun i d v e1 e2=>h2 i d v e1 (by simpa using e2)) (fun i hi=>by simp;omega) he
   have JU:=run_eqGuard_agg (P:=P) w (if neg then .neq else .eql) t x y vs us ur
   refine dj.pure (v:= .bool (if neg then !e else e)) r ?_ (.bool _)
   cases neg
   ·simp only [Bool.false_eq_true,if_false]at JU ⊢
    simp only[Sem.run_bind,JU,Result.andThen_ok,run_eql_struct,ew,Sem.run_pure]
   ·simp only [if_true]at JU ⊢
    simp only[Sem.run_bind,JU,Result.andThen_ok,run_neq_struct,ew,Sem.run_pure]
  ·cases ht
 ·cases ht
end
end Go.Abs
namespace Go.Abs
section
variable {P:Program} {M:Map} {s:St} {w:World}
theorem ED (l:List UInt8):(⟨⟨l⟩⟩:ByteArray).size=l.length:=rfl
theorem extract_mk (l:List UInt8) (a b:Nat):(⟨⟨l⟩⟩:ByteArray).extract a b = ⟨⟨(l.take b).drop a⟩⟩:=by
 apply ByteArray.ext
 rw[ByteArray.data_extract]
 apply Array.ext'
 simp[List.drop_take]
theorem getElem?_mk (l:List UInt8) (n:Nat):(⟨⟨l⟩⟩:ByteArray)[n]? = l[n]? :=by
 by_cases h:n<l.length
 ·rw[getElem?_pos (⟨⟨l⟩⟩:ByteArray) n h,List.getElem?_eq_getElem h];rfl
 ·rw [List.getElem?_eq_none (by omega)]
  rw[getElem?_neg (c:=(⟨⟨l⟩⟩:ByteArray)) (i:=n)]
  show ¬ n<(⟨⟨l⟩⟩:ByteArray).size
  rw[ED];omega
theorem U1 (r:Rel M s w) {t:TypeId} {l:List UInt8} {k:IntKind} {n:Int} {c:UInt8} (ht:P.underlying t=some .string) (h0:0≤n) (hc:l[n.toNat]? = some c) :
 dj P M s w (do pure (.value (← Instr.index t (.string ⟨⟨l⟩⟩) (.int k n)))) (.int .u8 c.toNat) s:=by
 refine dj.pure (v:= .int .u8 c.toNat) r ?_ (.int _ _)
 simp[Instr.index,asIntOf,run_underlying ht,h0,getElem?_mk,hc]
theorem LZ (r:Rel M s w) {t ty:TypeId} {l:List UInt8} (ht:P.underlying t=some .string) :
 dj P M s w (do pure (.value (← Builtin.len_ #[t] ty #[.string ⟨⟨l⟩⟩]))) (.int .i64 l.length) s:=by
 refine dj.pure (v:= .int .i64 l.length) r ?_ (.int _ _)
 simp[Builtin.len_,run_underlying ht,goInt,ED]
theorem oH (r:Rel M s w) {t ty e:TypeId} {a:Option Addr} {n c:Nat} (ht:P.underlying t=some (.slice e)) :
 dj P M s w (do pure (.value (← Builtin.len_ #[t] ty #[.slice a n c]))) (.int .i64 n) s:=by
 refine dj.pure (v:= .int .i64 n) r ?_ (.int _ _)
 simp[Builtin.len_,run_underlying ht,goInt]
theorem Rs (r:Rel M s w) {t e:TypeId} {i:TypeInfo} {g:Tag} {rows:List (List D)} {row:List D} {v:Value} {k:IntKind} {n:Int} (ht:P.underlying t=some (.slice e)) (hi:P.info? e=some i)
 (hd:RD M s (.slice g i.size rows) v) (h0:0≤n) (hr:rows[n.toNat]? = some row) :
 dj P M s w (do pure (.value (← Instr.indexAt t v (.int k n)))) (.dN row 0) s:=by
 have hD:=(List.getElem?_eq_some_iff.1 hr).1
 rcases hd.kb with ⟨rfl,_,_⟩|⟨rfl,_,_⟩|⟨b,q,cap,rfl,hl,hs,h1,h2,_⟩
 ·simp at hr
 ·simp at hr
 ·refine dj.pure (v:= .pointer (some ⟨b,q+n.toNat*i.size+0,none⟩)) r ?_ ?_
  ·have:n<(rows.length:Int):=by omega
   simp[Instr.indexAt,asIntOf,run_underlying ht,h0,this,sizeOf,gZ P hi,n9]
  ·refine .dN row 0 b (q+n.toNat*i.size) (fun j d hj=> ?_) (fun j d u hj hu=> ?_)
   ·obtain⟨u,hu⟩:=h1 n.toNat row j d hr hj
    exact⟨u,by rw[Nat.add_assoc];exact hu⟩
   ·exact h2 n.toNat row j d u hr hj (by rw[← Nat.add_assoc];exact hu)
def U2 (lv:Option Value) (l:Int):Prop:=(lv=none∧l=0)∨∃ k,lv=some (.int k l)
def U3 (hv:Option Value) (len:Nat) (h:Int):Prop:=(hv=none∧h=len)∨∃ k,hv=some (.int k h)
theorem q8 {isSlice:Bool} {lv hv:Option Value} {len cap:Nat} {l h:Int} (h1:U2 lv l) (h2:U3 hv len h) (a:0≤l) (b:l≤h) (c:h≤len) (d:len≤cap) :
 (Instr.sliceBounds isSlice len cap lv hv none).run P w = .ok (l.toNat,h.toNat,cap) w:=by
 have h0:0≤h:=by omega
 have hc:h≤cap:=by omega
 rcases h1 with ⟨rfl,rfl⟩|⟨k,rfl⟩<;>rcases h2 with ⟨rfl,rfl⟩|⟨k',rfl⟩
 ·simp[Instr.sliceBounds]
 ·simp[Instr.sliceBounds,run_sliceBound w _ _ _ _ h0 hc]
 ·simp[Instr.sliceBounds,run_sliceBound w _ _ _ _ a b]
 ·have e:(h.toNat:Int)=h:=Int.toNat_of_nonneg h0
  simp[Instr.sliceBounds,run_sliceBound w _ _ _ _ h0 hc,run_sliceBound w _ _ _ _ a (show l≤(h.toNat:Int) by omega)]
theorem U4 (r:Rel M s w) {t:TypeId} {lv hv:Option Value} {x:List UInt8} {l h:Int} (ht:P.underlying t=some .string) (h1:U2 lv l) (h2:U3 hv x.length h) (a:0≤l) (b:l≤h) (c:h≤x.length) :
 dj P M s w (do pure (.value (← Instr.sliceAt t (.string ⟨⟨x⟩⟩) lv hv none))) (.str ((x.take h.toNat).drop l.toNat)) s:=by
 have hb:=q8 (P:=P) (w:=w) (isSlice:=false) (cap:=x.length) h1 h2 a b c (Nat.le_refl _)
 refine dj.pure (v:= .string ⟨⟨(x.take h.toNat).drop l.toNat⟩⟩) r ?_ (.str _)
 simp[Instr.sliceAt,run_underlying ht,Instr.slice,ED,hb,extract_mk]
theorem jL.cut {g:Tag} {z len Yh cap:Nat} {base:Option (Nat×Nat)} (h:jL M s g z len base cap) (hl:Yh≤len) (whole:Bool) (hw:whole=true→Yh=len):jL M s (g.cut whole) z Yh base cap:=by
 cases g with
 |full=>
  cases whole with
  |true=>rw[hw rfl];exact h
  |false=>trivial
 |shared=>trivial
 |tok t y=>
  obtain⟨x1,x2⟩:=h
  refine⟨x1,fun n hn=>⟨Nat.le_trans hl (x2 n hn).1,fun e=>?_⟩⟩
  have:len=n:=by have:=(x2 n hn).1;omega
  exact(x2 n hn).2 this
theorem Yi (r:Rel M s w) {t e:TypeId} {i:TypeInfo} {g:Tag} {z:Nat} {lv hv:Option Value} {rows:List (List D)} {v:Value} {l h:Int} (ht:P.underlying t=some (.slice e)) (G6:P.info? e=some i) (hz:rows = []∨z=i.size)
 (hd:RD M s (.slice g z rows) v) (h1:U2 lv l) (h2:U3 hv rows.length h) (a:0≤l) (b:l≤h) (c:h≤rows.length) :
 dj P M s w (do pure (.value (← Instr.sliceAt t v lv hv none))) (.slice (if l=0 then g.cut (h=rows.length)else .shared) z ((rows.take h.toNat).drop l.toNat)) s:=by
 have hlen:((rows.take h.toNat).drop l.toNat).length=h.toNat - l.toNat:=by simp;omega
 have tag : ∀ base cap,jL M s g z rows.length base cap→jL M s (if l=0 then g.cut (h=rows.length)else .shared) z ((rows.take h.toNat).drop l.toNat).length base cap:=by
  intro base cap qg
  split
  ·exact qg.cut (by omega) _ (fun hh=>by simp at hh;omega)
  ·trivial
 rcases hd.kb with ⟨rfl,rfl,qg⟩|⟨rfl,rfl,a',cap,rfl⟩|⟨b',q,cap,rfl,hl,hs,g1,g2,qg⟩
 ·have hb:=q8 (P:=P) (w:=w) (isSlice:=true) (cap:=0) h1 h2 a b c (Nat.le_refl _)
  have wJ:l=0:=by simp at c;omega
  have hh0:h=0:=by simp at c;omega
  subst wJ;subst hh0
  refine dj.pure (v:= .slice none 0 0) r ?_ ?_
  ·simp at hb
   simp[Instr.sliceAt,run_underlying ht,Instr.slice,hb,sizeOf,gZ P G6]
  ·have:=tag _ _ qg
   simp only[Int.toNat_zero,List.take_nil,List.drop_nil,List.length_nil]at this ⊢
   exact .jH _ _ 0 rfl this
 ·have hb:=q8 (P:=P) (w:=w) (isSlice:=true) (cap:=cap) h1 h2 a b c (Nat.zero_le _)
  have wJ:l=0:=by simp at c;omega
  have hh0:h=0:=by simp at c;omega
  subst wJ;subst hh0
  simp only[List.length_nil]at hb
  have ew : ∃ a2:Addr,(Instr.sliceAt t (.slice (some a') 0 cap) lv hv none).run P w = .ok (.slice (some a2) 0 cap) w:=by
   refine⟨if cap=(0:Int).toNat then a' else a'.add ((0:Int).toNat*i.size), ?_⟩
   simp only[Instr.sliceAt,Sem.run_bind,run_underlying ht,Result.andThen_ok,Instr.slice,hb,sizeOf,gZ P G6,Sem.run_pure]
   split<;>simp
  obtain⟨a2,ew⟩:=ew
  refine dj.pure (v:= .slice (some a2) 0 cap) r (by simp[ew]) ?_
  simp only[↓reduceIte,Int.toNat_zero,List.take_nil,List.drop_nil]
  have:Tag.cut .shared (decide ((0:Int)=(([] : List (List D)).length:Int))) = .shared:=rfl
  rw[this]
  exact .mX _ a2 cap
 ·have hb:=q8 (P:=P) (w:=w) (isSlice:=true) (cap:=cap) h1 h2 a b c hl
  have ew:(Instr.sliceAt t (.slice (some ⟨b',q,none⟩) rows.length cap) lv hv none).run P w = .ok (.slice (some (if cap=l.toNat then⟨b',q,none⟩else⟨b',q+l.toNat*i.size,none⟩)) (h.toNat - l.toNat) (cap - l.toNat)) w:=by
   simp only[Instr.sliceAt,Sem.run_bind,run_underlying ht,Result.andThen_ok,Instr.slice,hb,sizeOf,gZ P G6,Sem.run_pure]
   split<;>simp[n9]
  by_cases wJ:l=0
  ·subst wJ
   have e:(if cap=(0:Int).toNat then(⟨b',q,none⟩:Addr)else⟨b',q+(0:Int).toNat*i.size,none⟩) = ⟨b',q,none⟩:=by simp
   rw[e]at ew
   refine dj.pure (v:= .slice (some ⟨b',q,none⟩) ((rows.take h.toNat).drop (0:Int).toNat).length cap) r (by simp[ew];omega) ?_
   refine .slice _ z _ b' q cap (by omega) (fun row hr=>hs row ?_) (fun i row j d e1 e2=>?_) (fun i row j d u e1 e2 eu=>?_) (tag _ _ qg)
   ·simp at hr;exact List.mem_of_mem_take hr
   ·simp[List.getElem?_take]at e1;exact g1 i row j d e1.2 e2
   ·simp[List.getElem?_take]at e1;exact g2 i row j d u e1.2 e2 eu
  ·rw [if_neg wJ]
   by_cases wc:cap=l.toNat
   ·have:(rows.take h.toNat).drop l.toNat = []:=List.eq_nil_of_length_eq_zero (by omega)
    rw[this]
    rw[if_pos wc]at ew
    refine dj.pure (v:= .slice (some ⟨b',q,none⟩) ([] : List (List D)).length (cap - l.toNat)) r (by simp[ew];omega) ?_
    exact .slice _ z [] b' q _ (by simp) (by simp) (by simp) (by simp) trivial
   ·rw [if_neg wc]at ew
    refine dj.pure (v:= .slice (some ⟨b',q+l.toNat*i.size,none⟩) ((rows.take h.toNat).drop l.toNat).length (cap - l.toNat)) r (by simp[ew];omega) ?_
    have eI : ∀ (k:Nat) (row:List D),((rows.take h.toNat).drop l.toNat)[k]? = some row→rows[l.toNat+k]? = some row:=by
     intro k row e
     rw[List.getElem?_drop,List.getElem?_take]at e
     split at e
     ·exact e
     ·cases e
    have hzz : ∀ (k:Nat) (row:List D),((rows.take h.toNat).drop l.toNat)[k]? = some row→z=i.size:=by
     intro k row e
     rcases hz with rfl|hz
     ·simp at e
     ·exact hz
    refine .slice _ z _ b' _ _ (by omega) (fun row hr=>hs row (List.mem_of_mem_take (List.mem_of_mem_drop hr))) (fun k row j d e1 e2=>?_) (fun k row j d u e1 e2 eu=>?_) trivial
    ·obtain⟨u,hu⟩:=g1 _ row j d (eI k row e1) e2
     refine⟨u, ?_⟩
     rw[← hu, ← hzz k row e1]
     congr 1
     rw[Nat.add_mul];omega
    ·refine g2 _ row j d u (eI k row e1) e2 ?_
     rw[← eu, ← hzz k row e1]
     congr 1
     rw[Nat.add_mul];omega
theorem yH (off:Nat) : ∀ (l:List Value) (k:Nat) (cells:Array Value) (i:Nat),
 ((l.zipIdx k).foldl (fun cs p=>cs.setIfInBounds (off+p.2) p.1) cells).size=cells.size∧
 (off+k+l.length≤cells.size→((l.zipIdx k).foldl (fun cs p=>cs.setIfInBounds (off+p.2) p.1) cells)[i]? = if off+k≤i∧i<off+k+l.length then l[i - (off+k)]? else cells[i]?)
 | [],k,cells,i=>by simp;intro _ h1 h2;omega
 | v::l,k,cells,i=>by
  obtain⟨h1,h2⟩:=yH off l (k+1) (cells.setIfInBounds (off+k) v) i
  simp only[List.zipIdx_cons,List.foldl_cons]
  refine⟨by rw[h1];simp,fun kn=>?_⟩
  simp only[List.length_cons]at kn
  rw[h2 (by simp;omega)]
  rw[Array.getElem?_setIfInBounds]
  by_cases hi:off+k=i
  ·subst hi
   rw[if_neg (by omega),if_pos rfl,if_pos (by omega),if_pos (by simp)]
   simp
  ·rw [if_neg hi]
   by_cases hr:off+(k+1)≤i∧i<off+(k+1)+l.length
   ·rw [if_pos hr,if_pos (by simp;omega)]
    rw[show i - (off+k)=(i - (off+(k+1)))+1 by omega]
    simp
   ·rw[if_neg hr,if_neg (by simp;omega)]
def vC (M:Map) (s:St) (ds:List D) (vs:Array Value):Prop:=vs.size=ds.length∧(∀ v∈vs,v.oneCell'=true)∧∀ (i:Nat) (d:D) (v:Value),ds[i]? = some d→vs[i]? = some v→RD M s d v
theorem vC.gR {ds:List D} {vs:Array Value} (h:vC M s ds vs) {d:D} {v:Value} {row:List D} (hd:RD M s d v) (hr:d.row=some row) {off:Nat} (kn:off+row.length≤ds.length) :
 vC M s (gR ds off row) (v.cells.zipIdx.foldl (fun cs (p:Value×Nat)=>cs.setIfInBounds (off+p.2) p.1) vs):=by
 obtain⟨h1,h2,h3⟩:=hd.row hr
 obtain⟨g1,g2,g3⟩:=h
 have e:v.cells.zipIdx.foldl (fun cs (p:Value×Nat)=>cs.setIfInBounds (off+p.2) p.1) vs=(v.cells.toList.zipIdx 0).foldl (fun cs p=>cs.setIfInBounds (off+p.2) p.1) vs:=by
  rw[← Array.foldl_toList];simp
 rw[e]
 have hl:v.cells.toList.length=row.length:=by simpa using h1
 have fs:=fun i=>yH off v.cells.toList 0 vs i
 have get : ∀ i,((v.cells.toList.zipIdx 0).foldl (fun cs p=>cs.setIfInBounds (off+p.2) p.1) vs)[i]? = if off≤i∧i<off+row.length then v.cells.toList[i - off]? else vs[i]? :=by
  intro i
  have:=(fs i).2 (by omega)
  rw[hl]at this
  simpa using this
 refine⟨by rw[(fs 0).1,g1,wa ds off row kn],fun u hu=>?_,fun i d' u e1 e2=>?_⟩
 ·obtain⟨i,hi⟩:=Array.mem_iff_getElem?.1 hu
  rw[get]at hi
  split at hi
  ·exact h2 u (Array.mem_toList_iff.1 (List.mem_of_getElem? hi))
  ·exact g2 u (Array.mem_of_getElem? hi)
 ·rw [s6 ds off row kn]at e1
  rw[get]at e2
  by_cases h5:off≤i
  ·by_cases h6:i<off+row.length
   ·rw [if_pos ⟨h5,h6⟩]at e2
    rw[if_neg (by omega),if_pos h6]at e1
    exact h3 _ d' u e1 (by simpa using e2)
   ·rw [if_neg (fun h=>h6 h.2)]at e2
    rw[if_neg (by omega),if_neg h6]at e1
    exact g3 i d' u e1 e2
  ·rw [if_neg (fun h=>h5 h.1)]at e2
   rw[if_pos (by omega)]at e1
   exact g3 i d' u e1 e2
theorem L0 {place:Nat→Option (Nat×Nat)} : ∀ (vp:List (Nat×Value)) (dp:List (Nat×Nat×D)) (ds:List D) (vs:Array Value) (pk:List D),vC M s ds vs→
 dp.length=vp.length→(∀ (j:Nat) (i:Nat) (v:Value) (off size:Nat) (d:D),vp[j]? = some (i,v)→dp[j]? = some (off,size,d)→place i=some (off,size)∧RD M s d v)→
 sY ds dp=some pk→∃ gv,Instr.fill place vs vp=some gv∧vC M s pk gv
 | [],[],ds,vs,pk,h,_,_,e=>by cases e;exact⟨vs,rfl,h⟩
 | [],_::_,_,_,_,_,hl,_,_=>by simp at hl
 |_::_,[],_,_,_,_,hl,_,_=>by simp at hl
 | (i,v)::vp,(off,size,d)::dp,ds,vs,pk,h,hl,hp,e=>by
  obtain⟨h1,h2⟩:=hp 0 i v off size d rfl rfl
  unfold sY at e
  split at e
  ·cases e
  ·rename_i row hr
   split at e
   ·rename_i hc
    obtain⟨c1,c2⟩:=hc
    have dL:=(h2.row hr).1
    obtain⟨gv,f1,f2⟩:=L0 vp dp (gR ds off row) _ pk (h.gR h2 hr (by omega)) (by simpa using hl)
     (fun j i v off size d e1 e2=>hp (j+1) i v off size d (by simpa using e1) (by simpa using e2)) e
    refine⟨gv, ?_,f2⟩
    unfold Instr.fill
    simp only[h1]
    rw[if_neg]
    ·exact f1
    ·simp;exact⟨by omega,by have:=h.1;omega⟩
   ·cases e
end
end Go.Abs
namespace Go.Abs
section
variable {P:Program} {M:Map} {s:St} {w:World}
def nQ (M:Map) (s:St) (size:Nat) (rows:List (List D)) (vs:Array Value):Prop:=
 rows.length*size≤vs.size∧(∀ row∈rows,row.length=size)∧(∀ v∈vs,v.oneCell'=true)∧
 ∀ (i:Nat) (row:List D) (j:Nat) (d:D) (v:Value),rows[i]? = some row→row[j]? = some d→vs[i*size+j]? = some v→RD M s d v
theorem Du {size:Nat} {rows:List (List D)} (hs : ∀ row∈rows,row.length=size) {i:Nat} {row:List D} {j:Nat} {d:D} (h1:rows[i]? = some row) (h2:row[j]? = some d):i*size+j<rows.length*size:=by
 have hi:=(List.getElem?_eq_some_iff.1 h1).1
 have hj:=(List.getElem?_eq_some_iff.1 h2).1
 have:=hs row (List.mem_of_getElem? h1)
 have:i*size+size≤rows.length*size:=by rw[← Nat.succ_mul];exact Nat.mul_le_mul_right _ hi
 omega
theorem nQ.fixed {size:Nat} {rows:List (List D)} {vs:Array Value} (h:nQ M s size rows vs) {M':Map} {s':St} (le:Le M s M' s') {b:Nat}
 (hG : ∀ o,o<rows.length*size→M'.G b o=vs[o]?) :
 (∀ (i:Nat) (row:List D) (j:Nat) (d:D),rows[i]? = some row→row[j]? = some d→∃ u,M'.G b (0+(i*size+j))=some u)∧
 (∀ (i:Nat) (row:List D) (j:Nat) (d:D) (u:Value),rows[i]? = some row→row[j]? = some d→M'.G b (0+(i*size+j))=some u→RD M' s' d u):=by
 obtain⟨h1,h2,h3,h4⟩:=h
 refine⟨fun i row j d e1 e2=>?_,fun i row j d u e1 e2 eu=>?_⟩
 ·have hD:=Du h2 e1 e2
  rw[Nat.zero_add,hG _ hD]
  exact⟨_,Array.getElem?_eq_getElem (by omega)⟩
 ·have hD:=Du h2 e1 e2
  rw[Nat.zero_add,hG _ hD]at eu
  exact(h4 i row j d u e1 e2 eu).mono le
theorem nR (z:List D) : ∀ n,(gY z n).length=n
 | 0=>rfl
 |n+1=>by simp[gY,nR z n]
theorem qB (z:List D) : ∀ n,∀ row∈gY z n,row=z
 | 0,_,h=>by cases h
 |n+1,row,h=>by
  rcases List.mem_cons.1 h with rfl|h
  ·rfl
  ·exact qB z n row h
theorem nQ.zero {z:List D} {zs:Array Value} (h:vC M s z zs) (hp:0<z.length) (n:Nat):nQ M s z.length (gY z n) ((Array.range (n*z.length)).map (zs[· % zs.size]!)):=by
 obtain⟨h1,h2,h3⟩:=h
 have get : ∀ q,q<n*z.length→((Array.range (n*z.length)).map (zs[· % zs.size]!))[q]? = zs[q % z.length]? :=by
  intro q hq
  have:q % z.length<zs.size:=by rw[h1];exact Nat.mod_lt _ hp
  simp only[Array.getElem?_map,Array.getElem?_range,hq,if_true,Option.map_some]
  rw[h1,getElem!_pos zs (q % z.length) this,Array.getElem?_eq_getElem this]
 refine⟨by simp[nR],fun row hr=>by rw[qB z n row hr],fun v hv=>?_,fun i row j d v e1 e2 e3=>?_⟩
 ·obtain⟨q,hq⟩:=Array.mem_iff_getElem?.1 hv
  have hD:q<n*z.length:=by have:=(Array.getElem?_eq_some_iff.1 hq).1;simpa using this
  rw[get q hD]at hq
  exact h2 v (Array.mem_of_getElem? hq)
 ·have eI:=qB z n row (List.mem_of_getElem? e1)
  subst eI
  have hD:=Du (size:=row.length) (fun r hr=>by rw[qB row n r hr]) e1 e2
  rw[nR]at hD
  rw[get _ hD]at e3
  have hj:=(List.getElem?_eq_some_iff.1 e2).1
  rw[Nat.mul_comm,Nat.mul_add_mod,Nat.mod_eq_of_lt hj]at e3
  exact h3 j d v e2 e3
theorem nQ.set {size:Nat} {rows:List (List D)} {vs:Array Value} (h:nQ M s size rows vs) {d:D} {v:Value} {row:List D} (hd:RD M s d v) (hr:d.row=some row) (hl:row.length=size) {i:Nat} (hi:i<rows.length) :
 nQ M s size (rows.set i row) (v.cells.zipIdx.foldl (fun cs (p:Value×Nat)=>cs.setIfInBounds (i*size+p.2) p.1) vs):=by
 obtain⟨h1,h2,h3⟩:=hd.row hr
 obtain⟨g1,g2,g3,g4⟩:=h
 have e:v.cells.zipIdx.foldl (fun cs (p:Value×Nat)=>cs.setIfInBounds (i*size+p.2) p.1) vs=(v.cells.toList.zipIdx 0).foldl (fun cs p=>cs.setIfInBounds (i*size+p.2) p.1) vs:=by
  rw[← Array.foldl_toList];simp
 rw[e]
 have ku:v.cells.toList.length=size:=by simp[h1,hl]
 have kn:i*size+size≤vs.size:=by
  have:(i+1)*size≤rows.length*size:=Nat.mul_le_mul_right _ hi
  rw[Nat.succ_mul]at this;omega
 have fs:=fun q=>yH (i*size) v.cells.toList 0 vs q
 have get : ∀ q,((v.cells.toList.zipIdx 0).foldl (fun cs p=>cs.setIfInBounds (i*size+p.2) p.1) vs)[q]? = if i*size≤q∧q<i*size+size then v.cells.toList[q - i*size]? else vs[q]? :=by
  intro q
  have:=(fs q).2 (by omega)
  rw[ku]at this
  simpa using this
 refine⟨by rw[(fs 0).1];simpa using g1,fun r U5=>?_,fun u hu=>?_,fun i' lD j d' u e1 e2 e3=>?_⟩
 ·rcases List.mem_or_eq_of_mem_set U5 with h | rfl
  ·exact g2 r h
  ·exact hl
 ·obtain⟨q,hq⟩:=Array.mem_iff_getElem?.1 hu
  rw[get]at hq
  split at hq
  ·exact h2 u (Array.mem_toList_iff.1 (List.mem_of_getElem? hq))
  ·exact g3 u (Array.mem_of_getElem? hq)
 ·rw [List.getElem?_set]at e1
  rw[get]at e3
  split at e1
  ·rename_i heq;subst heq
   simp at e1
   obtain⟨_,rfl⟩:=e1
   have hj:=(List.getElem?_eq_some_iff.1 e2).1
   rw[if_pos (by omega)]at e3
   rw[show i*size+j - i*size=j by omega]at e3
   exact h3 j d' u e2 (by simpa using e3)
  ·rename_i fu
   have hj:=(List.getElem?_eq_some_iff.1 e2).1
   have Dv:=g2 lD (List.mem_of_getElem? e1)
   rw[if_neg]at e3
   ·exact g4 i' lD j d' u e1 e2 e3
   ·rintro⟨a,b⟩
    rcases Nat.lt_or_gt_of_ne fu with h|h
    ·have:(i+1)*size≤i'*size:=Nat.mul_le_mul_right _ h
     rw[Nat.succ_mul]at this;omega
    ·have:(i'+1)*size≤i*size:=Nat.mul_le_mul_right _ h
     rw[Nat.succ_mul]at this;omega
theorem Dw {size:Nat} : ∀ (vp:List (Nat×Value)) (dp:List (Nat×D)) (rows:List (List D)) (vs:Array Value) (qn:List (List D)),nQ M s size rows vs→
 dp.length=vp.length→(∀ (j:Nat) (i:Nat) (v:Value) (i':Nat) (d:D),vp[j]? = some (i,v)→dp[j]? = some (i',d)→i'=i∧RD M s d v)→
 lg size rows dp=some qn→∃ gv,Instr.fill (fun i=>some (i*size,size)) vs vp=some gv∧nQ M s size qn gv∧qn.length=rows.length∧gv.size=vs.size
 | [],[],rows,vs,qn,h,_,_,e=>by cases e;exact⟨vs,rfl,h,rfl,rfl⟩
 | [],_::_,_,_,_,_,hl,_,_=>by simp at hl
 |_::_,[],_,_,_,_,hl,_,_=>by simp at hl
 | (i,v)::vp,(i',d)::dp,rows,vs,qn,h,hl,hp,e=>by
  obtain⟨h1,h2⟩:=hp 0 i v i' d rfl rfl
  subst h1
  unfold lg at e
  split at e
  ·cases e
  ·rename_i row hr
   split at e
   ·rename_i hc
    obtain⟨c1,c2⟩:=hc
    have dL:=(h2.row hr).1
    have akq:=h.set h2 hr c1 c2
    obtain⟨gv,f1,f2,f3,f4⟩:=Dw vp dp (rows.set i' row) _ qn akq (by simpa using hl)
     (fun j i v i' d e1 e2=>hp (j+1) i v i' d (by simpa using e1) (by simpa using e2)) e
    have kn:i'*size+size≤vs.size:=by
     have:(i'+1)*size≤rows.length*size:=Nat.mul_le_mul_right _ c2
     have:=h.1
     rw[Nat.succ_mul]at *;omega
    refine⟨gv, ?_,f2,by rw[f3];simp, ?_⟩
    ·unfold Instr.fill
     simp only
     rw[if_neg]
     ·exact f1
     ·simp;exact⟨by omega,by omega⟩
    ·rw [f4]
     have:=(yH (i'*size) v.cells.toList 0 vs 0).1
     rw[← this, ← Array.foldl_toList];simp
   ·cases e
theorem Rt (r:Rel M s w) {size:Nat} {rows:List (List D)} {vs:Array Value} (T:TypeId) (h:nQ M s size rows vs) :
 RD (M.gK w.heap.size vs.size vs) s (.slice .full size rows) (.slice (some ⟨w.heap.size,0,none⟩) rows.length rows.length)∧
 Rel (M.gK w.heap.size vs.size vs) s (w.alloc (.cells vs T))∧Ext M s w (M.gK w.heap.size vs.size vs) s (w.alloc (.cells vs T)):=by
 obtain⟨r',e'⟩:=r.gK vs.size vs T (0,0) h.2.2.1
 obtain⟨g1,g2⟩:=h.fixed e'.le (b:=w.heap.size) (fun o ho=>by
  have:o<vs.size:=Nat.lt_of_lt_of_le ho h.1
  simp[Map.gK,this])
 exact⟨.slice .full size rows w.heap.size 0 rows.length (Nat.le_refl _) h.2.1 g1 g2 rfl,r',e'⟩
theorem na {t u ty e:TypeId} {i:TypeInfo} (ht:P.underlying t=some (.slice e)) (hi:P.info? e=some i) {base:Option Addr} {len cap:Nat} {y:Value} (hs:Src P i.size u y 0 [] w) (hc:len≤cap) :
 (Builtin.append_ #[t,u] ty #[.slice base len cap,y]).run P w = .ok (.slice base len cap) w:=by
 have nS:=hs.cells
 rcases hs.kind with ⟨e',hk⟩|hk<;>cases base<;>simp[Builtin.append_,run_underlying ht,run_underlying hk,sizeOf,typeInfo,hi,hs.len,hc,nS,storeCells]
theorem JV (r:Rel M s w) {u e':TypeId} (hu:P.underlying u=some (.slice e')) {g:Tag} {size:Nat} {rows:List (List D)} {y:Value} (hy:RD M s (.slice g size rows) y) :
 ∃ news:List Value,Src P size u y rows.length news w∧
  (∀ (i:Nat) (row:List D) (j:Nat) (d:D) (v:Value),rows[i]? = some row→row[j]? = some d→news[i*size+j]? = some v→RD M s d v)∧
  ∀ (b q n c:Nat),y = .slice (some ⟨b,q,none⟩) n c→∀ o,o<rows.length*size→M.G b (q+o)=news[o]? :=by
 rcases hy.kb with ⟨rfl,rfl,_⟩|⟨rfl,_,a,cap,rfl⟩|⟨b,q,cap,rfl,hl,hs,g1,g2,_⟩
 ·exact⟨[],Src.ofNil w hu 0,by simp,by simp⟩
 ·exact⟨[],Src.ofSlice w hu a 0 cap [] (by simp) (by simp) (by simp),by simp,by simp⟩
 ·obtain⟨us,hlen,Fp⟩:=Bw (M:=M) (b:=b) (rows.length*size) q (fun k hk=>by
   have hz:0<size:=by
    rcases Nat.eq_zero_or_pos size with h|h
    ·subst h;simp at hk
    ·exact h
   have hi:k / size<rows.length:=by rw[Nat.div_lt_iff_lt_mul hz];exact hk
   obtain⟨row,eI⟩ : ∃ row,rows[k / size]? = some row:=⟨_,List.getElem?_eq_getElem hi⟩
   have Dv:=hs row (List.mem_of_getElem? eI)
   have hj:k % size<row.length:=by rw[Dv];exact Nat.mod_lt _ hz
   obtain⟨u,hu⟩:=g1 _ row _ _ eI (List.getElem?_eq_getElem hj)
   refine⟨u, ?_⟩
   rw[← hu,Nat.mul_comm (k / size) size,Nat.div_add_mod])
  refine⟨us,Src.ofSlice w hu ⟨b,q,none⟩ rows.length cap us hlen (fun j u h=>by rw[n9];exact(r.comm _ _ _ (Fp j u h)).1) (fun u hu=>?_),fun i row j d v e1 e2 e3=>g2 i row j d v e1 e2 (Fp _ v e3),
   fun b' q' n c heq o ho=>by
    cases heq
    rw[Fp o _ (List.getElem?_eq_getElem (by omega)),List.getElem?_eq_getElem (by omega)]⟩
  obtain⟨j,hj⟩:=List.mem_iff_getElem?.1 hu
  exact(r.comm _ _ _ (Fp j u hj)).2
theorem G7 {size:Nat} {rows new:List (List D)} {rE news:List Value} (xu : ∀ row∈rows,row.length=size) (Cy : ∀ row∈new,row.length=size)
 (l1:rE.length=rows.length*size) (l2:news.length=new.length*size) (o1 : ∀ u∈rE,u.oneCell'=true) (o2 : ∀ u∈news,u.oneCell'=true)
 (h1 : ∀ (i:Nat) (row:List D) (j:Nat) (d:D) (v:Value),rows[i]? = some row→row[j]? = some d→rE[i*size+j]? = some v→RD M s d v)
 (h2 : ∀ (i:Nat) (row:List D) (j:Nat) (d:D) (v:Value),new[i]? = some row→row[j]? = some d→news[i*size+j]? = some v→RD M s d v)
 (z:Array Value) (hz : ∀ v∈z,v.oneCell'=true):nQ M s size (rows++new) ((rE++news).toArray++z):=by
 have hs : ∀ row∈rows++new,row.length=size:=fun row h=>(List.mem_append.1 h).elim (xu row) (Cy row)
 refine⟨by simp[l1,l2,Nat.add_mul],hs,fun v hv=>?_,fun i row j d v e1 e2 e3=>?_⟩
 ·simp at hv
  rcases hv with (h|h)|h
  ·exact o1 v h
  ·exact o2 v h
  ·exact hz v h
 ·have hD:=Du hs e1 e2
  rw[List.length_append,Nat.add_mul]at hD
  rw[Array.getElem?_append_left (by simp[l1,l2];omega),List.getElem?_toArray]at e3
  by_cases hi:i<rows.length
  ·rw [List.getElem?_append_left hi]at e1
   have:=Du xu e1 e2
   rw[List.getElem?_append_left (by omega)]at e3
   exact h1 i row j d v e1 e2 e3
  ·rw [List.getElem?_append_right (by omega)]at e1
   have yI:rows.length*size≤i*size:=Nat.mul_le_mul_right _ (by omega)
   rw[List.getElem?_append_right (by omega),l1]at e3
   refine h2 (i - rows.length) row j d v e1 e2 ?_
   rw[← e3]
   congr 1
   rw[Nat.sub_mul];omega
theorem wg {z:Array Value} (h : ∀ v∈z,v.oneCell'=true) (n:Nat) : ∀ v∈Builtin.zeroCells z n,v.oneCell'=true:=by
 intro v hv
 unfold Builtin.zeroCells at hv
 obtain⟨q,hq,rfl⟩:=Array.mem_map.1 hv
 have hD:q<n*z.size:=by simpa using hq
 have hz:0<z.size:=by
  rcases Nat.eq_zero_or_pos z.size with h|h
  ·rw[h]at hD;simp at hD
  ·exact h
 have:=Nat.mod_lt q hz
 rw[getElem!_pos z (q % z.size) this]
 exact h _ (Array.getElem_mem this)
def I2 (eb:Bool) (size bytes:Nat) (x y:D) (s:St):Option (D×St):=
 match x,y with
 | .slice g z rows, .slice _ z' new=>
  if(rows = []∨z=size)∧(new = []∨z'=size)∧(rows.length+new.length)*(bytes+1)≤bp then
   match new with
   | []=>some (.slice g z rows,s)
   |_::_=>
    match g with
    | .full=>some (.slice (.tok s.az.length eb) size (rows++new),{s with az:=s.az++ [some (rows.length+new.length)]})
    | .shared=>none
    | .tok t y=>if(y=true→eb=true)∧z=size∧s.az[t]? = some (some rows.length)then some (.slice (.tok t y) size (rows++new),{s with az:=s.az.set t (some (rows.length+new.length))})else none
  else none
 |_,_=>none
theorem afP {size bytes:Nat} {x y d:D} {s s':St} (h:jW size bytes x y s=some (d,s')):I2 false size bytes x y s=some (d,s'):=by
 unfold jW at h
 unfold I2
 split at h
 ·split at h
  ·rename_i hc
   simp only[hc,and_self,if_true]
   split at h
   ·exact h
   ·split at h
    ·exact h
    ·exact h
    ·cases h
    ·split at h
     ·rename_i hq
      simp only[hq,and_self,Bool.false_eq_true,false_imp_iff,if_true]
      exact h
     ·cases h
  ·cases h
 ·cases h
theorem U6 {x y d:D} {s s':St} (h:Dk x y s=some (d,s')):I2 true 1 1 x y s=some (d,s'):=by
 unfold Dk at h
 unfold I2
 split at h
 ·split at h
  ·rename_i hc
   simp only[hc,and_self,if_true]
   split at h
   ·exact h
   ·split at h
    ·exact h
    ·exact h
    ·split at h
     ·rename_i hq
      simp only[hq,and_self,imp_true_iff,if_true]
      exact h
     ·cases h
  ·cases h
 ·cases h
theorem abo {b:Bool} {n:Nat} (h:b=true→n=1) (hn:0<n):zs (bz b n)=n:=by
 cases b
 ·show(if n=0 then 1 else n)=n
  rw[if_neg (by omega)]
 ·simp[zs,bz,h rfl]
theorem FW (eb:Bool) (r:Rel M s w) {t u ty e:TypeId} {i:TypeInfo} {z:Value} (ht:P.underlying t=some (.slice e)) (hi:P.info? e=some i) (hz:i.zero=some z)
 (AE:z.cells.size=i.size) (AG : ∀ v∈z.cells,v.oneCell'=true) {dx dy d:D} {x y:Value} {s':St} (hx:RD M s dx x) (heb:eb=true→e=q7∧i.size=1) (uH:0<i.size) (he:I2 eb i.size i.bytes dx dy s=some (d,s'))
 (src : ∀ (g:Tag) (size:Nat) (rows:List (List D)),dy = .slice g size rows→(rows = []→Src P i.size u y 0 [] w)∧(rows≠ []→size=i.size→(∀ row∈rows,row.length=i.size)∧∃ news:List Value,Src P i.size u y rows.length news w∧
  (∀ (k:Nat) (row:List D) (j:Nat) (d:D) (v:Value),rows[k]? = some row→row[j]? = some d→news[k*i.size+j]? = some v→RD M s d v))) :
 ∃ v w' M',(Builtin.append_ #[t,u] ty #[x,y]).run P w = .ok v w'∧Rel M' s' w'∧RD M' s' d v∧Ext M s w M' s' w':=by
 unfold I2 at he
 split at he
 case h_2=>cases he
 rename_i g zx rows g' zy new
 split at he
 case isFalse=>cases he
 rename_i hc
 obtain⟨rp,L4,yJ⟩:=hc
 cases new with
 | nil=>
  simp only at he
  cases he
  have Dx:Src P i.size u y 0 [] w:=(src _ _ _ rfl).1 rfl
  rcases hx.kb with ⟨_,hv,_⟩|⟨_,_,a,cap,hv⟩|⟨b,q,cap,hv,hl,_⟩
  ·refine⟨x,w,M, ?_,r,hx,Ext.refl M s w⟩
   rw[hv]
   exact na ht hi Dx (Nat.le_refl _)
  ·refine⟨x,w,M, ?_,r,hx,Ext.refl M s w⟩
   rw[hv]
   exact na ht hi Dx (Nat.zero_le _)
  ·refine⟨x,w,M, ?_,r,hx,Ext.refl M s w⟩
   rw[hv]
   exact na ht hi Dx hl
 | cons n0 new=>
  have fu:(n0::new)≠ []:=by simp
  generalize dw:n0::new=fb at *
  have U7:zy=i.size:=L4.resolve_left fu
  subst U7
  obtain⟨Fs,news,hs,EE⟩:=(src _ _ _ rfl).2 fu rfl
  have hm:0<fb.length:=List.length_pos_iff.2 fu
  have vE:(rows.length+fb.length)*i.bytes≤140737488355328:=by rw[Nat.mul_succ]at yJ;simp only[bp]at yJ;omega
  have U8:rows.length+fb.length≤1099511627776:=by rw[Nat.mul_succ]at yJ;simp only[bp]at yJ;omega
  -- what the first argument reads as
  obtain⟨base,cap,rE,hxv,hle,jB,hod,abq,afR,hsx,hoG,qg⟩ : ∃ (base:Option Addr) (cap:Nat) (rE:List Value),x = .slice base rows.length cap∧rows.length≤cap∧rE.length=rows.length*i.size∧
   (Builtin.firstCells i.size rows.length (.slice base rows.length cap)).run P w.drew = .ok rE.toArray w.drew∧(∀ u∈rE,u.oneCell'=true)∧
   (∀ (k:Nat) (row:List D) (j:Nat) (d:D) (v:Value),rows[k]? = some row→row[j]? = some d→rE[k*i.size+j]? = some v→RD M s d v)∧(∀ row∈rows,row.length=i.size)∧
   (∀ b q,base=some ⟨b,q,none⟩→∀ o,o<rows.length*i.size→M.G b (q+o)=rE[o]?)∧
   ((base=none∧rows = []∧jL M s g zx 0 none cap)∨∃ b q,base=some ⟨b,q,none⟩∧jL M s g zx rows.length (some (b,q)) cap):=by
   rcases rp with h0|h0
   ·subst h0
    rcases hx.kb with ⟨_,hv,qg⟩|⟨_,rfl,_⟩|⟨b,q,cap,hv,hl,_,_,_,qg⟩
    ·exact⟨none,0,[],hv,Nat.le_refl _,by simp,by simp[Builtin.firstCells],by simp,by simp,by simp,by simp, .inl ⟨rfl,rfl,qg⟩⟩
    ·exfalso;simp only[← dw]at he;cases he
    ·exact⟨some ⟨b,q,none⟩,cap,[],hv,hl,by simp,by simp[Builtin.firstCells,loadCells,loadCellsFrom],by simp,by simp,by simp,by simp, .inr ⟨b,q,rfl,qg⟩⟩
   ·subst h0
    obtain⟨rE,Dy,ho2,ho3⟩:=JV r ht hx
    rcases hx.kb with ⟨h0,hv,qg⟩|⟨_,rfl,_⟩|⟨b,q,cap,hv,hl,oI,_,_,qg⟩
    ·subst h0
     refine⟨none,0,rE,hv,Nat.le_refl _,Dy.newsLen, ?_,Dy.one,ho2,by simp,by simp, .inl ⟨rfl,rfl,qg⟩⟩
     have:=Dy.cellsD;rw[hv]at this;exact this
    ·exfalso;simp only[← dw]at he;cases he
    ·refine⟨some ⟨b,q,none⟩,cap,rE,hv,hl,Dy.newsLen, ?_,Dy.one,ho2,oI,fun b' q' heq o ho=> ?_, .inr ⟨b,q,rfl,qg⟩⟩
     ·have:=Dy.cellsD;rw[hv]at this;exact this
     ·cases heq;exact ho3 b q _ cap hv o ho
  subst hxv
  -- the way that makes a new row
  have grow : ∀ (hg:cap<rows.length+fb.length),∃ (w':World) (M1:Map) (vs:Array Value) (qC:Nat),
   (Builtin.append_ #[t,u] ty #[.slice base rows.length cap,y]).run P w = .ok (.slice (some ⟨w.heap.size,0,none⟩) (rows.length+fb.length) qC) w'∧
   w'.heap[w.heap.size]? = some (.cells vs e (0,0))∧vs.size=qC*i.size∧rows.length+fb.length≤qC∧M1=M.gK w.heap.size ((rows.length+fb.length)*i.size) vs∧
   nQ M s i.size (rows++fb) vs∧Rel M1 s w'∧Ext M s w M1 s w':=by
   intro hg
   have yI:=grownCap_ge w (rows.length+fb.length) cap e
   have ew:=run_append_grow_src (P:=P) w t u ty e i z ht hi hz base rows.length cap rE hod y fb.length news hs hg (by omega) (growslice_fits hg vE)
   have eI:=G7 (M:=M) (s:=s) hsx Fs jB hs.newsLen abq hs.one afR EE (Builtin.zeroCells z.cells (grownCap w (rows.length+fb.length) cap e - (rows.length+fb.length))) (wg AG _)
   obtain⟨r1,e1⟩:=(r.of_heap (w':=w.drew) rfl).gK ((rows.length+fb.length)*i.size) _ e (0,0) eI.2.2.1
   refine⟨_,_,_,_,ew,heap_alloc_new w.drew _, ?_,yI,rfl,eI,r1,(Ext.of_heap (M:=M) (s:=s) (w:=w) (w':=w.drew) rfl rfl rfl rfl).trans e1⟩
   simp only[Array.size_append,List.size_toArray,List.length_append,size_zeroCells,AE,jB,hs.newsLen, ← Nat.add_mul]
   congr 1;omega
  have hlen:(rows++fb).length=rows.length+fb.length:=by simp
  cases g with
  |shared=>simp only[← dw]at he;cases he
  | full=>
   have wc:cap=rows.length:=by
    rcases qg with ⟨_,h0,h1⟩|⟨_,_,_,h1⟩
    ·subst h0;exact h1
    ·exact h1
   obtain⟨w',M1,vs,qC,ew,hh,dL,hn,G8,eI,r1,e1⟩:=grow (by omega)
   simp only[← dw]at he
   simp only[dw]at he
   cases he
   have L5:zs (bz eb i.size)=i.size:=abo (fun h=>(heb h).2) uH
   have hyb:bz eb i.size=0→e=q7:=fun h0=>by
    cases eb with
    |true=>exact(heb rfl).1
    |false=>simp[bz]at h0;omega
   obtain⟨r2,l2⟩:=r1.abn (rows.length+fb.length) w.heap.size qC (bz eb i.size) vs e hh (by rw[L5];exact dL) hn hyb
    (fun off ho=>by rw[L5]at ho;rw[G8];simp[Map.gK];omega)
    (fun o ho=>by have:=r.sb ho;rw [G8];show M.mu o≠_;omega) (fun q c z' hl heq=>by
     have:M.be q=some (w.heap.size,c,z'):=by rw[G8]at heq;exact heq
     have:=r.u9 hl this;omega)
   refine⟨_,w',_,ew,r2, ?_, ?_⟩
   ·obtain⟨f1,f2⟩:=eI.fixed (e1.le.trans l2) (b:=w.heap.size) (fun o ho=>by
     rw[G8,hlen]at *
     simp[Map.fN,Map.gK,ho])
    have key:=RD.slice (M:=M1.fN s.az.length (some (w.heap.size,qC,bz eb i.size))) (s:= {s with az:=s.az++ [some (rows.length+fb.length)]}) (.tok s.az.length eb) i.size (rows++fb) w.heap.size 0 qC (by rw[hlen];exact hn) eI.2.1 f1 f2
     ⟨by simp,fun n rr=>by
      simp at rr
      subst rr
      exact⟨by rw[hlen];exact Nat.le_refl _,fun _=> .inr ⟨_,rfl,by simp[Map.fN]⟩⟩⟩
    rw[hlen]at key
    exact key
   ·refine⟨e1.le.trans l2,e1.kept,e1.sn,fun q b c z' hl heq=> ?_,e1.sq,e1.size,e1.os,e1.tape,e1.output⟩
    obtain⟨k,hk⟩:=hl
    rcases Nat.lt_or_ge q s.az.length with h|h
    ·have L6:M1.be q=some (b,c,z'):=by
      have:(M1.fN s.az.length (some (w.heap.size,qC,bz eb i.size))).be q=M1.be q:=by simp[Map.fN];omega
      rw[this]at heq;exact heq
     simp only[List.getElem?_append_left h]at hk
     exact e1.rD q b c z' ⟨k,hk⟩ L6
    ·have:=(List.getElem?_eq_some_iff.1 hk).1
     simp at this
     have:q=s.az.length:=by omega
     subst this
     have:(M1.fN s.az.length (some (w.heap.size,qC,bz eb i.size))).be s.az.length=some (w.heap.size,qC,bz eb i.size):=by simp[Map.fN]
     rw[this]at heq;cases heq
     exact .inr (Nat.le_refl _)
  | tok q yb=>
   simp only[← dw]at he
   simp only[dw]at he
   split at he
   case isFalse=>cases he
   rename_i hq
   obtain⟨hyb,hzx,hq⟩:=hq
   cases he
   have L5:zs (bz yb i.size)=i.size:=abo (fun h=>(heb (hyb h)).2) uH
   have aoU:bz yb i.size=0→e=q7:=fun h0=>by
    cases yb with
    |true=>exact(heb (hyb rfl)).1
    |false=>simp[bz]at h0;omega
   have Ru : ∀ (hg:cap<rows.length+fb.length),∃ v w' M',(Builtin.append_ #[t,u] ty #[.slice base rows.length cap,y]).run P w = .ok v w'∧Rel M' {s with az:=s.az.set q (some (rows.length+fb.length))} w'∧
    RD M' {s with az:=s.az.set q (some (rows.length+fb.length))} (.slice (.tok q yb) i.size (rows++fb)) v∧Ext M s w M' {s with az:=s.az.set q (some (rows.length+fb.length))} w':=by
    intro hg
    obtain⟨w',M1,vs,qC,ew,hh,dL,hn,G8,eI,r1,e1⟩:=grow hg
    have Ft:q<s.az.length:=(List.getElem?_eq_some_iff.1 hq).1
    obtain⟨r2,l2⟩:=r1.akm q rows.length (rows.length+fb.length) w.heap.size qC (bz yb i.size) vs e hq (by omega) hh (by rw[L5];exact dL) hn aoU
     (fun off ho=>by rw[L5]at ho;rw[G8];simp[Map.gK];omega)
     (fun o ho=>by have:=r.sb ho;rw [G8];show M.mu o≠_;omega) (fun q c z' hl heq=>by
      have:M.be q=some (w.heap.size,c,z'):=by rw[G8]at heq;exact heq
      have:=r.u9 hl this;omega)
    refine⟨_,w',_,ew,r2, ?_, ?_⟩
    ·obtain⟨f1,f2⟩:=eI.fixed (e1.le.trans l2) (b:=w.heap.size) (fun o ho=>by
      rw[G8,hlen]at *
      simp[Map.fN,Map.gK,ho])
     have key:=RD.slice (M:=M1.fN q (some (w.heap.size,qC,bz yb i.size))) (s:= {s with az:=s.az.set q (some (rows.length+fb.length))}) (.tok q yb) i.size (rows++fb) w.heap.size 0 qC (by rw[hlen];exact hn) eI.2.1 f1 f2
      ⟨by simp [Ft],fun n rr=>by
       simp[Ft]at rr
       subst rr
       exact⟨by rw[hlen];exact Nat.le_refl _,fun _=> .inr ⟨_,rfl,by simp[Map.fN]⟩⟩⟩
     rw[hlen]at key
     exact key
    ·refine⟨e1.le.trans l2,e1.kept,e1.sn,fun q' b c z' hl heq=> ?_,e1.sq,e1.size,e1.os,e1.tape,e1.output⟩
     obtain⟨k,hk⟩:=hl
     by_cases h:q'=q
     ·subst h
      have:(M1.fN q' (some (w.heap.size,qC,bz yb i.size))).be q'=some (w.heap.size,qC,bz yb i.size):=by simp[Map.fN]
      rw[this]at heq;cases heq
      exact .inr (Nat.le_refl _)
     ·have L6:M1.be q'=some (b,c,z'):=by
       have:(M1.fN q (some (w.heap.size,qC,bz yb i.size))).be q'=M1.be q':=by simp[Map.fN,h]
       rw[this]at heq;exact heq
      simp only[List.getElem?_set_ne (Ne.symm h)]at hk
      exact e1.rD q' b c z' ⟨k,hk⟩ L6
   rcases qg with ⟨rfl,rfl,h1⟩|⟨b,k,rfl,h1⟩
   ·obtain⟨_,h2⟩:=h1
    obtain⟨_,h3⟩:=h2 _ hq
    rcases h3 rfl with ⟨_,h4⟩|⟨b,h4,_⟩
    ·exact Ru (by simp;omega)
    ·cases h4
   ·obtain⟨_,h2⟩:=h1
    obtain⟨_,h3⟩:=h2 _ hq
    rcases h3 rfl with ⟨_,h4⟩|⟨b2,h4,l7⟩
    ·exact Ru (by omega)
    cases h4
    subst hzx
    by_cases jo:rows.length+fb.length≤cap
    ·rcases r.tok q rows.length hq with ⟨h4,_⟩ | ⟨b',sv,Bt,vs,T,h4,h5,h6,h7,h8⟩
     ·rw[l7]at h4;cases h4
     ·rw [l7]at h4;cases h4
      rw[L5]at h6
      obtain⟨r2,e2⟩:=r.akn q rows.length fb.length b cap (bz yb i.size) i.size news L5 hq l7 hs.newsLen jo hm hs.one vs T h5 h6 h8.2
      have kn:rows.length*i.size+news.length≤vs.size:=by rw[hs.newsLen,h6, ← Nat.add_mul];exact Nat.mul_le_mul_right _ jo
      have iL:=run_storeCells_at P b (rows.length*i.size) T news 0 vs w h5 (by simpa using kn) hs.one
      simp only[Nat.add_zero]at iL
      have ew:(Builtin.append_ #[t,u] ty #[.slice (some ⟨b,0,none⟩) rows.length cap,y]).run P w = .ok (.slice (some ⟨b,0,none⟩) (rows.length+fb.length) cap) (w.setRow b (vs.toList.take (rows.length*i.size)++news++vs.toList.drop (rows.length*i.size+news.length)).toArray):=by
       rcases hs.kind with ⟨PW,hk⟩|hk<;>simp[Builtin.append_,run_underlying ht,run_underlying hk,sizeOf,typeInfo,hi,hs.len,jo,hs.cells,Addr.add_lit,iL]
      refine⟨_,_,_,ew,r2, ?_,e2⟩
      have hG : ∀ o,o<(rows++fb).length*i.size→(M.fix b (rows.length*i.size) news).G b o=(rE++news).toArray[o]? :=by
       intro o ho
       rw[hlen,Nat.add_mul]at ho
       rw[List.getElem?_toArray]
       by_cases h9:o<rows.length*i.size
       ·rw [List.getElem?_append_left (by omega)]
        have:(M.fix b (rows.length*i.size) news).G b o=M.G b o:=by simp[Map.fix];omega
        rw[this]
        have:=hoG b 0 rfl o h9
        rwa [Nat.zero_add]at this
       ·rw [List.getElem?_append_right (by omega),jB]
        have:(M.fix b (rows.length*i.size) news).G b o=news[o - rows.length*i.size]? :=by
         simp only[Map.fix];rw[if_pos ⟨trivial,by omega,by rw[hs.newsLen];omega⟩]
        rw[this]
      have eI:=G7 (M:=M) (s:=s) hsx Fs jB hs.newsLen abq hs.one afR EE #[] (by simp)
      rw[Array.append_empty]at eI
      obtain⟨f1,f2⟩:=eI.fixed e2.le (b:=b) hG
      have Ft:q<s.az.length:=(List.getElem?_eq_some_iff.1 hq).1
      have key:=RD.slice (M:=M.fix b (rows.length*i.size) news) (s:= {s with az:=s.az.set q (some (rows.length+fb.length))}) (.tok q yb) i.size (rows++fb) b 0 cap (by rw[hlen];exact jo) eI.2.1 f1 f2
       ⟨by simp [Ft],fun n rr=>by
        simp[Ft]at rr
        subst rr
        exact⟨by rw[hlen];exact Nat.le_refl _,fun _=> .inr ⟨_,rfl,l7⟩⟩⟩
      rw[hlen]at key
      exact key
    ·exact Ru (by omega)
theorem I3 (r:Rel M s w) {u e':TypeId} {i:TypeInfo} (hu:P.underlying u=some (.slice e')) {y:Value} {dy:D} (hy:RD M s dy y) (g:Tag) (size:Nat) (rows:List (List D)) (hdy:dy = .slice g size rows) :
 (rows = []→Src P i.size u y 0 [] w)∧(rows≠ []→size=i.size→(∀ row∈rows,row.length=i.size)∧∃ news:List Value,Src P i.size u y rows.length news w∧
  (∀ (k:Nat) (row:List D) (j:Nat) (d:D) (v:Value),rows[k]? = some row→row[j]? = some d→news[k*i.size+j]? = some v→RD M s d v)):=by
 subst hdy
 refine⟨fun h0=>?_,fun fu dL=>?_⟩
 ·subst h0
  rcases hy.kb with ⟨_,rfl,_⟩|⟨_,_,a,cap,rfl⟩|⟨b,q,cap,rfl,_⟩
  ·exact Src.ofNil w hu 0
  ·exact Src.ofSlice w hu a 0 cap [] (by simp) (by simp) (by simp)
  ·exact Src.ofSlice w hu ⟨b,q,none⟩ 0 cap [] (by simp) (by simp) (by simp)
 ·subst dL
  obtain⟨news,h1,h2,_⟩:=JV r hu hy
  refine⟨?_,news,h1,h2⟩
  rcases hy.kb with ⟨h0,_⟩|⟨h0,_⟩|⟨_,_,_,_,_,h,_⟩
  ·exact(fu h0).elim
  ·exact(fu h0).elim
  ·exact h
theorem U9 (r:Rel M s w) {t u ty e e':TypeId} {i:TypeInfo} {z:Value} (ht:P.underlying t=some (.slice e)) (hu:P.underlying u=some (.slice e')) (hi:P.info? e=some i) (hz:i.zero=some z)
 (AE:z.cells.size=i.size) (AG : ∀ v∈z.cells,v.oneCell'=true) {dx dy d:D} {x y:Value} {s':St} (hx:RD M s dx x) (hy:RD M s dy y) (uH:0<i.size) (he:jW i.size i.bytes dx dy s=some (d,s')) :
 ∃ v w' M',(Builtin.append_ #[t,u] ty #[x,y]).run P w = .ok v w'∧Rel M' s' w'∧RD M' s' d v∧Ext M s w M' s' w':=
 FW false r ht hi hz AE AG hx (fun h=>by cases h) uH (afP he) (I3 r hu hy)
theorem Rv (r:Rel M s w) {t u ty e':TypeId} {i:TypeInfo} {z:Value} (ht:P.underlying t=some (.slice q7)) (hu:P.underlying u=some (.slice e')) (hi:P.info? q7=some i) (hz:i.zero=some z) (h1:i.size=1) (h2:i.bytes=1)
 (AE:z.cells.size=i.size) (AG : ∀ v∈z.cells,v.oneCell'=true) {dx dy d:D} {x y:Value} {s':St} (hx:RD M s dx x) (hy:RD M s dy y) (he:Dk dx dy s=some (d,s')) :
 ∃ v w' M',(Builtin.append_ #[t,u] ty #[x,y]).run P w = .ok v w'∧Rel M' s' w'∧RD M' s' d v∧Ext M s w M' s' w':=
 FW true r ht hi hz AE AG hx (fun _=>⟨rfl,h1⟩) (by omega) (by rw[h1,h2];exact U6 he) (I3 r hu hy)
theorem Rw (r:Rel M s w) {t u ty:TypeId} {i:TypeInfo} {z:Value} (ht:P.underlying t=some (.slice q7)) (hu:P.underlying u=some .string) (hi:P.info? q7=some i) (hz:i.zero=some z) (h1:i.size=1) (h2:i.bytes=1)
 (AE:z.cells.size=i.size) (AG : ∀ v∈z.cells,v.oneCell'=true) {dx d:D} {x:Value} {l:List UInt8} {s':St} (hx:RD M s dx x) (he:Dk dx (.slice .shared 1 (l.map fun c=> [.int .u8 c.toNat])) s=some (d,s')) :
 ∃ v w' M',(Builtin.append_ #[t,u] ty #[x, .string ⟨⟨l⟩⟩]).run P w = .ok v w'∧Rel M' s' w'∧RD M' s' d v∧Ext M s w M' s' w':=by
 have hs:Src P i.size u (.string ⟨⟨l⟩⟩) l.length (l.map fun c=> .int .u8 c.toNat) w:=by
  rw[h1]
  exact Src.ofString w hu ⟨⟨l⟩⟩
 refine FW true r ht hi hz AE AG hx (fun _=>⟨rfl,h1⟩) (by omega) (by rw[h1,h2];exact U6 he) fun g size rows hdy=>?_
 cases hdy
 refine⟨fun h0=>?_,fun fu dL=>?_⟩
 ·have:l = []:=by simpa using h0
  subst this
  exact hs
 ·refine⟨fun row hr=> ?_,_,by simpa using hs,fun k row j d v e1 e2 e3=> ?_⟩
  ·obtain⟨c,_,rfl⟩:=List.mem_map.1 hr
   rw[h1];rfl
  ·rw [List.getElem?_map,Option.map_eq_some_iff]at e1
   obtain⟨c,e1,rfl⟩:=e1
   cases j with
   |zero=>
    simp at e2
    subst e2
    simp[h1,e1]at e3
    subst e3
    exact .int _ _
   |succ j=>simp at e2
end
end Go.Abs
namespace Go.Abs
section
variable {P:Program} {M:Map} {s:St} {w:World}
theorem map_some {α β:Type} {f:α→β} {x:Option α} {y:β} (h:x.map f=some y) : ∃ a,x=some a∧y=f a:=by
 cases x with
 |none=>cases h
 |some a=>cases h;exact⟨a,rfl,rfl⟩
theorem va {t:TypeId} {z:List D} (h:zeroOf P t=some z) : ∃ i v,P.info? t=some i∧i.zero=some v∧v.cells.size=i.size∧pE v.cells.toList=some z:=by
 unfold zeroOf at h
 split at h
 ·rename_i i hi
  split at h
  ·rename_i v hv
   split at h
   ·exact⟨i,v,hi,hv, ‹_›,h⟩
   ·cases h
  ·cases h
 ·cases h
theorem tc {z:List D} {v:Value} (h:pE v.cells.toList=some z):vC M s z v.cells:=by
 obtain⟨h1,h2,h3⟩:=mS (M:=M) (s:=s) h
 exact⟨by simpa using h1.symm,fun u hu=>h2 u (by simpa using hu),fun i d u e1 e2=>h3 i d u e1 (by simpa using e2)⟩
theorem Rx {t:TypeId} {z:List D} (h:Bs P t=some z) : ∃ i v,P.info? t=some i∧i.zero=some v∧v.cells.size=i.size∧vC M s z v.cells:=by
 unfold Bs at h
 split at h
 ·rename_i i hi
  split at h
  ·rename_i v hv
   split at h
   ·refine⟨i,v,hi,hv, ‹_›, ?_⟩
    obtain⟨h1,h2,h3⟩:=Fq (M:=M) (s:=s) h
    exact⟨by simpa using h1.symm,fun u hu=>h2 u (by simpa using hu),fun i d u e1 e2=>h3 i d u e1 (by simpa using e2)⟩
   ·cases h
  ·cases h
 ·cases h
theorem Dz {t:TypeId} {tm:Tm} {act:Act} (hr:nP M s tm act.tmps) : ∀ {l:List (Nat×Operand)} {ps:List (Nat×Nat×X)},Dm P t l=some ps→
 (ps.map fun p=>(p.1,p.2.1,p.2.2.ev tm)).length=(l.map fun p=>(p.1,act.eval p.2)).length∧
 ∀ (j:Nat) (i:Nat) (v:Value) (off size:Nat) (d:D),(l.map fun p=>(p.1,act.eval p.2))[j]? = some (i,v)→(ps.map fun p=>(p.1,p.2.1,p.2.2.ev tm))[j]? = some (off,size,d)→
  (∃ a,n8 P t i=some (off,size,a))∧RD M s d v
 | [],ps,h=>by cases h;exact⟨rfl,by simp⟩
 | (i0,x)::l,ps,h=>by
  unfold Dm at h
  split at h
  ·rename_i off size a x' r' h1 h2 h3
   cases h
   obtain⟨g1,g2⟩:=Dz hr h3
   refine⟨by simpa using g1,fun j i v su Bt d e1 e2=>?_⟩
   cases j with
   |zero=>
    simp at e1 e2
    obtain⟨rfl,rfl⟩:=e1
    obtain⟨rfl,rfl,rfl⟩:=e2
    exact⟨⟨a,h1⟩,cf h2 hr⟩
   |succ j=>exact g2 j i v su Bt d (by simpa using e1) (by simpa using e2)
  ·cases h
theorem Hb {tm:Tm} {act:Act} (hr:nP M s tm act.tmps) : ∀ {l:List (Nat×Operand)} {ps:List (Nat×X)},LV l=some ps→
 (ps.map fun p=>(p.1,p.2.ev tm)).length=(l.map fun p=>(p.1,act.eval p.2)).length∧
 ∀ (j:Nat) (i:Nat) (v:Value) (i':Nat) (d:D),(l.map fun p=>(p.1,act.eval p.2))[j]? = some (i,v)→(ps.map fun p=>(p.1,p.2.ev tm))[j]? = some (i',d)→i'=i∧RD M s d v
 | [],ps,h=>by cases h;exact⟨rfl,by simp⟩
 | (i0,x)::l,ps,h=>by
  unfold LV at h
  split at h
  ·rename_i x' r' h1 h2
   cases h
   obtain⟨g1,g2⟩:=Hb hr h2
   refine⟨by simpa using g1,fun j i v i' d e1 e2=>?_⟩
   cases j with
   |zero=>
    simp at e1 e2
    obtain⟨rfl,rfl⟩:=e1
    obtain⟨rfl,rfl⟩:=e2
    exact⟨rfl,cf h1 hr⟩
   |succ j=>exact g2 j i v i' d (by simpa using e1) (by simpa using e2)
  ·cases h
theorem Hc : ∀ (l:List Field),(∀ f∈l,(P.info? f.type).isSome)→
 ∃ ps:List (Nat×Nat),(l.mapM fun f=>do pure (f.offset, ← sizeOf f.type):Sem (List (Nat×Nat))).run P w = .ok ps w∧
  ∀ (j:Nat) (f:Field) (i:TypeInfo),l[j]? = some f→P.info? f.type=some i→ps[j]? = some (f.offset,i.size)
 | [],_=>⟨[],rfl,by simp⟩
 | f::l,h=>by
  obtain⟨i,hi⟩:=Option.isSome_iff_exists.1 (h f (by simp))
  obtain⟨ps,h1,h2⟩:=Hc l (fun g hg=>h g (by simp[hg]))
  refine⟨(f.offset,i.size)::ps, ?_,fun j g i' e1 e2=>?_⟩
  ·rw [List.mapM_cons]
   simp only[Sem.run_bind,sizeOf,gZ P hi,Result.andThen_ok,Sem.run_pure]at h1 ⊢
   simp only[h1,Result.andThen_ok]
  ·cases j with
   |zero=>simp at e1;subst e1;rw[hi]at e2;cases e2;rfl
   |succ j=>exact h2 j g i' (by simpa using e1) e2
theorem Ry (r:Rel M s w) {t:TypeId} {fs:Array Field} {z:List D} {l:List (Nat×Operand)} {ps:List (Nat×Nat×X)} {tm:Tm} {act:Act} {cs:List D} (hr:nP M s tm act.tmps)
 (ht:P.underlying t=some (.struct fs)) (Hd:(fs.toList.all fun f=>(P.info? f.type).isSome)=true) (hz:Bs P t=some z) (hp:Dm P t l=some ps) (hf:sY z (ps.map fun p=>(p.1,p.2.1,p.2.2.ev tm))=some cs) :
 dj P M s w (do pure (.value (← Instr.build t (l.toArray.map fun(i,x)=>(i,act.eval x))))) (.agg cs) s:=by
 obtain⟨i,v,h1,h2,h3,hc⟩:=Rx (M:=M) (s:=s) hz
 obtain⟨g1,g2⟩:=Dz hr hp
 obtain⟨pl,p1,p2⟩:=Hc (P:=P) (w:=w) fs.toList (fun f JW=>by simpa using List.all_eq_true.1 Hd f JW)
 have adr:(fs.mapM fun f=>do pure (f.offset, ← sizeOf f.type):Sem (Array (Nat×Nat))).run P w = .ok pl.toArray w:=by
  rw[Array.mapM_eq_mapM_toList,Sem.run_map,p1];rfl
 obtain⟨vs,f1,f2⟩:=L0 (place:=(pl.toArray[·]?)) (l.map fun p=>(p.1,act.eval p.2)) _ z v.cells cs hc g1 (fun j i v off size d e1 e2=>by
  obtain⟨⟨a,ha⟩,hd⟩:=g2 j i v off size d e1 e2
  refine⟨?_,hd⟩
  unfold n8 at ha
  rw[ht]at ha
  simp only at ha
  split at ha
  ·rename_i fd hfd
   split at ha
   ·rename_i i' a' iH _
    split at ha
    ·cases ha
    ·cases ha
     simpa using p2 i fd i' (by simpa using hfd) iH
   ·cases ha
  ·cases ha) hf
 refine dj.pure (v:= .agg vs) r ?_ (.agg _ _ f2.1.symm f2.2.1 f2.2.2)
 have td:(l.toArray.map fun(i,x)=>(i,act.eval x)).toList=l.map fun p=>(p.1,act.eval p.2):=by simp
 unfold Instr.build
 simp only[Sem.run_bind,zeroValue,gZ P h1,h2,Result.andThen_ok,Sem.run_pure,run_underlying ht,adr,td,f1]
theorem Fu (r:Rel M s w) {t e:TypeId} {i:TypeInfo} {z:List D} {n:Nat} {l:List (Nat×Operand)} {ps:List (Nat×X)} {tm:Tm} {act:Act} {rows:List (List D)} (hr:nP M s tm act.tmps)
 (ht:P.underlying t=some (.slice e)) (hi:P.info? e=some i) (hz:zeroOf P e=some z) (uH:0<i.size) (hn:n*i.size≤65536) (hp:LV l=some ps)
 (hf:lg i.size (gY z n) (ps.map fun p=>(p.1,p.2.ev tm))=some rows) :
 ∃ (vs:Array Value) (T:TypeId),nQ M s i.size rows vs∧rows.length=n∧vs.size=n*i.size∧
  (Instr.buildSlice t n (l.toArray.map fun(i,x)=>(i,act.eval x))).run P w = .ok (.slice (some ⟨w.heap.size,0,none⟩) n n) (w.alloc (.cells vs T)):=by
 obtain⟨i',v,h1,h2,h3,h4⟩:=va hz
 rw[hi]at h1;cases h1
 have hc:=tc (M:=M) (s:=s) h4
 have hzl:z.length=i.size:=by rw[← hc.1,h3]
 have L7:=nQ.zero hc (by omega) n
 rw[hzl]at L7
 obtain⟨g1,g2⟩:=Hb hr hp
 obtain⟨vs,f1,f2,f3,f4⟩:=Dw (l.map fun p=>(p.1,act.eval p.2)) _ _ _ rows L7 g1 g2 hf
 have hzr:=nR z n
 refine⟨vs,e,f2,by rw[f3,hzr],by rw[f4];simp, ?_⟩
 have vE : ¬ (n*i.size > 2 ^ 24):=by omega
 have td:(l.toArray.map fun(i,x)=>(i,act.eval x)).toList=l.map fun p=>(p.1,act.eval p.2):=by simp
 by_cases h0:n*i.size=0
 ·have nS:(Array.range (n*i.size)).map ((#[] : Array Value)[· % (#[] : Array Value).size]!)=(Array.range (n*i.size)).map (v.cells[· % v.cells.size]!):=by rw [h0];simp
  unfold Instr.buildSlice
  simp only[Sem.run_bind,run_underlying ht,Result.andThen_ok,sizeOf,gZ P hi,Sem.run_pure,if_neg vE,if_pos h0,nS,td,f1,newRow,run_newObj]
  rfl
 ·unfold Instr.buildSlice
  simp only[Sem.run_bind,run_underlying ht,Result.andThen_ok,sizeOf,gZ P hi,Sem.run_pure,if_neg vE,if_neg h0,zeroValue,h2,td,f1,newRow,run_newObj]
  rfl
end
end Go.Abs
namespace Go.Abs
section
variable {P:Program} {M:Map} {s:St} {w:World}
theorem foldl_push (ns:List Int) : ∀ r:ByteArray,ns.foldl (fun r n=>r.push (UInt8.ofNat n.toNat)) r = ⟨r.data++(ns.map fun n=>UInt8.ofNat n.toNat).toArray⟩:=by
 induction ns with
 |nil=>intro r;simp
 |cons n ns ih=>intro r;simp only[List.foldl_cons];rw[ih];simp[ByteArray.push]
theorem xv : ∀ {rows:List (List D)} {l:List UInt8},qb rows=some l→∃ ns:List Int,rows=ns.map (fun n=> [.int .u8 n])∧l=ns.map fun n=>UInt8.ofNat n.toNat
 | [],l,h=>by cases h;exact⟨[],rfl,rfl⟩
 | r::rs,l,h=>by
  unfold qb at h
  split at h
  ·rename_i b bs h1 h2
   cases h
   obtain⟨ns,g1,g2⟩:=xv h2
   unfold JS at h1
   split at h1
   ·rename_i n
    cases h1
    exact⟨n::ns,by rw[g1];rfl,by rw[g2];rfl⟩
   ·cases h1
  ·cases h
theorem Rz (r:Rel M s w) {src dst e:TypeId} {g:Tag} {z:Nat} {rows:List (List D)} {v:Value} {l:List UInt8} (hs:P.underlying src=some (.slice e)) (he:P.underlying e=some (.int .u8)) (hd:P.underlying dst=some .string)
 (hv:RD M s (.slice g z rows) v) (hb:qb rows=some l):dj P M s w (do pure (.value (← convert src dst v))) (.str l) s:=by
 obtain⟨ns,rfl,rfl⟩:=xv hb
 refine dj.pure (v:= .string ⟨⟨ns.map fun n=>UInt8.ofNat n.toNat⟩⟩) r ?_ (.str _)
 rcases hv.kb with ⟨h0,rfl,_⟩|⟨h0,_,a,cap,rfl⟩|⟨b,q,cap,rfl,hl,dL,g1,g2,_⟩
 ·have:ns = []:=by simpa using h0
  subst this
  have:=run_convert_bytes_string w src dst e none 0 0 hs he hd
  simp only[Sem.run_bind,this,Conv.bytesToString,Sem.run_pure,Result.andThen_ok]
  rfl
 ·have:ns = []:=by simpa using h0
  subst this
  have h2:=run_convert_bytes_string w src dst e (some a) 0 cap hs he hd
  simp only[Sem.run_bind,h2,Conv.bytesToString,Sem.run_pure,Result.andThen_ok]
  rfl
 ·have nS:=run_loadCells_list (P:=P) w ⟨b,q,none⟩ (ns.map (Value.int .u8)) (fun j v hj=>by
   rw[n9]
   simp only[List.getElem?_map,Option.map_eq_some_iff]at hj
   obtain⟨n,hn,rfl⟩:=hj
   have eI:(ns.map (fun n=> [D.int .u8 n]))[j]? = some [.int .u8 n]:=by simp[hn]
   have hz:z=1:=by have:=dL [.int .u8 n] (List.mem_of_getElem? eI);simpa using this.symm
   subst hz
   obtain⟨u,hu⟩:=g1 j _ 0 _ eI rfl
   have:=g2 j _ 0 _ u eI rfl hu
   rw[this.jf]at hu
   have:=(r.comm _ _ _ hu).1
   simpa using this)
  simp only[List.length_map]at nS ⊢
  have h1:=run_bytesToString (P:=P) w ⟨b,q,none⟩ ns.length cap ns nS
  have h2:=run_convert_bytes_string w src dst e (some ⟨b,q,none⟩) ns.length cap hs he hd
  simp only[Sem.run_bind,h2,h1,Sem.run_pure,Result.andThen_ok,foldl_push]
  congr 3
  simp[ByteArray.empty,ByteArray.emptyWithCapacity]
  rfl
theorem L8 (r:Rel M s w) {src dst e:TypeId} {l:List UInt8} (hs:P.underlying src=some .string) (hd:P.underlying dst=some (.slice e)) (he:P.underlying e=some (.int .u8)) :
 dj P M s w (do pure (.value (← convert src dst (.string ⟨⟨l⟩⟩)))) (.slice .shared 1 (l.map fun c=> [.int .u8 c.toNat])) s:=by
 have ew:=run_bytes_of_string (P:=P) w src dst e ⟨⟨l⟩⟩ hs hd he
 generalize wc:grownCap w (ByteArray.size ⟨⟨l⟩⟩) 0 e=cap at ew
 have yI:l.length≤cap:=by rw[← wc];exact grownCap_ge w l.length 0 e
 have eI : ∀ j,j<l.length→(bytesRow ⟨⟨l⟩⟩ cap)[j]? = some (.int .u8 ((l[j]?.getD 0).toNat:Int)):=by
  intro j hj
  unfold bytesRow
  rw[Array.getElem?_append_left (by simpa using hj)]
  simp[hj]
 have dL:(bytesRow ⟨⟨l⟩⟩ cap).size=cap:=by simp[bytesRow,ED];omega
 have iM : ∀ v∈bytesRow ⟨⟨l⟩⟩ cap,v.oneCell'=true:=by
  intro v hv
  unfold bytesRow at hv
  simp at hv
  rcases hv with ⟨a,_,rfl⟩|⟨_,rfl⟩<;>rfl
 have hR:nQ M s 1 (l.map fun c=> [D.int .u8 c.toNat]) (bytesRow ⟨⟨l⟩⟩ cap):=by
  refine⟨by simp[dL];omega,by simp,iM,fun i row j d v e1 e2 e3=>?_⟩
  simp only[List.getElem?_map,Option.map_eq_some_iff]at e1
  obtain⟨c,hc,rfl⟩:=e1
  cases j with
  |zero=>
   simp at e2;subst e2
   have hi:=(List.getElem?_eq_some_iff.1 hc).1
   rw[show i*1+0=i by omega,eI i hi,hc]at e3
   cases e3
   exact .int _ _
  |succ j=>simp at e2
 obtain⟨r1,e1⟩:=(r.of_heap (w':=w.drew) rfl).gK l.length (bytesRow ⟨⟨l⟩⟩ cap) e ((bytesRow ⟨⟨l⟩⟩ cap).size,(bytesRow ⟨⟨l⟩⟩ cap).size+1) iM
 obtain⟨f1,f2⟩:=hR.fixed e1.le (b:=w.heap.size) (fun o ho=>by simp at ho;simp[Map.gK,ho])
 refine⟨.slice (some ⟨w.heap.size,0,none⟩) l.length cap,_,_, .inl (by simp only[Sem.run_bind,ew,Result.andThen_ok,Sem.run_pure];rfl),r1, ?_,(Ext.of_heap (M:=M) (s:=s) (w:=w) (w':=w.drew) rfl rfl rfl rfl).trans e1⟩
 have key:=RD.slice (M:=M.gK w.heap.size l.length (bytesRow ⟨⟨l⟩⟩ cap)) (s:=s) .shared 1 (l.map fun c=> [D.int .u8 c.toNat]) w.heap.size 0 cap (by simpa using yI) hR.2.1 f1 f2 trivial
 simp only[List.length_map]at key
 exact key
theorem Yj (r:Rel M s w) {t e:TypeId} {q z:Nat} {yb:Bool} {rows:List (List D)} {v:Value} (ht:P.underlying t=some (.slice e)) (he:P.underlying e=some (.int .u8)) (hv:RD M s (.slice (.tok q yb) z rows) v) (fu:rows≠ []) (hq:s.az[q]? = some (some rows.length)) :
 dj P M s w (do pure (.value (← convert t t v))) (.slice .shared z rows) {s with az:=s.az.set q none}:=by
 rcases hv.kb with ⟨h0,_,_⟩|⟨h0,_,_⟩|⟨b,k,cap,rfl,hl,dL,g1,g2,qg⟩
 ·exact(fu h0).elim
 ·exact(fu h0).elim
 ·obtain⟨_,h2⟩:=qg
  obtain⟨_,h3⟩:=h2 _ hq
  rcases h3 rfl with ⟨_,h4,_⟩|⟨b2,h4,l7⟩
  ·subst h4
   exact(fu (List.eq_nil_of_length_eq_zero (Nat.le_zero.1 hl))).elim
  cases h4
  obtain⟨r1,l1⟩:=r.ako q
  rcases r.tok q rows.length hq with ⟨h4,_⟩|⟨b',sv,Bt,vs,T,h4,h5,h6,h7,h8⟩
  ·rw[l7]at h4;cases h4
  ·rw [l7]at h4;cases h4
   have jz : ∀ p,St.live {s with az:=s.az.set q none} p→p≠q∧s.live p:=by
    rintro p ⟨n,hn⟩
    rw[List.getElem?_set]at hn
    split at hn
    ·simp at hn
    ·rename_i fu;exact⟨fun h=>fu h.symm,n,hn⟩
   obtain⟨r2,hh,oI,ho,Hg,Yk⟩:=r1.freeze (b:=b) vs.size 1 (fun o ho=>r.fM q b cap _ o ⟨_,hq⟩ l7 ho)
    (fun p c y hp heq=>(jz p hp).1 (r.gQ p q b c y cap _ (jz p hp).2 ⟨_,hq⟩ heq l7))
   have afT:w.shape? b=some (T,vs.size):=by simp[World.shape?,h5]
   refine⟨.slice (some ⟨b,0,none⟩) rows.length cap,_,M, .inl ?_,r2, ?_, ?_⟩
   ·simp[convert,run_underlying ht,run_underlying he,markStringish,afT]
   ·have h9:=(RD.slice (M:=M) (s:=s) .shared z rows b 0 cap hl dL g1 g2 trivial).mono l1
    exact h9
   ·refine⟨l1,fun p _ _ h4=>hh p (fun e=>h4 q cap (bz yb z) ⟨_,hq⟩ (by rw [l7,e])),fun o h3 h4=> ?_,fun p b' c y hp heq=> .inl ⟨(jz p hp).2,c,y,heq⟩,fun _ _ h=>(h rfl).elim,by rw [oI];exact Nat.le_refl _,ho,Hg,Yk⟩
    simp at h4;omega
theorem Va (r:Rel M s w) {size:Nat} {rows:List (List D)} {vs:Array Value} (T:TypeId) (h:nQ M s size rows vs) (dL:vs.size=rows.length*size) (uH:0<size) :
 ∃ M',RD M' {s with az:=s.az++ [some rows.length]} (.slice (.tok s.az.length) size rows) (.slice (some ⟨w.heap.size,0,none⟩) rows.length rows.length)∧
 Rel M' {s with az:=s.az++ [some rows.length]} (w.alloc (.cells vs T))∧Ext M s w M' {s with az:=s.az++ [some rows.length]} (w.alloc (.cells vs T)):=by
 obtain⟨r1,e1⟩:=r.gK vs.size vs T (0,0) h.2.2.1
 have AE:zs size=size:=by show(if size=0 then 1 else size)=size;rw[if_neg (by omega)]
 obtain⟨r2,l2⟩:=r1.abn rows.length w.heap.size rows.length size vs T (heap_alloc_new w _) (by rw[AE];exact dL) (Nat.le_refl _) (fun h=>by omega)
  (fun off ho=>by rw[AE]at ho;simp[Map.gK];omega) (fun o ho=>by have:=r.sb ho;show M.mu o≠_;omega)
  (fun q c z' hl heq=>by have:=r.u9 hl (show M.be q=some (w.heap.size,c,z')from heq);omega)
 obtain⟨f1,f2⟩:=h.fixed (e1.le.trans l2) (b:=w.heap.size) (fun o ho=>by
  have:o<vs.size:=Nat.lt_of_lt_of_le ho h.1
  simp[Map.fN,Map.gK,this])
 refine⟨_, ?_,r2, ?_⟩
 ·exact .slice _ size rows w.heap.size 0 rows.length (Nat.le_refl _) h.2.1 f1 f2 ⟨by simp,fun n hn=>by
   simp at hn;subst hn
   exact⟨Nat.le_refl _,fun _=> .inr ⟨_,rfl,by simp[Map.fN,bz]⟩⟩⟩
 ·refine⟨e1.le.trans l2,e1.kept,e1.sn,fun q b c z' hl heq=> ?_,e1.sq,e1.size,e1.os,e1.tape,e1.output⟩
  obtain⟨k,hk⟩:=hl
  rcases Nat.lt_or_ge q s.az.length with h'|h'
  ·have L6:M.be q=some (b,c,z'):=by
    have:((M.gK w.heap.size vs.size vs).fN s.az.length (some (w.heap.size,rows.length,size))).be q=M.be q:=by simp[Map.fN,Map.gK];omega
    rw[this]at heq;exact heq
   simp only[List.getElem?_append_left h']at hk
   exact .inl ⟨⟨k,hk⟩,c,z',L6⟩
  ·have:=(List.getElem?_eq_some_iff.1 hk).1
   simp at this
   have:q=s.az.length:=by omega
   subst this
   have:((M.gK w.heap.size vs.size vs).fN s.az.length (some (w.heap.size,rows.length,size))).be s.az.length=some (w.heap.size,rows.length,size):=by simp[Map.fN]
   rw[this]at heq;cases heq
   exact .inr (Nat.le_refl _)
end
end Go.Abs
namespace Go.Abs
open Go.MapKept
section
variable {P:Program} {M:Map} {s:St} {w:World}
theorem yK : ∀ (a b:List MapEntry),iS (a++b)=iS a++iS b
 | [],b=>rfl
 |e::a,b=>by simp only[List.cons_append,iS,yK a b]
theorem JX : ∀ (a:List MapEntry) (j:Nat) (e:MapEntry) (k v:Value),a[j]? = some e→e.key=k→iS (a.set j {e with key:=k,val:=v})=(iS a).set (2*j+1) v
 | [],j,e,k,v,h,_=>by simp at h
 |x::a,0,e,k,v,h,hk=>by
  simp at h;subst h;subst hk
  simp[iS]
 |x::a,j+1,e,k,v,h,hk=>by
  have:=JX a j e k v (by simpa using h) hk
  simp only[List.set_cons_succ,iS,this]
  rw[show 2*(j+1)=(2*j+1)+1 by omega,List.set_cons_succ]
theorem Yl (a b:List UInt8):((⟨⟨a⟩⟩:ByteArray) == ⟨⟨b⟩⟩)=(a==b):=by
 show((⟨a⟩:Array UInt8) == ⟨b⟩)=(a==b)
 simp
theorem find_spec {key:List UInt8} : ∀ (es:List MapEntry) (cs:List D) (i:Nat),(iS es).length=cs.length→(∀ (i:Nat) (d:D) (v:Value),cs[i]? = some d→(iS es)[i]? = some v→RD M s d v)→
 (∀ z d,Bq key z cs=some d→(Instr.findNow .string (.string ⟨⟨key⟩⟩) es i=some none∧d=z)∨∃ (j:Nat) (e:MapEntry),Instr.findNow .string (.string ⟨⟨key⟩⟩) es i=some (some (i+j,e.val))∧RD M s d e.val)∧
 (∀ d kT,zH key d cs=some kT→(Instr.findNow .string (.string ⟨⟨key⟩⟩) es i=some none∧kT=cs++ [.str key,d])∨
  ∃ (j:Nat) (e:MapEntry),Instr.findNow .string (.string ⟨⟨key⟩⟩) es i=some (some (i+j,e.val))∧es[j]? = some e∧e.key = .string ⟨⟨key⟩⟩∧kT=cs.set (2*j+1) d)
 | [],cs,i,hl,hr=>by
  have:cs = []:=by cases cs<;>simp[iS]at hl;rfl
  subst this
  refine⟨fun z d h=> .inl ⟨rfl,by simp[Bq]at h;exact h.symm⟩,fun d kT h=> .inl ⟨rfl,by simp[zH]at h;simp[← h]⟩⟩
 | x::es,cs,i,hl,hr=>by
  match cs,hl with
  | [],hl=>simp[iS]at hl
  | [_],hl=>simp[iS]at hl
  | c0::c1::r,hl=>
   simp only[iS,List.length_cons]at hl hr
   have h0:=hr 0 c0 x.key rfl rfl
   have h1:=hr 1 c1 x.val rfl rfl
   obtain⟨ih1,ih2⟩:=find_spec es r (i+1) (by omega) (fun j d v e1 e2=>hr (j+2) d v (by simpa using e1) (by simpa using e2))
   have hky : ∀ k,c0 = .str k→x.key = .string ⟨⟨k⟩⟩∧Instr.findNow .string (.string ⟨⟨key⟩⟩) (x::es) i=if key==k then some (some (i,x.val))else Instr.findNow .string (.string ⟨⟨key⟩⟩) es (i+1):=by
    intro k hk
    subst hk
    have hx:=h0.mR
    refine⟨hx, ?_⟩
    simp only[Instr.findNow,hx,Instr.sameNow,Yl]
    cases hb:key==k<;>simp
   refine⟨fun z d h=>?_,fun d kT h=>?_⟩
   ·cases c0 <;> simp only [Bq]at h <;> try (cases h;done)
    rename_i k
    obtain⟨k1,k2⟩:=hky k rfl
    rw[k2]
    by_cases Cz:k=key
    ·subst Cz
     simp at h
     subst h
     exact .inr ⟨0,x,by simp,h1⟩
    ·have e1:(k==key)=false:=by simpa using Cz
     have e2:(key==k)=false:=by simpa using fun e:key=k=>Cz (Eq.symm e)
     rw[e1]at h
     rw[e2]
     simp only[Bool.false_eq_true,↓reduceIte]at h ⊢
     rcases ih1 z d h with h2|⟨j,e,h2,h3⟩
     ·exact .inl h2
     ·exact .inr ⟨j+1,e,by rw[h2];congr 3;omega,h3⟩
   ·cases c0 <;> simp only [zH]at h <;> try (cases h;done)
    rename_i k
    obtain⟨k1,k2⟩:=hky k rfl
    rw[k2]
    by_cases Cz:k=key
    ·subst Cz
     simp at h
     subst h
     exact .inr ⟨0,x,by simp,rfl,k1,by simp⟩
    ·have e1:(k==key)=false:=by simpa using Cz
     have e2:(key==k)=false:=by simpa using fun e:key=k=>Cz (Eq.symm e)
     rw[e1]at h
     rw[e2]
     simp only[Bool.false_eq_true,↓reduceIte]at h ⊢
     split at h
     ·rename_i r' U5
      cases h
      rcases ih2 d r' U5 with ⟨h2,h3⟩|⟨j,e,h2,h3,h4,h5⟩
      ·exact .inl ⟨h2,by rw[h3];rfl⟩
      ·refine .inr ⟨j+1,e,by rw [h2];congr 3;omega,by simpa using h3,h4, ?_⟩
       rw[h5,show 2*(j+1)+1=(2*j+1)+1+1 by omega]
       simp only[List.set_cons_succ]
     ·cases h
theorem Rel.wi (r:Rel M s w) {o:Nat} {cs kT:List D} (he:s.aj[o]? = some cs) (hk:M.ob o = .map) (DA:Array MapEntry) (ck:Nat) (hl:(iS DA.toList).length=kT.length)
 (h1 : ∀ v∈iS DA.toList,v.oneCell'=true) (h2 : ∀ (i:Nat) (d:D) (v:Value),kT[i]? = some d→(iS DA.toList)[i]? = some v→RD M s d v) :
 Rel M {s with aj:=s.aj.set o kT} {w with heap:=w.heap.setIfInBounds (M.mu o) (.map DA ck)}∧Ext M s w M {s with aj:=s.aj.set o kT} {w with heap:=w.heap.setIfInBounds (M.mu o) (.map DA ck)}:=by
 obtain⟨vs,T,hh,hs,⟨iM,hty⟩,jI⟩:=r.obj o cs he
 obtain⟨es,ck0,(hh:w.heap[M.mu o]? = _),pW⟩:=hh.Ra hk
 have ho:o<s.aj.length:=(List.getElem?_eq_some_iff.1 he).1
 obtain⟨q9,nO⟩:=heap_set (w:=w) (o':= .map DA ck) hh
 have le:Le M s M {s with aj:=s.aj.set o kT}:=
  ⟨fun _ _ _ h=>h,by simp,fun _ _=> .refl _,Nat.le_refl _,fun t n _ h=>⟨n,h,Nat.le_refl _,fun _=>rfl⟩⟩
 refine⟨⟨fun b q v e=>?_,fun o' ds e=>?_,fun q hq su=>r.km q (by simpa using hq) su,fun q q' hq lq e=>r.inj q q' (by simpa using hq) (by simpa using lq) e,fun t n e=>?_,
  fun t b c z q hl e hq=>r.fM t b c z q hl e (by simpa using hq),fun t t' b c z c' z' h h' e e'=>r.gQ t t' b c z c' z' h h' e e'⟩, ?_⟩
 ·obtain⟨h3,h4⟩:=r.comm b q v e
  refine⟨?_,h4⟩
  have hb:b≠M.mu o:=fun eq=>by subst eq;rw[r.km o ho q]at e;cases e
  rw[← h3]
  simp[World.cell?,nO b hb]
 ·rw [List.getElem?_set]at e
  split at e
  ·rename_i heq
   subst heq
   simp at e
   obtain⟨_,rfl⟩:=e
   refine⟨⟨iS DA.toList⟩,0, ?_,by simpa using hl,⟨fun v hv=>h1 v (by simpa using hv),fun T' h=>?_⟩,fun i d v e1 e2=>(h2 i d v e1 (by simpa using e2)).mono le⟩
   ·exact jx.ofMap hk ⟨DA,ck,q9,rfl⟩
   ·have:M.ty o=none:=by
     have:(M.loc o).2 = .map:=hk
     simp[Map.ty,this,Ob.ty?]
    rw[this]at h;cases h
  ·rename_i fu
   obtain⟨gv,T',h3,h4,h5,h6⟩:=r.obj o' ds e
   have po:o'<s.aj.length:=(List.getElem?_eq_some_iff.1 e).1
   refine⟨gv,T', ?_,h4,h5,fun i d v e1 e2=>(h6 i d v e1 e2).mono le⟩
   exact h3.keep (nO _ (fun eq=>fu (r.inj o o' ho po eq.symm)))
 ·rcases r.tok t n e with h3 | ⟨b,cap,size,gv,T',h3,h4,h5⟩
  ·exact .inl h3
  ·refine .inr ⟨b,cap,size,gv,T',h3, ?_,h5⟩
   show(w.heap.setIfInBounds (M.mu o) (.map DA ck))[b]? = _
   rw[nO b (fun eq=>r.fM t b cap size o ⟨n,e⟩ h3 ho eq.symm)];exact h4
 ·refine⟨le,fun b hb h3 _=>nO b (fun eq=>h3 o ho eq.symm),fun q h3 h4=> ?_,fun t b c z h e=> .inl ⟨h,c,z,e⟩,fun _ _ h=>(h rfl).elim,by simp,rfl,rfl,rfl⟩
  simp at h4;rcases h3 with h3|h3;omega;exact(h3 rfl).elim
theorem vG (l:List UInt8):IsKey .string (.string ⟨⟨l⟩⟩):=by simp[IsKey]
theorem RA (r:Rel M s w) {t kt e:TypeId} (ht:P.underlying t=some (.map kt e)):dj P M s w (do pure (.value (← Instr.makeMap t none))) (.gW s.aj.length) {s with aj:=s.aj++ [[]]}:=by
 obtain⟨r',e'⟩:=r.LW [] (.map #[] 0) #[] 0 .map (fun hp e=>⟨#[],0,e,rfl⟩) (fun _ h=>by cases h) rfl (by simp) (by simp)
 have hm:(M.eJ s.aj.length w.heap.size .map).mu s.aj.length=w.heap.size:=by simp[Map.eJ,Map.mu]
 have hv:=RD.gW (M:=M.eJ s.aj.length w.heap.size .map) (s:= {s with aj:=s.aj++ [[]]}) s.aj.length (by simp) (by simp[Map.eJ,Map.ob])
 rw[hm]at hv
 refine⟨_,_,_, .inl ?_,r',hv,e'⟩
 simp only[Instr.makeMap,newObj,Sem.run_bind,Sem.run_pure,Sem.run,Result.andThen_ok]
 rfl
theorem RB (r:Rel M s w) {t kt e:TypeId} {i:TypeInfo} {z:Value} {zd:D} (ht:P.underlying t=some (.map kt e)) (hk:P.underlying kt=some .string) (hi:P.info? e=some i) (hz:i.zero=some z) (hzd:uB z=some zd)
 {o:Nat} {key:List UInt8} {cs:List D} {d:D} (Ay:M.ob o = .map) (ho:s.aj[o]? = some cs) (hg:Bq key zd cs=some d) :
 dj P M s w (do pure (.value (← Instr.lookup t (.map (some (M.mu o))) (.string ⟨⟨key⟩⟩) false))) d s:=by
 obtain⟨vs,T,hh,hs,⟨iM,hty⟩,jI⟩:=r.obj o cs ho
 obtain⟨es,ck,(hh:w.heap[M.mu o]? = _),pW⟩:=hh.Ra Ay
 have FY : ∀ (i:Nat) (d:D) (v:Value),cs[i]? = some d→(iS es.toList)[i]? = some v→RD M s d v:=fun i d v e1 e2=>jI i d v e1 (by rw[← pW]at e2;simpa using e2)
 have hzv:(zeroValue e).run P w = .ok z w:=by simp[zeroValue,gZ P hi,hz]
 rcases(find_spec es.toList cs 0 (by rw[← pW];simpa using hs) FY).1 zd d hg with ⟨h1,rfl⟩|⟨j,en,h1,h2⟩
 ·refine dj.pure (v:=z) r ?_ (sc hzd).1
  simp[Instr.lookup,run_underlying ht,MapKept.run_getObj_map hh,run_checkKey hk (vG key),run_findKey hk h1,hzv]
 ·refine dj.pure (v:=en.val) r ?_ h2
  simp[Instr.lookup,run_underlying ht,MapKept.run_getObj_map hh,run_checkKey hk (vG key),run_findKey hk h1]
theorem Vb (r:Rel M s w) {t kt e:TypeId} (ht:P.underlying t=some (.map kt e)) (hk:P.underlying kt=some .string)
 {o:Nat} {key:List UInt8} {cs kT:List D} {d:D} {v:Value} (Ay:M.ob o = .map) (ho:s.aj[o]? = some cs) (hv:RD M s d v) (AH:v.oneCell'=true) (hg:zH key d cs=some kT) :
 dj P M s w (do Instr.mapUpdate t (.map (some (M.mu o))) (.string ⟨⟨key⟩⟩) v;pure .skip) (.tuple []) {s with aj:=s.aj.set o kT}:=by
 obtain⟨vs,T,hh,hs,⟨iM,hty⟩,jI⟩:=r.obj o cs ho
 obtain⟨es,ck,(hh:w.heap[M.mu o]? = _),pW⟩:=hh.Ra Ay
 have FY : ∀ (i:Nat) (d:D) (v:Value),cs[i]? = some d→(iS es.toList)[i]? = some v→RD M s d v:=fun i d v e1 e2=>jI i d v e1 (by rw[← pW]at e2;simpa using e2)
 have hl:(iS es.toList).length=cs.length:=by rw[← pW];simpa using hs
 have abu : ∀ v∈iS es.toList,v.oneCell'=true:=fun v hv=>iM v (by rw[← pW]at hv;simpa using hv)
 rcases(find_spec es.toList cs 0 hl FY).2 d kT hg with ⟨h1,rfl⟩|⟨j,en,h1,h2,h3,rfl⟩
 ·obtain⟨r',e'⟩:=r.wi (kT:=cs++ [.str key,d]) ho Ay (es.push {key:= .string ⟨⟨key⟩⟩,val:=v,born:=ck}) (ck+1) (by simp [yK,iS,hl]) (fun u hu=>by
   simp only[Array.toList_push,yK,iS,List.mem_append,List.mem_cons,List.not_mem_nil,or_false]at hu
   rcases hu with hu|rfl|rfl
   ·exact abu u hu
   ·rfl
   ·exact AH) (fun i d' u e1 e2=>by
   simp only[Array.toList_push,yK,iS]at e2
   rcases Nat.lt_or_ge i cs.length with hi|hi
   ·rw [List.getElem?_append_left hi]at e1
    rw[List.getElem?_append_left (by omega)]at e2
    exact FY i d' u e1 e2
   ·rw [List.getElem?_append_right hi]at e1
    rw[List.getElem?_append_right (by omega),hl]at e2
    match i - cs.length,e1,e2 with
    | 0,e1,e2=>simp at e1 e2;subst e1 e2;exact .str _
    | 1,e1,e2=>simp at e1 e2;subst e1 e2;exact hv
    |k+2,e1,e2=>simp at e1)
  refine⟨Go.undef,_,M, .inr ⟨?_,rfl⟩,r', .undef,e'⟩
  simp[Instr.mapUpdate,run_underlying ht,MapKept.run_getObj_map hh,run_checkKey hk (vG key),run_findKey hk h1,MapKept.run_setObj_map _ hh]
 ·simp only [Nat.zero_add]at h1
  have hj:es[j]? = some en:=by simpa using h2
  have Ym:(es.modify j fun e=> {e with key:= .string ⟨⟨key⟩⟩,val:=v}).toList=es.toList.set j {en with key:= .string ⟨⟨key⟩⟩,val:=v}:=by
   apply List.ext_getElem?
   intro i
   rw[Array.getElem?_toList,Array.getElem?_modify,List.getElem?_set]
   by_cases Vc:j=i
   ·subst Vc
    have:j<es.size:=by have:=(List.getElem?_eq_some_iff.1 h2).1;simpa using this
    simp[hj,this]
    have:=(Array.getElem?_eq_some_iff.1 hj).2
    rw[this]
   ·simp[Vc]
  have ib:=JX es.toList j en (.string ⟨⟨key⟩⟩) v h2 h3
  obtain⟨r',e'⟩:=r.wi (kT:=cs.set (2*j+1) d) ho Ay (es.modify j fun e=> {e with key:= .string ⟨⟨key⟩⟩,val:=v}) ck (by rw[Ym,ib];simp[hl]) (fun u hu=>by
   rw[Ym,ib]at hu
   rcases List.mem_or_eq_of_mem_set hu with hu|rfl
   ·exact abu u hu
   ·exact AH) (fun i d' u e1 e2=>by
   rw[Ym,ib,List.getElem?_set]at e2
   rw[List.getElem?_set]at e1
   by_cases hi:2*j+1=i
   ·rw [if_pos hi]at e1 e2
    split at e1
    ·split at e2
     ·cases e1;cases e2;exact hv
     ·cases e2
    ·cases e1
   ·rw [if_neg hi]at e1 e2
    exact FY i d' u e1 e2)
  refine⟨Go.undef,_,M, .inr ⟨?_,rfl⟩,r', .undef,e'⟩
  simp[Instr.mapUpdate,run_underlying ht,MapKept.run_getObj_map hh,run_checkKey hk (vG key),run_findKey hk h1,hj,h3,run_keyThatStays (vG key),MapKept.run_setObj_map _ hh]
end
end Go.Abs
namespace Go.Abs
section
variable {M:Map} {s:St} {w:World}
theorem Hh {o g:Nat} {cells:List D} (h:mr s o g=some cells):s.aj[o]? = some (.int .i64 g::cells):=by
 unfold mr at h
 split at h
 ·rename_i n cs e
  split at h
  ·rename_i hn;cases h;rw[e,hn]
  ·cases h
 ·cases h
theorem Rel.I4 (r:Rel M s w) {o z g:Nat} {A:Nat→Option (Nat×Nat)} {cells:List D} (hm:M.ob o = .arr z A) (ha:mr s o g=some cells) :
 ∃ (us:Array Value) (T:TypeId) (cap:Nat),w.heap[M.mu o]? = some (.cells us T (0,0))∧A g=some (M.mu o,cap)∧(∀ g',g<g'→A g'=none)∧us.size=cap*z∧cells.length≤us.size∧
  (∀ u∈us,u.oneCell'=true)∧∀ (i:Nat) (d:D) (u:Value),cells[i]? = some d→us[i]? = some u→RD M s d u:=by
 obtain⟨vs,T,hh,hs,_,jI⟩:=r.obj o _ (Hh ha)
 obtain⟨us,g0,n,cap,h1,h2,h3,h4,h5,h6,h7⟩ : ∃ (us:Array Value) (g n cap:Nat),w.heap[(M.loc o).1]? = some (.cells us T (0,0))∧A g=some ((M.loc o).1,cap)∧(∀ g',g<g'→A g'=none)∧us.size=cap*z∧n≤us.size∧
  vs.toList = .int .i64 g::us.toList.take n∧∀ u∈us,u.oneCell'=true:=by
  unfold jx at hh
  rw[show(M.loc o).2 = .arr z A from hm]at hh
  exact hh
 have gA : ∀ i,vs[i]? = (Value.int .i64 g0::us.toList.take n)[i]? :=fun i=>by rw[← h6,Array.getElem?_toList]
 have hg:g0=g:=by
  have:=(jI 0 (.int .i64 g) (.int .i64 g0) rfl (by rw[gA];rfl))
  cases this
  rfl
 subst hg
 have hn:n=cells.length:=by
  have:vs.toList.length=(Value.int .i64 g0::us.toList.take n).length:=by rw[h6]
  simp at this hs
  omega
 subst hn
 refine⟨us,T,cap,h1,h2,h3,h4,h5,h7,fun i d u e1 e2=>jI (i+1) d u (by simpa using e1) ?_⟩
 rw[gA,List.getElem?_cons_succ,List.getElem?_take,if_pos (List.getElem?_eq_some_iff.1 e1).1]
 simpa using e2
def Map.tf (M:Map) (o:Nat) (l:Nat×Ob):Map:= {M with loc:=fun q=>if q=o then l else M.loc q}
theorem Rel.Yn (r:Rel M s w) {o z g:Nat} {A:Nat→Option (Nat×Nat)} {cells:List D} (hm:M.ob o = .arr z A) (ha:mr s o g=some cells) (b' g' sv:Nat) (A':Nat→Option (Nat×Nat))
 (hA : ∀ g x,A g=some x→A' g=some x) (ur:A' g'=some (b',sv)) (Dt : ∀ PY,g'<PY→A' PY=none) (w':World) (us:Array Value) (T:TypeId) (hh:w'.heap[b']? = some (.cells us T (0,0))) (dL:us.size=sv*z)
 (xw:List D) (hl:xw.length≤us.size) (iM : ∀ u∈us,u.oneCell'=true) (jI : ∀ (i:Nat) (d:D) (u:Value),xw[i]? = some d→us[i]? = some u→RD M s d u)
 (hb:b'=M.mu o∨w.heap.size≤b') (Lz : ∀ b,b<w.heap.size→b≠M.mu o→w'.heap[b]? = w.heap[b]?) (vb:w.heap.size≤w'.heap.size) (h1:w'.os=w.os) (h2:w'.tape=w.tape) (h3:w'.output=w.output) :
 Rel (M.tf o (b', .arr z A')) {s with aj:=s.aj.set o (.int .i64 g'::xw)} w'∧Ext M s w (M.tf o (b', .arr z A')) {s with aj:=s.aj.set o (.int .i64 g'::xw)} w':=by
 have ho:o<s.aj.length:=(List.getElem?_eq_some_iff.1 (Hh ha)).1
 have xm:(M.loc o).2 = .arr z A:=hm
 have q9:(M.tf o (b', .arr z A')).loc o=(b', .arr z A'):=by simp[Map.tf]
 have RC : ∀ q,q≠o→(M.tf o (b', .arr z A')).loc q=M.loc q:=fun q hq=>by simp[Map.tf,hq]
 have oE:(M.tf o (b', .arr z A')).mu o=b':=congrArg Prod.fst q9
 have FZ : ∀ q,q≠o→(M.tf o (b', .arr z A')).mu q=M.mu q:=fun q hq=>congrArg Prod.fst (RC q hq)
 have le:Le M s (M.tf o (b', .arr z A')) {s with aj:=s.aj.set o (.int .i64 g'::xw)}:=by
  refine⟨fun _ _ _ h=>h,by simp,fun q _=>?_,Nat.le_refl _,fun t n _ h=>⟨n,h,Nat.le_refl _,fun _=>rfl⟩⟩
  by_cases hq:q=o
  ·subst hq
   rw[q9,show M.loc q=((M.loc q).1, .arr z A) by rw[← xm]]
   exact .arr _ _ z A A' hA
  ·rw[RC q hq];exact .refl _
 have fu : ∀ q,q<s.aj.length→q≠o→M.mu q≠b':=fun q hq vH e=>by
  rcases hb with hb|hb
  ·exact vH (r.inj q o hq ho (e.trans hb))
  ·have:=r.sb hq;omega
 have hG : ∀ off,M.G b' off=none:=fun off=>by
  rcases hb with hb|hb
  ·rw[hb];exact r.km o ho off
  ·exact r.Rg hb off
 refine⟨⟨fun b q v e=>?_,fun q ds e=>?_,fun q hq off=>?_,fun q q' hq lq e=>?_,fun t n e=>?_,fun t b c z' q hl e hq=>?_,fun t t' b c z c' z' h h' e e'=>r.gQ t t' b c z c' z' h h' e e'⟩, ?_⟩
 ·obtain⟨h4,h5⟩:=r.comm b q v e
  refine⟨?_,h5⟩
  have hbo:b≠M.mu o:=fun eq=>by subst eq;have e0:M.G (M.mu o) q=some v:=e;rw[r.km o ho q]at e0;cases e0
  rw[← h4]
  simp[World.cell?,Lz b (r.Dn e) hbo]
 ·simp only [List.getElem?_set]at e
  split at e
  ·rename_i hq
   subst hq
   cases e
   refine⟨⟨.int .i64 g'::us.toList.take xw.length⟩,T, ?_,by simp;omega,⟨fun v hv=>?_,fun T' hT=>?_⟩,fun i d v e1 e2=>?_⟩
   ·unfold jx
    rw[q9]
    exact⟨us,g',xw.length,sv,hh,ur,Dt,dL,hl,rfl,iM⟩
   ·simp at hv
    rcases hv with rfl|hv
    ·rfl
    ·exact iM v (Array.mem_toList_iff.1 (List.mem_of_mem_take hv))
   ·have:(M.tf o (b', .arr z A')).ty o=none:=by unfold Map.ty;rw [q9];rfl
    rw[this]at hT;cases hT
   ·cases i with
    |zero=>simp at e1 e2;subst e1 e2;exact .int _ _
    |succ i=>
     simp at e1 e2
     rw[List.getElem?_take]at e2
     split at e2
     ·exact(jI i d v e1 (by simpa using e2)).mono le
     ·cases e2
  ·rename_i hq
   have hq:q≠o:=fun e=>hq e.symm
   obtain⟨gv,T',h4,h5,h6,h7⟩:=r.obj q ds e
   have Ft:q<s.aj.length:=(List.getElem?_eq_some_iff.1 e).1
   refine⟨gv,T', ?_,h5,⟨h6.1,by unfold Map.ty;rw[RC q hq];exact h6.2⟩,fun i d v e1 e2=>(h7 i d v e1 e2).mono le⟩
   rw[RC q hq]
   exact h4.keep (Lz _ h4.lt fun e=>hq (r.inj q o Ft ho e))
 ·simp at hq
  by_cases vH:q=o
  ·subst vH;rw[oE];exact hG off
  ·rw[FZ q vH];exact r.km q hq off
 ·simp at hq lq
  by_cases h4:q=o<;>by_cases h5:q'=o
  ·omega
  ·subst h4;rw[oE,FZ q' h5]at e;exact(fu q' lq h5 e.symm).elim
  ·subst h5;rw[oE,FZ q h4]at e;exact(fu q hq h4 e).elim
  ·rw[FZ q h4,FZ q' h5]at e;exact r.inj q q' hq lq e
 ·rcases r.tok t n e with h4 | ⟨b,cap,size,gv,T',h4,h5,h6⟩
  ·exact .inl h4
  ·refine .inr ⟨b,cap,size,gv,T',h4, ?_,h6⟩
   rw[Lz b (lu h5) (fun eq=>r.fM t b cap size o ⟨n,e⟩ h4 ho eq.symm)];exact h5
 ·simp at hq
  by_cases vH:q=o
  ·subst vH;rw [oE]
   rcases hb with hb|hb
   ·rw[hb];exact r.fM t b c z' q hl e hq
   ·have:=r.u9 hl e;omega
  ·rw[FZ q vH];exact r.fM t b c z' q hl e hq
 ·refine⟨le,fun b uu h4 _=>Lz b uu (fun e=>h4 o ho e.symm),fun q h4 h5=> ?_,fun t b c z h e=> .inl ⟨h,c,z,e⟩,fun _ _ h=>(h rfl).elim,vb,h1,h2,h3⟩
  simp at h5
  by_cases vH:q=o
  ·subst vH
   rw[oE]at h4 ⊢
   rcases hb with hb|hb
   ·rcases h4 with h4 | h4
    ·omega
    ·exact(h4 hb).elim
   ·exact hb
  ·rw [FZ q vH]at h4
   rcases h4 with h4|h4
   ·omega
   ·exact(h4 rfl).elim
theorem Rel.afV (r:Rel M s w) (z cap:Nat) (us:Array Value) (T:TypeId) (dL:us.size=cap*z) (cells:List D) (hl:cells.length≤us.size) (iM : ∀ u∈us,u.oneCell'=true)
 (jI : ∀ (i:Nat) (d:D) (u:Value),cells[i]? = some d→us[i]? = some u→RD M s d u) :
 ∃ M',Rel M' {s with aj:=s.aj++ [.int .i64 ((0:Nat):Int)::cells]} (w.alloc (.cells us T))∧Ext M s w M' {s with aj:=s.aj++ [.int .i64 ((0:Nat):Int)::cells]} (w.alloc (.cells us T))∧
  ∀ len,len≤cap→RD M' {s with aj:=s.aj++ [.int .i64 ((0:Nat):Int)::cells]} (.dH z s.aj.length 0 len) (.slice (some ⟨w.heap.size,0,none⟩) len cap):=by
 obtain⟨r',e'⟩:=r.LW (.int .i64 ((0:Nat):Int)::cells) (.cells us T) ⟨.int .i64 ((0:Nat):Int)::us.toList.take cells.length⟩ T (.arr z fun g=>if g=0 then some (w.heap.size,cap)else none)
  (fun hp e=>⟨us,0,cells.length,cap,e,rfl,fun g' h=>if_neg (by omega),dL,hl,rfl,iM⟩) (fun _ h=>by cases h) (by simp;omega) (fun v hv=>by
   simp at hv
   rcases hv with rfl|hv
   ·rfl
   ·exact iM v (Array.mem_toList_iff.1 (List.mem_of_mem_take hv))) (fun i d v e1 e2=>by
   cases i with
   |zero=>simp at e1 e2;subst e1 e2;exact .int _ _
   |succ i=>
    simp at e1 e2
    rw[List.getElem?_take]at e2
    split at e2
    ·exact(jI i d v e1 (by simpa using e2)).mono (uC s w.heap.size _ _)
    ·cases e2)
 exact⟨_,r',e',fun len h=> .dH z _ 0 len w.heap.size cap _ (by simp) (by simp[Map.eJ,Map.ob];rfl) (if_pos rfl) h⟩
end
end Go.Abs
namespace Go.Abs
section
variable {P:Program} {M:Map} {s:St} {w:World}
theorem PZ (r:Rel M s w) {o g off:Nat} {v:Value} {cells:List D} (hx:RD M s (.gd o g off) v) (ha:mr s o g=some cells) :
 ∃ z A,M.ob o = .arr z A∧v = .pointer (some ⟨M.mu o,off,none⟩):=by
 obtain⟨z,b,cap,A,hv,ho,hm,hg⟩:=hx.FT
 obtain⟨us,T,sv,h1,h2,_⟩:=r.I4 hm ha
 rw[hg]at h2;cases h2
 exact⟨z,A,hm,hv⟩
theorem OW (r:Rel M s w) {t:TypeId} {i:TypeInfo} {agg:Bool} (hi:P.info? t=some i) (hag:sZ P t=some agg) {x d:D} {v:Value} {s':St} (hx:RD M s x v) (h:Br x agg i.size s=some (d,s')) :
 dj P M s w (do pure (.value (← Instr.loadAt t v))) d s':=by
 unfold Br at h
 split at h
 case h_2=>cases h
 rename_i o g off
 split at h
 case h_2=>cases h
 rename_i cells ha
 split at h
 case h_2=>cases h
 rename_i d' hp
 cases h
 obtain⟨z,A,hm,rfl⟩:=PZ r hx ha
 obtain⟨us,T,cap,hh,_,_,_,hl,iM,jI⟩:=r.I4 hm ha
 let n:=if agg then i.size else 1
 have kn:off+n≤us.size:=by
  rcases sM hp with ⟨rfl,h1,_⟩|⟨rfl,h1⟩
  ·simp[n];omega
  ·have:=(List.getElem?_eq_some_iff.1 h1).1;simp[n];omega
 have hlen:((us.toList.drop off).take n).length=n:=by simp;omega
 have gA : ∀ (j:Nat) (u:Value),((us.toList.drop off).take n)[j]? = some u→us[off+j]? = some u:=by
  intro j u h
  rw[List.getElem?_take]at h
  split at h
  ·rw[List.getElem?_drop]at h;simpa using h
  ·cases h
 have ew:=Bv (w:=w) P hi hag (M.mu o) off ((us.toList.drop off).take n) hlen (fun j u h=>by rw[jy hh];exact gA j u h)
 refine dj.pure (v:=if agg then .agg ((us.toList.drop off).take n).toArray else((us.toList.drop off).take n).getD 0 Go.undef) r (by simp[Instr.loadAt,Instr.sureAddr,ew]) ?_
 refine s9 hp _ hlen (fun _ u hu=>iM u ?_) (fun j d u e1 e2=>jI _ d u e1 (gA j u e2))
 exact Array.mem_toList_iff.1 (List.mem_of_mem_drop (List.mem_of_mem_take hu))
theorem AJ {vs:Array Value} {off:Nat} {us:List Value} {n:Nat} (hu:us.length=n) (h:off+n≤vs.size) (i:Nat) :
 (vs.toList.take off++us++vs.toList.drop (off+us.length)).toArray[i]? = if i<off then vs[i]? else if i<off+n then us[i - off]? else vs[i]? :=by
 subst hu
 simp only[List.getElem?_toArray]
 have hl:(vs.toList.take off).length=off:=by simp;omega
 split
 ·rename_i h3
  rw[List.append_assoc,List.getElem?_append_left (by omega),List.getElem?_take_of_lt h3];simp
 ·rename_i h3
  rw[List.append_assoc,List.getElem?_append_right (by omega),hl]
  split
  ·rename_i h4
   rw[List.getElem?_append_left (by omega)]
  ·rename_i h4
   rw[List.getElem?_append_right (by omega),List.getElem?_drop]
   rw[show off+us.length+(i - off - us.length)=i by omega];simp
theorem AL {vs:Array Value} {off k:Nat} {us:List Value} (h1 : ∀ v∈vs,v.oneCell'=true) (h2 : ∀ u∈us,u.oneCell'=true) : ∀ v∈(vs.toList.take off++us++vs.toList.drop k).toArray,v.oneCell'=true:=by
 intro v hv
 simp at hv
 rcases hv with hv|hv|hv
 ·exact h1 v (Array.mem_toList_iff.1 (List.mem_of_mem_take hv))
 ·exact h2 v hv
 ·exact h1 v (Array.mem_toList_iff.1 (List.mem_of_mem_drop hv))
theorem L9 (r:Rel M s w) {t:TypeId} {i:TypeInfo} (hi:P.info? t=some i) {x y d:D} {v u:Value} {s':St} (hx:RD M s x v) (hy:RD M s y u) (h:Dl x y.row i.size s=some (d,s')) :
 dj P M s w (do Instr.storeAt t v u;pure .skip) d s':=by
 unfold Dl at h
 split at h
 case h_2=>cases h
 rename_i o g off row hr
 split at h
 case h_2=>cases h
 rename_i cells ha
 split at h
 case isFalse=>cases h
 rename_i hc
 obtain⟨hl,kn⟩:=hc
 cases h
 obtain⟨z,A,hm,rfl⟩:=PZ r hx ha
 obtain⟨us,T,cap,hh,ur,Dt,dL,hle,iM,jI⟩:=r.I4 hm ha
 obtain⟨h1,h2,h3⟩:=hy.row hr
 have hu:u.cells.toList.length=row.length:=by simpa using h1
 have iL:=run_storeCells_at P (M.mu o) off T u.cells.toList 0 us w hh (by omega) (fun u hu=>h2 u (by simpa using hu))
 simp only[Nat.add_zero]at iL
 generalize dw:(us.toList.take off++u.cells.toList++us.toList.drop (off+u.cells.toList.length)).toArray=jS at iL
 have s8:jS.size=us.size:=by rw[← dw];simp;omega
 have gA : ∀ i,jS[i]? = if i<off then us[i]? else if i<off+row.length then u.cells.toList[i - off]? else us[i]? :=fun i=>by rw[← dw];exact AJ hu (by omega) i
 have hlc:(gR cells off row).length=cells.length:=wa cells off row (by omega)
 obtain⟨r',e'⟩:=r.Yn hm ha (M.mu o) g cap A (fun _ _ h=>h) ur Dt (w.setRow (M.mu o) jS) jS T (setRow_heap w (M.mu o) us jS T (0,0) hh) (by rw[s8,dL]) (gR cells off row) (by omega)
  (by rw [← dw];exact AL iM (fun u hu=>h2 u (by simpa using hu))) (fun i d v e1 e2=>by
   rw[s6 cells off row (by omega)]at e1
   rw[gA]at e2
   split at e1
   ·rename_i h4;simp only[h4,if_true]at e2;exact jI i d v e1 e2
   ·rename_i h4
    simp only[h4,if_false]at e2
    split at e1
    ·rename_i h5;simp only[h5,if_true]at e2;exact h3 _ d v e1 (by simpa using e2)
    ·rename_i h5;simp only[h5,if_false]at e2;exact jI i d v e1 e2) (.inl rfl) (fun b _ hb=>setRow_other w (M.mu o) b _ hb) (by simp) rfl rfl rfl
 refine⟨Go.undef,_,_, .inr ⟨?_,rfl⟩,r', .undef,e'⟩
 have aoV:u.cells.size=i.size:=by omega
 simp[Instr.storeAt,Instr.sureAddr,storeVar,sizeOf,gZ P hi,aoV,iL]
theorem Ma (r:Rel M s w) {t e:TypeId} {i:TypeInfo} (ht:P.underlying t=some (.slice e)) (hi:P.info? e=some i) {x y d:D} {v u:Value} (hx:RD M s x v) (hy:RD M s y u) (h:Aw x y i.size=some d) :
 dj P M s w (do pure (.value (← Instr.indexAt t v u))) d s:=by
 unfold Aw at h
 split at h
 case h_2=>cases h
 rename_i z o g len k n
 split at h
 case isFalse=>cases h
 rename_i hc
 obtain⟨h0,h1,rfl⟩:=hc
 cases h
 obtain⟨b,cap,A,rfl,ho,hm,hg,hl⟩:=hx.uF
 rw[hy.jf]
 refine dj.pure (v:= .pointer (some ⟨b,n.toNat*i.size,none⟩)) r ?_ (.gd _ _ _ _ b cap A ho hm hg)
 simp[Instr.indexAt,asIntOf,run_underlying ht,h0,h1,sizeOf,gZ P hi,n9]
theorem RE (r:Rel M s w) {t e:TypeId} {i:TypeInfo} {lv hv:Option Value} {lo hi:Option D} (ht:P.underlying t=some (.slice e)) (G6:P.info? e=some i) {x d:D} {v:Value} (hx:RD M s x v)
 (h1 : ∀ l,vz lo=some l→U2 lv l) (h2 : ∀ len l,vA hi len=some l→U3 hv len l) (h:zI x lo hi=some d) :
 dj P M s w (do pure (.value (← Instr.sliceAt t v lv hv none))) d s:=by
 unfold zI at h
 split at h
 ·rename_i z o g len
  split at h
  case h_2=>cases h
  rename_i l hh el eh
  split at h
  case isFalse=>cases h
  rename_i hc
  obtain⟨rfl,h0,hle⟩:=hc
  cases h
  obtain⟨b,cap,A,rfl,ho,hm,hg,hl⟩:=hx.uF
  have hb:=q8 (P:=P) (w:=w) (isSlice:=true) (cap:=cap) (h1 _ el) (h2 _ _ eh) (Int.le_refl 0) h0 hle hl
  refine dj.pure (v:= .slice (some ⟨b,0,none⟩) hh.toNat cap) r ?_ (.dH z o g _ b cap A ho hm hg (by omega))
  simp[Instr.sliceAt,run_underlying ht,Instr.slice,hb,sizeOf,gZ P G6,n9]
 ·rename_i z
  split at h
  case h_2=>cases h
  rename_i l hh el eh
  split at h
  case isFalse=>cases h
  rename_i hc
  obtain⟨rfl,rfl⟩:=hc
  cases h
  obtain⟨a,rfl⟩:=hx.FU
  have hb:=q8 (P:=P) (w:=w) (isSlice:=true) (len:=0) (cap:=0) (h1 _ el) (h2 _ _ eh) (Int.le_refl 0) (Int.le_refl 0) (Int.le_refl 0) (Nat.le_refl 0)
  refine dj.pure (v:= .slice a 0 0) r ?_ (.fk z a)
  cases a<;>simp[Instr.sliceAt,run_underlying ht,Instr.slice,hb,sizeOf,gZ P G6,n9]
 ·cases h
theorem RF (r:Rel M s w) {t ty e:TypeId} (ht:P.underlying t=some (.slice e)) {x d:D} {v:Value} (hx:RD M s x v) (h:IW x=some d) :
 dj P M s w (do pure (.value (← Builtin.len_ #[t] ty #[v]))) d s:=by
 unfold IW at h
 split at h
 ·cases h
  obtain⟨b,cap,A,rfl,_⟩:=hx.uF
  exact oH r ht
 ·cases h
  obtain⟨a,rfl⟩:=hx.FU
  exact oH r ht
 ·cases h
theorem xy {size:Nat} : ∀ {rows:List (List D)},(∀ row∈rows,row.length=size)→rows.flatten.length=rows.length*size∧
 ∀ (k:Nat) (d:D),rows.flatten[k]? = some d→∃ (i:Nat) (row:List D) (j:Nat),rows[i]? = some row∧row[j]? = some d∧k=i*size+j
 | [],_=>by simp
 | row::rows,h=>by
  have hr:=h row (List.mem_cons_self ..)
  obtain⟨h1,h2⟩:=xy fun q hq=>h q (List.mem_cons_of_mem _ hq)
  refine⟨by simp only[List.flatten_cons,List.length_append,h1,hr,List.length_cons,Nat.add_mul];omega,fun k d e=>?_⟩
  rw[List.flatten_cons]at e
  rcases Nat.lt_or_ge k row.length with hk|hk
  ·rw [List.getElem?_append_left hk]at e
   exact⟨0,row,k,rfl,e,by omega⟩
  ·rw [List.getElem?_append_right hk]at e
   obtain⟨i,lD,j,g1,g2,g3⟩:=h2 _ d e
   exact⟨i+1,lD,j,by simpa using g1,g2,by rw[Nat.add_mul];omega⟩
theorem RG (r:Rel M s w) {t u ty e e':TypeId} {i:TypeInfo} {z:Value} (ht:P.underlying t=some (.slice e)) (hu:P.underlying u=some (.slice e')) (hi:P.info? e=some i) (hz:i.zero=some z)
 (AE:z.cells.size=i.size) (AG : ∀ v∈z.cells,v.oneCell'=true) {dx dy d:D} {x y:Value} {s':St} (hx:RD M s dx x) (hy:RD M s dy y) (uH:0<i.size) (he:zJ i.size i.bytes dx dy s=some (d,s')) :
 ∃ v w' M',(Builtin.append_ #[t,u] ty #[x,y]).run P w = .ok v w'∧Rel M' s' w'∧RD M' s' d v∧Ext M s w M' s' w':=by
 have src:=I3 (i:=i) r hu hy
 unfold zJ at he
 split at he
 ·-- behind an array
  rename_i z0 o g len g' zy new
  split at he
  case isFalse=>cases he
  rename_i hc
  obtain⟨rfl,L4,yJ⟩:=hc
  obtain⟨b,cap,A,rfl,ho,hm,hg,hlc⟩:=hx.uF
  cases new with
  |nil=>
   simp only at he
   cases he
   exact⟨_,w,M,na ht hi ((src _ _ _ rfl).1 rfl) hlc,r,hx,Ext.refl M s w⟩
  |cons n0 new=>
  have fu:(n0::new)≠ []:=by simp
  generalize dw:n0::new=fb at *
  have U7:zy=i.size:=L4.resolve_left fu
  subst U7
  obtain⟨Fs,news,hs,EE⟩:=(src _ _ _ rfl).2 fu rfl
  have xm:0<fb.length:=List.length_pos_iff.2 fu
  simp only[← dw]at he
  simp only[dw]at he
  split at he
  case h_2=>cases he
  rename_i cells ha
  split at he
  case isFalse=>cases he
  rename_i nB
  cases he
  obtain⟨us,T,sv,hh,ur,Dt,dL,hle,iM,jI⟩:=r.I4 hm ha
  rw[hg]at ur
  simp only[Option.some.injEq,Prod.mk.injEq]at ur
  obtain⟨rfl,rfl⟩:=ur
  obtain⟨ib,Vd⟩:=xy Fs
  have Mb:(cells.take (len*i.size)).length=len*i.size:=by simp;omega
  have hA : ∀ (b' c':Nat) (g0:Nat) (x:Nat×Nat),A g0=some x→(if g0=g+1 then some (b',c')else A g0)=some x:=fun b' c' g0 x h=>by
   rw[if_neg]
   ·exact h
   ·rintro rfl
    rw[Dt (g+1) (by omega)]at h;cases h
  have vE:(len+fb.length)*i.bytes≤140737488355328:=by rw[Nat.mul_succ]at yJ;simp only[bp]at yJ;omega
  have U8:len+fb.length≤1099511627776:=by rw[Nat.mul_succ]at yJ;simp only[bp]at yJ;omega
  have Ve:=hs.newsLen
  -- what is laid there
  have abv : ∀ (vs:Array Value),(∀ k,k<len*i.size→vs[k]? = us[k]?)→(∀ k,k<news.length→vs[len*i.size+k]? = news[k]?)→∀ (k:Nat) (d:D) (v:Value),
   (cells.take (len*i.size)++fb.flatten)[k]? = some d→vs[k]? = some v→RD M s d v:=fun vs g1 g2 k d v e1 e2=>by
   rcases Nat.lt_or_ge k (len*i.size)with hk|hk
   ·rw [List.getElem?_append_left (by omega),List.getElem?_take_of_lt hk]at e1
    rw[g1 k hk]at e2
    exact jI k d v e1 e2
   ·rw [List.getElem?_append_right (by omega),Mb]at e1
    have cd:=(List.getElem?_eq_some_iff.1 e1).1
    have:=g2 (k - len*i.size) (by omega)
    rw[show len*i.size+(k - len*i.size)=k by omega]at this
    rw[this]at e2
    obtain⟨a,row,j,f1,f2,f3⟩:=Vd _ d e1
    rw[f3]at e2
    exact EE a row j d v f1 f2 e2
  by_cases jo:len+fb.length≤cap
  ·have kn:len*i.size+news.length≤us.size:=by rw [Ve,dL, ← Nat.add_mul];exact Nat.mul_le_mul_right _ jo
   have iL:=run_storeCells_at P (M.mu o) (len*i.size) T news 0 us w hh (by simpa using kn) hs.one
   simp only[Nat.add_zero]at iL
   have ew:(Builtin.append_ #[t,u] ty #[.slice (some ⟨M.mu o,0,none⟩) len cap,y]).run P w = .ok (.slice (some ⟨M.mu o,0,none⟩) (len+fb.length) cap) (w.setRow (M.mu o) (us.toList.take (len*i.size)++news++us.toList.drop (len*i.size+news.length)).toArray):=by
    rcases hs.kind with ⟨PW,hk⟩|hk<;>simp[Builtin.append_,run_underlying ht,run_underlying hk,sizeOf,typeInfo,hi,hs.len,jo,hs.cells,Addr.add_lit,iL]
   have gA:=AJ (vs:=us) (off:=len*i.size) (us:=news) rfl kn
   generalize ti:(us.toList.take (len*i.size)++news++us.toList.drop (len*i.size+news.length)).toArray=jS at ew gA
   have s8:jS.size=us.size:=by rw[← ti];simp;omega
   obtain⟨r',e'⟩:=r.Yn hm ha (M.mu o) (g+1) cap (fun g0=>if g0=g+1 then some (M.mu o,cap)else A g0) (hA _ _) (if_pos rfl) (fun PY h=>by rw[if_neg (by omega)];exact Dt PY (by omega))
    (w.setRow (M.mu o) jS) jS T (setRow_heap w (M.mu o) us jS T (0,0) hh) (by rw[s8,dL]) (cells.take (len*i.size)++fb.flatten) (by rw[List.length_append,Mb,ib,s8];omega)
    (by rw[← ti];exact AL iM hs.one) (abv jS (fun k hk=>by rw[gA,if_pos hk]) (fun k hk=>by rw[gA,if_neg (by omega),if_pos (by omega)];congr 1;omega)) (.inl rfl) (fun b _ hb=>setRow_other w (M.mu o) b _ hb) (by simp) rfl rfl rfl
   refine⟨_,_,_,ew,r', ?_,e'⟩
   exact .dH i.size o (g+1) _ (M.mu o) cap _ (by simpa using ho) (by simp[Map.ob,Map.tf];rfl) (if_pos rfl) jo
  ·have nT:cap<len+fb.length:=by omega
   have yI:=grownCap_ge w (len+fb.length) cap e
   have P0:(Builtin.firstCells i.size len (.slice (some ⟨M.mu o,0,none⟩) len cap)).run P w.drew = .ok (us.toList.take (len*i.size)).toArray w.drew:=
    (Src.ofSlice w ht ⟨M.mu o,0,none⟩ len cap (us.toList.take (len*i.size)) (by simp;omega) (fun j v hj=>by
     rw[n9,Nat.zero_add,jy hh]
     rw[List.getElem?_take]at hj
     split at hj
     ·simpa using hj
     ·cases hj) (fun v hv=>iM v (Array.mem_toList_iff.1 (List.mem_of_mem_take hv)))).cellsD
   have ew:=run_append_grow_src (P:=P) w t u ty e i z ht hi hz (some ⟨M.mu o,0,none⟩) len cap (us.toList.take (len*i.size)) P0 y fb.length news hs nT (by omega) (growslice_fits nT vE)
   generalize ti:(us.toList.take (len*i.size)++news).toArray++Builtin.zeroCells z.cells (grownCap w (len+fb.length) cap e - (len+fb.length))=jS at ew
   have wI:(us.toList.take (len*i.size)).length=len*i.size:=by simp;omega
   have s8:jS.size=grownCap w (len+fb.length) cap e*i.size:=by
    rw[← ti]
    simp only[Array.size_append,List.size_toArray,List.length_append,size_zeroCells,AE,wI,Ve, ← Nat.add_mul]
    congr 1;omega
   have RH : ∀ v∈jS,v.oneCell'=true:=fun v hv=>by
    rw[← ti,Array.mem_append]at hv
    rcases hv with hv|hv
    ·simp at hv
     rcases hv with hv|hv
     ·exact iM v (Array.mem_toList_iff.1 (List.mem_of_mem_take hv))
     ·exact hs.one v hv
    ·exact wg AG _ v hv
   have akt : ∀ k,k<len*i.size→jS[k]? = us[k]? :=fun k hk=>by
    rw[← ti,Array.getElem?_append_left (by simp;omega),List.getElem?_toArray,List.getElem?_append_left (by omega),List.getElem?_take_of_lt hk];simp
   have yL : ∀ k,k<news.length→jS[len*i.size+k]? = news[k]? :=fun k hk=>by
    rw[← ti,Array.getElem?_append_left (by simp;omega),List.getElem?_toArray,List.getElem?_append_right (by omega),wI]
    congr 1;omega
   have I5:(len+fb.length)*i.size≤jS.size:=by rw[s8];exact Nat.mul_le_mul_right _ yI
   have Yo:w.heap.size≤(w.drew.alloc (.cells jS e)).heap.size:=by
    have e1:w.drew.heap.size=w.heap.size:=rfl
    have e2:(w.drew.alloc (.cells jS e)).heap.size=w.drew.heap.size+1:=by simp
    omega
   obtain⟨r',e'⟩:=r.Yn hm ha w.heap.size (g+1) (grownCap w (len+fb.length) cap e) (fun g0=>if g0=g+1 then some (w.heap.size,grownCap w (len+fb.length) cap e)else A g0) (hA _ _) (if_pos rfl) (fun PY h=>by rw[if_neg (by omega)];exact Dt PY (by omega))
    (w.drew.alloc (.cells jS e)) jS e (heap_alloc_new w.drew _) s8 (cells.take (len*i.size)++fb.flatten) (by rw[List.length_append,Mb,ib];rw[Nat.add_mul]at I5;omega)
    RH (abv jS akt yL) (.inr (Nat.le_refl _)) (fun b hb _=>heap_alloc_old w.drew _ b hb) Yo rfl rfl rfl
   refine⟨_,_,_,ew,r', ?_,e'⟩
   exact .dH i.size o (g+1) _ w.heap.size _ _ (by simpa using ho) (by simp[Map.ob,Map.tf];rfl) (if_pos rfl) yI
 ·-- the first array
  rename_i z0 g' zy new
  split at he
  case isFalse=>cases he
  rename_i hc
  obtain⟨rfl,L4,yJ⟩:=hc
  obtain⟨a,rfl⟩:=hx.FU
  cases new with
  |nil=>
   simp only at he
   cases he
   exact⟨_,w,M,na ht hi ((src _ _ _ rfl).1 rfl) (Nat.le_refl 0),r,hx,Ext.refl M s w⟩
  |cons n0 new=>
  have fu:(n0::new)≠ []:=by simp
  generalize dw:n0::new=fb at *
  have U7:zy=i.size:=L4.resolve_left fu
  subst U7
  obtain⟨Fs,news,hs,EE⟩:=(src _ _ _ rfl).2 fu rfl
  have xm:0<fb.length:=List.length_pos_iff.2 fu
  simp only[← dw]at he
  simp only[dw]at he
  cases he
  obtain⟨ib,Vd⟩:=xy Fs
  have Ve:=hs.newsLen
  have vE:(0+fb.length)*i.bytes≤140737488355328:=by rw[Nat.mul_succ]at yJ;simp only[bp]at yJ;rw[Nat.zero_add];omega
  have U8:fb.length≤1099511627776:=by rw[Nat.mul_succ]at yJ;simp only[bp]at yJ;omega
  have nT:0<0+fb.length:=by omega
  have yI:=grownCap_ge w (0+fb.length) 0 e
  have P0:(Builtin.firstCells i.size 0 (.slice a 0 0)).run P w.drew = .ok ([] : List Value).toArray w.drew:=by
   cases a with
   |none=>simp[Builtin.firstCells]
   |some a=>simp[Builtin.firstCells,loadCells,loadCellsFrom]
  have ew:=run_append_grow_src (P:=P) w t u ty e i z ht hi hz a 0 0 [] P0 y fb.length news hs nT (by omega) (growslice_fits nT vE)
  generalize ti:(([] : List Value)++news).toArray++Builtin.zeroCells z.cells (grownCap w (0+fb.length) 0 e - (0+fb.length))=jS at ew
  have s8:jS.size=grownCap w (0+fb.length) 0 e*i.size:=by
   rw[← ti]
   simp only[Array.size_append,List.size_toArray,List.nil_append,size_zeroCells,AE,Ve, ← Nat.add_mul]
   congr 1;omega
  have RH : ∀ v∈jS,v.oneCell'=true:=fun v hv=>by
   rw[← ti,Array.mem_append]at hv
   rcases hv with hv|hv
   ·exact hs.one v (by simpa using hv)
   ·exact wg AG _ v hv
  have yL : ∀ k,k<news.length→jS[k]? = news[k]? :=fun k hk=>by
   rw[← ti,Array.getElem?_append_left (by simpa using hk)];simp
  have I5:fb.length*i.size≤jS.size:=by rw[s8];exact Nat.mul_le_mul_right _ (by omega)
  have rd:Rel M s w.drew:=r.of_heap rfl
  obtain⟨M',r',e',f'⟩:=rd.afV i.size (grownCap w (0+fb.length) 0 e) jS e s8 fb.flatten (by omega) RH (fun k d v e1 e2=>by
   have hk:=(List.getElem?_eq_some_iff.1 e1).1
   rw[yL k (by omega)]at e2
   obtain⟨a,row,j,f1,f2,f3⟩:=Vd _ d e1
   rw[f3]at e2
   exact EE a row j d v f1 f2 e2)
  refine⟨_,_,M',ew,r', ?_,(Ext.of_heap (M:=M) (s:=s) (w:=w) (w':=w.drew) rfl rfl rfl rfl).trans e'⟩
  have:=f' fb.length (by omega)
  simpa using this
 ·cases he
theorem RI (r:Rel M s w) {t e:TypeId} {i:TypeInfo} {z:List D} (ht:P.underlying t=some (.slice e)) (hi:P.info? e=some i) (hz:zeroOf P e=some z) (uH:0<i.size) {n:Int} (h0:0≤n) (h1:n*((i.bytes:Int)+1)≤bp) :
 dj P M s w (do pure (.value (← Instr.makeSlice t (.int .i64 n) (.int .i64 n)))) (.dH i.size s.aj.length 0 n.toNat) {s with aj:=s.aj++ [.int .i64 ((0:Nat):Int)::(gY z n.toNat).flatten]}:=by
 obtain⟨i',v,g1,g2,g3,g4⟩:=va hz
 rw[hi]at g1;cases g1
 have JY:=tc (M:=M) (s:=s) g4
 have hmul:n*((i.bytes:Int)+1)=(i.bytes:Int)*n+n:=by rw[Int.mul_add,Int.mul_one,Int.mul_comm]
 have P2:0≤(i.bytes:Int)*n:=Int.mul_nonneg (by omega) h0
 have hmx:(bp:Int)=1099511627776:=rfl
 have ew:=run_make (P:=P) w t e i v ht hi g2 .i64 .i64 n n h0 (Int.le_refl _) (by omega) (by omega)
 have hzl:z.length=i.size:=by have:=JY.1;omega
 obtain⟨q1,q2,q3,q4⟩:=nQ.zero JY (by omega) n.toNat
 obtain⟨ib,Vd⟩:=xy (rows:=gY z n.toNat) (size:=z.length) (fun row hr=>by rw[qB z _ row hr])
 rw[nR]at ib
 have JZ:madeCells v.cells (n.toNat*i.size)=(Array.range (n.toNat*z.length)).map (v.cells[· % v.cells.size]!):=by rw[hzl];rfl
 obtain⟨M',r',e',f'⟩:=r.afV i.size n.toNat (madeCells v.cells (n.toNat*i.size)) e (by rw[JZ];simp[hzl]) (gY z n.toNat).flatten (by rw[ib,JZ];simp) (by rw[JZ];exact q3) (fun k d u e1 e2=>by
  obtain⟨a,row,j,f1,f2,f3⟩:=Vd k d e1
  rw[JZ,f3]at e2
  exact q4 a row j d u f1 f2 e2)
 refine⟨_,_,M', .inl ?_,r',f' n.toNat (Nat.le_refl _),e'⟩
 simp only[Sem.run_bind,ew,Result.andThen_ok,Sem.run_pure]
end
end Go.Abs
namespace Go.Abs
section
variable {P:Program} {M:Map} {s:St} {w:World}
theorem P3 {tm:Tm} {act:Act} (hr:nP M s tm act.tmps) : ∀ {l:List Operand} {xs:List X},Ax l=some xs→
 xs.length=l.length∧∀ (i:Nat) (d:D) (v:Value),(xs.map (·.ev tm))[i]? = some d→(l.map act.eval)[i]? = some v→RD M s d v
 | [],xs,h=>by cases h;exact⟨rfl,by simp⟩
 | x::l,xs,h=>by
  unfold Ax at h
  split at h
  ·rename_i x' r' h1 h2
   cases h
   obtain⟨g1,g2⟩:=P3 hr h2
   refine⟨by simp[g1],fun i d v e1 e2=>?_⟩
   cases i with
   |zero=>simp at e1 e2;subst e1;subst e2;exact cf h1 hr
   |succ i=>exact g2 i d v (by simpa using e1) (by simpa using e2)
  ·cases h
theorem Md {lo:Option Operand} {J0:Option X} {tm:Tm} {act:Act} (hr:nP M s tm act.tmps) (h:cXo lo=some J0) {l:Int} (hl:vz (J0.map (·.ev tm))=some l):U2 (lo.map act.eval) l:=by
 cases lo with
 |none=>cases h;simp only[Option.map_none,vz,Option.some.injEq]at hl;exact .inl ⟨rfl,hl.symm⟩
 |some x=>
  obtain⟨y,hy,rfl⟩:=map_some (f:=some) h
  have:=cf hy hr
  simp only[Option.map_some]at hl ⊢
  cases hd:y.ev tm<;>rw[hd]at hl this<;>simp only[vz]at hl<;>try (cases hl;done)
  cases hl
  rw[this.jf]
  exact .inr ⟨_,rfl⟩
theorem Me {hi:Option Operand} {iH:Option X} {tm:Tm} {act:Act} (hr:nP M s tm act.tmps) (h:cXo hi=some iH) {len:Nat} {l:Int} (hl:vA (iH.map (·.ev tm)) len=some l):U3 (hi.map act.eval) len l:=by
 cases hi with
 |none=>cases h;simp only[Option.map_none,vA,Option.some.injEq]at hl;exact .inl ⟨rfl,hl.symm⟩
 |some x=>
  obtain⟨y,hy,rfl⟩:=map_some (f:=some) h
  have:=cf hy hr
  simp only[Option.map_some]at hl ⊢
  cases hd:y.ev tm<;>rw[hd]at hl this<;>simp only[vA]at hl<;>try (cases hl;done)
  cases hl
  rw[this.jf]
  exact .inr ⟨_,rfl⟩
theorem RK {t:TypeId} {f off size:Nat} {agg:Bool} (h:n8 P t f=some (off,size,agg)) {cs:List D} {vs:Array Value} (hl:cs.length=vs.size) (h1 : ∀ v∈vs,v.oneCell'=true)
 (h2 : ∀ (i:Nat) (d:D) (v:Value),cs[i]? = some d→vs[i]? = some v→RD M s d v) {d:D} (hp:part cs off agg size=some d) (r:Rel M s w) :
 dj P M s w (do pure (.value (← Instr.field t (.agg vs) f))) d s:=by
 let n:=if agg then size else 1
 have kn:off+n≤vs.size:=by
  rcases sM hp with ⟨rfl,h1,_⟩|⟨rfl,h1⟩
  ·simp[n];omega
  ·have:=(List.getElem?_eq_some_iff.1 h1).1;simp[n];omega
 have hlen:((vs.toList.drop off).take n).length=n:=by simp;omega
 have gA : ∀ (j:Nat),j<((vs.toList.drop off).take n).length→vs[off+j]? = ((vs.toList.drop off).take n)[j]? :=by
  intro j h
  rw[hlen]at h
  rw[List.getElem?_take,if_pos h,List.getElem?_drop];simp
 refine dj.pure (v:=if agg then .agg ((vs.toList.drop off).take n).toArray else((vs.toList.drop off).take n).getD 0 Go.undef) r (by simp only[Sem.run_bind,UU h vs _ hlen gA,Result.andThen_ok,Sem.run_pure]) ?_
 refine s9 hp _ hlen (fun _ u hu=>h1 u (Array.mem_toList_iff.1 (List.mem_of_mem_drop (List.mem_of_mem_take hu)))) (fun j d u e1 e2=>h2 _ d u e1 ?_)
 rw[gA j (List.getElem?_eq_some_iff.1 e2).1];exact e2
theorem ve {o:Oper} {ao:AO} {tm:Tm} {act:Act} {d:D} {s':St} (hc:G3 P o=some ao) (r:Rel M s w) (hr:nP M s tm act.tmps) (he:aY ao tm s=some (d,s')) :
 dj P M s w (execOp act.eval o) d s':=by
 obtain⟨dst,op,type,pos,after,guard⟩:=o
 unfold G3 at hc
 simp only at hc
 cases op with
 |move x=>
  obtain⟨y,hy,rfl⟩:=map_some hc
  cases he
  exact dj.pure r rfl (cf hy hr)
 |assign x=>
  obtain⟨y,hy,rfl⟩:=map_some hc
  cases he
  exact dj.pure r rfl (cf hy hr)
 | pick c a b=>
  simp only at hc
  split at hc
  ·rename_i c' a' b' h1 h2 h3
   cases hc
   simp only[aY]at he
   split at he
   ·rename_i t ht
    cases he
    have hcb:=cf h1 hr
    rw[ht]at hcb
    have:=hcb.pF
    refine dj.pure (v:=if t then act.eval a else act.eval b) r ?_ ?_
    ·simp only [execOp,this,asBool]
     simp
    ·cases t
     ·exact cf h3 hr
     ·exact cf h2 hr
   ·cases he
  ·cases hc
 | alloc t=>
  simp only at hc
  split at hc
  ·obtain⟨z,hz,rfl⟩:=map_some hc
   simp only[aY]at he
   split at he
   ·cases he;exact OU r hz
   ·cases he
  ·obtain⟨z,hz,rfl⟩:=map_some hc
   cases he
   exact Rk r hz
 | box t x=>
  simp only at hc
  split at hc
  ·obtain⟨y,hy,rfl⟩:=map_some hc
   simp only[aY]at he
   split at he
   ·rename_i row eI
    cases he
    exact UT r (cf hy hr) eI
   ·cases he
  ·obtain⟨y,hy,rfl⟩:=map_some hc
   simp only[aY]at he
   split at he
   ·rename_i row eI
    cases he
    exact Yc r (cf hy hr) eI
   ·cases he
 | build t parts=>
  simp only at hc
  split at hc
  ·rename_i fs z ps h1 h2 h3
   split at hc
   ·rename_i Hd
    cases hc
    simp only[aY]at he
    split at he
    ·rename_i cs pw
     cases he
     have:=Ry r hr h1 Hd h2 h3 pw
     simpa[execOp]using this
    ·cases he
   ·cases hc
  ·cases hc
 | buildSlice t n parts=>
  simp only at hc
  split at hc
  ·rename_i e hu
   split at hc
   ·rename_i i z ps h1 h2 h3
    split at hc
    ·rename_i nc
     cases hc
     simp only[aY]at he
     split at he
     ·rename_i rows lx
      cases he
      obtain⟨vs,T,g1,g2,g3,g4⟩:=Fu r hr hu h1 h2 nc.1 nc.2 h3 lx
      obtain⟨f1,f2,f3⟩:=Rt r T g1
      refine⟨_,_,_, .inl ?_,f2,f1,f3⟩
      simp only[Array.toArray_toList]at g4
      simp only[execOp,Sem.run_bind,g4,Result.andThen_ok,Sem.run_pure]
      rw[g2]
     ·cases he
    ·cases hc
   ·cases hc
  ·cases hc
 | load t x=>
  simp only at hc
  split at hc
  ·rename_i y a i h1 h2 h3
   cases hc
   have hx:=cf h1 hr
   simp only[aY]at he
   split at he
   ·rename_i o off ho
    rw[ho]at hx
    have Mf:=hx.Dp
    obtain⟨hv,_⟩:=hx.uE
    split at he
    ·rename_i cs pw
     split at he
     ·rename_i d' l8
      cases he
      have:=K3 r h3 h2 pw Mf l8
      simp only[execOp,hv]
      exact this
     ·cases he
    ·cases he
   ·rename_i row off ho
    rw[ho]at hx
    obtain⟨b,k,hv,g1,g2⟩:=hx.Bu
    split at he
    ·rename_i d' l8
     cases he
     have:=K4 r h3 h2 g1 g2 l8
     simp only[execOp,hv]
     exact this
    ·cases he
   ·exact OW r h3 h2 hx he
  ·cases hc
 | store t a x=>
  simp only at hc
  split at hc
  ·rename_i a' x' i h1 h2 h3
   cases hc
   have ha:=cf h1 hr
   have hx:=cf h2 hr
   simp only[aY]at he
   split at he
   ·rename_i o off row ho eI
    rw[ho]at ha
    have Mf:=ha.Dp
    obtain⟨hv,_⟩:=ha.uE
    split at he
    ·rename_i cs pw
     split at he
     ·rename_i kn
      cases he
      have:=Rm r h3 pw Mf hx eI kn.1 kn.2
      simp only[execOp,hv]
      exact this
     ·cases he
    ·cases he
   ·exact L9 r h3 ha hx he
  ·cases hc
 | nilCheck x=>
  obtain⟨y,hy,rfl⟩:=map_some hc
  have hx:=cf hy hr
  simp only[aY]at he
  split at he
  ·rename_i o off ho
   cases he
   rw[ho]at hx
   have hv:=hx.uE.1
   rw[hv]at hx
   simp only[execOp,hv]
   exact Bx r hx
  ·rename_i row off ho
   cases he
   rw[ho]at hx
   obtain⟨b,k,hv,_⟩:=hx.Bu
   rw[hv]at hx
   simp only[execOp,hv]
   exact Bx r hx
  ·split at he
   case h_2=>cases he
   rename_i d' vI
   cases he
   unfold Rb at vI
   split at vI
   ·rename_i o g off hq
    cases vI
    rw[hq]at hx
    obtain⟨z,b,cap,A,hv,_⟩:=hx.FT
    rw[hv]at hx
    simp only[execOp,hv]
    exact Bx r hx
   ·cases vI
 | binOp op t x y yt=>
  simp only at hc
  split at hc
  ·rename_i x' y' h1 h2
   have hx:=cf h1 hr
   have hy:=cf h2 hr
   have fin : ∀ d',zG op (x'.ev tm) (y'.ev tm)=some d'→(d',s)=(d,s')→dj P M s w (execOp act.eval ⟨dst, .binOp op t x y yt,type,pos,after,guard⟩) d s':=by
    intro d' l8 heq
    cases heq
    exact Yd r hx hy l8
   have afW:(match zG op (x'.ev tm) (y'.ev tm)with|some d=>some (d,s)|none=>none)=some (d,s')→dj P M s w (execOp act.eval ⟨dst, .binOp op t x y yt,type,pos,after,guard⟩) d s':=by
    intro h
    split at h
    ·rename_i d' l8
     exact fin d' l8 (by cases h;rfl)
    ·cases h
   have Yp : ∀ o:FO,((o = .eq∧op = .eql)∨(o = .LP∧op = .add)∨(o = .UP∧op = .eql))→aY (.sX o x' y') tm s=some (d,s')→dj P M s w (execOp act.eval ⟨dst, .binOp op t x y yt,type,pos,after,guard⟩) d s':=by
    intro o ho h
    simp only[aY]at h
    split at h
    ·rename_i d' l8
     cases h
     exact UZ r ho hx hy l8
    ·cases h
   have afX : ∀ neg,op=(if neg then .neq else .eql)→P.underlying t=some .bool→aY (.JP neg x' y') tm s=some (d,s')→dj P M s w (execOp act.eval ⟨dst, .binOp op t x y yt,type,pos,after,guard⟩) d s':=by
    intro neg oi ht h
    simp only[aY]at h
    split at h
    ·rename_i p q hp hq
     cases h
     rw[hp]at hx;rw[hq]at hy
     simp only[execOp,hx.pF,hy.pF,oi]
     exact Ye r ht
    ·cases h
   have afY : ∀ neg e,op=(if neg then .neq else .eql)→P.underlying t=some (.pointer e)→aY (.JQ neg x' y') tm s=some (d,s')→dj P M s w (execOp act.eval ⟨dst, .binOp op t x y yt,type,pos,after,guard⟩) d s':=by
    intro neg e oi ht h
    simp only[aY]at h
    split at h
    ·rename_i hp hq
     cases h
     rw[hp]at hx;rw[hq]at hy
     simp only[execOp,hx.uD,hy.uD,oi]
     have:=FV r (neg:=neg) (x:=x) (y:=y) (a:=none) ht
     cases neg<;>simpa using this
    ·rename_i o off hp hq
     cases h
     rw[hp]at hx;rw[hq]at hy
     simp only[execOp,hx.uE.1,hy.uD,oi]
     have:=FV r (neg:=neg) (x:=x) (y:=y) (a:=some ⟨M.mu o,off,none⟩) ht
     cases neg<;>simpa using this
    ·rename_i row off hp hq
     cases h
     rw[hp]at hx;rw[hq]at hy
     obtain⟨b,k,hv,_⟩:=hx.Bu
     simp only[execOp,hv,hy.uD,oi]
     have:=FV r (neg:=neg) (x:=x) (y:=y) (a:=some ⟨b,k+off,none⟩) ht
     cases neg<;>simpa using this
    ·cases h
   have afZ : ∀ neg ks,op=(if neg then .neq else .eql)→rP P t=some ks→aY (.eqs neg ks x' y') tm s=some (d,s')→dj P M s w (execOp act.eval ⟨dst, .binOp op t x y yt,type,pos,after,guard⟩) d s':=by
    intro neg ks oi ht h
    simp only[aY]at h
    split at h
    ·rename_i p q hp hq
     split at h
     ·rename_i e' vI
      cases h
      rw[hp]at hx;rw[hq]at hy
      simp only[execOp,oi]
      exact Yg r ht hx hy vI
     ·cases h
    ·cases h
   split at hc
   ·cases hc;exact afW he
   ·cases hc;exact afW he
   ·rename_i hu;cases hc;exact afX false rfl hu he
   ·rename_i hu;cases hc;exact afX true rfl hu he
   ·rename_i hu;cases hc;exact afY false _ rfl hu he
   ·rename_i hu;cases hc;exact afY true _ rfl hu he
   ·obtain⟨ks,hk,rfl⟩:=map_some hc;exact afZ false ks rfl hk he
   ·obtain⟨ks,hk,rfl⟩:=map_some hc;exact afZ true ks rfl hk he
   ·cases hc;exact Yp .eq (.inl ⟨rfl,rfl⟩) he
   ·cases hc;exact Yp .LP (.inr (.inl ⟨rfl,rfl⟩)) he
   ·cases hc;exact Yp .UP (.inr (.inr ⟨rfl,rfl⟩)) he
   ·cases hc
  ·cases hc
 | unOp op t x=>
  obtain⟨y,hy,rfl⟩:=map_some hc
  have hx:=cf hy hr
  simp only[aY]at he
  split at he
  ·rename_i d' l8
   cases he
   unfold JR at l8
   split at l8
   ·rename_i k n hk
    cases l8
    rw[hk]at hx
    exact dj.pure (v:= .int k (k.wrap (0 - n))) r (by simp[execOp,hx.jf,Op.unary,Op.intArith]) (.int _ _)
   ·rename_i b hb
    cases l8
    rw[hb]at hx
    exact dj.pure (v:= .bool (!b)) r (by simp[execOp,hx.pF,Op.unary]) (.bool _)
   ·rename_i k n hk
    cases l8
    rw[hk]at hx
    exact dj.pure (v:= .int k (LU k (if k.signed then -1 else k.max) n)) r (by simp only[execOp,hx.jf,Op.unary,Op.intBits];rfl) (.int _ _)
   ·cases l8
  ·cases he
 | convert src aCx x=>
  simp only at hc
  split at hc
  ·rename_i y k1 k h1 h2 h3
   cases hc
   have hx:=cf h1 hr
   simp only[aY]at he
   split at he
   ·rename_i k2 n hn
    cases he
    rw[hn]at hx
    refine dj.pure (v:= .int k (k.wrap n)) r ?_ (.int _ _)
    simp[execOp,hx.jf,convert,run_underlying h2,run_underlying h3,Conv.intToInt]
   ·cases he
  ·rename_i y e h1 h2 h3
   split at hc
   ·rename_i h4
    cases hc
    have hx:=cf h1 hr
    simp only[aY]at he
    split at he
    ·rename_i g z rows lx
     split at he
     ·rename_i b hb
      cases he
      rw[lx]at hx
      exact Rz r h2 h4 h3 hx hb
     ·cases he
    ·cases he
   ·cases hc
  ·rename_i y e e2 h1 h2 h3
   split at hc
   ·rename_i h4
    split at hc
    ·rename_i uv
     cases hc
     subst uv
     have hx:=cf h1 hr
     simp only[aY]at he
     split at he
     ·rename_i t z rows lx
      split at he
      ·rename_i nc
       cases he
       rw[lx]at hx
       exact Yj r h2 h4 hx nc.1 nc.2
      ·cases he
     ·cases he
    ·cases hc
   ·cases hc
  ·rename_i y e h1 h2 h3
   split at hc
   ·rename_i i h4 h5
    split at hc
    ·cases hc
     have hx:=cf h1 hr
     simp only[aY]at he
     split at he
     ·rename_i l hl
      cases he
      rw[hl]at hx
      simp only[execOp,hx.mR]
      exact L8 r h2 h3 h4
     ·cases he
    ·cases hc
   ·cases hc
  ·rename_i y k0 k h1 h2 h3
   cases hc
   have hx:=cf h1 hr
   simp only[aY]at he
   split at he
   ·rename_i d' l8
    cases he
    obtain⟨j,n,hn,rfl⟩:=Rp l8
    rw[hn]at hx
    refine dj.pure (v:= .float k (k.nearest n)) r ?_ (.val _ rfl)
    simp[execOp,hx.jf,convert,run_underlying h2,run_underlying h3,Conv.intToFloat]
   ·cases he
  ·rename_i y k0 k h1 h2 h3
   cases hc
   have hx:=cf h1 hr
   simp only[aY]at he
   split at he
   ·rename_i d' l8
    cases he
    obtain⟨f,b,n,hn,h4,h5,rfl⟩:=Rq l8
    rw[hn]at hx
    refine dj.pure (v:= .int k n) r ?_ (.int _ _)
    simp[execOp,hx.oG,convert,run_underlying h2,run_underlying h3,Conv.floatToInt,h4,h5]
   ·cases he
  ·cases hc
 | slice t x lo hi mx=>
  cases mx with
  |some m=>cases hc
  | none=>
   simp only at hc
   split at hc
   ·rename_i y J0 iH h1 h2 h3 h4
    cases hc
    have hx:=cf h1 hr
    simp only[aY]at he
    split at he
    ·rename_i u hu
     rw[hu]at hx
     split at he
     ·rename_i l h hl hh
      split at he
      ·rename_i nc
       cases he
       have:=U4 r h4 (Md hr h2 hl) (Me hr h3 hh) nc.1 nc.2.1 nc.2.2
       simp only[execOp,hx.mR,Option.map_none]
       exact this
      ·cases he
     ·cases he
    ·cases he
   ·rename_i y J0 iH e h1 h2 h3 h4
    split at hc
    ·rename_i i G6
     cases hc
     have hx:=cf h1 hr
     simp only[aY]at he
     split at he
     ·rename_i g z rows lx
      rw[lx]at hx
      split at he
      ·rename_i l h hl hh
       split at he
       ·rename_i nc
        cases he
        have:=Yi r h4 G6 nc.1 hx (Md hr h2 hl) (Me hr h3 hh) nc.2.1 nc.2.2.1 nc.2.2.2
        simp only[execOp,Option.map_none]
        exact this
       ·cases he
      ·cases he
     ·split at he
      case h_2=>cases he
      rename_i d' vI
      cases he
      have:=RE r h4 G6 hx (fun l e=>Md hr h2 e) (fun len l e=>Me hr h3 e) vI
      simp only[execOp,Option.map_none]
      exact this
    ·cases hc
   ·cases hc
 | fieldAddr t x f=>
  simp only at hc
  split at hc
  ·rename_i y off size a h1 h2
   cases hc
   have hx:=cf h1 hr
   simp only[aY]at he
   split at he
   ·rename_i o k ho
    cases he
    rw[ho]at hx
    have Mf:=hx.Dp
    obtain⟨hv,hD⟩:=hx.uE
    refine dj.pure (v:= .pointer (some ⟨M.mu o,k+off,none⟩)) r ?_ (.ptr _ _ hD Mf)
    simp only[execOp,hv,Sem.run_bind,Dr h2,Result.andThen_ok,Sem.run_pure]
   ·rename_i row k ho
    cases he
    rw[ho]at hx
    obtain⟨b,q,hv,g1,g2⟩:=hx.Bu
    refine dj.pure (v:= .pointer (some ⟨b,q+(k+off),none⟩)) r ?_ (.dN _ _ _ _ g1 g2)
    simp only[execOp,hv,Sem.run_bind,Dr h2,Result.andThen_ok,Sem.run_pure,Nat.add_assoc]
   ·split at he
    case h_2=>cases he
    rename_i d' vI
    cases he
    unfold G2 at vI
    split at vI
    ·rename_i o g k hq
     cases vI
     rw[hq]at hx
     obtain⟨z,b,cap,A,hv,ho,hm,hg⟩:=hx.FT
     refine dj.pure (v:= .pointer (some ⟨b,k+off,none⟩)) r ?_ (.gd _ _ _ _ b cap A ho hm hg)
     simp only[execOp,hv,Sem.run_bind,Dr h2,Result.andThen_ok,Sem.run_pure]
    ·cases vI
  ·cases hc
 | field t x f=>
  simp only at hc
  split at hc
  ·rename_i y off size a h1 h2
   cases hc
   have hx:=cf h1 hr
   simp only[aY]at he
   split at he
   ·rename_i cs pw
    split at he
    ·rename_i d' l8
     cases he
     rw[pw]at hx
     obtain⟨vs,hv,g1,g2,g3⟩:=hx.IZ
     simp only[execOp,hv]
     exact RK h2 g1 g2 g3 l8 r
    ·cases he
   ·cases he
  ·cases hc
 | indexAddr t x i=>
  simp only at hc
  split at hc
  ·rename_i y j e h1 h2 h3
   split at hc
   ·rename_i inf RM
    split at hc
    ·cases hc
     have hx:=cf h1 hr
     have hj:=cf h2 hr
     simp only[aY]at he
     split at he
     ·rename_i g z rows k n lx hn
      split at he
      ·rename_i nc
       obtain⟨Mg,hz⟩:=nc
       subst hz
       split at he
       ·rename_i row eI
        cases he
        rw[lx]at hx;rw[hn]at hj
        simp only[execOp,hj.jf]
        exact Rs r h3 RM hx Mg eI
       ·cases he
      ·cases he
     ·split at he
      case h_2=>cases he
      rename_i d' vI
      cases he
      exact Ma r h3 RM hx hj vI
    ·cases hc
   ·cases hc
  ·cases hc
 | index t x i=>
  simp only at hc
  split at hc
  ·rename_i y j h1 h2 h3
   cases hc
   have hx:=cf h1 hr
   have hj:=cf h2 hr
   simp only[aY]at he
   split at he
   ·rename_i l k n hl hn
    split at he
    ·rename_i Mg
     split at he
     ·rename_i c hcc
      cases he
      rw[hl]at hx;rw[hn]at hj
      simp only[execOp,hj.jf,hx.mR]
      exact U1 r h3 Mg hcc
     ·cases he
    ·cases he
   ·cases he
  ·cases hc
 | extract x i=>
  obtain⟨y,hy,rfl⟩:=map_some hc
  have hx:=cf hy hr
  simp only[aY]at he
  split at he
  ·rename_i ds DB
   split at he
   ·rename_i d' l8
    cases he
    rw[DB]at hx
    obtain⟨vs,hv,g1,g2⟩:=hx.JT
    have hD:=(List.getElem?_eq_some_iff.1 l8).1
    have Mh:vs[i]? = some vs[i]:=Array.getElem?_eq_getElem (by omega)
    refine dj.pure (v:=vs[i]) r ?_ (g2 i _ _ l8 Mh)
    simp[execOp,hv,Instr.extract,Mh]
   ·cases he
  ·cases he
 | call c=>
  obtain⟨callee,args,oj⟩:=c
  cases callee with
  |value f=>cases hc
  |invoke f m=>cases hc
  | builtin bi=>
   have two : ∀ {x y:Operand} {x' y':X} {isMax:Bool},cX x=some x'→cX y=some y'→bi=(if isMax then .max else .min)→args.toList = [x,y]→aY (.mm isMax x' y') tm s=some (d,s')→
    dj P M s w (execOp act.eval ⟨dst, .call ⟨.builtin bi,args,oj⟩,type,pos,after,guard⟩) d s':=by
    intro x y x' y' isMax h1 h2 hb ha h
    have jj:args = #[x,y]:=by rw[← Array.toArray_toList (xs:=args),ha]
    subst jj
    have hx:=cf h1 hr
    have hy:=cf h2 hr
    simp only[aY]at h
    split at h
    ·rename_i k a k' b J1 Mf
     split at h
     ·rename_i Cz
      subst Cz
      cases h
      rw[J1]at hx;rw[Mf]at hy
      refine dj.pure (v:= .int k (if isMax then(if b > a then b else a)else(if b<a then b else a))) r ?_ (.int _ _)
      subst hb
      cases isMax
      ·simp[execOp,resolve,invoke,builtin,Builtin.min_,Builtin.min2,hx.jf,hy.jf]
      ·simp[execOp,resolve,invoke,builtin,Builtin.max_,Builtin.max2,hx.jf,hy.jf]
     ·cases h
    ·cases h
   cases bi<;>simp only at hc<;>try (cases hc;done)
   case append=>
    split at hc
    ·rename_i x y t u ha tj
     split at hc
     ·rename_i e e' x' y' h1 h2 h3 h4
      split at hc
      ·rename_i i z hi hz
       split at hc
       ·rename_i uH
        cases hc
        have jj:args = #[x,y]:=by rw[← Array.toArray_toList (xs:=args),ha]
        have Mi:oj = #[t,u]:=by rw[← Array.toArray_toList (xs:=oj),tj]
        subst jj;subst Mi
        obtain⟨i',v,g1,g2,g3,g4⟩:=va hz
        rw[hi]at g1;cases g1
        have JY:=tc (M:=M) (s:=s) g4
        split at he
        ·rename_i hb
         obtain⟨rfl,Mj,hb2⟩:=hb
         obtain⟨v',w',M',f1,f2,f3,f4⟩:=Rv (ty:=type) r h1 h2 hi g2 Mj hb2 g3 JY.2.1 (cf h3 hr) (cf h4 hr) he
         refine⟨v',w',M', .inl ?_,f2,f3,f4⟩
         simp[execOp,resolve,invoke,builtin,f1]
        ·have hxx:=cf h3 hr
         simp only[aY]at he
         split at he
         ·rename_i gq zq rq hq
          rw[hq]at hxx
          obtain⟨v',w',M',f1,f2,f3,f4⟩:=U9 (ty:=type) r h1 h2 hi g2 g3 JY.2.1 hxx (cf h4 hr) uH he
          refine⟨v',w',M', .inl ?_,f2,f3,f4⟩
          simp[execOp,resolve,invoke,builtin,f1]
         ·obtain⟨v',w',M',f1,f2,f3,f4⟩:=RG (ty:=type) r h1 h2 hi g2 g3 JY.2.1 hxx (cf h4 hr) uH he
          refine⟨v',w',M', .inl ?_,f2,f3,f4⟩
          simp[execOp,resolve,invoke,builtin,f1]
       ·cases hc
      ·cases hc
     ·rename_i e x' y' h1 h2 h3 h4
      split at hc
      ·rename_i i z hi hz
       split at hc
       ·rename_i hb
        cases hc
        obtain⟨rfl,Mj,hb2⟩:=hb
        have jj:args = #[x,y]:=by rw[← Array.toArray_toList (xs:=args),ha]
        have Mi:oj = #[t,u]:=by rw[← Array.toArray_toList (xs:=oj),tj]
        subst jj;subst Mi
        obtain⟨i',v,g1,g2,g3,g4⟩:=va hz
        rw[hi]at g1;cases g1
        have JY:=tc (M:=M) (s:=s) g4
        have hy:=cf h4 hr
        simp only[aY]at he
        split at he
        ·rename_i l hl
         rw[hl]at hy
         obtain⟨v',w',M',f1,f2,f3,f4⟩:=Rw (ty:=type) r h1 h2 hi g2 Mj hb2 g3 JY.2.1 (cf h3 hr) he
         refine⟨v',w',M', .inl ?_,f2,f3,f4⟩
         simp[execOp,resolve,invoke,builtin,hy.mR,f1]
        ·cases he
       ·cases hc
      ·cases hc
     ·cases hc
    ·cases hc
   case len=>
    split at hc
    ·rename_i x t ha tj
     have jj:args = #[x]:=by rw[← Array.toArray_toList (xs:=args),ha]
     have Mi:oj = #[t]:=by rw[← Array.toArray_toList (xs:=oj),tj]
     subst jj;subst Mi
     have hex:execOp act.eval ⟨dst, .call ⟨.builtin .len, #[x], #[t]⟩,type,pos,after,guard⟩=(do pure (.value (← Builtin.len_ #[t] type #[act.eval x]))):=by
      simp[execOp,resolve,invoke,builtin]
     rw[hex]
     split at hc
     ·rename_i ht
      obtain⟨y,hy,rfl⟩:=map_some hc
      have hx:=cf hy hr
      simp only[aY]at he
      split at he
      ·rename_i l hl
       cases he
       rw[hl]at hx
       rw[hx.mR]
       exact LZ r ht
      ·cases he
     ·rename_i e ht
      obtain⟨y,hy,rfl⟩:=map_some hc
      have hx:=cf hy hr
      simp only[aY]at he
      split at he
      ·rename_i g z rows lx
       cases he
       rw[lx]at hx
       rcases hx.kb with ⟨h0,hv,_⟩|⟨h0,_,a,cap,hv⟩|⟨b,q,cap,hv,_⟩
       ·rw[hv,h0];exact oH r ht
       ·rw[hv,h0];exact oH r ht
       ·rw[hv];exact oH r ht
      ·split at he
       case h_2=>cases he
       rename_i d' vI
       cases he
       exact RF r ht hx vI
     ·cases hc
    ·cases hc
   case max=>
    split at hc
    ·rename_i x y ha
     split at hc
     ·rename_i x' y' h1 h2
      cases hc
      exact two (isMax:=true) h1 h2 rfl ha he
     ·cases hc
    ·cases hc
   case min=>
    split at hc
    ·rename_i x y ha
     split at hc
     ·rename_i x' y' h1 h2
      cases hc
      exact two (isMax:=false) h1 h2 rfl ha he
     ·cases hc
    ·cases hc
   case complex=>
    split at hc
    ·rename_i x y ha
     split at hc
     ·rename_i x' y' h1 h2
      cases hc
      have jj:args = #[x,y]:=by rw[← Array.toArray_toList (xs:=args),ha]
      subst jj
      have hx:=cf h1 hr
      have hy:=cf h2 hr
      simp only[aY]at he
      split at he
      ·rename_i d' l8
       cases he
       obtain⟨k,a,b,AN,uu,rfl⟩:=UW l8
       rw[AN]at hx;rw[uu]at hy
       refine dj.pure (v:= .complex k a b) r ?_ (.val _ rfl)
       have hb:Builtin.complex_ oj type #[.float k a, .float k b] = pure (.complex k a b):=if_pos rfl
       simp[execOp,resolve,invoke,builtin,hb,hx.oG,hy.oG]
      ·cases he
     ·cases hc
    ·cases hc
   case real=>
    split at hc
    ·rename_i x ha
     obtain⟨x',h1,rfl⟩:=map_some hc
     have jj:args = #[x]:=by rw[← Array.toArray_toList (xs:=args),ha]
     subst jj
     have hx:=cf h1 hr
     simp only[aY]at he
     split at he
     ·rename_i d' l8
      cases he
      obtain⟨k,a,b,AN,rfl⟩:=UX l8
      rw[AN]at hx
      refine dj.pure (v:= .float k a) r ?_ (.val _ rfl)
      have hb:Builtin.real_ oj type #[.complex k a b] = pure (.float k a):=rfl
      simp[execOp,resolve,invoke,builtin,hb,hx.oG]
     ·cases he
    ·cases hc
   case imag=>
    split at hc
    ·rename_i x ha
     obtain⟨x',h1,rfl⟩:=map_some hc
     have jj:args = #[x]:=by rw[← Array.toArray_toList (xs:=args),ha]
     subst jj
     have hx:=cf h1 hr
     simp only[aY]at he
     split at he
     ·rename_i d' l8
      cases he
      obtain⟨k,a,b,AN,rfl⟩:=UY l8
      rw[AN]at hx
      refine dj.pure (v:= .float k b) r ?_ (.val _ rfl)
      have hb:Builtin.imag_ oj type #[.complex k a b] = pure (.float k b):=rfl
      simp[execOp,resolve,invoke,builtin,hb,hx.oG]
     ·cases he
    ·cases hc
 | makeFunc fn first captured=>
  cases fn<;>simp only at hc<;>try (cases hc;done)
  split at hc
  ·rename_i f h0
   obtain⟨xs,qo,rfl⟩:=map_some hc
   simp only[aY,Option.some.injEq,Prod.mk.injEq]at he
   obtain⟨rfl,rfl⟩:=he
   obtain⟨c1,c2⟩:=P3 hr qo
   have hf:first = #[]:=Array.eq_empty_of_size_eq_zero h0
   subst hf
   refine dj.pure (v:= .func (.func f) #[] (captured.map act.eval)) r ?_ (.ix _ _ _ (by simp[c1]) (fun i d v e1 e2=>c2 i d v e1 (by simpa using e2)))
   simp[execOp,Instr.makeFunc]
  ·cases hc
 | makeMap t rv=>
  cases rv with
  | none=>
   simp only at hc
   split at hc
   ·rename_i ht
    cases hc
    simp only[aY,Option.some.injEq,Prod.mk.injEq]at he
    obtain⟨rfl,rfl⟩:=he
    simp only[execOp,Option.map_none]
    exact RA r ht
   ·cases hc
  |some x=>cases hc
 | makeSlice t l c=>
  simp only at hc
  split at hc
  ·rename_i l' c' e h1 h2 ht
   split at hc
   ·rename_i i z hi hz
    split at hc
    ·rename_i uH
     cases hc
     have hl:=cf h1 hr
     have hcx:=cf h2 hr
     simp only[aY]at he
     split at he
     ·rename_i n m hn hm
      split at he
      ·rename_i nc
       obtain⟨rfl,h0,hmx⟩:=nc
       cases he
       rw[hn]at hl;rw[hm]at hcx
       simp only[execOp,hl.jf,hcx.jf]
       exact RI r ht hi hz uH h0 hmx
      ·cases he
     ·cases he
    ·cases hc
   ·cases hc
  ·cases hc
 | mapUpdate t m k v=>
  simp only at hc
  split at hc
  ·rename_i kt et m' k' v' ht h1 h2 h3
   split at hc
   ·rename_i hkt
    cases hc
    have hm:=cf h1 hr
    have hk:=cf h2 hr
    have hv:=cf h3 hr
    simp only[aY]at he
    split at he
    ·rename_i o key g z rows ho Yq lx
     rw[ho]at hm;rw[Yq]at hk;rw[lx]at hv
     obtain⟨hmv,hD,Ay⟩:=hm.LY
     split at he
     ·rename_i cs pw
      split at he
      ·rename_i kT aoY
       cases he
       have AH:(act.eval v).oneCell'=true:=by
        rcases hv.kb with ⟨_,h,_⟩|⟨_,_,a,cap,h⟩|⟨b,q,cap,h,_⟩<;>rw[h]<;>rfl
       simp only[execOp,hmv,hk.mR]
       exact Vb r ht hkt Ay pw hv AH aoY
      ·cases he
     ·cases he
    ·cases he
   ·cases hc
  ·cases hc
 | lookup t m k ok=>
  cases ok<;>simp only at hc<;>try (cases hc;done)
  split at hc
  ·rename_i kt et m' k' ht h1 h2
   split at hc
   ·rename_i i hkt hi
    split at hc
    ·rename_i z hz
     obtain⟨zd,hzd,rfl⟩:=map_some hc
     have hm:=cf h1 hr
     have hk:=cf h2 hr
     simp only[aY]at he
     split at he
     ·rename_i o key ho Yq
      rw[ho]at hm;rw[Yq]at hk
      obtain⟨hmv,hD,Ay⟩:=hm.LY
      split at he
      ·rename_i cs pw
       split at he
       ·rename_i d' l8
        cases he
        simp only[execOp,hmv,hk.mR]
        exact RB r ht hkt hi hz hzd Ay pw l8
       ·cases he
      ·cases he
     ·cases he
    ·cases hc
   ·cases hc
  ·cases hc
 |_=>cases hc
theorem By {o:Oper} {z:List D} {k n:Nat} {ps:List (Nat×X)} {tm:Tm} {act:Act} {d:D} {s':St} (hc:G3 P o=some (.dm z k n ps)) (r:Rel M s w) (hr:nP M s tm act.tmps) (he:aY (.xn z k n ps) tm s=some (d,s')) :
 dj P M s w (execOp act.eval o) d s':=by
 obtain⟨dst,op,type,pos,after,guard⟩:=o
 unfold G3 at hc
 simp only at hc
 cases op with
 | buildSlice t n' parts=>
  simp only at hc
  split at hc
  ·rename_i e hu
   split at hc
   ·rename_i i z ps h1 h2 h3
    split at hc
    ·rename_i nc
     cases hc
     simp only[aY]at he
     split at he
     ·rename_i rows lx
      cases he
      obtain⟨vs,T,g1,g2,g3,g4⟩:=Fu r hr hu h1 h2 nc.1 nc.2 h3 lx
      obtain⟨M',f1,f2,f3⟩:=Va r T g1 (by rw[g3,g2]) nc.1
      refine⟨_,_,_, .inl ?_,f2,f1,f3⟩
      simp only[Array.toArray_toList]at g4
      simp only[execOp,Sem.run_bind,g4,Result.andThen_ok,Sem.run_pure]
      rw[g2]
     ·cases he
    ·cases hc
   ·cases hc
  ·cases hc
 |_=>
  exfalso
  revert hc
  try simp only
  repeat' split
  all_goals (first|(intro h;cases h;done)|(intro h;obtain⟨_,_,h⟩:=map_some h;cases h;done)|contradiction|(simp;done)|(intro h;simp_all;done))
end
end Go.Abs
namespace Go.Abs
structure ic where
 M:Map
 s:St
 w:World
 laid:Laid M s w
 Fv : ∀ b o v,M.G b o=some v→b<w.heap.size
def Holds (B:ic) (nt:Nat) (tm:Tm) (s:St) (act:Act) (w:World):Prop:=
 ∃ M,Ext B.M B.s B.w M s w∧Rel M s w∧nP M s tm act.tmps∧act.tmps.size=nt∧act.defers = []
def rG (B:ic) (nt:Nat) (Q:Exit→Tm→St→Prop):Exit→Act→World→Prop:=fun e act w=>∃ tm s,Q e tm s∧Holds B nt tm s act w
def bS (P:Program) (f:FuncId) (args:List D) (s:St) (Q:D→St→Prop):Prop:=
 ∀ (M:Map) (w:World) (gw:Array Value),Rel M s w→Laid M s w→gw.size=args.length→(∀ (i:Nat) (d:D) (v:Value),args[i]? = some d→gw[i]? = some v→RD M s d v)→
  Calls P f gw w fun e w'=>∃ M' d v s',e = .returned v∧Q d s'∧Ext M s w M' s' w'∧Rel M' s' w'∧RD M' s' d v
theorem bS.mono {P:Program} {f:FuncId} {args:List D} {s:St} {Q Q':D→St→Prop} (h:bS P f args s Q) (hq : ∀ d s',Q d s'→Q' d s'):bS P f args s Q':=
 fun M w gw r hd hl ha=>(h M w gw r hd hl ha).mono fun _ _ ⟨M',d,v,s',h1,h2,h3⟩=>⟨M',d,v,s',h1,hq _ _ h2,h3⟩
def guarded (g:Option (Nat×Bool)) (tm:Tm) (A B:Prop):Prop:=
 match g with
 |none=>A
 |some (t,want)=>
  match tm.get t with
  | .bool b=>(b=want→A)∧(b=(!want)→B)
  | .tuple _=>B
  |_=>False
def jT (P:Program):List AI→(Tm→St→Prop)→Tm→St→Prop
 | [],K,tm,s=>K tm s
 | .op dst g o::r,K,tm,s=>
  guarded g tm (match aY o tm s with|some (d,s')=>jT P r K (tm.put dst d) s'|none=>False) (jT P r K (tm.put dst (.tuple [])) s)
 | .call dst g f xs::r,K,tm,s=>
  guarded g tm (bS P f (xs.map (·.ev tm)) s fun d s'=>jT P r K (tm.put dst d) s') (jT P r K (tm.put dst (.tuple [])) s)
 | .nil dst g neg x::r,K,tm,s=>
  guarded g tm (match x.ev tm with
   | .slice _ _ rows=>∀ b:Bool,(rows≠ []→b=false)→jT P r K (tm.put dst (.bool (if neg then !b else b))) s
   |_=>False) (jT P r K (tm.put dst (.tuple [])) s)
 | .ky dst g t xs::r,K,tm,s=>
  guarded g tm (match tm.get t with
   | .ix f pC=>enters P f=true∧bS P f (xs.map (·.ev tm)++pC) s fun d s'=>jT P r K (tm.put dst d) s'
   |_=>False) (jT P r K (tm.put dst (.tuple [])) s)
section
variable {P:Program}
theorem DC {f:FuncId} (h:enters P f=true) (args:Array Value) (w:World):(callFunc f args).run P w = .ok (.enter f args) w:=by
 unfold enters at h
 split at h
 ·rename_i fn hf
  simp only[Bool.and_eq_true,Bool.not_eq_true']at h
  obtain⟨h1,h2⟩:=h
  have h3:fn.body.isNone=false:=by cases hb:fn.body<;>simp_all
  simp only[callFunc,Sem.run_bind,run_program,Result.andThen_ok,hf,h2,h3]
  simp
 ·cases h
theorem zK (ρ:Operand→Value) (dst:Option Tmp) (f:FuncId) (args:Array Operand) (oj:Array TypeId) (ty:TypeId) (pos:String) (after:Array Edge) (g:Option (Nat×Bool))
 (hρ:ρ (.func f) = .func (.func f) #[] #[]) (h:enters P f=true) (w:World) :
 (execOp ρ ⟨dst, .call ⟨.value (.func f),args,oj⟩,ty,pos,after,g⟩).run P w = .ok (.enter f (args.map ρ)) w:=by
 simp[execOp,resolve,hρ,Deferred.ofValue,invoke,DC h]
theorem DD (ρ:Operand→Value) (dst:Option Tmp) (x:Operand) (f:FuncId) (pC:Array Value) (args:Array Operand) (oj:Array TypeId) (ty:TypeId) (pos:String) (after:Array Edge) (g:Option (Nat×Bool))
 (hρ:ρ x = .func (.func f) #[] pC) (h:enters P f=true) (w:World) :
 (execOp ρ ⟨dst, .call ⟨.value x,args,oj⟩,ty,pos,after,g⟩).run P w = .ok (.enter f (args.map ρ++pC)) w:=by
 simp[execOp,resolve,hρ,Deferred.ofValue,invoke,DC h]
theorem yM {M:Map} {s:St} {tm:Tm} {act:Act} (hr:nP M s tm act.tmps) : ∀ {l:List Operand} {xs:List X},Ax l=some xs→
 xs.length=l.length∧∀ (i:Nat) (d:D) (v:Value),(xs.map (·.ev tm))[i]? = some d→(l.map act.eval)[i]? = some v→RD M s d v
 | [],xs,h=>by cases h;exact⟨rfl,by simp⟩
 | x::l,xs,h=>by
  unfold Ax at h
  split at h
  ·rename_i x' r' h1 h2
   cases h
   obtain⟨g1,g2⟩:=yM hr h2
   refine⟨by simp[g1],fun i d v e1 e2=>?_⟩
   cases i with
   |zero=>simp at e1 e2;subst e1;subst e2;exact cf h1 hr
   |succ i=>exact g2 i d v (by simpa using e1) (by simpa using e2)
  ·cases h
theorem J2 {M:Map} {s:St} {tm:Tm} {act:Act} {args:Array Operand} {xs:List X} {pC:List D} {vs:Array Value} (qo:Ax args.toList=some xs) (ht:nP M s tm act.tmps) (hlen:pC.length=vs.size)
 (Hj : ∀ (i:Nat) (d:D) (v:Value),pC[i]? = some d→vs[i]? = some v→RD M s d v) :
 (args.map act.eval++vs).size=(xs.map (·.ev tm)++pC).length∧∀ (i:Nat) (d:D) (v:Value),(xs.map (·.ev tm)++pC)[i]? = some d→(args.map act.eval++vs)[i]? = some v→RD M s d v:=by
 obtain⟨c1,c2⟩:=yM ht qo
 refine⟨by simp[c1,hlen],fun i d v e1 e2=>?_⟩
 rcases Nat.lt_or_ge i args.size with px|px
 ·rw [List.getElem?_append_left (by simp [c1];exact px)]at e1
  rw[Array.getElem?_append_left (by simp;exact px)]at e2
  exact c2 i d v e1 (by simpa using e2)
 ·rw [List.getElem?_append_right (by simp [c1];exact px)]at e1
  rw[Array.getElem?_append_right (by simp;exact px)]at e2
  simp only[List.length_map,c1,Array.size_map,Array.length_toList]at e1 e2
  exact Hj _ d v e1 e2
theorem CA {M:Map} {s:St} {w:World} {o:Oper} {neg:Bool} {x:X} {tm:Tm} {act:Act} (hc:IY P o=some (neg,x)) (hr:nP M s tm act.tmps) {g:Tag} {z:Nat} {rows:List (List D)} (hx:x.ev tm = .slice g z rows) :
 ∃ b:Bool,(rows≠ []→b=false)∧(execOp act.eval o).run P w = .ok (.value (.bool (if neg then !b else b))) w:=by
 obtain⟨dst,op,type,pos,after,guard⟩:=o
 unfold IY at hc
 split at hc
 ·rename_i op t y yt heq
  simp only at heq
  subst heq
  have fin : ∀ e,P.underlying t=some (.slice e)→cX y=some x→op=(if neg then .neq else .eql)→∃ b:Bool,(rows≠ []→b=false)∧
   (execOp act.eval ⟨dst, .binOp op t y (.const (.slice none 0 0)) yt,type,pos,after,guard⟩).run P w = .ok (.value (.bool (if neg then !b else b))) w:=by
   intro e ht hy oi
   have hv:=cf hy hr
   rw[hx]at hv
   have key : ∀ (a:Option Addr) (n c:Nat),act.eval y = .slice a n c→(execOp act.eval ⟨dst, .binOp op t y (.const (.slice none 0 0)) yt,type,pos,after,guard⟩).run P w = .ok (.value (.bool (if neg then !a.isNone else a.isNone))) w:=by
    intro a n c qD
    have hg:=kU (P:=P) (w:=w) (op:=op) (t:=t) (x:=y) (y:= .const (.slice none 0 0)) (a:= .slice a n c) (b:= .slice none 0 0) ⟨by simp,by simp⟩
    have he:(Op.equal t (.slice a n c) (.slice none 0 0)).run P w = .ok a.isNone w:=by
     have : ∀ d,(Op.equalIn (d+1) t (.slice a n c) (.slice none 0 0)).run P w = .ok a.isNone w:=by
      intro d
      cases a<;>simp[Op.equalIn,run_underlying ht]
     exact this 9999
    have ao0:act.eval (.const (.slice none 0 0)) = .slice none 0 0:=rfl
    simp only[execOp,qD,ao0]
    rw[oi]at hg ⊢
    cases neg
    ·simp only [Bool.false_eq_true,if_false]at hg ⊢
     simp[hg,binOp,he]
    ·simp only [if_true]at hg ⊢
     simp[hg,binOp,he]
   rcases hv.kb with ⟨h0,qD,_⟩|⟨_,_,a,cap,qD⟩|⟨b,q,cap,qD,_⟩
   ·exact⟨true,fun h=>(h h0).elim,key none 0 0 qD⟩
   ·exact⟨false,fun _=>rfl,key _ _ _ qD⟩
   ·exact⟨false,fun _=>rfl,key _ _ _ qD⟩
  split at hc
  ·cases hc
   exact fin _ ‹_› ‹_› rfl
  ·cases hc
   exact fin _ ‹_› ‹_› rfl
  ·cases hc
 ·cases hc
variable {B:ic} {nt:Nat}
theorem Holds.put {tm:Tm} {s:St} {act:Act} {w:World} {M':Map} {s':St} {w':World} {M:Map} (e:Ext B.M B.s B.w M s w) (ht:nP M s tm act.tmps) (hn:act.tmps.size=nt) (hd:act.defers = [])
 {dst:Option Nat} (sx : ∀ t,dst=some t→t<nt) {d:D} {v:Value} (e':Ext M s w M' s' w') (r':Rel M' s' w') (hv:RD M' s' d v):Holds B nt (tm.put dst d) s' (act.put dst v) w':=by
 refine⟨M',e.trans e',r',(ht.mono e'.le).put (fun t h=>by rw[hn];exact sx t h) hv, ?_, ?_⟩
 ·cases dst<;>simp[Act.put,hn]
 ·cases dst<;>simp[Act.put,hd]
theorem AP {ops:Array Oper} {o:Oper} {ai:AI} (h:cI P nt ops o=some ai) : ∀ t,o.dst=some t→t<nt:=by
 intro t ht
 unfold cI at h
 split at h
 ·cases h
 ·split at h
  ·rename_i hD;rw[ht]at hD;simpa[abk]using hD
  ·cases h
theorem ly {ops:Array Oper} {o:Oper} {g:Option (Nat×Bool)} (hg:xq ops o.guard=some g) {M:Map} {s:St} {tm:Tm} {act:Act} (hr:nP M s tm act.tmps) {A C:Prop} (h:guarded g tm A C) :
 (Region.wanted o (yielded ops act.tmps)=true∧A)∨(Region.wanted o (yielded ops act.tmps)=false∧C):=by
 unfold xq at hg
 split at hg
 ·rename_i hn
  cases hg
  exact .inl ⟨by simp[Region.wanted,hn],h⟩
 ·rename_i j want hn
  split at hg
  ·rename_i t ht
   cases hg
   have hrt:=hr t
   unfold guarded at h
   simp only at h
   split at h
   ·rename_i b hb
    rw[hb]at hrt
    have hv:=hrt.pF
    have aku:act.tmps[t]? = some (.bool b):=by
     cases hc:act.tmps[t]? with
     |none=>simp[Array.getD_eq_getD_getElem?,hc,Go.undef]at hv
     |some v=>simp[Array.getD_eq_getD_getElem?,hc]at hv;rw[hv]
    have hy:yielded ops act.tmps j=some b:=by simp[yielded,ht,aku]
    have hw:Region.wanted o (yielded ops act.tmps)=(some b==some want):=by simp[Region.wanted,hn,hy]
    by_cases hbw:b=want
    ·exact .inl ⟨by rw[hw,hbw];simp,h.1 hbw⟩
    ·refine .inr ⟨by rw [hw];simp [hbw],h.2 ?_⟩
     cases b<;>cases want<;>simp_all
   ·rename_i ds DB
    rw[DB]at hrt
    obtain⟨vs,hv,_⟩:=hrt.JT
    refine .inr ⟨?_,h⟩
    have hy:yielded ops act.tmps j=none:=by
     unfold yielded
     rw[ht]
     cases hc:act.tmps[t]? with
     |none=>simp[hc]
     |some v=>simp[Array.getD_eq_getD_getElem?,hc]at hv;simp[hc,hv]
    simp[Region.wanted,hn,hy]
   ·exact h.elim
  ·cases hg
theorem DE {ops:Array Oper} {Q:Exit→Tm→St→Prop} : ∀ (l:List Nat) (ol:List Oper) (is:List AI),l.map (ops[·]?)=ol.map some→s5 P nt ops ol=some is→
 ∀ (tm:Tm) (s:St) (act:Act) (w:World),jT P is (Q .normal) tm s→Holds B nt tm s act w→wpOps P ops (rG B nt Q) l act w
 | [],[],is,_,hc,tm,s,act,w,h,hh=>by cases hc;exact⟨tm,s,h,hh⟩
 | [],_::_,_,hl,_,_,_,_,_,_,_=>by simp at hl
 |_::_,[],_,hl,_,_,_,_,_,_,_=>by simp at hl
 | i::l,o::ol,is,hl,hc,tm,s,act,w,h,hh=>by
  simp only[List.map_cons,List.cons.injEq]at hl
  obtain⟨hi,hl⟩:=hl
  unfold s5 at hc
  split at hc
  ·rename_i ai Vg h1 h2
   cases hc
   obtain⟨M,e,r,ht,hn,hd⟩:=hh
   have sx:=AP h1
   have ih:=fun tm s act w=>DE (Q:=Q) l ol Vg hl h2 tm s act w
   have skip : ∀ (x:Prop),jT P Vg (Q .normal) (tm.put o.dst (.tuple [])) s→wpOps P ops (rG B nt Q) l (act.put o.dst Go.undef) w:=fun _ hk=>
    ih _ _ _ _ hk (Holds.put e ht hn hd sx (Ext.refl M s w) r .undef)
   simp only[wpOps,hi]
   unfold cI at h1
   split at h1
   ·cases h1
   ·rename_i g hg
    split at h1
    ·unfold u7 at h1
     split at h1
     ·-- a call
      rename_i f args oj oi
      split at h1
      ·rename_i Bz
       obtain⟨xs,qo,rfl⟩:=map_some h1
       unfold jT at h
       rcases ly hg ht h with ⟨hw,hA⟩|⟨hw,hB⟩
       ·simp only [hw,if_true]
        left
        have hex:(execOp act.eval o).run P w = .ok (.enter f (args.map act.eval)) w:=by
         obtain⟨dst,op,type,pos,after,guard⟩:=o
         simp only at oi
         subst oi
         exact zK act.eval dst f args oj type pos after guard rfl Bz w
        obtain⟨c1,c2⟩:=yM ht qo
        unfold Oper.wp
        rw[hex,Oper.upon_enter]
        refine(hA M w (args.map act.eval) r (B.laid.ext e) (by simp[c1]) (fun i d v e1 e2=>c2 i d v e1 (by simpa using e2))).mono ?_
        rintro en w' ⟨M',d,v,s',rfl,hk,e',r',hv⟩
        exact ih _ _ _ _ hk (Holds.put e ht hn hd sx e' r' hv)
       ·simp only [hw]
        exact skip True hB
      ·cases h1
     ·-- what a slot holds is called
      rename_i t args oj oi
      obtain⟨xs,qo,rfl⟩:=map_some h1
      unfold jT at h
      rcases ly hg ht h with ⟨hw,hA⟩|⟨hw,hB⟩
      ·simp only [hw,if_true]
       left
       split at hA
       ·rename_i f pC nB
        obtain⟨Bz,hA⟩:=hA
        have Vh:=ht t
        rw[nB]at Vh
        obtain⟨vs,pW,hlen,Hj⟩:=Vh.PX
        have hex:(execOp act.eval o).run P w = .ok (.enter f (args.map act.eval++vs)) w:=by
         obtain⟨dst,op,type,pos,after,guard⟩:=o
         simp only at oi
         subst oi
         exact DD act.eval dst (.tmp t) f vs args oj type pos after guard pW Bz w
        unfold Oper.wp
        rw[hex,Oper.upon_enter]
        have cc:=J2 qo ht hlen Hj
        refine(hA M w (args.map act.eval++vs) r (B.laid.ext e) cc.1 cc.2).mono ?_
        rintro en w' ⟨M',d,v,s',rfl,hk,e',r',hv⟩
        exact ih _ _ _ _ hk (Holds.put e ht hn hd sx e' r' hv)
       ·exact hA.elim
      ·simp only [hw]
       exact skip True hB
     ·split at h1
      ·-- a slice held against nil
       rename_i neg x F0
       cases h1
       unfold jT at h
       rcases ly hg ht h with ⟨hw,hA⟩|⟨hw,hB⟩
       ·simp only [hw,if_true]
        left
        split at hA
        ·rename_i g' z rows hx
         obtain⟨b,hb,hex⟩:=CA (w:=w) F0 ht hx
         unfold Oper.wp
         rw[hex,Oper.upon_value]
         exact ih _ _ _ _ (hA b hb) (Holds.put e ht hn hd sx (Ext.refl M s w) r (.bool _))
        ·exact hA.elim
       ·simp only [hw]
        exact skip True hB
      ·-- any other operation
       have fin : ∀ ao,ai = .op o.dst g ao→(∀ d s',aY ao tm s=some (d,s')→dj P M s w (execOp act.eval o) d s')→
        (if Region.wanted o (yielded ops act.tmps)=true then o.wp P act w (wpOps P ops (rG B nt Q) l) (rG B nt Q)∨(o.asks P act w∧LetsOut (rG B nt Q))else wpOps P ops (rG B nt Q) l (act.put o.dst Go.undef) w):=by
        intro ao yN hdo
        subst yN
        unfold jT at h
        rcases ly hg ht h with ⟨hw,hA⟩|⟨hw,hB⟩
        ·simp only [hw,if_true]
         left
         split at hA
         ·rename_i d s' sN
          obtain⟨v,w',M',ew,r',hv,e'⟩:=hdo d s' sN
          unfold Oper.wp
          rcases ew with ew|⟨ew,rfl⟩
          ·rw [ew,Oper.upon_value]
           exact ih _ _ _ _ hA (Holds.put e ht hn hd sx e' r' hv)
          ·rw [ew,Oper.upon_skip]
           exact ih _ _ _ _ hA (Holds.put e ht hn hd sx e' r' hv)
         ·exact hA.elim
        ·simp only [hw]
         exact skip True hB
       split at h1
       ·rename_i z k n ps pX
        cases h1
        refine fin _ rfl (fun d s' sN=>?_)
        split at sN
        ·exact By pX r ht sN
        ·exact ve pX r ht sN
       ·rename_i ao pX
        cases h1
        exact fin _ rfl (fun d s' sN=>ve pX r ht sN)
       ·cases h1
    ·cases h1
  ·cases hc
end
end Go.Abs
namespace Go.Abs
def Turned (P:Program) (nt:Nat):AC→Code→Prop
 | .skip,c=>c = .skip
 | .run is,c=>∃ id ops,c = .region id ops false∧s5 P nt ops ops.toList=some is
 | .par is nE,c=>∃ id ops,c = .region id ops true∧s5 P nt ops ops.toList=some is∧P.follows .mixedOrders=true∧∃ pt,LR is (ops.toList.map oB) pt nE=true
 | .seq a b,c=>∃ x y,c = .seq x y∧cC P nt x=some a∧cC P nt y=some b
 | .cond x a b,c=>∃ o p q,c = .cond o p q∧cX o=some x∧cC P nt p=some a∧cC P nt q=some b
 | .block id a,c=>∃ x,c = .block id x∧cC P nt x=some a
 | .loop a,c=>∃ x,c = .loop x∧cC P nt x=some a
 | .exit id,c=>c = .exit id
 | .scope a,c=>∃ x,c = .scope x∧cC P nt x=some a
 | .label l,c=>c = .label l
 | .goto l,c=>c = .goto l
 | .ret,c=>c = .ret
theorem ng {P:Program} {nt:Nat} {c:Code} {ac:AC} (h:cC P nt c=some ac):Turned P nt ac c:=by
 cases c with
 |skip=>cases h;rfl
 | region id ops draw=>
  cases draw
  ·obtain⟨is,h1,rfl⟩:=map_some (x:=s5 P nt ops ops.toList) (f:=AC.run) (by simpa [cC]using h)
   exact⟨id,ops,rfl,h1⟩
  ·simp only [cC]at h
   split at h
   ·rename_i hm
    obtain⟨is,h1,h2⟩:=Option.bind_eq_some_iff.1 h
    unfold abl at h2
    split at h2
    ·rename_i hp
     cases h2
     exact⟨id,ops,rfl,h1,hm,_,hp⟩
    ·cases h2
   ·cases h
 |seq a b=>
  simp only[cC]at h
  split at h
  ·rename_i a' b' h1 h2;cases h;exact⟨a,b,rfl,h1,h2⟩
  ·cases h
 |cond x a b=>
  simp only[cC]at h
  split at h
  ·rename_i x' a' b' h1 h2 h3;cases h;exact⟨x,a,b,rfl,h1,h2,h3⟩
  ·cases h
 |block id a=>
  obtain⟨a',h1,rfl⟩:=map_some (x:=cC P nt a) (f:=AC.block id) (by simpa[cC]using h)
  exact⟨a,rfl,h1⟩
 |loop a=>
  obtain⟨a',h1,rfl⟩:=map_some (x:=cC P nt a) (f:=AC.loop) (by simpa[cC]using h)
  exact⟨a,rfl,h1⟩
 |rangeFunc f p a b=>simp[cC]at h
 |exit id=>cases h;rfl
 |scope a=>
  obtain⟨a',h1,rfl⟩:=map_some (x:=cC P nt a) (f:=AC.scope) (by simpa[cC]using h)
  exact⟨a,rfl,h1⟩
 |label l=>cases h;rfl
 |goto l=>cases h;rfl
 |ret=>cases h;rfl
 |refuse w=>simp[cC]at h
def Sem (P:Program) (B:ic) (nt:Nat) (ac:AC) (Q:Exit→Tm→St→Prop) (tm:Tm) (s:St):Prop:=
 ∀ c,cC P nt c=some ac→∀ act w,Holds B nt tm s act w→c.wp P (rG B nt Q) act w
def lz (next:Tm→St→Prop) (Q:Exit→Tm→St→Prop):Exit→Tm→St→Prop
 | .normal,tm,s=>next tm s
 |e,tm,s=>Q e tm s
def iN (id:Nat) (Q:Exit→Tm→St→Prop):Exit→Tm→St→Prop
 | .exit i,tm,s=>if i=id then Q .normal tm s else Q (.exit i) tm s
 |e,tm,s=>Q e tm s
section
variable {P:Program} {B:ic} {nt:Nat} {Q:Exit→Tm→St→Prop} {tm:Tm} {s:St}
theorem Sem.mono {ac:AC} {Q':Exit→Tm→St→Prop} (h:Sem P B nt ac Q tm s) (hq : ∀ e tm s,Q e tm s→Q' e tm s):Sem P B nt ac Q' tm s:=
 fun c hc act w hh=>wp_mono (h c hc act w hh) fun _ _ _ ⟨tm,s,h1,h2⟩=>⟨tm,s,hq _ _ _ h1,h2⟩
theorem Sem.skip (h:Q .normal tm s):Sem P B nt .skip Q tm s:=by
 intro c hc act w hh
 cases ng hc
 exact wp_skip ⟨tm,s,h,hh⟩
theorem Sem.label {l:Nat} (h:Q .normal tm s):Sem P B nt (.label l) Q tm s:=by
 intro c hc act w hh
 cases ng hc
 exact wp_label ⟨tm,s,h,hh⟩
theorem Sem.exit {id:Nat} (h:Q (.exit id) tm s):Sem P B nt (.exit id) Q tm s:=by
 intro c hc act w hh
 cases ng hc
 exact wp_exit ⟨tm,s,h,hh⟩
theorem Sem.goto {l:Nat} (h:Q (.goto l) tm s):Sem P B nt (.goto l) Q tm s:=by
 intro c hc act w hh
 cases ng hc
 exact wp_goto ⟨tm,s,h,hh⟩
theorem Sem.ret (h:Q .ret tm s):Sem P B nt .ret Q tm s:=by
 intro c hc act w hh
 cases ng hc
 exact wp_ret ⟨tm,s,h,hh⟩
theorem DF (ops:Array Oper):(List.range ops.size).map (ops[·]?)=ops.toList.map some:=by
 apply List.ext_getElem?
 intro i
 by_cases h:i<ops.size
 ·simp[h]
 ·simp[h]
theorem Sem.run {is:List AI} (h:jT P is (Q .normal) tm s):Sem P B nt (.run is) Q tm s:=by
 intro c hc act w hh
 obtain⟨id,ops,rfl,hi⟩:=ng hc
 exact wp_region (DE (Q:=Q) (List.range ops.size) ops.toList is (DF ops) hi tm s act w h hh)
theorem Sem.seq {a b:AC} (h:Sem P B nt a (lz (Sem P B nt b Q) Q) tm s):Sem P B nt (.seq a b) Q tm s:=by
 intro c hc act w hh
 obtain⟨x,y,rfl,h1,h2⟩:=ng hc
 refine wp_seq (wp_mono (h x h1 act w hh) fun e act w hp=>?_)
 obtain⟨bE,s',hq,lr⟩:=hp
 cases e with
 |normal=>exact hq y h2 act w lr
 |exit id=>exact⟨bE,s',hq,lr⟩
 |goto l=>exact⟨bE,s',hq,lr⟩
 |ret=>exact⟨bE,s',hq,lr⟩
 |panic ch=>exact⟨bE,s',hq,lr⟩
 |outgrown=>exact⟨bE,s',hq,lr⟩
theorem Sem.cond {x:X} {a b:AC} {t:Bool} (hx:x.ev tm = .bool t) (h1:t=true→Sem P B nt a Q tm s) (h2:t=false→Sem P B nt b Q tm s):Sem P B nt (.cond x a b) Q tm s:=by
 intro c hc act w hh
 obtain⟨o,p,q,rfl,g1,g2,g3⟩:=ng hc
 have lr:=hh
 obtain⟨M,e,r,ht,hn,hd⟩:=hh
 have hv:=cf g1 ht
 rw[hx]at hv
 exact wp_cond_split hv.pF (fun h=>h1 h p g2 act w lr) (fun h=>h2 h q g3 act w lr)
theorem Sem.block {id:Nat} {a:AC} (h:Sem P B nt a (iN id Q) tm s):Sem P B nt (.block id a) Q tm s:=by
 intro c hc act w hh
 obtain⟨x,rfl,h1⟩:=ng hc
 refine wp_block (wp_mono (h x h1 act w hh) fun e act w hp=>?_)
 obtain⟨bE,s',hq,lr⟩:=hp
 cases e with
 |exit i=>
  simp only[iN]at hq
  simp only[Exit.inBlock]
  split at hq
  ·rename_i h;rw[if_pos h];exact⟨bE,s',hq,lr⟩
  ·rename_i h;rw[if_neg h];exact⟨bE,s',hq,lr⟩
 |normal=>exact⟨bE,s',hq,lr⟩
 |goto l=>exact⟨bE,s',hq,lr⟩
 |ret=>exact⟨bE,s',hq,lr⟩
 |panic ch=>exact⟨bE,s',hq,lr⟩
 |outgrown=>exact⟨bE,s',hq,lr⟩
def BA (P:Program) (c:Code) (Q:Exit→Act→World→Prop) (a:Act) (w:World):Prop:=
 ∀ (b:Frame) (k:List Item) (cs:List Frame),∃ e a' w',Q e a' w'∧Arrives P (lone (b.at a (.code c:: .inLoop c::k)) cs w) b k cs e a' w'
theorem BA.wp {c:Code} {Q:Exit→Act→World→Prop} {a:Act} {w:World} (h:BA P c Q a w):(Code.loop c).wp P Q a w:=fun b k cs=>
 let ⟨e,a',w',hq,jj⟩:=h b k cs
 ⟨e,a',w',hq, .of_steps (.one step_loop) jj⟩
theorem BA.once {c:Code} {Q:Exit→Act→World→Prop} {a:Act} {w:World} (h:c.wp P (Exit.then (BA P c Q) Q) a w):BA P c Q a w:=by
 intro b k cs
 obtain⟨e,a₁,w₁,hq,jj⟩:=h b (.inLoop c::k) cs
 cases e with
 |normal=>
  obtain⟨e₂,a₂,w₂,hq₂,RN⟩:=hq b k cs
  exact⟨e₂,a₂,w₂,hq₂, .of_steps (Steps.trans jj (.one step_inLoop)) RN⟩
 |exit id=>exact⟨_,a₁,w₁,hq, .pass (x:= .inLoop c) rfl (fun _ _=> .inl (by simp)) jj⟩
 |goto l=>exact⟨_,a₁,w₁,hq, .pass (x:= .inLoop c) rfl (fun _ _=> .inl (by simp)) jj⟩
 |ret=>exact⟨_,a₁,w₁,hq, .pass (x:= .inLoop c) rfl (fun _ _=> .inl (by simp)) jj⟩
 |panic ch=>exact⟨_,a₁,w₁,hq, .pass (x:= .inLoop c) rfl (fun _ _=> .inl (by simp)) jj⟩
 |outgrown=>exact⟨_,a₁,w₁,hq, .pass (x:= .inLoop c) rfl (fun _ _=> .inl (by simp)) jj⟩
def bo (P:Program) (B:ic) (nt:Nat) (ac:AC) (Q:Exit→Tm→St→Prop) (tm:Tm) (s:St):Prop:=
 ∀ c,cC P nt c=some ac→∀ act w,Holds B nt tm s act w→BA P c (rG B nt Q) act w
theorem Sem.loop {a:AC} (h:bo P B nt a Q tm s):Sem P B nt (.loop a) Q tm s:=by
 intro c hc act w hh
 obtain⟨x,rfl,h1⟩:=ng hc
 exact(h x h1 act w hh).wp
theorem bo.once {a:AC} (h:Sem P B nt a (lz (bo P B nt a Q) Q) tm s):bo P B nt a Q tm s:=by
 intro c hc act w hh
 refine BA.once (wp_mono (h c hc act w hh) fun e act w hp=>?_)
 obtain⟨bE,s',hq,lr⟩:=hp
 cases e with
 |normal=>exact hq c hc act w lr
 |exit id=>exact⟨bE,s',hq,lr⟩
 |goto l=>exact⟨bE,s',hq,lr⟩
 |ret=>exact⟨bE,s',hq,lr⟩
 |panic ch=>exact⟨bE,s',hq,lr⟩
 |outgrown=>exact⟨bE,s',hq,lr⟩
def xA (P:Program) (c r:Code) (Q:Exit→Act→World→Prop) (a:Act) (w:World):Prop:=
 ∀ (b:Frame) (k:List Item) (cs:List Frame),∃ e a' w',Q e a' w'∧Arrives P (lone (b.at a (.code r:: .inScope c::k)) cs w) b k cs e a' w'
def akv (P:Program) (c:Code) (Q:Exit→Act→World→Prop):Exit→Act→World→Prop
 | .goto l,a,w=>∃ rest,findLabel c l=some rest∧xA P c rest Q a w
 |e,a,w=>Q e a w
theorem xA.wp {c:Code} {Q:Exit→Act→World→Prop} {a:Act} {w:World} (h:xA P c c Q a w):(Code.scope c).wp P Q a w:=fun b k cs=>
 let ⟨e,a',w',hq,jj⟩:=h b k cs
 ⟨e,a',w',hq, .of_steps (.one step_scope) jj⟩
theorem xA.once {c r:Code} {Q:Exit→Act→World→Prop} {a:Act} {w:World} (h:r.wp P (akv P c Q) a w):xA P c r Q a w:=by
 intro b k cs
 obtain⟨e,a₁,w₁,hq,jj⟩:=h b (.inScope c::k) cs
 cases e with
 |normal=>exact⟨.normal,a₁,w₁,hq,Steps.trans jj (.one step_inScope)⟩
 |exit id=>exact⟨.exit id,a₁,w₁,hq,fun k' hk=>jj k' (by simp[exitTo,hk])⟩
 |goto l=>
  obtain⟨rest,hf,hs⟩:=hq
  obtain⟨e₂,a₂,w₂,hq₂,RN⟩:=hs b k cs
  exact⟨e₂,a₂,w₂,hq₂, .of_steps (jj _ (by simp[gotoIn,hf])) RN⟩
 |ret=>exact⟨_,a₁,w₁,hq,jj⟩
 |panic ch=>exact⟨_,a₁,w₁,hq,jj⟩
 |outgrown=>exact⟨_,a₁,w₁,hq,jj⟩
def wY:AC→Nat→Option AC
 | .seq a b,l=>
  match wY a l with
  |some r=>some (.seq r b)
  |none=>wY b l
 | .label l',l=>if l'==l then some .skip else none
 |_,_=>none
theorem OX : ∀ {c:Code} {ac:AC},cC P nt c=some ac→∀ l,(wY ac l=none→findLabel c l=none)∧∀ r,wY ac l=some r→∃ rest,findLabel c l=some rest∧cC P nt rest=some r:=by
 intro c
 induction c with
 | seq a b Vj Vk=>
  intro ac h l
  simp only[cC]at h
  split at h
  ·rename_i a' b' h1 h2
   cases h
   obtain⟨n1,s1⟩:=Vj h1 l
   obtain⟨n2,s2⟩:=Vk h2 l
   simp only[wY,findLabel]
   cases hf:wY a' l with
   |none=>
    rw[n1 hf]
    exact⟨n2,s2⟩
   |some r=>
    obtain⟨rest,g1,g2⟩:=s1 r hf
    rw[g1]
    refine⟨(by intro h;cases h),fun r' h=>?_⟩
    cases h
    exact⟨_,rfl,by simp[cC,g2,h2]⟩
  ·cases h
 |label l'=>
  intro ac h l
  cases h
  simp only[wY,findLabel]
  split
  ·exact⟨(by intro h;cases h),(by intro r h;cases h;exact⟨_,rfl,rfl⟩)⟩
  ·exact⟨fun _=>rfl,(by intro r h;cases h)⟩
 | _=>
  intro ac h l
  have:=ng h
  cases ac<;>simp only[Turned]at this<;>first
   |(exfalso;obtain⟨_,_,this⟩:=this;cases this.1;done)
   |exact⟨fun _=>rfl,(by intro r h;cases h)⟩
   |(exfalso;cases this;done)
   |(exfalso;obtain⟨_,this⟩:=this;cases this.1;done)
   |(exfalso;obtain⟨_,_,_,_,this⟩:=this;cases this.1;done)
def nh (P:Program) (B:ic) (nt:Nat) (ac r:AC) (Q:Exit→Tm→St→Prop) (tm:Tm) (s:St):Prop:=
 ∀ c rest,cC P nt c=some ac→cC P nt rest=some r→∀ act w,Holds B nt tm s act w→xA P c rest (rG B nt Q) act w
def BB (P:Program) (B:ic) (nt:Nat) (ac:AC) (Q:Exit→Tm→St→Prop):Exit→Tm→St→Prop
 | .goto l,tm,s=>∃ r,wY ac l=some r∧nh P B nt ac r Q tm s
 |e,tm,s=>Q e tm s
theorem Sem.scope {a:AC} (h:nh P B nt a a Q tm s):Sem P B nt (.scope a) Q tm s:=by
 intro c hc act w hh
 obtain⟨x,rfl,h1⟩:=ng hc
 exact(h x x h1 h1 act w hh).wp
theorem nh.once {a r:AC} (h:Sem P B nt r (BB P B nt a Q) tm s):nh P B nt a r Q tm s:=by
 intro c rest hc LA act w hh
 refine xA.once (wp_mono (h rest LA act w hh) fun e act w hp=>?_)
 obtain⟨bE,s',hq,lr⟩:=hp
 cases e with
 |normal=>exact⟨bE,s',hq,lr⟩
 |exit id=>exact⟨bE,s',hq,lr⟩
 |goto l=>
  obtain⟨r',hf,hs⟩:=hq
  obtain⟨EF,g1,g2⟩:=(OX hc l).2 r' hf
  exact⟨EF,g1,hs c EF hc g2 act w lr⟩
 |ret=>exact⟨bE,s',hq,lr⟩
 |panic ch=>exact⟨bE,s',hq,lr⟩
 |outgrown=>exact⟨bE,s',hq,lr⟩
def Tag.fg (m:Nat):Tag→Tag
 | .tok t y=>if t<m then .tok t y else .shared
 |g=>g
mutual
def D.fg (n m:Nat):D→D
 | .ptr o off=>if o<n then .ptr o off else .junk
 | .dN row off=> .dN (D.iF n m row) off
 | .slice g z rows=> .slice (g.fg m) z (D.lR n m rows)
 | .agg cs=> .agg (D.iF n m cs)
 | .tuple ds=> .tuple (D.iF n m ds)
 | .junk=> .junk
 | .int k x=> .int k x
 | .bool b=> .bool b
 | .str l=> .str l
 | .eY=> .eY
 | .val v=> .val v
 | .gb T o=>if o<n then .gb T o else .junk
 | .ix f cs=> .ix f (D.iF n m cs)
 | .gW o=>if o<n then .gW o else .junk
 | .dH z o g len=>if o<n then .dH z o g len else .junk
 | .gd o g off=>if o<n then .gd o g off else .junk
 | .fk z=> .fk z
def D.iF (n m:Nat):List D→List D
 | []=> []
 |d::r=>D.fg n m d::D.iF n m r
def D.lR (n m:Nat):List (List D)→List (List D)
 | []=> []
 |d::r=>D.iF n m d::D.lR n m r
end
theorem ni (n m:Nat) : ∀ l,D.iF n m l=l.map (D.fg n m)
 | []=>by simp[D.iF]
 |d::r=>by simp[D.iF,ni n m r]
theorem Vl (n m:Nat) : ∀ l,D.lR n m l=l.map (D.iF n m)
 | []=>by simp[D.lR]
 |d::r=>by simp[D.lR,Vl n m r]
def St.cut (s:St) (n m:Nat):St:=⟨(s.aj.take n).map (D.iF n m),s.az.take m⟩
def Tm.fg (n m:Nat) (tm:Tm):Tm:=tm.map fun p=>(p.1,p.2.fg n m)
def Tm.keep (ks:List Nat) (tm:Tm):Tm:=tm.filter fun p=>ks.contains p.1
theorem lV (s:St) (n m:Nat):(s.cut n m).aj.length=min n s.aj.length:=by simp[St.cut]
theorem jL.fg {M:Map} {g:Tag} {z len cap:Nat} {base:Option (Nat×Nat)} (n m:Nat) (h:jL M s g z len base cap):jL M (s.cut n m) (g.fg m) z len base cap:=by
 cases g with
 |full=>exact h
 |shared=>exact h
 | tok t y=>
  simp only[Tag.fg]
  split
  ·rename_i ht
   obtain⟨h1,h2⟩:=h
   refine⟨by simp[St.cut];omega,fun k hk=>h2 k ?_⟩
   simpa[St.cut,List.getElem?_take_of_lt ht]using hk
  ·trivial
theorem RD.fg {M:Map} {d:D} {v:Value} (n m:Nat) (h:RD M s d v):RD M (s.cut n m) (d.fg n m) v:=by
 induction h with
 |junk v=>simp only[D.fg];exact .junk v
 |int k x=>simp only[D.fg];exact .int k x
 |bool b=>simp only[D.fg];exact .bool b
 |str l=>simp only[D.fg];exact .str l
 |eY=>simp only[D.fg];exact .eY
 |val v hv=>simp only[D.fg];exact .val v hv
 |gb T o v h ht hv=>
  simp only[D.fg]
  split
  ·exact .gb T o v (by rw[lV];omega) ht hv
  ·exact .junk _
 |gW o h hm=>
  simp only[D.fg]
  split
  ·exact .gW o (by rw[lV];omega) hm
  ·exact .junk _
 |fk z a=>simp only[D.fg];exact .fk z a
 |dH z o g len b cap A h hm ha hl=>
  simp only[D.fg]
  split
  ·exact .dH z o g len b cap A (by rw[lV];omega) hm ha hl
  ·exact .junk _
 |gd z o g off b cap A h hm ha=>
  simp only[D.fg]
  split
  ·exact .gd z o g off b cap A (by rw[lV];omega) hm ha
  ·exact .junk _
 |ix f ds vs hl _ ih=>
  simp only[D.fg,ni]
  refine .ix f _ vs (by simpa using hl) (fun i d v e1 e2=>?_)
  simp only[List.getElem?_map,Option.map_eq_some_iff]at e1
  obtain⟨d',e1,rfl⟩:=e1
  exact ih i d' v e1 e2
 |ptr o off h hm=>
  simp only[D.fg]
  split
  ·exact .ptr o off (by rw[lV];omega) hm
  ·exact .junk _
 | dN row off b k h1 h2 ih=>
  simp only[D.fg,ni]
  refine .dN _ off b k (fun i d e=>?_) (fun i d u e eu=>?_)
  ·simp only [List.getElem?_map,Option.map_eq_some_iff]at e
   obtain⟨d',e,rfl⟩:=e
   exact h1 i d' e
  ·simp only [List.getElem?_map,Option.map_eq_some_iff]at e
   obtain⟨d',e,rfl⟩:=e
   exact ih i d' u e eu
 |jH g z cap hc ht=>simp only[D.fg,D.lR];exact .jH _ z cap hc (ht.fg n m)
 |mX z a cap=>simp only[D.fg,D.lR,Tag.fg];exact .mX z a cap
 | slice g z rows b k cap hl hs h1 h2 ht ih=>
  simp only[D.fg,Vl]
  have hlen:(rows.map (D.iF n m)).length=rows.length:=by simp
  have key:=RD.slice (M:=M) (s:=s.cut n m) (g.fg m) z (rows.map (D.iF n m)) b k cap (by rw[hlen];exact hl) (fun row hr=>by
   obtain⟨lD,h',rfl⟩:=List.mem_map.1 hr
   rw[ni,List.length_map];exact hs lD h')
   (fun i row j d e1 e2=>by
    simp only[List.getElem?_map,Option.map_eq_some_iff]at e1
    obtain⟨lD,e1,rfl⟩:=e1
    rw[ni]at e2
    simp only[List.getElem?_map,Option.map_eq_some_iff]at e2
    obtain⟨d',e2,rfl⟩:=e2
    exact h1 i lD j d' e1 e2)
   (fun i row j d u e1 e2 eu=>by
    simp only[List.getElem?_map,Option.map_eq_some_iff]at e1
    obtain⟨lD,e1,rfl⟩:=e1
    rw[ni]at e2
    simp only[List.getElem?_map,Option.map_eq_some_iff]at e2
    obtain⟨d',e2,rfl⟩:=e2
    exact ih i lD j d' u e1 e2 eu)
   (by rw[hlen];exact ht.fg n m)
  rw[hlen]at key
  exact key
 |agg cells vs hl h1 _ ih=>
  simp only[D.fg,ni]
  refine .agg _ vs (by simpa using hl) h1 (fun i d v e1 e2=>?_)
  simp only[List.getElem?_map,Option.map_eq_some_iff]at e1
  obtain⟨d',e1,rfl⟩:=e1
  exact ih i d' v e1 e2
 |tuple ds vs hl _ ih=>
  simp only[D.fg,ni]
  refine .tuple _ vs (by simpa using hl) (fun i d v e1 e2=>?_)
  simp only[List.getElem?_map,Option.map_eq_some_iff]at e1
  obtain⟨d',e1,rfl⟩:=e1
  exact ih i d' v e1 e2
theorem I7 {t k n m:Nat} (h:(s.cut n m).az[t]? = some (some k)):s.az[t]? = some (some k):=by
 simp only[St.cut,List.getElem?_take]at h
 split at h
 ·exact h
 ·cases h
theorem xB {t n m:Nat} (h:(s.cut n m).live t):s.live t:=by
 obtain⟨k,hk⟩:=h
 exact⟨k,I7 hk⟩
theorem Rel.cut {M:Map} {w:World} (n m:Nat) (r:Rel M s w):Rel M (s.cut n m) w:=by
 have hD : ∀ o,o<(s.cut n m).aj.length→o<s.aj.length:=fun o h=>by rw[lV]at h;omega
 refine⟨r.comm,fun o ds e=>?_,fun o ho=>r.km o (hD o ho),fun o o' h h'=>r.inj o o' (hD o h) (hD o' h'),fun t k e=>r.tok t k (I7 e),
  fun t b c z o hl e ho=>r.fM t b c z o (xB hl) e (hD o ho),fun t t' b c z c' z' h h' e e'=>r.gQ t t' b c z c' z' (xB h) (xB h') e e'⟩
 simp only[St.cut,List.getElem?_map,Option.map_eq_some_iff,List.getElem?_take]at e
 obtain⟨pk,e,rfl⟩:=e
 split at e
 ·obtain⟨vs,T,h1,h2,h3,h4⟩:=r.obj o pk e
  refine⟨vs,T,h1,by rw[ni];simpa using h2,h3,fun i d v e1 e2=>?_⟩
  rw[ni]at e1
  simp only[List.getElem?_map,Option.map_eq_some_iff]at e1
  obtain⟨d',e1,rfl⟩:=e1
  exact(h4 i d' v e1 e2).fg n m
 ·cases e
theorem Ext.cut {M0 M:Map} {s0:St} {w0 w:World} {n m:Nat} (e:Ext M0 s0 w0 M s w) (hn:s0.aj.length≤n) (hm:s0.az.length≤m):Ext M0 s0 w0 M (s.cut n m) w:=by
 have hD : ∀ o,o<(s.cut n m).aj.length→o<s.aj.length:=fun o h=>by rw[lV]at h;omega
 refine⟨⟨e.le.G,by rw[lV];have:=e.le.n;omega,e.le.loc,by simp[St.cut];have:=e.le.t;omega,fun t k h1 h2=>e.le.tk t k h1 (I7 h2)⟩,e.kept,fun o h1 h2=>e.sn o h1 (hD o h2),fun t b c z h=>e.rD t b c z (xB h),e.sq,e.size,e.os,e.tape,e.output⟩
end
end Go.Abs
namespace Go.Abs
def ow:Nat→List D→Tm
 |_,[]=> []
 |n,d::r=>(n,d)::ow (n+1) r
def cZ:List (Nat×Option (Bool×Nat))→Tm→St→Option (List D)
 | [],_,_=>some []
 |(t,none)::r,tm,s=>match cZ r tm s with|some l=>some (tm.get t::l)|none=>none
 | (t,some (agg,size))::r,tm,s=>
  match tm.get t with
  | .ptr o off=>
   match s.aj[o]? with
   |some cs=>match part cs off agg size,cZ r tm s with|some d,some l=>some (d::l)|_,_=>none
   |none=>none
  |_=>none
def da:List D→D
 | [d]=>d
 |l=> .tuple l
def ao4 (B:ic) (res:List (Nat×Option (Bool×Nat))) (Q:D→St→Prop):Exit→Tm→St→Prop
 | .normal,tm,s| .ret,tm,s=>∃ l,cZ res tm s=some l∧∃ n m,B.s.aj.length≤n∧B.s.az.length≤m∧Q ((da l).fg n m) (s.cut n m)
 |_,_,_=>False
section
variable {P:Program} {M:Map} {s:St} {w:World}
theorem J3 : ∀ (l:List D) (n t:Nat),(ow n l).get t=if n≤t then(l[t - n]?).getD .junk else .junk
 | [],n,t=>by simp[ow,Tm.get]
 | d::r,n,t=>by
  simp only[ow,Tm.get,J3 r (n+1) t]
  by_cases h:n=t
  ·subst h;simp
  ·rw [if_neg h]
   by_cases h2:n+1≤t
   ·rw[if_pos h2,if_pos (by omega),show t - n=(t - (n+1))+1 by omega];simp
   ·rw[if_neg h2,if_neg (by omega)]
def DG (tmps:Array Value):ResultVar→Go.Sem Value
 | .tmp t=>pure (tmps.getD t Go.undef)
 | .cell a t=>do loadVar t (← asAddr (tmps.getD a Go.undef))
theorem F1 (r:Rel M s w) {tm:Tm} {tmps:Array Value} (ht:nP M s tm tmps) : ∀ {rs:List ResultVar} {res:List (Nat×Option (Bool×Nat))} {l:List D},FR P rs=some res→cZ res tm s=some l→
 ∃ vs:List Value,(rs.mapM (DG tmps)).run P w = .ok vs w∧vs.length=l.length∧
  ∀ (i:Nat) (d:D) (v:Value),l[i]? = some d→vs[i]? = some v→RD M s d v
 | [],res,l,hc,hl=>by cases hc;cases hl;exact⟨[],rfl,rfl,by simp⟩
 | .tmp t::rs,res,l,hc,hl=>by
  obtain⟨ao5,h1,rfl⟩:=map_some (by simpa[FR]using hc)
  simp only[cZ]at hl
  split at hl
  ·rename_i l' mZ
   cases hl
   obtain⟨vs,g1,g2,g3⟩:=F1 r ht h1 mZ
   refine⟨tmps.getD t Go.undef::vs, ?_,by simp[g2],fun i d v e1 e2=>?_⟩
   ·rw [List.mapM_cons]
    simp only[DG,Go.Sem.run_bind,Go.Sem.run_pure,Result.andThen_ok,g1]
   ·cases i with
    |zero=>simp only[List.getElem?_cons_zero,Option.some.injEq]at e1 e2;subst e1;subst e2;exact ht t
    |succ i=>exact g3 i d v (by simpa using e1) (by simpa using e2)
  ·cases hl
 | .cell a t::rs,res,l,hc,hl=>by
  simp only[FR]at hc
  split at hc
  ·rename_i g i ao5 h1 h2 h3
   cases hc
   simp only[cZ]at hl
   split at hl
   ·rename_i o off ho
    split at hl
    ·rename_i cs pw
     split at hl
     ·rename_i d l' hd mZ
      cases hl
      obtain⟨vs,g1,g2,g3⟩:=F1 r ht h3 mZ
      have hv:=ht a
      rw[ho]at hv
      have hk:=hv.Dp
      obtain⟨hv,_⟩:=hv.uE
      have akw : ∃ v,(loadVar t ⟨M.mu o,off,none⟩).run P w = .ok v w∧RD M s d v:=by
       obtain⟨gv,T,hh,dL,⟨iM,_⟩,FY⟩:=r.obj o cs pw
       replace hh:w.heap[M.mu o]? = some (.cells gv T (0,0)):=hh.cells hk
       let n:=if g then i.size else 1
       have kn:off+n≤gv.size:=by
        rcases sM hd with ⟨rfl,hq,_⟩|⟨rfl,hq⟩
        ·simp[n];omega
        ·have:=(List.getElem?_eq_some_iff.1 hq).1;simp[n];omega
       have hlen:((gv.toList.drop off).take n).length=n:=by simp;omega
       have gA : ∀ (j:Nat) (u:Value),((gv.toList.drop off).take n)[j]? = some u→gv[off+j]? = some u:=by
        intro j u h
        rw[List.getElem?_take]at h
        split at h
        ·rw[List.getElem?_drop]at h;simpa using h
        ·cases h
       refine⟨_,Bv (w:=w) P h2 h1 (M.mu o) off ((gv.toList.drop off).take n) hlen (fun j u h=>by rw[jy hh];exact gA j u h), ?_⟩
       exact s9 hd _ hlen (fun _ u hu=>iM u (Array.mem_toList_iff.1 (List.mem_of_mem_drop (List.mem_of_mem_take hu)))) (fun j d u e1 e2=>FY _ d u e1 (gA j u e2))
      obtain⟨v,Mm,hvd⟩:=akw
      refine⟨v::vs, ?_,by simp[g2],fun i d' v' e1 e2=>?_⟩
      ·rw [List.mapM_cons]
       have iM:(DG tmps (.cell a t)).run P w = .ok v w:=by
        simp only[DG,Go.Sem.run_bind,hv,asAddr,Go.Sem.run_pure,Result.andThen_ok,Mm]
       simp only[Go.Sem.run_bind,iM,Result.andThen_ok,g1,Go.Sem.run_pure]
      ·cases i with
       |zero=>simp only[List.getElem?_cons_zero,Option.some.injEq]at e1 e2;subst e1;subst e2;exact hvd
       |succ i=>exact g3 i d' v' (by simpa using e1) (by simpa using e2)
     ·cases hl
    ·cases hl
   ·cases hl
  ·cases hc
theorem K6 (r:Rel M s w) {tm:Tm} {tmps:Array Value} (ht:nP M s tm tmps) {fn:Func} {res:List (Nat×Option (Bool×Nat))} {l:List D} (hc:FR P fn.results.toList=some res) (hl:cZ res tm s=some l) :
 ∃ v,(results fn tmps).run P w = .ok v w∧RD M s (da l) v:=by
 obtain⟨vs,g1,g2,g3⟩:=F1 (P:=P) r ht hc hl
 have ew:(results fn tmps).run P w = .ok (if h:vs.toArray.size=1 then vs.toArray[0]else .tuple vs.toArray) w:=by
  have e:results fn tmps=(do let vs ← fn.results.mapM (DG tmps);pure (if h:vs.size=1 then vs[0]else .tuple vs)):=by
   unfold results
   rfl
  rw[e,Array.mapM_eq_mapM_toList]
  simp only[Go.Sem.run_bind,Go.Sem.run_map,g1,Result.andThen_ok,Go.Sem.run_pure]
 refine⟨_,ew, ?_⟩
 clear ew g1 hl
 match l,vs,g2,g3 with
 | [],[],_,_=>exact .tuple [] #[] rfl (by simp)
 | [d],[v],_,g3=>exact g3 0 d v rfl rfl
 |d::d'::l,v::v'::vs,h,g3=>
  have : ¬ ((v::v'::vs).toArray.size=1):=by simp
  rw[dif_neg this]
  exact .tuple _ _ (by simpa using h.symm) (fun i d v e1 e2=>g3 i d v e1 (by simpa using e2))
def Yr (res:List (Nat×Option (Bool×Nat))) (Q:D→St→Prop):Exit→Tm→St→Prop
 | .normal,tm,s| .ret,tm,s=>∃ l,cZ res tm s=some l∧Q (da l) s
 |_,_,_=>False
theorem bS.Vm {f:FuncId} {fn:Func} {af:AF} {args:List D} {Q:D→St→Prop} (hf:P.funcs[f]? = some fn) (hc:cF P fn=some af) (hl:args.length≤af.ntmps)
 (h : ∀ B:ic,B.s=s→Sem P B af.ntmps af.body (Yr af.results Q) (ow 0 args) s):bS P f args s Q:=by
 intro M w gw r kX dL ha
 unfold cF at hc
 split at hc
 ·rename_i c EG
  split at hc
  ·rename_i b res h1 h2
   cases hc
   simp only at h hl
   refine calls_of_wp hf EG ?_
   have hs:=h ⟨M,s,w,kX,fun b o v e=>r.Dn e⟩ rfl c h1 {tmps:=gw++Array.replicate (fn.ntmps - gw.size) Go.undef,defers:= []} w
    ⟨M,Ext.refl M s w,r,fun t=>by
     rw[J3]
     simp only[Nat.zero_le,if_true,Nat.sub_zero]
     cases hd:args[t]? with
     |none=>exact .junk _
     | some d=>
      have hD:=(List.getElem?_eq_some_iff.1 hd).1
      have hv:gw[t]? = some gw[t]:=Array.getElem?_eq_getElem (by omega)
      have:(gw++Array.replicate (fn.ntmps - gw.size) Go.undef).getD t Go.undef=gw[t]:=by
       rw[Array.getD_eq_getD_getElem?,Array.getElem?_append_left (by omega),hv];rfl
      rw[this]
      exact ha t d _ hd hv,by simp;omega,rfl⟩
   refine wp_mono hs fun e act w' hp=>?_
   obtain⟨tm,s',hq,M',ao6,r',ht,_,hdf⟩:=hp
   have fin:(∃ l,cZ res tm s'=some l∧Q (da l) s')→act.defers = []∧∃ v,(results fn act.tmps).run P w' = .ok v w'∧
    ∃ M' d v' s',Ending.returned v = .returned v'∧Q d s'∧Ext M s w M' s' w'∧Rel M' s' w'∧RD M' s' d v':=by
    rintro⟨l,hl,hQ⟩
    obtain⟨v,ew,jI⟩:=K6 (P:=P) r' ht h2 hl
    exact⟨hdf,v,ew,M',_,v,_,rfl,hQ,ao6,r',jI⟩
   cases e with
   |normal=>exact fin hq
   |ret=>exact fin hq
   |exit id=>exact hq.elim
   |goto l=>exact hq.elim
   |panic ch=>exact hq.elim
   |outgrown=>exact hq.elim
  ·cases hc
 ·cases hc
theorem bS.intro {f:FuncId} {fn:Func} {af:AF} {args:List D} {Q:D→St→Prop} (hf:P.funcs[f]? = some fn) (hc:cF P fn=some af) (hl:args.length≤af.ntmps)
 (h : ∀ B:ic,B.s=s→Sem P B af.ntmps af.body (ao4 B af.results Q) (ow 0 args) s):bS P f args s Q:=by
 intro M w gw r kX dL ha
 refine(bS.Vm (Q:=fun d s'=>∃ n m,s.aj.length≤n∧s.az.length≤m∧Q (d.fg n m) (s'.cut n m)) hf hc hl (fun B hB=>(h B hB).mono fun e tm s' hq=>?_) M w gw r kX dL ha).mono ?_
 ·subst hB
  cases e<;>exact hq
 ·rintro e w' ⟨M',d,v,s',h1,⟨n,m,hn,hm,hQ⟩,h3,h4,h5⟩
  exact⟨M',_,v,_,h1,hQ,h3.cut hn hm,h4.cut n m,h5.fg n m⟩
end
end Go.Abs
