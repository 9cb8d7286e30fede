/-
  What is proved here: part 0 of the road to the claim (Globs, Abs, Lang, Rel, Sound, Sound2, Sound3, Sound4, Sound5, Sound6, Sound7, SoundM, RelA, SoundA, Sound8, Code, Flow, Call).
  No conditions.
-/
import GoSem.Core.Value
import Derived.Orders
import Derived.Calls
import Derived.Below
import Derived.Laws.AppendOwn
import Derived.Deep.AppendSrc
import Derived.Laws.StructEq
import Derived.Laws.Slices
import Derived.Laws.Strings
import Derived.Laws.IdiomStrings
import Derived.Laws.BytesString
import Derived.MapKept
import Derived.Laws.MakeOwn
import Derived.Scope

set_option linter.unusedSimpArgs false
set_option linter.unusedVariables false
namespace Go.Abs
def YO:Nat→Option (Array Value):=fun _=>none
def oT:TypeId:=1000000
inductive Tag where
 |full
 |shared
 |tok (t:Nat) (byte:Bool:=false) -- 'byte': its row's block bears the bytes' type
inductive D where
 |junk
 |int (k:IntKind) (n:Int)
 |bool (b:Bool)
 |str (s:List UInt8)
 |dN
 |ptr (o off:Nat)
 |dt (row:List D) (off:Nat)
 |slice (g:Tag) (size:Nat) (rows:List (List D))
 |agg (cells:List D)
 |tuple (vs:List D)
 |val (v:Value)
 |fb (T:TypeId) (o:Nat)
 |fS (f:Nat) (np:List D) -- a function value with what it captured
 |fI (o:Nat) -- a map, kept as an object: keys and values by turns
 |dW (z o g len:Nat) -- a slice from an array's beginning: the object, its generation
 |fc (o g off:Nat) -- a pointer into an array
 |dU (z:Nat) -- an empty slice without room: what is laid behind it becomes an array
instance:Inhabited D:=⟨.junk⟩
inductive Ob where
 |any
 |ty (T:TypeId)
 |map
 |arr (z:Nat) (A:Nat→Option (Nat×Nat))
def Ob.plain:Ob→Prop
 | .any=>True
 | .ty _=>True
 |_=>False
inductive tT:Nat×Ob→Nat×Ob→Prop where
 |refl (x:Nat×Ob):tT x x
 |arr (b b' z:Nat) (A A':Nat→Option (Nat×Nat)) (h : ∀ g x,A g=some x→A' g=some x):tT (b, .arr z A) (b', .arr z A')
theorem tT.trans {x y z:Nat×Ob} (h:tT x y) (k:tT y z):tT x z:=by
 cases h with
 |refl=>exact k
 |arr b b' z A A' h=>
  cases k with
  |refl=>exact .arr b b' z A A' h
  |arr _ b'' _ _ A'' h'=>exact .arr b b'' z A A'' fun g x e=>h' g x (h g x e)
structure Map where
 G:Nat→Nat→Option Value
 loc:Nat→Nat×Ob
 be:Nat→Option (Nat×Nat×Nat)
def Map.mu (M:Map) (o:Nat):Nat:=(M.loc o).1
def Ob.ty? : Ob→Option TypeId
 | .ty T=>some T
 |_=>none
def Map.ob (M:Map) (o:Nat):Ob:=(M.loc o).2
def Map.ty (M:Map) (o:Nat):Option TypeId:=(M.loc o).2.ty?
structure St where
 ah:List (List D)
 av:List (Option Nat)
def zs (z:Nat):Nat:=if z=0 then 1 else z
def bz (byte:Bool) (size:Nat):Nat:=match byte with|true=>0|false=>size
def iB (M:Map) (s:St) (g:Tag) (size len:Nat) (base:Option (Nat×Nat)) (cap:Nat):Prop:=
 match g with
 | .full=>cap=len
 | .shared=>True
 | .tok t y=>t<s.av.length∧∀ n,s.av[t]? = some (some n)→len≤n∧
  (len=n→(M.be t=none∧cap=0∧(y=true→base=none))∨∃ b,base=some (b,0)∧M.be t=some (b,cap,bz y size))
inductive RD (M:Map) (s:St):D→Value→Prop where
 |junk (v:Value):RD M s .junk v
 |int (k:IntKind) (n:Int):RD M s (.int k n) (.int k n)
 |bool (b:Bool):RD M s (.bool b) (.bool b)
 |str (l:List UInt8):RD M s (.str l) (.string ⟨⟨l⟩⟩)
 |dN:RD M s .dN (.pointer none)
 |ptr (o off:Nat) (h:o<s.ah.length) (hm:(M.ob o).plain):RD M s (.ptr o off) (.pointer (some ⟨M.mu o,off,none⟩))
 |dt (row:List D) (off b k:Nat) (h1 : ∀ (i:Nat) (d:D),row[i]? = some d→∃ u,M.G b (k+i)=some u)
  (h2 : ∀ (i:Nat) (d:D) (u:Value),row[i]? = some d→M.G b (k+i)=some u→RD M s d u) :
  RD M s (.dt row off) (.pointer (some ⟨b,k+off,none⟩))
 |iz (g:Tag) (size cap:Nat) (hc:cap=0) (ht:iB M s g size 0 none cap):RD M s (.slice g size []) (.slice none 0 cap)
 |k6 (size:Nat) (a:Addr) (cap:Nat):RD M s (.slice .shared size []) (.slice (some a) 0 cap)
 |slice (g:Tag) (size:Nat) (rows:List (List D)) (b k cap:Nat) (hl:rows.length≤cap)
  (hs : ∀ row∈rows,row.length=size)
  (h1 : ∀ (i:Nat) (row:List D) (j:Nat) (d:D),rows[i]? = some row→row[j]? = some d→∃ u,M.G b (k+(i*size+j))=some u)
  (h2 : ∀ (i:Nat) (row:List D) (j:Nat) (d:D) (u:Value),rows[i]? = some row→row[j]? = some d→M.G b (k+(i*size+j))=some u→RD M s d u)
  (ht:iB M s g size rows.length (some (b,k)) cap) :
  RD M s (.slice g size rows) (.slice (some ⟨b,k,none⟩) rows.length cap)
 |agg (cells:List D) (vs:Array Value) (hl:cells.length=vs.size) (h1 : ∀ v∈vs,v.oneCell'=true)
  (h : ∀ (i:Nat) (d:D) (v:Value),cells[i]? = some d→vs[i]? = some v→RD M s d v):RD M s (.agg cells) (.agg vs)
 |tuple (ds:List D) (vs:Array Value) (hl:ds.length=vs.size)
  (h : ∀ (i:Nat) (d:D) (v:Value),ds[i]? = some d→vs[i]? = some v→RD M s d v):RD M s (.tuple ds) (.tuple vs)
 |val (v:Value) (h:v.oneCell'=true):RD M s (.val v) v
 |fb (T:TypeId) (o:Nat) (v:Value) (h:o<s.ah.length) (ht:M.ty o=some T) (hv:v = .pointer none∨v = .pointer (some ⟨M.mu o,0,none⟩)):RD M s (.fb T o) v
 |fS (f:Nat) (ds:List D) (vs:Array Value) (hl:ds.length=vs.size)
  (h : ∀ (i:Nat) (d:D) (v:Value),ds[i]? = some d→vs[i]? = some v→RD M s d v):RD M s (.fS f ds) (.func (.func f) #[] vs)
 |fI (o:Nat) (h:o<s.ah.length) (hm:M.ob o = .map):RD M s (.fI o) (.map (some (M.mu o)))
 |dW (z o g len b cap:Nat) (A:Nat→Option (Nat×Nat)) (h:o<s.ah.length) (hm:M.ob o = .arr z A) (ha:A g=some (b,cap)) (hl:len≤cap):RD M s (.dW z o g len) (.slice (some ⟨b,0,none⟩) len cap)
 |fc (z o g off b cap:Nat) (A:Nat→Option (Nat×Nat)) (h:o<s.ah.length) (hm:M.ob o = .arr z A) (ha:A g=some (b,cap)):RD M s (.fc o g off) (.pointer (some ⟨b,off,none⟩))
 |dU (z:Nat) (a:Option Addr):RD M s (.dU z) (.slice a 0 0)
structure Le (M:Map) (s:St) (M':Map) (s':St):Prop where
 G : ∀ b o v,M.G b o=some v→M'.G b o=some v
 n:s.ah.length≤s'.ah.length
 loc : ∀ o,o<s.ah.length→tT (M.loc o) (M'.loc o)
 t:s.av.length≤s'.av.length
 tk : ∀ t n',t<s.av.length→s'.av[t]? = some (some n')→∃ n,s.av[t]? = some (some n)∧n≤n'∧(n'=n→M'.be t=M.be t)
theorem Le.same {M:Map} {s:St} {M':Map} {s':St} (h:Le M s M' s') {o:Nat} (ho:o<s.ah.length) (hk : ∀ z A,M.ob o≠ .arr z A):M'.loc o=M.loc o:=by
 have:=h.loc o ho
 have tB : ∀ z A,(M.loc o).2≠ .arr z A:=hk
 generalize M.loc o=x at *
 generalize M'.loc o=y at *
 cases this with
 |refl=>rfl
 |arr b b' z A A' h=>exact(tB z A rfl).elim
theorem Ob.Fe {x:Ob} (h:x.plain) : ∀ z A,x≠ .arr z A:=fun z A e=>by subst e;exact h
theorem Le.mu {M:Map} {s:St} {M':Map} {s':St} (h:Le M s M' s') {o:Nat} (ho:o<s.ah.length) (hk : ∀ z A,M.ob o≠ .arr z A):M'.mu o=M.mu o:=congrArg Prod.fst (h.same ho hk)
theorem Le.ob {M:Map} {s:St} {M':Map} {s':St} (h:Le M s M' s') {o:Nat} (ho:o<s.ah.length) (hk : ∀ z A,M.ob o≠ .arr z A):M'.ob o=M.ob o:=congrArg Prod.snd (h.same ho hk)
theorem tT.ty {x y:Nat×Ob} (h:tT x y):y.2.ty? = x.2.ty? :=by cases h<;>rfl
theorem Le.ty {M:Map} {s:St} {M':Map} {s':St} (h:Le M s M' s') : ∀ o,o<s.ah.length→M'.ty o=M.ty o:=fun o ho=>(h.loc o ho).ty
theorem Le.arr {M:Map} {s:St} {M':Map} {s':St} (h:Le M s M' s') {o z:Nat} {A:Nat→Option (Nat×Nat)} (ho:o<s.ah.length) (hm:M.ob o = .arr z A) : ∃ A',M'.ob o = .arr z A'∧∀ g x,A g=some x→A' g=some x:=by
 have:=h.loc o ho
 have yW:(M.loc o).2 = .arr z A:=hm
 show ∃ A',(M'.loc o).2=_∧_
 generalize M.loc o=x at *
 generalize M'.loc o=y at *
 cases this with
 |refl=>exact⟨A,yW,fun _ _ h=>h⟩
 |arr b b' z A A' h=>cases yW;exact⟨A',rfl,h⟩
theorem Le.refl (M:Map) (s:St):Le M s M s:=⟨fun _ _ _ h=>h,Nat.le_refl _,fun _ _=> .refl _,Nat.le_refl _,fun _ n _ h=>⟨n,h,Nat.le_refl _,fun _=>rfl⟩⟩
theorem Le.trans {M M' Ke:Map} {s s' Od:St} (h:Le M s M' s') (k:Le M' s' Ke Od):Le M s Ke Od:=
 ⟨fun b o v e=>k.G b o v (h.G b o v e),Nat.le_trans h.n k.n,fun o ho=>(h.loc o ho).trans (k.loc o (Nat.lt_of_lt_of_le ho h.n)),Nat.le_trans h.t k.t,
  fun t n'' ht e=>by
   obtain⟨n',e',l,b⟩:=k.tk t n'' (Nat.lt_of_lt_of_le ht h.t) e
   obtain⟨n,Kf,l',b'⟩:=h.tk t n' ht e'
   refine⟨n,Kf,Nat.le_trans l' l,fun eq=>?_⟩
   have h1:n'=n:=by omega
   have h2:n''=n':=by omega
   rw[b h2,b' h1]⟩
theorem iB.mono {M M':Map} {s s':St} (h:Le M s M' s') {g:Tag} {size len cap:Nat} {base:Option (Nat×Nat)} (ht:iB M s g size len base cap) :
 iB M' s' g size len base cap:=by
 cases g with
 |full=>exact ht
 |shared=>trivial
 |tok t y=>
  obtain⟨hD,ht⟩:=ht
  refine⟨Nat.lt_of_lt_of_le hD h.t,fun n' e'=>?_⟩
  obtain⟨n,e,l,b⟩:=h.tk t n' hD e'
  obtain⟨l',b'⟩:=ht n e
  refine⟨Nat.le_trans l' l,fun eq=>?_⟩
  have h1:n'=n:=by omega
  have h2:len=n:=by omega
  rw[b h1]
  exact b' h2
theorem RD.mono {M M':Map} {s s':St} (h:Le M s M' s') {d:D} {v:Value} (r:RD M s d v):RD M' s' d v:=by
 induction r with
 |junk v=>exact .junk v
 |int k n=>exact .int k n
 |bool b=>exact .bool b
 |str l=>exact .str l
 |dN=>exact .dN
 |ptr o off ho hm=>rw[← h.mu ho (Ob.Fe hm)];exact .ptr o off (Nat.lt_of_lt_of_le ho h.n) (by rw[h.ob ho (Ob.Fe hm)];exact hm)
 | dt row off b k h1 h2 ih=>
  refine .dt row off b k (fun i d e=>?_) (fun i d u e eu=>?_)
  ·obtain⟨u,hu⟩:=h1 i d e;exact⟨u,h.G _ _ _ hu⟩
  ·obtain⟨u',hu⟩:=h1 i d e
   have:=h.G _ _ _ hu
   rw[eu]at this
   cases this
   exact ih i d u e hu
 |iz g size cap hc ht=>exact .iz g size cap hc (ht.mono h)
 |k6 size a cap=>exact .k6 size a cap
 | slice g size rows b k cap hl hs h1 h2 ht ih=>
  refine .slice g size rows b k cap hl hs (fun i row j d e e2=>?_) (fun i row j d u e e2 eu=>?_) (ht.mono h)
  ·obtain⟨u,hu⟩:=h1 i row j d e e2;exact⟨u,h.G _ _ _ hu⟩
  ·obtain⟨u',hu⟩:=h1 i row j d e e2
   have:=h.G _ _ _ hu
   rw[eu]at this
   cases this
   exact ih i row j d u e e2 hu
 |agg cells vs hl h1 _ ih=>exact .agg cells vs hl h1 ih
 |tuple ds vs hl _ ih=>exact .tuple ds vs hl ih
 |val v hv=>exact .val v hv
 |fb T o v ho ht hv=>exact .fb T o v (Nat.lt_of_lt_of_le ho h.n) (by rw[h.ty o ho];exact ht) (by rw[h.mu ho (fun z A e=>by rw[Map.ty,show(M.loc o).2=_ from e]at ht;cases ht)];exact hv)
 |fS f ds vs hl _ ih=>exact .fS f ds vs hl ih
 |fI o ho hm=>
  have hk : ∀ z A,M.ob o≠ .arr z A:=fun z A e=>by rw[hm]at e;cases e
  rw[← h.mu ho hk];exact .fI o (Nat.lt_of_lt_of_le ho h.n) (by rw[h.ob ho hk];exact hm)
 |dW z o g len b cap A ho hm ha hl=>
  obtain⟨A',h1,h2⟩:=h.arr ho hm
  exact .dW z o g len b cap A' (Nat.lt_of_lt_of_le ho h.n) h1 (h2 g _ ha) hl
 |fc z o g off b cap A ho hm ha=>
  obtain⟨A',h1,h2⟩:=h.arr ho hm
  exact .fc z o g off b cap A' (Nat.lt_of_lt_of_le ho h.n) h1 (h2 g _ ha)
 |dU z a=>exact .dU z a
def St.live (s:St) (t:Nat):Prop:=∃ n,s.av[t]? = some (some n)
def gu:List MapEntry→List Value
 | []=> []
 |e::l=>e.key::e.val::gu l
def ig (hp:Array Obj) (l:Nat×Ob) (vs:Array Value) (T:TypeId):Prop:=
 match l.2 with
 | .map=>∃ es ck,hp[l.1]? = some (.map es ck)∧vs.toList=gu es.toList
 | .arr z A=>∃ (us:Array Value) (g n cap:Nat),hp[l.1]? = some (.cells us T (0,0))∧A g=some (l.1,cap)∧(∀ g',g<g'→A g'=none)∧us.size=cap*z∧n≤us.size∧
  vs.toList = .int .i64 g::us.toList.take n∧∀ u∈us,u.oneCell'=true
 |_=>hp[l.1]? = some (.cells vs T (0,0))
theorem ig.cells {hp:Array Obj} {l:Nat×Ob} {vs:Array Value} {T:TypeId} (h:ig hp l vs T) (hk:l.2.plain):hp[l.1]? = some (.cells vs T (0,0)):=by
 obtain⟨b,k⟩:=l
 cases k with
 |map=>exact hk.elim
 |arr _ _=>exact hk.elim
 |any=>exact h
 |ty _=>exact h
theorem ig.of {hp:Array Obj} {l:Nat×Ob} {vs:Array Value} {T:TypeId} (h:hp[l.1]? = some (.cells vs T (0,0))) (hk:l.2.plain):ig hp l vs T:=by
 obtain⟨b,k⟩:=l
 cases k with
 |map=>exact hk.elim
 |arr _ _=>exact hk.elim
 |any=>exact h
 |ty _=>exact h
theorem ig.K7 {hp:Array Obj} {l:Nat×Ob} {vs:Array Value} {T:TypeId} (h:ig hp l vs T) (hk:l.2 = .map) : ∃ es ck,hp[l.1]? = some (.map es ck)∧vs.toList=gu es.toList:=by
 unfold ig at h
 rw[hk]at h
 exact h
theorem ig.ofMap {hp:Array Obj} {l:Nat×Ob} {vs:Array Value} {T:TypeId} (hk:l.2 = .map) (h : ∃ es ck,hp[l.1]? = some (.map es ck)∧vs.toList=gu es.toList):ig hp l vs T:=by
 unfold ig
 rw[hk]
 exact h
theorem ig.some {hp:Array Obj} {l:Nat×Ob} {vs:Array Value} {T:TypeId} (h:ig hp l vs T) : ∃ o,hp[l.1]? = some o:=by
 obtain⟨b,k⟩:=l
 cases k with
 |map=>obtain⟨es,ck,h,_⟩:=h;exact⟨_,h⟩
 |arr _ _=>obtain⟨us,g,n,cap,h,_⟩:=h;exact⟨_,h⟩
 |any=>exact⟨_,h⟩
 |ty _=>exact⟨_,h⟩
theorem ig.lt {hp:Array Obj} {l:Nat×Ob} {vs:Array Value} {T:TypeId} (h:ig hp l vs T):l.1<hp.size:=by
 obtain⟨o,h⟩:=h.some
 exact(Array.getElem?_eq_some_iff.1 h).1
theorem ig.keep {hp mw:Array Obj} {l:Nat×Ob} {vs:Array Value} {T:TypeId} (h:ig hp l vs T) (e:mw[l.1]? = hp[l.1]?):ig mw l vs T:=by
 unfold ig at h ⊢
 rw[e];exact h
structure Rel (M:Map) (s:St) (w:World):Prop where
 comm : ∀ b o v,M.G b o=some v→w.cell? ⟨b,o,none⟩=some v∧v.oneCell'=true
 obj : ∀ (o:Nat) (ds:List D),s.ah[o]? = some ds→∃ (vs:Array Value) (T:TypeId),ig w.heap (M.loc o) vs T∧vs.size=ds.length∧
  ((∀ v∈vs,v.oneCell'=true)∧∀ T',M.ty o=some T'→T'=T)∧∀ (i:Nat) (d:D) (v:Value),ds[i]? = some d→vs[i]? = some v→RD M s d v
 jv : ∀ o,o<s.ah.length→∀ off,M.G (M.mu o) off=none
 inj : ∀ o o',o<s.ah.length→o'<s.ah.length→M.mu o=M.mu o'→o=o'
 tok : ∀ t n,s.av[t]? = some (some n)→(M.be t=none∧n=0)∨∃ (b cap z:Nat) (vs:Array Value) (T:TypeId),M.be t=some (b,cap,z)∧
  w.heap[b]? = some (.cells vs T (0,0))∧vs.size=cap*zs z∧n≤cap∧(∀ off,n*zs z≤off→M.G b off=none)∧(z=0→T=oT)
 eZ : ∀ t b c z o,s.live t→M.be t=some (b,c,z)→o<s.ah.length→M.mu o≠b
 fJ : ∀ t t' b c z c' z',s.live t→s.live t'→M.be t=some (b,c,z)→M.be t'=some (b,c',z')→t=t'
structure Ext (M:Map) (s:St) (w:World) (M':Map) (s':St) (w':World):Prop where
 le:Le M s M' s'
 kept : ∀ b,b<w.heap.size→(∀ o,o<s.ah.length→M.mu o≠b)→(∀ t c z,s.live t→M.be t≠some (b,c,z))→w'.heap[b]? = w.heap[b]?
 sX : ∀ o,(s.ah.length≤o∨M'.mu o≠M.mu o)→o<s'.ah.length→w.heap.size≤M'.mu o
 pU : ∀ t b c z,s'.live t→M'.be t=some (b,c,z)→(s.live t∧∃ c' z',M.be t=some (b,c',z'))∨w.heap.size≤b
 rp : ∀ b o,M'.G b o≠M.G b o→w.heap.size≤b∨∃ t c z,s.live t∧M.be t=some (b,c,z)
 size:w.heap.size≤w'.heap.size
 os:w'.os=w.os
 tape:w'.tape=w.tape
 output:w'.output=w.output
theorem Ext.refl (M:Map) (s:St) (w:World):Ext M s w M s w:=
 ⟨Le.refl M s,fun _ _ _ _=>rfl,fun o h h'=>by rcases h with h|h;omega;exact(h rfl).elim,fun t b c z h e=> .inl ⟨h,c,z,e⟩,fun _ _ h=>(h rfl).elim,Nat.le_refl _,rfl,rfl,rfl⟩
theorem Ext.mo {M M':Map} {s s':St} {w w':World} (h:Ext M s w M' s' w') {o:Nat} (ho:o<s'.ah.length):(o<s.ah.length∧M'.mu o=M.mu o)∨w.heap.size≤M'.mu o:=by
 by_cases h1:s.ah.length≤o
 ·exact .inr (h.sX o (.inl h1) ho)
 ·by_cases h2:M'.mu o=M.mu o
  ·exact .inl ⟨by omega,h2⟩
  ·exact .inr (h.sX o (.inr h2) ho)
theorem Ext.trans {M M' Ke:Map} {s s' Od:St} {w w' w'':World} (h:Ext M s w M' s' w') (k:Ext M' s' w' Ke Od w''):Ext M s w Ke Od w'':=by
 refine⟨h.le.trans k.le,fun b hb ho ht=>?_,fun o h1 h2=>?_,fun t b c z h1 e=>?_,fun b o eK=>?_,Nat.le_trans h.size k.size,
  k.os.trans h.os,k.tape.trans h.tape,k.output.trans h.output⟩
 ·rw [k.kept b (Nat.lt_of_lt_of_le hb h.size) (fun o hD e=> ?_) (fun t c z hD e=> ?_),h.kept b hb ho ht]
  ·rcases h.mo hD with ⟨h1,h2⟩ | h1
   ·exact ho o h1 (h2.symm.trans e)
   ·omega
  ·rcases h.pU t b c z hD e with ⟨h1,c',z',e'⟩ | h1
   ·exact ht t c' z' h1 e'
   ·omega
 ·rcases k.mo h2 with ⟨h3,h4⟩ | h3
  ·rw [h4]
   refine h.sX o ?_ h3
   rcases h1 with h1|h1
   ·exact .inl h1
   ·exact .inr (by rw[h4]at h1;exact h1)
  ·exact Nat.le_trans h.size h3
 ·rcases k.pU t b c z h1 e with ⟨h2,c',z',e'⟩ | h2
  ·exact h.pU t b c' z' h2 e'
  ·exact .inr (Nat.le_trans h.size h2)
 ·by_cases e:M'.G b o=M.G b o
  ·have:Ke.G b o≠M'.G b o:=fun e'=>eK (e'.trans e)
   rcases k.rp b o this with h1|⟨t,c,z,h1,h2⟩
   ·exact .inl (Nat.le_trans h.size h1)
   ·rcases h.pU t b c z h1 h2 with ⟨h3,c',z',e'⟩ | h3
    ·exact .inr ⟨t,c',z',h3,e'⟩
    ·exact .inl h3
  ·exact h.rp b o e
def Laid (M:Map) (s:St) (w:World):Prop:=∀ g cs,YO g=some cs→
 (∃ T fr,w.heap[g]? = some (.cells cs T fr))∧(∀ o,o<s.ah.length→M.mu o≠g)∧∀ t c z,s.live t→M.be t≠some (g,c,z)
theorem Laid.ext {M M':Map} {s s':St} {w w':World} (h:Laid M s w) (e:Ext M s w M' s' w'):Laid M' s' w':=by
 intro g cs hg
 obtain⟨⟨T,fr,h1⟩,h2,h3⟩:=h g cs hg
 have hD:g<w.heap.size:=(Array.getElem?_eq_some_iff.1 h1).1
 refine⟨⟨T,fr,by rw[e.kept g hD h2 h3];exact h1⟩,fun o ho=>?_,fun t c z hl hb=>?_⟩
 ·rcases e.mo ho with ⟨h4,h5⟩ | h4
  ·rw[h5];exact h2 o h4
  ·omega
 ·rcases e.pU t g c z hl hb with ⟨h4,c',z',h5⟩ | h4
  ·exact h3 t c' z' h4 h5
  ·omega
abbrev Tm:=List (Nat×D)
def Tm.get:Tm→Nat→D
 | [],_=> .junk
 |(k,d)::r,t=>if k=t then d else Tm.get r t
def Tm.set:Tm→Nat→D→Tm
 | [],t,d=> [(t,d)]
 |(k,e)::r,t,d=>if k=t then(k,d)::r else(k,e)::Tm.set r t d
def Tm.put (tm:Tm) (dst:Option Nat) (d:D):Tm:=
 match dst with
 |some t=>tm.set t d
 |none=>tm
inductive X where
 |s (t:Nat)
 |k (d:D)
def X.ev (tm:Tm):X→D
 | .s t=>tm.get t
 | .k d=>d
inductive FO where
 |ofInt (k:FloatKind)
 |toInt (k:IntKind)
 |G3
 |real
 |imag
 |eq
 |G4
 |Oe
inductive AO where
 |mv (x:X)
 |pick (c a b:X)
 |alloc (zero:List D)
 |box (x:X)
 |build (zero:List D) (parts:List (Nat×Nat×X))
 |du (zero:List D) (size n:Nat) (parts:List (Nat×X))
 |uu (zero:List D) (size n:Nat) (parts:List (Nat×X))
 |zI (x:X)
 |load (x:X) (agg:Bool) (size:Nat)
 |store (p x:X) (size:Nat)
 |bO (x:X)
 |bin (op:BinOp) (x y:X)
 |Ff (neg:Bool) (x y:X)
 |eqs (neg:Bool) (ks:List Nat) (x y:X) -- the fields' kinds: 0 an integer, 1 a bool, 2 a text
 |Fg (neg:Bool) (x y:X)
 |un (op:UnOp) (x:X)
 |conv (k:IntKind) (x:X)
 |C8 (x:X)
 |wV (x:X)
 |C9 (size:Nat) (x:X) (lo hi:Option X)
 |G5 (x:X) (lo hi:Option X)
 |aq (x:X) (off:Nat)
 |BT (x:X) (off:Nat) (agg:Bool) (size:Nat)
 |cq (x i:X) (size:Nat)
 |zJ (x i:X)
 |ext (x:X) (i:Nat)
 |len (x:X)
 |uv (x:X)
 |app (size bytes:Nat) (x y:X)
 |mm (isMax:Bool) (x y:X)
 |sn (zero:List D) (T:TypeId) -- a new object whose first cell is to hold its own address
 |zK (x:X) (T:TypeId)
 |zL (x y:X) -- bytes behind others
 |apps (x y:X) -- a text's bytes behind others
 |tU (f:Nat) (xs:List X) -- a function value
 |tV
 |xP (m k v:X) -- a text's slice in a map
 |vr (m k:X) (zero:D)
 |zM (size bytes:Nat) (zero:List D) (l c:X) -- a new array of zeros
 |ql (o:FO) (x y:X)
inductive AI where
 |jb (dst:Option Nat) (g:Option (Nat×Bool)) (t:Nat) (xs:List X) -- what a slot holds is called
 |nil (dst:Option Nat) (g:Option (Nat×Bool)) (neg:Bool) (x:X) -- is a slice nil? (of an empty one nothing is known)
 |op (dst:Option Nat) (g:Option (Nat×Bool)) (o:AO)
 |call (dst:Option Nat) (g:Option (Nat×Bool)) (f:Nat) (xs:List X)
inductive AC where
 |skip
 |run (is:List AI)
 |par (is:List AI) (lq:List (Nat×Nat))
 |seq (a b:AC)
 |cond (x:X) (a b:AC)
 |block (id:Nat) (a:AC)
 |loop (a:AC)
 |exit (id:Nat)
 |scope (a:AC)
 |label (l:Nat)
 |goto (l:Nat)
 |ret
structure AF where
 ntmps:Nat
 results:List (Nat×Option (Bool×Nat)) -- a slot; or a slot that holds the address, whether an aggregate, how many cells
 body:AC
inductive AK where
 |pure
 |load
 |alloc
 |core
 deriving DecidableEq
def AO.kind:AO→AK
 | .alloc _=> .core
 | .box _=> .core
 | .uu .. => .core
 | .zI _=> .core
 | .store .. => .core
 | .app .. => .core
 | .sn .. => .core
 | .zK .. => .core
 | .zL .. => .core
 | .apps .. => .core
 | .tV=> .core
 | .xP .. => .core
 | .zM .. => .core
 | .vr .. => .load
 | .load .. => .load
 |_=> .pure
def AI.kind:AI→AK
 | .op (some _) none (.alloc _)=> .alloc
 | .op _ _ o=>o.kind
 |_=> .core
def AI.dst:AI→Option Nat
 | .op d _ _=>d
 | .call d _ _ _=>d
 | .nil d _ _ _=>d
 | .jb d _ _ _=>d
def X.reads:X→List Nat
 | .s t=> [t]
 | .k _=> []
def nG:List X→List Nat
 | []=> []
 |x::r=>x.reads++nG r
def zN:Option X→List Nat
 |none=> []
 |some x=>x.reads
def AO.reads:AO→List Nat
 | .mv x=>x.reads
 | .pick c a b=>c.reads++(a.reads++b.reads)
 | .alloc _=> []
 | .box x=>x.reads
 | .build _ ps=>nG (ps.map (·.2.2))
 | .du _ _ _ ps=>nG (ps.map (·.2))
 | .uu _ _ _ ps=>nG (ps.map (·.2))
 | .zI x=>x.reads
 | .load x _ _=>x.reads
 | .store p x _=>p.reads++x.reads
 | .bO x=>x.reads
 | .bin _ x y=>x.reads++y.reads
 | .Ff _ x y=>x.reads++y.reads
 | .eqs _ _ x y=>x.reads++y.reads
 | .Fg _ x y=>x.reads++y.reads
 | .un _ x=>x.reads
 | .conv _ x=>x.reads
 | .C8 x=>x.reads
 | .wV x=>x.reads
 | .C9 _ x lo hi=>x.reads++(zN lo++zN hi)
 | .G5 x lo hi=>x.reads++(zN lo++zN hi)
 | .aq x _=>x.reads
 | .BT x _ _ _=>x.reads
 | .cq x i _=>x.reads++i.reads
 | .zJ x i=>x.reads++i.reads
 | .ext x _=>x.reads
 | .len x=>x.reads
 | .uv x=>x.reads
 | .app _ _ x y=>x.reads++y.reads
 | .mm _ x y=>x.reads++y.reads
 | .sn _ _=> []
 | .zK x _=>x.reads
 | .zL x y=>x.reads++y.reads
 | .apps x y=>x.reads++y.reads
 | .tU _ xs=>nG xs
 | .tV=> []
 | .xP m k v=>m.reads++(k.reads++v.reads)
 | .vr m k _=>m.reads++k.reads
 | .zM _ _ _ l c=>l.reads++c.reads
 | .ql _ x y=>x.reads++y.reads
def uw:Option (Nat×Bool)→List Nat
 |none=> []
 |some (t,_)=> [t]
def AI.reads:AI→List Nat
 | .op _ g o=>uw g++o.reads
 | .call _ g _ xs=>uw g++nG xs
 | .nil _ g _ x=>uw g++x.reads
 | .jb _ g t xs=>uw g++(t::nG xs)
def Db (d:Option Nat) (l:List Nat):Bool:=
 match d with
 |none=>true
 |some t=> !l.contains t
def AI.apart (a q:AI):Bool:=
 Db a.dst q.reads && Db q.dst a.reads && (match a.dst,q.dst with|some x,some y=>x != y|_,_=>true)
def gG (l:List (List Nat)) (i:Nat):List Nat:=l.getD i []
def jc (is:List AI) (i:Nat):AK:=
 match is[i]? with
 |some a=>a.kind
 |none=> .core
def kR (is:List AI) (i j:Nat):Bool:=
 match is[i]?,is[j]? with
 |some a,some b=>a.apart b
 |_,_=>false
def gv:AK→Bool
 | .core=>true
 | .alloc=>true
 |_=>false
def jn (is:List AI) (l:List Nat):Nat:=(l.filter fun i=>gv (jc is i)).length
def kK (is:List AI) (pq:List Nat):List Nat→Bool
 | []=>true
 |a::r=>(!(jc is a == .alloc && pq.contains a) ||r.all pq.contains) && kK is pq r
def oo (is:List AI) (pt:List (List Nat)) (pre:List Nat) (q b:Nat):Bool:=
 match jc is q with
 | .core=>pre.all (gG pt q).contains
 | .alloc=>pre.all fun a=>kR is a q
 | .pure=>(pre.all fun a=>(gG pt q).contains a ||kR is a q) && kK is (gG pt q) pre
 | .load=>(pre.all fun a=>(gG pt q).contains a ||kR is a q) && kK is (gG pt q) pre &&
  decide (jn is (pre.filter fun a=> !(gG pt q).contains a)≤b)
def tC (is:List AI) (af pt:List (List Nat)):List Nat→List (Nat×Nat)→Bool
 |_,[]=>true
 |pre,(q,b)::r=>oo is pt pre q b && !pre.contains q && ((gG af q).all fun j=>j != q && !(r.map (·.1)).contains j) && tC is af pt (q::pre) r
def wW (af pt:List (List Nat)):Nat→Bool
 | 0=>true
 |i+1=>((gG pt i).all fun j=>(gG af i).contains j ||(gG af i).any fun k=>(gG pt k).contains j) && wW af pt i
def G6 (is:List AI) (af pt:List (List Nat)) (lq:List (Nat×Nat)):Bool:=
 wW af pt is.length && tC is af pt [] lq && (List.range is.length).all (lq.map (·.1)).contains && lq.all (fun p=>decide (p.1<is.length)) &&
  (List.range is.length).all fun i=>(gG af i).all fun j=>decide (j<is.length)
def my (o:Oper):List Nat:=(o.after.toList.filter (Region.binds .any)).map (·.on)
def G7:List (List Nat)→List (List Nat)→List (List Nat)
 |done,[]=>done
 |done,es::r=>G7 (done++ [(es.flatMap fun k=>gG done k).foldl (fun l j=>if l.contains j then l else l++ [j]) es]) r
def Un (is:List AI) (pt:List (List Nat)):List Nat→List Nat→List Nat→List Nat
 | [],rest,out=>out++((rest.filter fun j=>jc is j == .alloc)++rest.filter fun j=> !(jc is j == .alloc))
 |c::cs,rest,out=>
  let Rk:=rest.filter fun j=>(gG pt c).contains j
  Un is pt cs (rest.filter fun j=> !(Rk.contains j) && j != c) (out++((Rk.filter fun j=>jc is j == .alloc)++(Rk.filter fun j=> !(jc is j == .alloc))++ [c]))
def Uo (is:List AI) (pt:List (List Nat)):List Nat→List Nat→List (Nat×Nat)
 |_,[]=> []
 |pre,q::r=>(q,if jc is q == .load then jn is (pre.filter fun a=> !(gG pt q).contains a)else 0)::Uo is pt (q::pre) r
def Og (is:List AI) (af:List (List Nat)):List (Nat×Nat):=
 let pt:=G7 [] af
 let all:=List.range is.length
 Uo is pt [] (Un is pt (all.filter fun i=>jc is i == .core) all [])
def D.row:D→Option (List D)
 | .agg cs=>some cs
 | .junk=>none
 | .tuple _=>none
 |d=>some [d]
def part (cs:List D) (off:Nat) (agg:Bool) (size:Nat):Option D:=
 match agg with
 |true=>if off+size≤cs.length then some (.agg ((cs.drop off).take size))else none
 |false=>cs[off]?
def gY (cs:List D) (off:Nat) (r:List D):List D:=cs.take off++r++cs.drop (off+r.length)
def qm (cells:List D):List (Nat×Nat×D)→Option (List D)
 | []=>some cells
 |(off,size,d)::rest=>
  match d.row with
  |none=>none
  |some r=>if r.length=size∧off+size≤cells.length then qm (gY cells off r) rest else none
def fK (zero:List D):Nat→List (List D)
 | 0=> []
 |n+1=>zero::fK zero n
def jJ (size:Nat) (rows:List (List D)):List (Nat×D)→Option (List (List D))
 | []=>some rows
 |(i,d)::rest=>
  match d.row with
  |none=>none
  |some r=>if r.length=size∧i<rows.length then jJ size (rows.set i r) rest else none
def bytesLess:List UInt8→List UInt8→Bool:=Op.bytesLess
def bH:Nat:=1099511627776
def fU (op:BinOp) (k:IntKind) (a b:Int):Option D:=
 match op with
 | .add=>some (.int k (k.wrap (a+b)))
 | .sub=>some (.int k (k.wrap (a - b)))
 | .mul=>some (.int k (k.wrap (a*b)))
 | .quo=>if b=0 then none else some (.int k (k.wrap (a.tdiv b)))
 | .rem=>if b=0 then none else some (.int k (a.tmod b))
 | .eql=>some (.bool (a==b))
 | .neq=>some (.bool (a != b))
 | .lss=>some (.bool (decide (a<b)))
 | .leq=>some (.bool (decide (a≤b)))
 | .gtr=>some (.bool (decide (a > b)))
 | .geq=>some (.bool (decide (a≥b)))
 |_=>none
def nH (op:BinOp) (a b:List UInt8):Option D:=
 match op with
 | .add=>if a.length+b.length≤bH then some (.str (a++b))else none
 | .eql=>some (.bool (a==b))
 | .neq=>some (.bool (!(a==b)))
 | .lss=>some (.bool (bytesLess a b))
 |_=>none
def wc (op:BinOp) (x y:D):Option D:=
 match x,y with
 | .int k a, .int k' b=>if k=k' then fU op k a b else none
 | .str a, .str b=>nH op a b
 |_,_=>none
def mz:Nat→D→D→Option Bool
 | 0, .int k a, .int k' b=>if k=k' then some (a==b)else none
 | 1, .bool a, .bool b=>some (a==b)
 | 2, .str a, .str b=>some (a==b)
 |_,_,_=>none
def kS:List Nat→List D→List D→Option Bool
 | [],[],[]=>some true
 |k::ks,x::xs,y::ys=>
  match mz k x y with
  |none=>none
  |some true=>kS ks xs ys
  |some false=>some false
 |_,_,_=>none
def G8 (op:UnOp) (x:D):Option D:=
 match op,x with
 | .neg, .int k n=>some (.int k (k.wrap (0 - n)))
 | .not, .bool b=>some (.bool (!b))
 |_,_=>none
def Fh:List D→Option UInt8
 | [.int .u8 n]=>some (UInt8.ofNat n.toNat)
 |_=>none
def nQ:List (List D)→Option (List UInt8)
 | []=>some []
 |r::rs=>
  match Fh r,nQ rs with
  |some b,some bs=>some (b::bs)
  |_,_=>none
def Tag.cut (g:Tag) (whole:Bool):Tag:=
 match g with
 | .full=>if whole then .full else .shared
 |g=>g
def sq (lo:Option D):Option Int:=
 match lo with
 |none=>some 0
 |some (.int _ n)=>some n
 |_=>none
def sr (hi:Option D) (len:Nat):Option Int:=
 match hi with
 |none=>some len
 |some (.int _ n)=>some n
 |_=>none
def gZ (size bytes:Nat) (x y:D) (s:St):Option (D×St):=
 match x,y with
 | .slice g z rows, .slice _ z' new=>
  if(rows = []∨z=size)∧(new = []∨z'=size)∧(rows.length+new.length)*(bytes+1)≤bH then
   match new with
   | []=>some (.slice g z rows,s)
   |_::_=>
    match g with
    | .full=>some (.slice (.tok s.av.length) size (rows++new),{s with av:=s.av++ [some (rows.length+new.length)]})
    | .shared=>none
    | .tok _ true=>none
    | .tok t false=>if z=size∧s.av[t]? = some (some rows.length)then some (.slice (.tok t) size (rows++new),{s with av:=s.av.set t (some (rows.length+new.length))})else none
  else none
 |_,_=>none
def zO (x y:D) (s:St):Option (D×St):=
 match x,y with
 | .slice g z rows, .slice _ z' new=>
  if(rows = []∨z=1)∧(new = []∨z'=1)∧(rows.length+new.length)*2≤bH then
   match new with
   | []=>some (.slice g z rows,s)
   |_::_=>
    match g with
    | .full=>some (.slice (.tok s.av.length true) 1 (rows++new),{s with av:=s.av++ [some (rows.length+new.length)]})
    | .shared=>none
    | .tok t y=>if z=1∧s.av[t]? = some (some rows.length)then some (.slice (.tok t y) 1 (rows++new),{s with av:=s.av.set t (some (rows.length+new.length))})else none
  else none
 |_,_=>none
def xQ (key:List UInt8) (zero:D):List D→Option D
 | []=>some zero
 | .str k::d::r=>if k==key then some d else xQ key zero r
 |_=>none
def we (key:List UInt8) (v:D):List D→Option (List D)
 | []=>some [.str key,v]
 | .str k::d::r=>if k==key then some (.str k::v::r)else match we key v r with|some r'=>some (.str k::d::r')|none=>none
 |_=>none
def nq (s:St) (o g:Nat):Option (List D):=
 match s.ah[o]? with
 |some (.int .i64 n::cells)=>if n=(g:Int)then some cells else none
 |_=>none
def xR (d:D) (agg:Bool) (size:Nat) (s:St):Option (D×St):=
 match d with
 | .fc o g off=>
  match nq s o g with
  |some cells=>(match part cells off agg size with|some d=>some (d,s)|none=>none)
  |none=>none
 |_=>none
def zP (d:D) (r:Option (List D)) (size:Nat) (s:St):Option (D×St):=
 match d,r with
 | .fc o g off,some r=>match nq s o g with
  |some cells=>if r.length=size∧off+size≤cells.length then some (.tuple [],{s with ah:=s.ah.set o (.int .i64 g::gY cells off r)})else none
  |none=>none
 |_,_=>none
def K8 (d:D):Option D:=
 match d with
 | .fc o g off=>some (.fc o g off)
 |_=>none
def Dc (d:D) (off:Nat):Option D:=
 match d with
 | .fc o g k=>some (.fc o g (k+off))
 |_=>none
def wX (d e:D) (size:Nat):Option D:=
 match d,e with
 | .dW z o g len, .int _ n=>if 0≤n∧n<len∧z=size then some (.fc o g (n.toNat*z))else none
 |_,_=>none
def wg (d:D) (lo hi:Option D):Option D:=
 match d with
 | .dW z o g len=>
  match sq lo,sr hi len with
  |some l,some h=>if l=0∧0≤h∧h≤len then some (.dW z o g h.toNat)else none
  |_,_=>none
 | .dU z=>
  match sq lo,sr hi 0 with
  |some l,some h=>if l=0∧h=0 then some (.dU z)else none
  |_,_=>none
 |_=>none
def Em (d:D):Option D:=
 match d with
 | .dW _ _ _ len=>some (.int .i64 len)
 | .dU _=>some (.int .i64 0)
 |_=>none
def zQ (size bytes:Nat) (x y:D) (s:St):Option (D×St):=
 match x,y with
 | .dW z o g len, .slice _ z' new=>
  if z=size∧(new = []∨z'=size)∧(len+new.length)*(bytes+1)≤bH then
   match new with
   | []=>some (.dW z o g len,s)
   |_::_=>match nq s o g with
    |some cells=>if len*z≤cells.length then some (.dW z o (g+1) (len+new.length),{s with ah:=s.ah.set o (.int .i64 ((g+1:Nat):Int)::(cells.take (len*z)++new.flatten))})else none
    |none=>none
  else none
 | .dU z, .slice _ z' new=>
  if z=size∧(new = []∨z'=size)∧new.length*(bytes+1)≤bH then
   match new with
   | []=>some (.dU z,s)
   |_::_=>some (.dW z s.ah.length 0 new.length,{s with ah:=s.ah++ [.int .i64 ((0:Nat):Int)::new.flatten]})
  else none
 |_,_=>none
def Rm (k:FloatKind) (a b:Nat):Option Nat:=k.format.add a b
def pV (o:FO) (x y:D):Option D:=
 match o,x,y with
 | .ofInt k, .int _ n,_=>some (.val (.float k (k.nearest n)))
 | .toInt k, .val (.float s b),_=>match (s.decode b).toInt .zero with|some n=>if k.min≤n∧n≤k.max then some (.int k n)else none|none=>none
 | .G3, .val (.float k a), .val (.float k' b)=>if k=k' then some (.val (.complex k a b))else none
 | .real, .val (.complex k a _),_=>some (.val (.float k a))
 | .imag, .val (.complex k _ b),_=>some (.val (.float k b))
 | .eq, .val (.float k a), .val (.float k' b)=>if k=k' then some (.bool (k.format.order a b==some .eq))else none
 | .G4, .val (.complex k a b), .val (.complex k' c d)=>if k=k' then(match Rm k a c,Rm k b d with|some e,some f=>some (.val (.complex k e f))|_,_=>none)else none
 | .Oe, .val (.complex k a b), .val (.complex k' c d)=>if k=k' then some (.bool (k.format.order a c==some .eq && k.format.order b d==some .eq))else none
 |_,_,_=>none
def aI (o:AO) (tm:Tm) (s:St):Option (D×St):=
 match o with
 | .mv x=>some (x.ev tm,s)
 | .pick c a b=>
  match c.ev tm with
  | .bool t=>some (if t then a.ev tm else b.ev tm,s)
  |_=>none
 | .alloc zero=>some (.ptr s.ah.length 0,{s with ah:=s.ah++ [zero]})
 | .box x=>
  match (x.ev tm).row with
  |some r=>some (.ptr s.ah.length 0,{s with ah:=s.ah++ [r]})
  |none=>none
 | .build zero parts=>
  match qm zero (parts.map fun p=>(p.1,p.2.1,p.2.2.ev tm))with
  |some cs=>some (.agg cs,s)
  |none=>none
 | .du zero size n parts=>
  match jJ size (fK zero n) (parts.map fun p=>(p.1,p.2.ev tm))with
  |some rows=>some (.slice .full size rows,s)
  |none=>none
 | .uu zero size n parts=>
  match jJ size (fK zero n) (parts.map fun p=>(p.1,p.2.ev tm))with
  |some rows=>some (.slice (.tok s.av.length) size rows,{s with av:=s.av++ [some rows.length]})
  |none=>none
 | .zI x=>
  match x.ev tm with
  | .slice (.tok t _) z rows=>if rows≠ []∧s.av[t]? = some (some rows.length)then some (.slice .shared z rows,{s with av:=s.av.set t none})else none
  |_=>none
 | .load x agg size=>
  match x.ev tm with
  | .ptr o off=>
   match s.ah[o]? with
   |some cs=>match part cs off agg size with|some d=>some (d,s)|none=>none
   |none=>none
  | .dt row off=>match part row off agg size with|some d=>some (d,s)|none=>none
  |d=>xR d agg size s
 | .store p x size=>
  match p.ev tm,(x.ev tm).row with
  | .ptr o off,some r=>
   match s.ah[o]? with
   |some cs=>if r.length=size∧off+size≤cs.length then some (.tuple [],{s with ah:=s.ah.set o (gY cs off r)})else none
   |none=>none
  |d,r=>zP d r size s
 | .bO x=>
  match x.ev tm with
  | .ptr o off=>some (.ptr o off,s)
  | .dt row off=>some (.dt row off,s)
  |d=>match K8 d with|some d=>some (d,s)|none=>none
 | .bin op x y=>match wc op (x.ev tm) (y.ev tm)with|some d=>some (d,s)|none=>none
 | .Ff neg x y=>
  match x.ev tm,y.ev tm with
  | .bool a, .bool b=>some (.bool (if neg then !(a==b)else a==b),s)
  |_,_=>none
 | .eqs neg ks x y=>
  match x.ev tm,y.ev tm with
  | .agg a, .agg b=>match kS ks a b with|some e=>some (.bool (if neg then !e else e),s)|none=>none
  |_,_=>none
 | .Fg neg x y=>
  match x.ev tm,y.ev tm with
  | .dN, .dN=>some (.bool (!neg),s)
  | .ptr _ _, .dN=>some (.bool neg,s)
  | .dt _ _, .dN=>some (.bool neg,s)
  |_,_=>none
 | .un op x=>match G8 op (x.ev tm)with|some d=>some (d,s)|none=>none
 | .conv k x=>match x.ev tm with| .int _ n=>some (.int k (k.wrap n),s)|_=>none
 | .C8 x=>
  match x.ev tm with
  | .slice _ _ rows=>match nQ rows with|some b=>some (.str b,s)|none=>none
  |_=>none
 | .wV x=>
  match x.ev tm with
  | .str l=>some (.slice .shared 1 (l.map fun c=> [.int .u8 c.toNat]),s)
  |_=>none
 | .C9 size x lo hi=>
  match x.ev tm with
  | .slice g z rows=>
   match sq (lo.map (·.ev tm)),sr (hi.map (·.ev tm)) rows.length with
   | some l,some h=>
    if(rows = []∨z=size)∧0≤l∧l≤h∧h≤rows.length then
     some (.slice (if l=0 then g.cut (h=rows.length)else .shared) z ((rows.take h.toNat).drop l.toNat),s)else none
   |_,_=>none
  |d=>match wg d (lo.map (·.ev tm)) (hi.map (·.ev tm))with|some d=>some (d,s)|none=>none
 | .G5 x lo hi=>
  match x.ev tm with
  | .str t=>
   match sq (lo.map (·.ev tm)),sr (hi.map (·.ev tm)) t.length with
   |some l,some h=>if 0≤l∧l≤h∧h≤t.length then some (.str ((t.take h.toNat).drop l.toNat),s)else none
   |_,_=>none
  |_=>none
 | .aq x off=>
  match x.ev tm with
  | .ptr o k=>some (.ptr o (k+off),s)
  | .dt row k=>some (.dt row (k+off),s)
  |d=>match Dc d off with|some d=>some (d,s)|none=>none
 | .BT x off agg size=>
  match x.ev tm with
  | .agg cs=>match part cs off agg size with|some d=>some (d,s)|none=>none
  |_=>none
 | .cq x i size=>
  match x.ev tm,i.ev tm with
  | .slice _ z rows, .int _ n=>
   if 0≤n∧z=size then
    match rows[n.toNat]? with
    |some row=>some (.dt row 0,s)
    |none=>none
   else none
  |d,e=>match wX d e size with|some d=>some (d,s)|none=>none
 | .zJ x i=>
  match x.ev tm,i.ev tm with
  | .str t, .int _ n=>
   if 0≤n then
    match t[n.toNat]? with
    |some c=>some (.int .u8 c.toNat,s)
    |none=>none
   else none
  |_,_=>none
 | .ext x i=>
  match x.ev tm with
  | .tuple ds=>match ds[i]? with|some d=>some (d,s)|none=>none
  |_=>none
 | .uv x=>
  match x.ev tm with
  | .str t=>some (.int .i64 t.length,s)
  |_=>none
 | .len x=>
  match x.ev tm with
  | .slice _ _ rows=>some (.int .i64 rows.length,s)
  |d=>match Em d with|some d=>some (d,s)|none=>none
 | .app size bytes x y=>
  match x.ev tm with
  | .slice g z rows=>gZ size bytes (.slice g z rows) (y.ev tm) s
  |d=>zQ size bytes d (y.ev tm) s
 | .mm isMax x y=>
  match x.ev tm,y.ev tm with
  | .int k a, .int k' b=>if k=k' then some (.int k (if isMax then(if b > a then b else a)else(if b<a then b else a)),s)else none
  |_,_=>none
 | .sn zero T=>
  match zero with
  | .dN::r=>some (.ptr s.ah.length 0,{s with ah:=s.ah++ [.fb T s.ah.length::r]})
  |_=>none
 | .zK x T=>
  match (x.ev tm).row with
  |some (.dN::r)=>some (.ptr s.ah.length 0,{s with ah:=s.ah++ [.fb T s.ah.length::r]})
  |_=>none
 | .zL x y=>zO (x.ev tm) (y.ev tm) s
 | .apps x y=>
  match y.ev tm with
  | .str l=>zO (x.ev tm) (.slice .shared 1 (l.map fun c=> [.int .u8 c.toNat])) s
  |_=>none
 | .tU f xs=>some (.fS f (xs.map (·.ev tm)),s)
 | .tV=>some (.fI s.ah.length,{s with ah:=s.ah++ [[]]})
 | .xP m k v=>
  match m.ev tm,k.ev tm,v.ev tm with
  | .fI o, .str key, .slice g z rows=>
   match s.ah[o]? with
   |some cs=>match we key (.slice g z rows) cs with|some jq=>some (.tuple [],{s with ah:=s.ah.set o jq})|none=>none
   |none=>none
  |_,_,_=>none
 | .vr m k zero=>
  match m.ev tm,k.ev tm with
  | .fI o, .str key=>
   match s.ah[o]? with
   |some cs=>match xQ key zero cs with|some d=>some (d,s)|none=>none
   |none=>none
  |_,_=>none
 | .zM size bytes zero l c=>
  match l.ev tm,c.ev tm with
  | .int .i64 n, .int .i64 m=>if n=m∧0≤n∧n*((bytes:Int)+1)≤bH then some (.dW size s.ah.length 0 n.toNat,{s with ah:=s.ah++ [.int .i64 ((0:Nat):Int)::(fK zero n.toNat).flatten]})else none
  |_,_=>none
 | .ql o x y=>match pV o (x.ev tm) (y.ev tm)with|some d=>some (d,s)|none=>none
def Rn (b:ByteArray):List UInt8:=b.data.toList
def rr:Value→Option D
 | .int k n=>some (.int k n)
 | .bool b=>some (.bool b)
 | .string b=>some (.str (Rn b))
 | .pointer none=>some .dN
 | .slice none 0 0=>some (.slice .full 0 [])
 | .nilIface=>some (.val .nilIface)
 | .float k b=>some (.val (.float k b))
 | .complex k a b=>some (.val (.complex k a b))
 |_=>none
def nr:List Value→Option (List D)
 | []=>some []
 |v::r=>match rr v,nr r with|some d,some ds=>some (d::ds)|_,_=>none
def Ci:Value→Option D
 | .slice none 0 0=>some (.val (.slice none 0 0))
 |v=>rr v
def vt:List Value→Option (List D)
 | []=>some []
 |v::r=>match Ci v,vt r with|some d,some ds=>some (d::ds)|_,_=>none
def K9:Value→Option D
 | .agg cs=>(nr cs.toList).map .agg
 | .tuple ⟨[]⟩=>some (.tuple [])
 |v=>rr v
def cX:Operand→Option X
 | .tmp t=>some (.s t)
 | .const v=>(K9 v).map .k
 | .func f=>some (.k (.fS f []))
 |_=>none
def wY:List Operand→Option (List X)
 | []=>some []
 |x::r=>match cX x,wY r with|some d,some ds=>some (d::ds)|_,_=>none
def Uq:Option Operand→Option (Option X)
 |none=>some none
 |some x=>(cX x).map some
section
variable (P:Program)
def qn (t:TypeId):Option Bool:=
 match P.underlying t with
 |some (.struct _)|some (.array _ _)=>some true
 |some _=>some false
 |none=>none
def zeroOf (t:TypeId):Option (List D):=
 match P.info? t with
 |some i=>match i.zero with|some z=>if z.cells.size=i.size then nr z.cells.toList else none|none=>none
 |none=>none
def lP (t:TypeId) (f:Nat):Option (Nat×Nat×Bool):=
 match P.underlying t with
 | some (.struct fs)=>
  match fs[f]? with
  |some fd=>match P.info? fd.type,qn P fd.type with
   |some i,some a=>if i.size=0 then none else some (fd.offset,i.size,a)
   |_,_=>none
  |none=>none
 |_=>none
def Oh (t u:TypeId):Bool:=
 match P.underlying u with
 |some (.pointer e)=>e==t
 |_=>false
def YP (t:TypeId):Bool:=
 match P.underlying t with
 |some (.struct fs)=>
  match fs[0]? with
  |some f=>Oh P t f.type
  |none=>false
 |_=>false
def La (t:TypeId):Bool:=
 match P.underlying t with
 |some (.struct fs)=>
  match fs[0]? with
  |some f=>Oh P t f.type ||YP P f.type
  |none=>false
 |_=>false
def Lb (self:Bool) (l:List Value):Option (List D):=if self then vt l else nr l
def xS (t:TypeId):Option (List D):=
 match P.info? t with
 |some i=>match i.zero with|some z=>if z.cells.size=i.size then Lb (La P t) z.cells.toList else none|none=>none
 |none=>none
def zR (t:TypeId):List (Nat×Operand)→Option (List (Nat×Nat×X))
 | []=>some []
 |(i,x)::r=>match lP P t i,cX x,zR t r with
  |some (off,size,_),some x',some r'=>some ((off,size,x')::r')
  |_,_,_=>none
def G9:List (Nat×Operand)→Option (List (Nat×X))
 | []=>some []
 |(i,x)::r=>match cX x,G9 r with
  |some x',some r'=>some ((i,x')::r')
  |_,_=>none
def k8 (t:TypeId):Option Nat:=
 match P.underlying t with
 |some (.int _)=>some 0
 |some .bool=>some 1
 |some .string=>some 2
 |_=>none
def Ba:Nat→List Field→Option (List Nat)
 |_,[]=>some []
 | n,f::fs=>
  if f.offset=n∧f.name≠ "_" then
   match k8 P f.type,Ba (n+1) fs with
   |some k,some ks=>some (k::ks)
   |_,_=>none
  else none
def pz (t:TypeId):Option (List Nat):=
 match P.underlying t with
 |some (.struct fs)=>if P.eqGuardType P.depth t=false∧P.stoodInHeld t=false then Ba P 0 fs.toList else none
 |_=>none
def Dd (o:Oper):Option AO:=
 match o.op with
 | .move x| .assign x=>(cX x).map .mv
 | .pick c a b=>match cX c,cX a,cX b with|some c,some a,some b=>some (.pick c a b)|_,_,_=>none
 | .alloc t=>if La P t then(xS P t).map (.sn · t)else(zeroOf P t).map .alloc
 | .box t x=>if La P t then(cX x).map (.zK · t)else(cX x).map .box
 | .build t parts=>
  match P.underlying t,xS P t,zR P t parts.toList with
  |some (.struct fs),some z,some ps=>if fs.toList.all fun f=>(P.info? f.type).isSome then some (.build z ps)else none
  |_,_,_=>none
 | .buildSlice t n parts=>
  match P.underlying t with
  |some (.slice e)=>
   match P.info? e,zeroOf P e,G9 parts.toList with
   |some i,some z,some ps=>if 0<i.size∧n*i.size≤65536 then some (.du z i.size n ps)else none
   |_,_,_=>none
  |_=>none
 | .load t x=>
  match cX x,qn P t,P.info? t with
  |some x,some a,some i=>some (.load x a i.size)
  |_,_,_=>none
 | .store t a x=>
  match cX a,cX x,P.info? t with
  |some a,some x,some i=>some (.store a x i.size)
  |_,_,_=>none
 | .nilCheck x=>(cX x).map .bO
 | .binOp op t x y _=>
  match cX x,cX y with
  |some x,some y=>
   match P.underlying t,op with
   |some (.int _),_=>some (.bin op x y)
   |some .string,_=>some (.bin op x y)
   |some .bool, .eql=>some (.Ff false x y)
   |some .bool, .neq=>some (.Ff true x y)
   |some (.pointer _), .eql=>some (.Fg false x y)
   |some (.pointer _), .neq=>some (.Fg true x y)
   |some (.struct _), .eql=>(pz P t).map (.eqs false · x y)
   |some (.struct _), .neq=>(pz P t).map (.eqs true · x y)
   |some (.float _), .eql=>some (.ql .eq x y)
   |some (.complex _), .add=>some (.ql .G4 x y)
   |some (.complex _), .eql=>some (.ql .Oe x y)
   |_,_=>none
  |_,_=>none
 | .unOp op _ x=>(cX x).map (.un op)
 | .convert src dst x=>
  match cX x,P.underlying src,P.underlying dst with
  |some x,some (.int _),some (.int k)=>some (.conv k x)
  |some x,some (.slice e),some .string=>match P.underlying e with|some (.int .u8)=>some (.C8 x)|_=>none
  |some x,some (.slice e),some (.slice _)=>match P.underlying e with|some (.int .u8)=>if src=dst then some (.zI x)else none|_=>none
  |some x,some .string,some (.slice e)=>match P.underlying e,P.info? e with|some (.int .u8),some i=>if i.size=1 then some (.wV x)else none|_,_=>none
  |some x,some (.int _),some (.float k)=>some (.ql (.ofInt k) x x)
  |some x,some (.float _),some (.int k)=>some (.ql (.toInt k) x x)
  |_,_,_=>none
 | .slice t x lo hi none=>
  match cX x,Uq lo,Uq hi,P.underlying t with
  |some x,some lo,some hi,some .string=>some (.G5 x lo hi)
  |some x,some lo,some hi,some (.slice e)=>match P.info? e with|some i=>some (.C9 i.size x lo hi)|none=>none
  |_,_,_,_=>none
 | .fieldAddr t x f=>match cX x,lP P t f with|some x,some (off,_,_)=>some (.aq x off)|_,_=>none
 | .field t x f=>match cX x,lP P t f with|some x,some (off,size,a)=>some (.BT x off a size)|_,_=>none
 | .indexAddr t x i=>
  match cX x,cX i,P.underlying t with
  |some x,some i,some (.slice e)=>match P.info? e with|some j=>if 0<j.size then some (.cq x i j.size)else none|none=>none
  |_,_,_=>none
 | .index t x i=>match cX x,cX i,P.underlying t with|some x,some i,some .string=>some (.zJ x i)|_,_,_=>none
 | .extract x i=>(cX x).map (.ext · i)
 | .call {callee:= .builtin .len,args,argTypes}=>
  match args.toList,argTypes.toList with
  | [x],[t]=>match P.underlying t with
   |some .string=>(cX x).map .uv
   |some (.slice _)=>(cX x).map .len
   |_=>none
  |_,_=>none
 | .call {callee:= .builtin .append,args,argTypes}=>
  match args.toList,argTypes.toList with
  | [x,y],[t,u]=>match P.underlying t,P.underlying u,cX x,cX y with
   |some (.slice e),some (.slice _),some x,some y=>match P.info? e,zeroOf P e with
    |some i,some _=>if 0<i.size then some (if e=oT∧i.size=1∧i.bytes=1 then .zL x y else .app i.size i.bytes x y)else none
    |_,_=>none
   |some (.slice e),some .string,some x,some y=>match P.info? e,zeroOf P e with
    |some i,some _=>if e=oT∧i.size=1∧i.bytes=1 then some (.apps x y)else none
    |_,_=>none
   |_,_,_,_=>none
  |_,_=>none
 | .call {callee:= .builtin .max,args, ..}=>
  match args.toList with
  | [x,y]=>match cX x,cX y with|some x,some y=>some (.mm true x y)|_,_=>none
  |_=>none
 | .call {callee:= .builtin .min,args, ..}=>
  match args.toList with
  | [x,y]=>match cX x,cX y with|some x,some y=>some (.mm false x y)|_,_=>none
  |_=>none
 | .call {callee:= .builtin .complex,args, ..}=>
  match args.toList with
  | [x,y]=>match cX x,cX y with|some x,some y=>some (.ql .G3 x y)|_,_=>none
  |_=>none
 | .call {callee:= .builtin .real,args, ..}=>
  match args.toList with
  | [x]=>(cX x).map fun x=> .ql .real x x
  |_=>none
 | .call {callee:= .builtin .imag,args, ..}=>
  match args.toList with
  | [x]=>(cX x).map fun x=> .ql .imag x x
  |_=>none
 | .makeSlice t l c=>
  match cX l,cX c,P.underlying t with
  |some l,some c,some (.slice e)=>match P.info? e,zeroOf P e with
   |some i,some z=>if 0<i.size then some (.zM i.size i.bytes z l c)else none
   |_,_=>none
  |_,_,_=>none
 | .makeFunc (.func f) first captured=>if first.size=0 then(wY captured.toList).map (.tU f)else none
 | .makeMap t none=>match P.underlying t with|some (.map _ _)=>some .tV|_=>none
 | .mapUpdate t m k v=>
  match P.underlying t,cX m,cX k,cX v with
  |some (.map kt _),some m,some k,some v=>match P.underlying kt with|some .string=>some (.xP m k v)|_=>none
  |_,_,_,_=>none
 | .lookup t m k false=>
  match P.underlying t,cX m,cX k with
  |some (.map kt e),some m,some k=>
   match P.underlying kt,P.info? e with
   |some .string,some i=>match i.zero with|some z=>(rr z).map (.vr m k)|none=>none
   |_,_=>none
  |_,_,_=>none
 |_=>none
def ux (ops:Array Oper):Option (Nat×Bool)→Option (Option (Nat×Bool))
 |none=>some none
 |some (j,b)=>
  match (ops[j]?).bind (·.dst)with
  |some t=>some (some (t,b))
  |none=>none
def enters (f:FuncId):Bool:=
 match P.funcs[f]? with
 |some fn=>fn.body.isSome && !(fn.name == "runtime.NumGoroutine")
 |none=>false
def frozenIn (ops:Array Oper) (dst:Option Nat):Bool:=
 ops.toList.any fun o=>match o.op,dst with
  | .convert s d (.tmp t),some t'=>t==t' && s==d
  |_,_=>false
def Eo (o:Oper):Option (Bool×X):=
 match o.op with
 | .binOp op t x (.const (.slice none 0 0)) _=>
  match P.underlying t,op,cX x with
  |some (.slice _), .eql,some x=>some (false,x)
  |some (.slice _), .neq,some x=>some (true,x)
  |_,_,_=>none
 |_=>none
def Ur (nt:Nat) (dst:Option Nat):Bool:=
 match dst with
 |some d=>decide (d<nt)
 |none=>true
def rS (ops:Array Oper) (o:Oper) (g:Option (Nat×Bool)):Option AI:=
 match o.op with
 | .call {callee:= .value (.func f),args, ..}=>if enters P f then(wY args.toList).map (.call o.dst g f)else none
 | .call {callee:= .value (.tmp t),args, ..}=>(wY args.toList).map (.jb o.dst g t)
 | _=>
  match Eo P o with
  |some (neg,x)=>some (.nil o.dst g neg x)
  |none=>
   match Dd P o with
   |some (.du z k n ps)=>some (.op o.dst g (if frozenIn ops o.dst then .uu z k n ps else .du z k n ps))
   |some ao=>some (.op o.dst g ao)
   |none=>none
def cI (nt:Nat) (ops:Array Oper) (o:Oper):Option AI:=
 match ux ops o.guard with
 |none=>none
 |some g=>if Ur nt o.dst=true then rS P ops o g else none
def qo (nt:Nat) (ops:Array Oper):List Oper→Option (List AI)
 | []=>some []
 |o::r=>match cI P nt ops o,qo nt ops r with|some i,some is=>some (i::is)|_,_=>none
def Us (is:List AI) (af:List (List Nat)):Option AC:=
 if G6 is af (G7 [] af) (Og is af)then some (.par is (Og is af))else none
def cC (nt:Nat):Code→Option AC
 | .skip=>some .skip
 | .region _ ops false=>(qo P nt ops ops.toList).map .run
 | .region _ ops true=>if P.follows .mixedOrders then(qo P nt ops ops.toList).bind (Us · (ops.toList.map my))else none
 | .seq a b=>match cC nt a,cC nt b with|some a,some b=>some (.seq a b)|_,_=>none
 | .cond x a b=>match cX x,cC nt a,cC nt b with|some x,some a,some b=>some (.cond x a b)|_,_,_=>none
 | .block id a=>(cC nt a).map (.block id)
 | .loop a=>(cC nt a).map .loop
 | .exit id=>some (.exit id)
 | .scope a=>(cC nt a).map .scope
 | .label l=>some (.label l)
 | .goto l=>some (.goto l)
 | .ret=>some .ret
 |_=>none
def Cj:List ResultVar→Option (List (Nat×Option (Bool×Nat)))
 | []=>some []
 | .tmp t::r=>(Cj r).map ((t,none):: ·)
 | .cell a t::r=>match qn P t,P.info? t,Cj r with
  |some g,some i,some r'=>some ((a,some (g,i.size))::r')
  |_,_,_=>none
def cF (fn:Func):Option AF:=
 match fn.body with
 |some c=>match cC P fn.ntmps c,Cj P fn.results.toList with
  |some b,some r=>some ⟨fn.ntmps,r,b⟩
  |_,_=>none
 |none=>none
end
end Go.Abs
namespace Go.Abs
theorem iP {w:World} {b:Nat} {vs:Array Value} {T:TypeId} {fr:Nat×Nat} (h:w.heap[b]? = some (.cells vs T fr)) (o:Nat):w.cell? ⟨b,o,none⟩=vs[o]? :=by
 simp[World.cell?,h]
theorem jR {w:World} {b:Nat} {o:Obj} (h:w.heap[b]? = some o):b<w.heap.size:=(Array.getElem?_eq_some_iff.1 h).1
section
variable {M:Map} {s:St} {w:World}
theorem Rel.zS (r:Rel M s w) {b o:Nat} {v:Value} (h:M.G b o=some v):b<w.heap.size:=World.block_lt_of_cell? w _ (r.comm b o v h).1
theorem Rel.Lc (r:Rel M s w) {b:Nat} (h:w.heap.size≤b) (o:Nat):M.G b o=none:=by
 cases e:M.G b o with
 |none=>rfl
 |some v=>have:=r.zS e;omega
theorem Rel.pM (r:Rel M s w) {o:Nat} (h:o<s.ah.length):M.mu o<w.heap.size:=by
 obtain⟨vs,T,hh,_⟩:=r.obj o _ (List.getElem?_eq_getElem h)
 exact hh.lt
theorem Rel.rT (r:Rel M s w) {t b c z:Nat} (h:s.live t) (e:M.be t=some (b,c,z)):b<w.heap.size:=by
 obtain⟨n,hn⟩:=h
 rcases r.tok t n hn with ⟨h1,_⟩|⟨b',cap,size,vs,T,h1,h2,_⟩
 ·rw[e]at h1;cases h1
 ·rw[e]at h1;cases h1;exact jR h2
theorem Rel.of_heap (r:Rel M s w) {w':World} (h:w'.heap=w.heap):Rel M s w':=by
 refine⟨fun b o v e=>?_,fun o ds e=>?_,r.jv,r.inj,fun t n e=>?_,r.eZ,r.fJ⟩
 ·obtain⟨h1,h2⟩:=r.comm b o v e
  refine⟨?_,h2⟩
  rw[← h1];simp[World.cell?,h]
 ·rw[h];exact r.obj o ds e
 ·rw[h];exact r.tok t n e
theorem Ext.of_heap {w':World} (h:w'.heap=w.heap) (h1:w'.os=w.os) (h2:w'.tape=w.tape) (h3:w'.output=w.output):Ext M s w M s w':=
 ⟨Le.refl M s,fun _ _ _ _=>by rw[h],fun o h h'=>by rcases h with h|h;omega;exact(h rfl).elim,fun t b c z h e=> .inl ⟨h,c,z,e⟩,fun _ _ h=>(h rfl).elim,by rw[h];exact Nat.le_refl _,h1,h2,h3⟩
def Map.dJ (M:Map) (n b:Nat) (x:Ob:= .any):Map:= {M with loc:=fun o=>if o=n then(b,x)else M.loc o}
theorem su (M:Map) {n:Nat} (b:Nat) (x:Ob) {o:Nat} (ho:o<n):(M.dJ n b x).loc o=M.loc o:=by simp[Map.dJ];omega
theorem ry (s:St) (b:Nat) (ds:List D) (x:Ob:= .any):Le M s (M.dJ s.ah.length b x) {s with ah:=s.ah++ [ds]}:=
 ⟨fun _ _ _ h=>h,by simp,fun o ho=>by rw[su M b x ho];exact .refl _,Nat.le_refl _,fun t n _ h=>⟨n,h,Nat.le_refl _,fun _=>rfl⟩⟩
theorem Rel.Ha (r:Rel M s w) (ds:List D) (ob:Obj) (vs:Array Value) (T:TypeId) (x:Ob) (wZ : ∀ hp:Array Obj,hp[w.heap.size]? = some ob→ig hp (w.heap.size,x) vs T) (hx : ∀ T',x.ty? = some T'→T'=T) (hl:vs.size=ds.length) (h1 : ∀ v∈vs,v.oneCell'=true)
 (h2 : ∀ (i:Nat) (d:D) (v:Value),ds[i]? = some d→vs[i]? = some v→RD (M.dJ s.ah.length w.heap.size x) {s with ah:=s.ah++ [ds]} d v) :
 Rel (M.dJ s.ah.length w.heap.size x) {s with ah:=s.ah++ [ds]} (w.alloc ob)∧
 Ext M s w (M.dJ s.ah.length w.heap.size x) {s with ah:=s.ah++ [ds]} (w.alloc ob):=by
 have le:=ry (M:=M) s w.heap.size ds x
 have iW : ∀ o,o<s.ah.length→(M.dJ s.ah.length w.heap.size x).loc o=M.loc o:=fun o ho=>su M _ x ho
 have mA : ∀ o,o<s.ah.length→(M.dJ s.ah.length w.heap.size x).mu o=M.mu o:=fun o ho=>congrArg Prod.fst (iW o ho)
 have da:(M.dJ s.ah.length w.heap.size x).mu s.ah.length=w.heap.size:=by simp[Map.dJ,Map.mu]
 have ac7:(M.dJ s.ah.length w.heap.size x).ty s.ah.length=x.ty? :=by simp[Map.dJ,Map.ty]
 have ac8:(M.dJ s.ah.length w.heap.size x).loc s.ah.length=(w.heap.size,x):=by simp[Map.dJ]
 refine⟨⟨fun b o v e=>?_,fun o na e=>?_,fun o ho off=>?_,fun o o' ho nc e=>?_,fun t n e=>?_,fun t b c z o hl e ho=>?_,fun t t' b c z c' z' h h' e e'=>r.fJ t t' b c z c' z' h h' e e'⟩, ?_⟩
 ·obtain⟨h3,h4⟩:=r.comm b o v e
  refine⟨?_,h4⟩
  rw[World.cell?_alloc_lt]
  ·exact h3
  ·exact r.zS e
 ·rcases Nat.lt_or_ge o s.ah.length with ho | ho
  ·rw [List.getElem?_append_left ho]at e
   obtain⟨fu,T',h3,h4,h5,h6⟩:=r.obj o na e
   refine⟨fu,T', ?_,h4,⟨h5.1,by rw[le.ty o ho];exact h5.2⟩,fun i d v e1 e2=>(h6 i d v e1 e2).mono le⟩
   rw[iW o ho];exact h3.keep (heap_alloc_old w _ _ h3.lt)
  ·rw [List.getElem?_append_right ho]at e
   have:o=s.ah.length:=by
    have:=(List.getElem?_eq_some_iff.1 e).1
    simp at this;omega
   subst this
   simp at e;subst e
   refine⟨vs,T, ?_,hl,⟨h1,by rw[ac7];exact hx⟩,fun i d v e1 e2=>h2 i d v e1 e2⟩
   rw[ac8];exact wZ _ (heap_alloc_new w _)
 ·simp at ho
  rcases Nat.lt_or_ge o s.ah.length with h3|h3
  ·rw[mA o h3];exact r.jv o h3 off
  ·have:o=s.ah.length:=by omega
   subst this
   rw[da];exact r.Lc (Nat.le_refl _) off
 ·simp at ho nc
  rcases Nat.lt_or_ge o s.ah.length with h3|h3<;>rcases Nat.lt_or_ge o' s.ah.length with h4|h4
  ·rw[mA o h3,mA o' h4]at e;exact r.inj o o' h3 h4 e
  ·have:o'=s.ah.length:=by omega
   subst this
   rw[mA o h3,da]at e
   have:=r.pM h3;omega
  ·have:o=s.ah.length:=by omega
   subst this
   rw[mA o' h4,da]at e
   have:=r.pM h4;omega
  ·omega
 ·rcases r.tok t n e with h3 | ⟨b,cap,size,fu,T',h3,h4,h5⟩
  ·exact .inl h3
  ·exact .inr ⟨b,cap,size,fu,T',h3,by rw[heap_alloc_old w _ _ (jR h4)];exact h4,h5⟩
 ·simp at ho
  rcases Nat.lt_or_ge o s.ah.length with h3|h3
  ·rw[mA o h3];exact r.eZ t b c z o hl e h3
  ·have:o=s.ah.length:=by omega
   subst this
   rw[da]
   have:=r.rT hl e;omega
 ·refine⟨le,fun b hb _ _=>heap_alloc_old w _ b hb,fun o h3 h4=> ?_,fun t b c z h e=> .inl ⟨h,c,z,e⟩,fun _ _ h=>(h rfl).elim,by simp,rfl,rfl,rfl⟩
  simp at h4
  rcases Nat.lt_or_ge o s.ah.length with h5|h5
  ·rcases h3 with h3 | h3
   ·omega
   ·exact(h3 (mA o h5)).elim
  have:o=s.ah.length:=by omega
  subst this
  rw[da];exact Nat.le_refl _
theorem Rel.Hb (r:Rel M s w) (ds:List D) (vs:Array Value) (T:TypeId) (x:Ob) (hk:x.plain) (hx : ∀ T',x.ty? = some T'→T'=T) (hl:vs.size=ds.length) (h1 : ∀ v∈vs,v.oneCell'=true)
 (h2 : ∀ (i:Nat) (d:D) (v:Value),ds[i]? = some d→vs[i]? = some v→RD (M.dJ s.ah.length w.heap.size x) {s with ah:=s.ah++ [ds]} d v) :
 Rel (M.dJ s.ah.length w.heap.size x) {s with ah:=s.ah++ [ds]} (w.alloc (.cells vs T))∧
 Ext M s w (M.dJ s.ah.length w.heap.size x) {s with ah:=s.ah++ [ds]} (w.alloc (.cells vs T)):=
 r.Ha ds _ vs T x (fun hp e=>ig.of e hk) hx hl h1 h2
theorem Rel.dJ (r:Rel M s w) (ds:List D) (vs:Array Value) (T:TypeId) (hl:vs.size=ds.length) (h1 : ∀ v∈vs,v.oneCell'=true)
 (h2 : ∀ (i:Nat) (d:D) (v:Value),ds[i]? = some d→vs[i]? = some v→RD M s d v) :
 Rel (M.dJ s.ah.length w.heap.size) {s with ah:=s.ah++ [ds]} (w.alloc (.cells vs T))∧
 Ext M s w (M.dJ s.ah.length w.heap.size) {s with ah:=s.ah++ [ds]} (w.alloc (.cells vs T)):=
 r.Hb ds vs T .any trivial (fun _ h=>by cases h) hl h1 fun i d v e1 e2=>(h2 i d v e1 e2).mono (ry s w.heap.size ds)
theorem qp (cs:List D) (off:Nat) (r:List D) (h:off+r.length≤cs.length) (i:Nat) :
 (gY cs off r)[i]? = if i<off then cs[i]? else if i<off+r.length then r[i - off]? else cs[i]? :=by
 unfold gY
 have hl:(cs.take off).length=off:=by simp;omega
 split
 ·rename_i h1
  rw[List.append_assoc,List.getElem?_append_left (by omega),List.getElem?_take_of_lt h1]
 ·rename_i h1
  rw[List.append_assoc,List.getElem?_append_right (by omega),hl]
  split
  ·rename_i h2
   rw[List.getElem?_append_left (by omega)]
  ·rename_i h2
   rw[List.getElem?_append_right (by omega),List.getElem?_drop]
   congr 1;omega
theorem sY (cs:List D) (off:Nat) (r:List D) (h:off+r.length≤cs.length):(gY cs off r).length=cs.length:=by
 unfold gY;simp;omega
theorem Rel.Ld (P:Program) (r:Rel M s w) {o off:Nat} {cs:List D} (he:s.ah[o]? = some cs) (hk:(M.ob o).plain) (row:List D) (us:List Value) (hu:us.length=row.length) (iX:off+row.length≤cs.length)
 (h1 : ∀ u∈us,u.oneCell'=true) (h2 : ∀ (i:Nat) (d:D) (v:Value),row[i]? = some d→us[i]? = some v→RD M s d v) :
 ∃ w',(storeCells (⟨M.mu o,off,none⟩:Addr) us).run P w = .ok () w'∧Rel M {s with ah:=s.ah.set o (gY cs off row)} w'∧Ext M s w M {s with ah:=s.ah.set o (gY cs off row)} w':=by
 obtain⟨vs,T,hh,hs,⟨gH,Ut⟩,jd⟩:=r.obj o cs he
 replace hh:=hh.cells hk
 have ho:o<s.ah.length:=(List.getElem?_eq_some_iff.1 he).1
 have jr:=run_storeCells_at P (M.mu o) off T us 0 vs w hh (by omega) h1
 simp only[Nat.add_zero]at jr
 have le:Le M s M {s with ah:=s.ah.set o (gY cs off row)}:=
  ⟨fun _ _ _ h=>h,by simp,fun _ _=> .refl _,Nat.le_refl _,fun t n _ h=>⟨n,h,Nat.le_refl _,fun _=>rfl⟩⟩
 generalize da:(vs.toList.take off++us++vs.toList.drop (off+us.length)).toArray=iH at jr
 have qq:iH.size=vs.size:=by rw[← da];simp;omega
 have hY : ∀ i,iH[i]? = if i<off then vs[i]? else if i<off+row.length then us[i - off]? else vs[i]? :=by
  intro i
  rw[← da]
  simp only[List.getElem?_toArray]
  have hl:(vs.toList.take off).length=off:=by simp;omega
  split
  ·rename_i h3
   rw[List.append_assoc,List.getElem?_append_left (by omega),List.getElem?_take_of_lt h3];simp
  ·rename_i h3
   rw[List.append_assoc,List.getElem?_append_right (by omega),hl]
   split
   ·rename_i h4
    rw[List.getElem?_append_left (by omega)]
   ·rename_i h4
    rw[List.getElem?_append_right (by omega),List.getElem?_drop]
    rw[show off+us.length+(i - off - us.length)=i by omega];simp
 have lD : ∀ b,b≠M.mu o→(w.setRow (M.mu o) iH).heap[b]? = w.heap[b]? :=fun b hb=>setRow_other w (M.mu o) b _ hb
 refine⟨_,jr,⟨fun b q v e=>?_,fun o' ds e=>?_,fun q hq wh=>r.jv q (by simpa using hq) wh,fun q q' hq l5 e=>r.inj q q' (by simpa using hq) (by simpa using l5) e,fun t n e=>?_,
  fun t b c z q hl e hq=>r.eZ t b c z q hl e (by simpa using hq),fun t t' b c z c' z' h h' e e'=>r.fJ t t' b c z c' z' h h' e e'⟩, ?_⟩
 ·obtain⟨h3,h4⟩:=r.comm b q v e
  refine⟨?_,h4⟩
  have hb:b≠M.mu o:=fun eq=>by subst eq;rw[r.jv o ho q]at e;cases e
  rw[← h3]
  simp[World.cell?,lD b hb]
 ·rw [List.getElem?_set]at e
  split at e
  ·rename_i heq
   subst heq
   simp at e
   obtain⟨_,rfl⟩:=e
   refine⟨iH,T,ig.of (l:=M.loc o) (setRow_heap w (M.mu o) vs iH T (0,0) hh) hk,by rw[qq,hs,sY cs off row iX],⟨fun v hv=>?_,Ut⟩,fun i d v e1 e2=>?_⟩
   ·rw [← da]at hv
    simp at hv
    rcases hv with hv|hv|hv
    ·exact gH v (Array.mem_toList_iff.1 (List.mem_of_mem_take hv))
    ·exact h1 v hv
    ·exact gH v (Array.mem_toList_iff.1 (List.mem_of_mem_drop hv))
   ·rw [qp cs off row iX]at e1
    rw[hY]at e2
    split at e1
    ·rename_i h3;simp only[h3,if_true]at e2;exact(jd i d v e1 e2).mono le
    ·rename_i h3
     simp only[h3,if_false]at e2
     split at e1
     ·rename_i h4;simp only[h4,if_true]at e2;exact(h2 _ d v e1 e2).mono le
     ·rename_i h4;simp only[h4,if_false]at e2;exact(jd i d v e1 e2).mono le
  ·rename_i eK
   obtain⟨fu,T',h3,h4,h5,h6⟩:=r.obj o' ds e
   have nc:o'<s.ah.length:=(List.getElem?_eq_some_iff.1 e).1
   refine⟨fu,T', ?_,h4,h5,fun i d v e1 e2=>(h6 i d v e1 e2).mono le⟩
   exact h3.keep (lD _ (fun eq=>eK (r.inj o o' ho nc eq.symm)))
 ·rcases r.tok t n e with h3 | ⟨b,cap,size,fu,T',h3,h4,h5⟩
  ·exact .inl h3
  ·refine .inr ⟨b,cap,size,fu,T',h3, ?_,h5⟩
   rw[lD b (fun eq=>r.eZ t b cap size o ⟨n,e⟩ h3 ho eq.symm)];exact h4
 ·refine⟨le,fun b hb h3 _=>lD b (fun eq=>h3 o ho eq.symm),fun q h3 h4=> ?_,fun t b c z h e=> .inl ⟨h,c,z,e⟩,fun _ _ h=>(h rfl).elim,by simp,rfl,rfl,rfl⟩
  simp at h4;rcases h3 with h3|h3;omega;exact(h3 rfl).elim
def Map.fy (M:Map) (b n:Nat) (vs:Array Value):Map:= {M with G:=fun b' o=>if b'=b then(if o<n then vs[o]? else none)else M.G b' o}
theorem Oi (r:Rel M s w) (n:Nat) (vs:Array Value):Le M s (M.fy w.heap.size n vs) s:=
 ⟨fun b o v h=>by
  have hb:b≠w.heap.size:=fun e=>by have:=r.zS h;omega
  simp[Map.fy,hb,h],Nat.le_refl _,fun _ _=> .refl _,Nat.le_refl _,fun t n _ h=>⟨n,h,Nat.le_refl _,fun _=>rfl⟩⟩
theorem Rel.fy (r:Rel M s w) (n:Nat) (vs:Array Value) (T:TypeId) (fr:Nat×Nat) (h1 : ∀ v∈vs,v.oneCell'=true) :
 Rel (M.fy w.heap.size n vs) s (w.alloc (.cells vs T fr))∧Ext M s w (M.fy w.heap.size n vs) s (w.alloc (.cells vs T fr)):=by
 have le:=Oi r n vs
 have hold : ∀ b,b<w.heap.size→∀ o,(M.fy w.heap.size n vs).G b o=M.G b o:=fun b hb o=>by
  have:b≠w.heap.size:=by omega
  simp[Map.fy,this]
 refine⟨⟨fun b o v e=>?_,fun o ds e=>?_,fun o ho off=>?_,r.inj,fun t k e=>?_,r.eZ,r.fJ⟩, ?_⟩
 ·by_cases hb:b=w.heap.size
  ·subst hb
   simp[Map.fy]at e
   obtain⟨_,e⟩:=e
   refine⟨by rw[iP (heap_alloc_new w _)];exact e,h1 v (Array.mem_of_getElem? e)⟩
  ·simp [Map.fy,hb]at e
   obtain⟨h3,h4⟩:=r.comm b o v e
   refine⟨?_,h4⟩
   rw[World.cell?_alloc_lt]
   ·exact h3
   ·exact r.zS e
 ·obtain⟨fu,T',h3,h4,h5,h6⟩:=r.obj o ds e
  exact⟨fu,T',h3.keep (heap_alloc_old w _ _ h3.lt),h4,h5,fun i d v e1 e2=>(h6 i d v e1 e2).mono le⟩
 ·rw [hold]
  ·exact r.jv o ho off
  ·exact r.pM ho
 ·rcases r.tok t k e with h3 | ⟨b,cap,size,fu,T',h3,h4,h5,h6,h7⟩
  ·exact .inl h3
  ·exact .inr ⟨b,cap,size,fu,T',h3,by rw[heap_alloc_old w _ _ (jR h4)];exact h4,h5,h6,fun off ho=>by rw[hold b (jR h4)];exact h7.1 off ho,h7.2⟩
 ·refine⟨le,fun b hb _ _=>heap_alloc_old w _ b hb,fun o h3 h4=>by rcases h3 with h3 | h3;omega;exact(h3 rfl).elim,fun t b c z h e=> .inl ⟨h,c,z,e⟩,fun b o h=> ?_,by simp,rfl,rfl,rfl⟩
  rcases Nat.lt_or_ge b w.heap.size with hb|hb
  ·exact(h (hold b hb o)).elim
  ·exact .inl hb
def Map.eB (M:Map) (t:Nat) (x:Option (Nat×Nat×Nat)):Map:= {M with be:=fun t'=>if t'=t then x else M.be t'}
theorem Rel.Uu (r:Rel M s w) (n b cap size:Nat) (vs:Array Value) (T:TypeId) (hb:w.heap[b]? = some (.cells vs T (0,0))) (dK:vs.size=cap*zs size) (hn:n≤cap) (hy:size=0→T=oT)
 (hG : ∀ off,n*zs size≤off→M.G b off=none) (ho : ∀ o,o<s.ah.length→M.mu o≠b) (ht : ∀ t c z,s.live t→M.be t≠some (b,c,z)) :
 Rel (M.eB s.av.length (some (b,cap,size))) {s with av:=s.av++ [some n]} w∧Le M s (M.eB s.av.length (some (b,cap,size))) {s with av:=s.av++ [some n]}:=by
 have ij : ∀ t,St.live {s with av:=s.av++ [some n]} t→s.live t∨t=s.av.length:=by
  rintro t ⟨k,hk⟩
  rcases Nat.lt_or_ge t s.av.length with h|h
  ·rw[List.getElem?_append_left h]at hk;exact .inl ⟨k,hk⟩
  ·have:=(List.getElem?_eq_some_iff.1 hk).1
   simp at this;exact .inr (by omega)
 have hD : ∀ t,s.live t→t<s.av.length:=fun t ⟨k,hk⟩=>(List.getElem?_eq_some_iff.1 hk).1
 have hold : ∀ t,t<s.av.length→(M.eB s.av.length (some (b,cap,size))).be t=M.be t:=fun t h=>by simp[Map.eB];omega
 have da:(M.eB s.av.length (some (b,cap,size))).be s.av.length=some (b,cap,size):=by simp[Map.eB]
 have le:Le M s (M.eB s.av.length (some (b,cap,size))) {s with av:=s.av++ [some n]}:=
  ⟨fun _ _ _ h=>h,Nat.le_refl _,fun _ _=> .refl _,by simp,fun t k h e=>by
   rw[List.getElem?_append_left h]at e
   exact⟨k,e,Nat.le_refl _,fun _=>hold t h⟩⟩
 refine⟨⟨r.comm,fun o ds e=>?_,r.jv,r.inj,fun t k e=>?_,fun t b' c z o hl e nc=>?_,fun t t' b' c z c' z' h h' e e'=>?_⟩,le⟩
 ·obtain⟨fu,T',h3,h4,h5,h6⟩:=r.obj o ds e
  exact⟨fu,T',h3,h4,h5,fun i d v e1 e2=>(h6 i d v e1 e2).mono le⟩
 ·rcases Nat.lt_or_ge t s.av.length with h | h
  ·rw [List.getElem?_append_left h]at e
   rw[hold t h];exact r.tok t k e
  ·have:=(List.getElem?_eq_some_iff.1 e).1
   simp at this
   have:t=s.av.length:=by omega
   subst this
   simp at e;subst e
   exact .inr ⟨b,cap,size,vs,T,da,hb,dK,hn,hG,hy⟩
 ·rcases ij t hl with h | h
  ·rw[hold t (hD t h)]at e;exact r.eZ t b' c z o h e nc
  ·subst h;rw[da]at e;cases e;exact ho o nc
 ·rcases ij t h with h | h <;> rcases ij t' h' with h' | h'
  ·rw[hold t (hD t h)]at e;rw[hold t' (hD t' h')]at e';exact r.fJ t t' b' c z c' z' h h' e e'
  ·subst h';rw[da]at e';cases e';rw[hold t (hD t h)]at e;exact(ht t c z h e).elim
  ·subst h;rw[da]at e;cases e;rw[hold t' (hD t' h')]at e';exact(ht t' c' z' h' e').elim
  ·omega
theorem Rel.ac9 (r:Rel M s w) (t n n' b cap size:Nat) (vs:Array Value) (T:TypeId) (Df:s.av[t]? = some (some n)) (hnn:n<n') (hb:w.heap[b]? = some (.cells vs T (0,0))) (dK:vs.size=cap*zs size) (hn:n'≤cap) (hy:size=0→T=oT)
 (hG : ∀ off,n'*zs size≤off→M.G b off=none) (ho : ∀ o,o<s.ah.length→M.mu o≠b) (ht : ∀ t c z,s.live t→M.be t≠some (b,c,z)) :
 Rel (M.eB t (some (b,cap,size))) {s with av:=s.av.set t (some n')} w∧Le M s (M.eB t (some (b,cap,size))) {s with av:=s.av.set t (some n')}:=by
 have w5:t<s.av.length:=(List.getElem?_eq_some_iff.1 Df).1
 have ij : ∀ q,St.live {s with av:=s.av.set t (some n')} q→s.live q:=by
  rintro q ⟨k,hk⟩
  rw[List.getElem?_set]at hk
  split at hk
  ·rename_i h;subst h;exact⟨n,Df⟩
  ·exact⟨k,hk⟩
 have hold : ∀ q,q≠t→(M.eB t (some (b,cap,size))).be q=M.be q:=fun q h=>by simp[Map.eB,h]
 have da:(M.eB t (some (b,cap,size))).be t=some (b,cap,size):=by simp[Map.eB]
 have le:Le M s (M.eB t (some (b,cap,size))) {s with av:=s.av.set t (some n')}:=
  ⟨fun _ _ _ h=>h,Nat.le_refl _,fun _ _=> .refl _,by simp,fun q k h e=>by
   rw[List.getElem?_set]at e
   split at e
   ·rename_i h2;subst h2
    simp at e;subst e
    exact⟨n,Df,by omega,fun h=>by omega⟩
   ·rename_i h2
    exact⟨k,e,Nat.le_refl _,fun _=>hold q (fun h=>h2 h.symm)⟩⟩
 refine⟨⟨r.comm,fun o ds e=>?_,r.jv,r.inj,fun q k e=>?_,fun q b' c z o hl e nc=>?_,fun q q' b' c z c' z' h h' e e'=>?_⟩,le⟩
 ·obtain⟨fu,T',h3,h4,h5,h6⟩:=r.obj o ds e
  exact⟨fu,T',h3,h4,h5,fun i d v e1 e2=>(h6 i d v e1 e2).mono le⟩
 ·rw [List.getElem?_set]at e
  split at e
  ·rename_i h2;subst h2
   simp at e;subst e
   exact .inr ⟨b,cap,size,vs,T,da,hb,dK,hn,hG,hy⟩
  ·rename_i h2
   rw[hold q (fun h=>h2 h.symm)];exact r.tok q k e
 ·by_cases h:q=t
  ·subst h;rw[da]at e;cases e;exact ho o nc
  ·rw[hold q h]at e;exact r.eZ q b' c z o (ij q hl) e nc
 ·by_cases h1:q=t <;> by_cases h2:q'=t
  ·omega
  ·subst h1;rw[da]at e;cases e;rw[hold q' h2]at e';exact(ht q' c' z' (ij q' h') e').elim
  ·subst h2;rw[da]at e';cases e';rw[hold q h1]at e;exact(ht q c z (ij q h) e).elim
  ·rw[hold q h1]at e;rw[hold q' h2]at e';exact r.fJ q q' b' c z c' z' (ij q h) (ij q' h') e e'
def Map.fix (M:Map) (b lo:Nat) (us:List Value):Map:=
 {M with G:=fun b' o=>if b'=b∧lo≤o∧o<lo+us.length then us[o - lo]? else M.G b' o}
theorem Rel.ada (r:Rel M s w) (t n m b cap z size:Nat) (us:List Value) (hz:zs z=size) (Df:s.av[t]? = some (some n)) (ku:M.be t=some (b,cap,z)) (BU:us.length=m*size) (qs:n+m≤cap) (hm:0<m)
 (h1 : ∀ u∈us,u.oneCell'=true) (vs:Array Value) (T:TypeId) (hh:w.heap[b]? = some (.cells vs T (0,0))) (dK:vs.size=cap*size) (hy:z=0→T=oT) :
 Rel (M.fix b (n*size) us) {s with av:=s.av.set t (some (n+m))} (w.setRow b (vs.toList.take (n*size)++us++vs.toList.drop (n*size+us.length)).toArray)∧
 Ext M s w (M.fix b (n*size) us) {s with av:=s.av.set t (some (n+m))} (w.setRow b (vs.toList.take (n*size)++us++vs.toList.drop (n*size+us.length)).toArray):=by
 have w5:t<s.av.length:=(List.getElem?_eq_some_iff.1 Df).1
 have w6:s.live t:=⟨n,Df⟩
 have Lf : ∀ off,n*size≤off→M.G b off=none:=by
  rcases r.tok t n Df with ⟨h3,_⟩|⟨b',pX,xT,fu,T',h3,h4,h5,h6,h7⟩
  ·rw[ku]at h3;cases h3
  ·rw[ku]at h3;cases h3;rw[← hz];exact h7.1
 have iX:n*size+us.length≤vs.size:=by rw[BU,dK, ← Nat.add_mul];exact Nat.mul_le_mul_right _ qs
 have ij : ∀ q,St.live {s with av:=s.av.set t (some (n+m))} q→s.live q:=by
  rintro q ⟨k,hk⟩
  rw[List.getElem?_set]at hk
  split at hk
  ·rename_i h;subst h;exact w6
  ·exact⟨k,hk⟩
 generalize da:(vs.toList.take (n*size)++us++vs.toList.drop (n*size+us.length)).toArray=iH
 have qq:iH.size=vs.size:=by rw[← da];simp;omega
 have hY : ∀ i,iH[i]? = if i<n*size then vs[i]? else if i<n*size+us.length then us[i - n*size]? else vs[i]? :=by
  intro i
  rw[← da]
  simp only[List.getElem?_toArray]
  have hl:(vs.toList.take (n*size)).length=n*size:=by simp;omega
  split
  ·rename_i h3
   rw[List.append_assoc,List.getElem?_append_left (by omega),List.getElem?_take_of_lt h3];simp
  ·rename_i h3
   rw[List.append_assoc,List.getElem?_append_right (by omega),hl]
   split
   ·rename_i h4
    rw[List.getElem?_append_left (by omega)]
   ·rename_i h4
    rw[List.getElem?_append_right (by omega),List.getElem?_drop]
    rw[show n*size+us.length+(i - n*size - us.length)=i by omega];simp
 have dS:(w.setRow b iH).heap[b]? = some (.cells iH T (0,0)):=setRow_heap w b vs iH T (0,0) hh
 have lD : ∀ q,q≠b→(w.setRow b iH).heap[q]? = w.heap[q]? :=fun q hq=>setRow_other w b q _ hq
 have le:Le M s (M.fix b (n*size) us) {s with av:=s.av.set t (some (n+m))}:=by
  refine⟨fun b' o v h=>?_,Nat.le_refl _,fun _ _=> .refl _,by simp,fun q k h e=>?_⟩
  ·show(if b'=b∧n*size≤o∧o<n*size+us.length then us[o - n*size]? else M.G b' o)=some v
   rw[if_neg]
   ·exact h
   ·rintro⟨rfl,h3,_⟩;rw[Lf o h3]at h;cases h
  ·rw [List.getElem?_set]at e
   split at e
   ·rename_i h2;subst h2
    simp at e;subst e
    exact⟨n,Df,by omega,fun h=>by omega⟩
   ·exact⟨k,e,Nat.le_refl _,fun _=>rfl⟩
 have pA : ∀ b' o,b'≠b→(M.fix b (n*size) us).G b' o=M.G b' o:=fun b' o h=>by simp[Map.fix,h]
 refine⟨⟨fun b' o v e=>?_,fun o ds e=>?_,fun o ho off=>?_,r.inj,fun q k e=>?_,fun q b' c z o hl e nc=>r.eZ q b' c z o (ij q hl) e nc,
  fun q q' b' c z c' z' h h' e e'=>r.fJ q q' b' c z c' z' (ij q h) (ij q' h') e e'⟩, ?_⟩
 ·by_cases hb:b'=b
  ·subst hb
   rw[iP dS,hY]
   have e':(if b'=b'∧n*size≤o∧o<n*size+us.length then us[o - n*size]? else M.G b' o)=some v:=e
   by_cases h3:n*size≤o
   ·by_cases h4:o<n*size+us.length
    ·rw [if_pos ⟨rfl,h3,h4⟩]at e'
     rw[if_neg (by omega),if_pos h4]
     exact⟨e',h1 v (List.mem_of_getElem? e')⟩
    ·rw[if_neg (fun h=>h4 h.2.2),Lf o h3]at e';cases e'
   ·rw [if_neg (fun h=>h3 h.2.1)]at e'
    obtain⟨h5,h6⟩:=r.comm b' o v e'
    rw[iP hh]at h5
    rw[if_pos (by omega)]
    exact⟨h5,h6⟩
  ·rw [pA b' o hb]at e
   obtain⟨h5,h6⟩:=r.comm b' o v e
   refine⟨?_,h6⟩
   rw[← h5]
   simp[World.cell?,lD b' hb]
 ·obtain⟨fu,T',h3,h4,h5,h6⟩:=r.obj o ds e
  have ho:o<s.ah.length:=(List.getElem?_eq_some_iff.1 e).1
  refine⟨fu,T', ?_,h4,h5,fun i d v e1 e2=>(h6 i d v e1 e2).mono le⟩
  exact h3.keep (lD _ (r.eZ t b cap z o w6 ku ho))
 ·show(M.fix b (n*size) us).G (M.mu o) off=none
  rw[pA _ _ (r.eZ t b cap z o w6 ku ho)];exact r.jv o ho off
 ·rw [List.getElem?_set]at e
  split at e
  ·rename_i h2;subst h2
   simp at e;subst e
   refine .inr ⟨b,cap,z,iH,T,ku,dS,by rw[qq,dK,hz],qs,fun off ho=>?_,hy⟩
   rw[hz]at ho
   show(if b=b∧n*size≤off∧off<n*size+us.length then us[off - n*size]? else M.G b off)=none
   rw[Nat.add_mul]at ho
   rw[if_neg (by rintro⟨_,_,h⟩;omega)]
   exact Lf off (by omega)
  ·rename_i h2
   rcases r.tok q k e with h3|⟨b',pX,xT,fu,T',h3,h4,h5,h6,h7⟩
   ·exact .inl h3
   ·have eK:b'≠b:=fun h=>h2 (r.fJ t q b cap z pX xT w6 ⟨k,e⟩ ku (by rw [h3,h]))
    exact .inr ⟨b',pX,xT,fu,T',h3,by rw[lD b' eK];exact h4,h5,h6,fun off ho=>by rw[pA b' off eK];exact h7.1 off ho,h7.2⟩
 ·refine⟨le,fun q _ _ h4=>lD q (fun h=>h4 t cap z w6 (by rw [ku,h])),fun o h3 h4=>by simp at h4;rcases h3 with h3 | h3;omega;exact(h3 rfl).elim,fun q b' c z h e=> .inl ⟨ij q h,c,z,e⟩,fun b' o h=> ?_,by simp,rfl,rfl,rfl⟩
  by_cases hb:b'=b
  ·exact .inr ⟨t,cap,z,w6,by rw[ku,hb]⟩
  ·exact(h (pA b' o hb)).elim
theorem Rel.freeze (r:Rel M s w) {b:Nat} (off n:Nat) (ho : ∀ o,o<s.ah.length→M.mu o≠b) (ht : ∀ t c z,s.live t→M.be t≠some (b,c,z)) :
 Rel M s (w.freeze ⟨b,off,none⟩ n)∧(∀ q,q≠b→(w.freeze ⟨b,off,none⟩ n).heap[q]? = w.heap[q]?)∧(w.freeze ⟨b,off,none⟩ n).heap.size=w.heap.size∧
 (w.freeze ⟨b,off,none⟩ n).os=w.os∧(w.freeze ⟨b,off,none⟩ n).tape=w.tape∧(w.freeze ⟨b,off,none⟩ n).output=w.output:=by
 by_cases hn:n=0
 ·simp[World.freeze,hn,r]
 ·have hh : ∀ q,q≠b→(w.freeze ⟨b,off,none⟩ n).heap[q]? = w.heap[q]? :=fun q hq=>by
   simp[World.freeze,hn,Array.getElem?_modify,Ne.symm hq]
  have ik : ∀ q o,(w.freeze ⟨b,off,none⟩ n).cell? ⟨q,o,none⟩=w.cell? ⟨q,o,none⟩:=by
   intro q o
   by_cases hq:q=b
   ·subst hq
    unfold World.cell?
    simp only[World.freeze,hn,if_false,Array.getElem?_modify,if_true]
    cases h:w.heap[q]? with
    |none=>rfl
    |some x=>cases x<;>rfl
   ·simp[World.cell?,hh q hq]
  refine⟨⟨fun q o v e=>?_,fun o ds e=>?_,r.jv,r.inj,fun t k e=>?_,r.eZ,r.fJ⟩,hh,by simp[World.freeze,hn],by simp[World.freeze,hn],by simp[World.freeze,hn],by simp[World.freeze,hn]⟩
  ·rw[ik];exact r.comm q o v e
  ·obtain⟨vs,T,h1,h2⟩:=r.obj o ds e
   exact⟨vs,T,h1.keep (hh _ (ho o (List.getElem?_eq_some_iff.1 e).1)),h2⟩
  ·rcases r.tok t k e with h3 | ⟨b',cap,size,vs,T,h3,h4,h5⟩
   ·exact .inl h3
   ·refine .inr ⟨b',cap,size,vs,T,h3, ?_,h5⟩
    rw[hh]
    ·exact h4
    ·rintro rfl;exact ht t cap size ⟨k,e⟩ h3
theorem Rel.adb (r:Rel M s w) (t:Nat):Rel M {s with av:=s.av.set t none} w∧Le M s M {s with av:=s.av.set t none}:=by
 have ij : ∀ q,St.live {s with av:=s.av.set t none} q→s.live q:=by
  rintro q ⟨k,hk⟩
  rw[List.getElem?_set]at hk
  split at hk
  ·split at hk<;>simp at hk
  ·exact⟨k,hk⟩
 have sZ : ∀ (q k:Nat),(s.av.set t none)[q]? = some (some k)→s.av[q]? = some (some k):=by
  intro q k e
  rw[List.getElem?_set]at e
  split at e
  ·split at e<;>simp at e
  ·exact e
 have le:Le M s M {s with av:=s.av.set t none}:=
  ⟨fun _ _ _ h=>h,Nat.le_refl _,fun _ _=> .refl _,by simp,fun q k _ e=>⟨k,sZ q k e,Nat.le_refl _,fun _=>rfl⟩⟩
 refine⟨⟨r.comm,fun o ds e=>?_,r.jv,r.inj,fun q k e=>r.tok q k (sZ q k e),fun q b' c z o hl e nc=>r.eZ q b' c z o (ij q hl) e nc,
  fun q q' b' c z c' z' h h' e e'=>r.fJ q q' b' c z c' z' (ij q h) (ij q' h') e e'⟩,le⟩
 obtain⟨fu,T',h3,h4,h5,h6⟩:=r.obj o ds e
 exact⟨fu,T',h3,h4,h5,fun i d v e1 e2=>(h6 i d v e1 e2).mono le⟩
end
end Go.Abs
namespace Go.Abs
section
variable {M:Map} {s:St} {w:World}
theorem RD.gT {k:IntKind} {n:Int} {v:Value} (h:RD M s (.int k n) v):v = .int k n:=by cases h;rfl
theorem RD.nu {b:Bool} {v:Value} (h:RD M s (.bool b) v):v = .bool b:=by cases h;rfl
theorem RD.kT {l:List UInt8} {v:Value} (h:RD M s (.str l) v):v = .string ⟨⟨l⟩⟩:=by cases h;rfl
theorem RD.rz {v:Value} (h:RD M s .dN v):v = .pointer none:=by cases h;rfl
theorem RD.rA {o off:Nat} {v:Value} (h:RD M s (.ptr o off) v):v = .pointer (some ⟨M.mu o,off,none⟩)∧o<s.ah.length:=by
 cases h with|ptr _ _ h hm=>exact⟨rfl,h⟩
theorem RD.zT {o off:Nat} {v:Value} (h:RD M s (.ptr o off) v):(M.ob o).plain:=by cases h with|ptr _ _ h hm=>exact hm
theorem RD.Hc {o:Nat} {v:Value} (h:RD M s (.fI o) v):v = .map (some (M.mu o))∧o<s.ah.length∧M.ob o = .map:=by cases h with|fI _ h hm=>exact⟨rfl,h,hm⟩
theorem RD.w7 {z o g len:Nat} {v:Value} (h:RD M s (.dW z o g len) v) : ∃ b cap A,v = .slice (some ⟨b,0,none⟩) len cap∧o<s.ah.length∧M.ob o = .arr z A∧A g=some (b,cap)∧len≤cap:=by
 cases h with|dW _ _ _ _ b cap A h hm ha hl=>exact⟨b,cap,A,rfl,h,hm,ha,hl⟩
theorem RD.Ck {o g off:Nat} {v:Value} (h:RD M s (.fc o g off) v) : ∃ z b cap A,v = .pointer (some ⟨b,off,none⟩)∧o<s.ah.length∧M.ob o = .arr z A∧A g=some (b,cap):=by
 cases h with|fc z _ _ _ b cap A h hm ha=>exact⟨z,b,cap,A,rfl,h,hm,ha⟩
theorem RD.Cl {z:Nat} {v:Value} (h:RD M s (.dU z) v) : ∃ a,v = .slice a 0 0:=by cases h with|dU _ a=>exact⟨a,rfl⟩
theorem RD.Kg {f:Nat} {ds:List D} {v:Value} (h:RD M s (.fS f ds) v) : ∃ vs:Array Value,v = .func (.func f) #[] vs∧ds.length=vs.size∧
 ∀ (i:Nat) (d:D) (v:Value),ds[i]? = some d→vs[i]? = some v→RD M s d v:=by
 cases h with|fS _ _ vs h1 h2=>exact⟨vs,rfl,h1,h2⟩
theorem RD.xU {row:List D} {off:Nat} {v:Value} (h:RD M s (.dt row off) v) : ∃ b k,v = .pointer (some ⟨b,k+off,none⟩)∧
 (∀ (i:Nat) (d:D),row[i]? = some d→∃ u,M.G b (k+i)=some u)∧(∀ (i:Nat) (d:D) (u:Value),row[i]? = some d→M.G b (k+i)=some u→RD M s d u):=by
 cases h with|dt _ _ b k h1 h2=>exact⟨b,k,rfl,h1,h2⟩
theorem RD.Ep {ds:List D} {v:Value} (h:RD M s (.agg ds) v) : ∃ vs:Array Value,v = .agg vs∧ds.length=vs.size∧(∀ v∈vs,v.oneCell'=true)∧
 ∀ (i:Nat) (d:D) (v:Value),ds[i]? = some d→vs[i]? = some v→RD M s d v:=by
 cases h with|agg _ vs h1 h2 h3=>exact⟨vs,rfl,h1,h2,h3⟩
theorem RD.Fi {ds:List D} {v:Value} (h:RD M s (.tuple ds) v) : ∃ vs:Array Value,v = .tuple vs∧ds.length=vs.size∧
 ∀ (i:Nat) (d:D) (v:Value),ds[i]? = some d→vs[i]? = some v→RD M s d v:=by
 cases h with|tuple _ vs h1 h2=>exact⟨vs,rfl,h1,h2⟩
theorem RD.undef:RD M s (.tuple []) Go.undef:= .tuple [] #[] rfl (fun i d v h=>by simp at h)
theorem RD.iQ {g:Tag} {z:Nat} {rows:List (List D)} {v:Value} (h:RD M s (.slice g z rows) v) :
 (rows = []∧v = .slice none 0 0∧iB M s g z 0 none 0)∨(rows = []∧g = .shared∧∃ a cap,v = .slice (some a) 0 cap)∨
 ∃ b k cap,v = .slice (some ⟨b,k,none⟩) rows.length cap∧rows.length≤cap∧(∀ row∈rows,row.length=z)∧
  (∀ (i:Nat) (row:List D) (j:Nat) (d:D),rows[i]? = some row→row[j]? = some d→∃ u,M.G b (k+(i*z+j))=some u)∧
  (∀ (i:Nat) (row:List D) (j:Nat) (d:D) (u:Value),rows[i]? = some row→row[j]? = some d→M.G b (k+(i*z+j))=some u→RD M s d u)∧
  iB M s g z rows.length (some (b,k)) cap:=by
 cases h with
 |iz _ _ cap hc ht=>subst hc;exact .inl ⟨rfl,rfl,ht⟩
 |k6 _ a cap=>exact .inr (.inl ⟨rfl,rfl,a,cap,rfl⟩)
 |slice _ _ _ b k cap hl hs h1 h2 ht=>exact .inr (.inr ⟨b,k,cap,rfl,hl,hs,h1,h2,ht⟩)
theorem RD.row {d:D} {v:Value} (h:RD M s d v) {r:List D} (hr:d.row=some r):v.cells.size=r.length∧(∀ u∈v.cells,u.oneCell'=true)∧
 ∀ (i:Nat) (d':D) (u:Value),r[i]? = some d'→v.cells[i]? = some u→RD M s d' u:=by
 have one : ∀ (x:Value),x.oneCell'=true→x.cells = #[x]:=by intro x hx;cases x<;>first|rfl|(simp[Value.oneCell']at hx)
 have go : ∀ (x:Value),x.oneCell'=true→RD M s d x→d.row=some [d]→x.cells.size=r.length∧(∀ u∈x.cells,u.oneCell'=true)∧
  ∀ (i:Nat) (d':D) (u:Value),r[i]? = some d'→x.cells[i]? = some u→RD M s d' u:=by
  intro x hx hd h1
  rw[h1]at hr;cases hr
  rw[one x hx]
  refine⟨rfl,by simp[hx],fun i d' u e1 e2=>?_⟩
  cases i with
  |zero=>simp at e1 e2;subst e1;subst e2;exact hd
  |succ i=>simp at e1
 cases h with
 |junk v=>cases hr
 |int k n=>exact go _ rfl (.int k n) rfl
 |bool b=>exact go _ rfl (.bool b) rfl
 |str l=>exact go _ rfl (.str l) rfl
 |dN=>exact go _ rfl .dN rfl
 |val v hv=>exact go _ hv (.val v hv) rfl
 |fb T o v h ht hv=>exact go _ (by rcases hv with rfl|rfl<;>rfl) (.fb T o v h ht hv) rfl
 |ptr o off h hm=>exact go _ rfl (.ptr o off h hm) rfl
 |fS f ds vs hl h=>exact go _ rfl (.fS f ds vs hl h) rfl
 |fI o h hm=>exact go _ rfl (.fI o h hm) rfl
 |dt row off b k h1 h2=>exact go _ rfl (.dt row off b k h1 h2) rfl
 |iz g z cap hc ht=>exact go _ rfl (.iz g z cap hc ht) rfl
 |k6 z a cap=>exact go _ rfl (.k6 z a cap) rfl
 |slice g z rows b k cap hl hs h1 h2 ht=>exact go _ rfl (.slice g z rows b k cap hl hs h1 h2 ht) rfl
 |dW z o g len b cap A h hm ha hl=>exact go _ rfl (.dW z o g len b cap A h hm ha hl) rfl
 |fc z o g off b cap A h hm ha=>exact go _ rfl (.fc z o g off b cap A h hm ha) rfl
 |dU z a=>exact go _ rfl (.dU z a) rfl
 |agg cells vs hl h1 h2=>cases hr;exact⟨hl.symm,h1,h2⟩
 |tuple ds vs hl h1=>cases hr
theorem pN {v:Value} {d:D} (h:rr v=some d):RD M s d v∧v.oneCell'=true:=by
 unfold rr at h
 split at h<;>first|(cases h;done)|skip
 ·cases h;exact⟨.int _ _,rfl⟩
 ·cases h;exact⟨.bool _,rfl⟩
 ·cases h;exact⟨.str _,rfl⟩
 ·cases h;exact⟨.dN,rfl⟩
 ·cases h;exact⟨.iz _ _ 0 rfl rfl,rfl⟩
 ·cases h;exact⟨.val _ rfl,rfl⟩
 ·cases h;exact⟨.val _ rfl,rfl⟩
 ·cases h;exact⟨.val _ rfl,rfl⟩
theorem kU : ∀ {vs:List Value} {ds:List D},nr vs=some ds→ds.length=vs.length∧(∀ v∈vs,v.oneCell'=true)∧
 ∀ (i:Nat) (d:D) (v:Value),ds[i]? = some d→vs[i]? = some v→RD M s d v
 | [],ds,h=>by cases h;exact⟨rfl,by simp,by simp⟩
 | v::r,ds,h=>by
  unfold nr at h
  split at h
  ·rename_i d na h1 h2
   cases h
   obtain⟨a,b⟩:=pN (M:=M) (s:=s) h1
   obtain⟨i1,i2,i3⟩:=kU h2
   refine⟨by simp[i1],fun u hu=>?_,fun i d' u e1 e2=>?_⟩
   ·rcases List.mem_cons.1 hu with rfl | hu
    ·exact b
    ·exact i2 u hu
   ·cases i with
    |zero=>simp at e1 e2;subst e1;subst e2;exact a
    |succ i=>simp at e1 e2;exact i3 i d' u e1 e2
  ·cases h
theorem Er {v:Value} {d:D} (h:Ci v=some d):RD M s d v∧v.oneCell'=true:=by
 unfold Ci at h
 split at h
 ·cases h;exact⟨.val _ rfl,rfl⟩
 ·exact pN h
theorem vu : ∀ {vs:List Value} {ds:List D},vt vs=some ds→ds.length=vs.length∧(∀ v∈vs,v.oneCell'=true)∧
 ∀ (i:Nat) (d:D) (v:Value),ds[i]? = some d→vs[i]? = some v→RD M s d v
 | [],ds,h=>by cases h;exact⟨rfl,by simp,by simp⟩
 | v::r,ds,h=>by
  unfold vt at h
  split at h
  ·rename_i d na h1 h2
   cases h
   obtain⟨g1,g2⟩:=Er (M:=M) (s:=s) h1
   obtain⟨k1,k2,k3⟩:=vu h2
   refine⟨by simp[k1],fun u hu=>?_,fun i d' u e1 e2=>?_⟩
   ·rcases List.mem_cons.1 hu with rfl | hu
    ·exact g2
    ·exact k2 u hu
   ·cases i with
    |zero=>simp at e1 e2;subst e1;subst e2;exact g1
    |succ i=>exact k3 i d' u (by simpa using e1) (by simpa using e2)
  ·cases h
theorem BV {b:Bool} {vs:List Value} {ds:List D} (h:Lb b vs=some ds):ds.length=vs.length∧(∀ v∈vs,v.oneCell'=true)∧
 ∀ (i:Nat) (d:D) (v:Value),ds[i]? = some d→vs[i]? = some v→RD M s d v:=by
 unfold Lb at h
 split at h
 ·exact vu h
 ·exact kU h
theorem Lg {v:Value} {d:D} (h:K9 v=some d):RD M s d v:=by
 unfold K9 at h
 split at h
 ·rename_i cs
  cases hc:nr cs.toList with
  |none=>rw[hc]at h;cases h
  |some ds=>
   rw[hc]at h;cases h
   obtain⟨h1,h2,h3⟩:=kU (M:=M) (s:=s) hc
   exact .agg ds cs (by simpa using h1) (fun v hv=>h2 v (by simpa using hv)) (fun i d v e1 e2=>h3 i d v e1 (by simpa using e2))
 ·cases h;exact .undef
 ·exact(pN h).1
def lE (M:Map) (s:St) (tm:Tm) (tmps:Array Value):Prop:=∀ t,RD M s (tm.get t) (tmps.getD t Go.undef)
theorem lE.mono {M':Map} {s':St} {tm:Tm} {tmps:Array Value} (h:lE M s tm tmps) (le:Le M s M' s'):lE M' s' tm tmps:=fun t=>(h t).mono le
theorem bM {x:Operand} {y:X} (h:cX x=some y) {tm:Tm} {act:Act} (hr:lE M s tm act.tmps):RD M s (y.ev tm) (act.eval x):=by
 unfold cX at h
 split at h
 ·cases h;exact hr _
 ·rename_i v
  cases hv:K9 v with
  |none=>rw[hv]at h;cases h
  |some d=>rw[hv]at h;cases h;exact Lg hv
 ·cases h;exact .fS _ [] #[] rfl (by simp)
 ·cases h
theorem Tm.Es (tm:Tm) (t:Nat) (d:D) (u:Nat):(tm.set t d).get u=if u=t then d else tm.get u:=by
 induction tm with
 |nil=>
  simp only[Tm.set,Tm.get]
  by_cases h:t=u
  ·simp[h]
  ·rw[if_neg h,if_neg (fun e=>h e.symm)]
 | cons p r ih=>
  obtain⟨k,e⟩:=p
  simp only[Tm.set]
  split
  ·rename_i h
   subst h
   simp only[Tm.get]
   by_cases h:k=u
   ·simp[h]
   ·rw[if_neg h,if_neg (fun e=>h e.symm),if_neg h]
  ·rename_i h
   simp only[Tm.get,ih]
   by_cases h1:k=u
   ·subst h1;simp[h]
   ·simp[h1]
theorem lE.put {tm:Tm} {act:Act} (h:lE M s tm act.tmps) {dst:Option Nat} (hd : ∀ t,dst=some t→t<act.tmps.size) {d:D} {v:Value} (hv:RD M s d v) :
 lE M s (tm.put dst d) (act.put dst v).tmps:=by
 intro u
 cases dst with
 |none=>exact h u
 | some t=>
  simp only[Tm.put,Act.put,Tm.Es]
  have ht:=hd t rfl
  by_cases hu:u=t
  ·subst hu
   simp[ht];exact hv
  ·rw [if_neg hu]
   have:=h u
   simpa[Array.getElem?_setIfInBounds_ne (fun e=>hu e.symm)]using this
theorem fL (P:Program) {t:TypeId} {i:TypeInfo} (h:P.info? t=some i) (w:World):(typeInfo t).run P w = .ok i w:=by
 simp[typeInfo,h]
theorem lQ (b o n:Nat):Addr.add ⟨b,o,none⟩ n = ⟨b,o+n,none⟩:=Addr.add_lit b o n
theorem xV (P:Program) {t:TypeId} {i:TypeInfo} {agg:Bool} (hi:P.info? t=some i) (ha:qn P t=some agg) (b k:Nat) (us:List Value)
 (hl:us.length=if agg then i.size else 1) (h : ∀ (j:Nat) (u:Value),us[j]? = some u→w.cell? ⟨b,k+j,none⟩=some u) :
 (loadVar t ⟨b,k,none⟩).run P w = .ok (if agg then .agg us.toArray else us.getD 0 Go.undef) w:=by
 have zU:(isAgg t).run P w = .ok agg w:=by
  unfold qn at ha
  unfold isAgg
  cases hu:P.underlying t with
  |none=>rw[hu]at ha;cases ha
  |some d=>
   rw[hu]at ha
   simp only[Sem.run_bind,run_underlying hu,Result.andThen_ok]
   cases d<;>simp_all
 cases agg with
 |true=>
  simp only[if_true]at hl ⊢
  have hc:=run_loadCells_list (P:=P) w ⟨b,k,none⟩ us (fun j v e=>by rw[lQ];exact h j v e)
  simp[loadVar,zU,sizeOf,fL P hi, ← hl,hc]
 | false=>
  simp only[Bool.false_eq_true,if_false]at hl ⊢
  match us,hl with
  | [u],_=>
   have:=h 0 u rfl
   simp only[Nat.add_zero]at this
   simp[loadVar,zU,this]
theorem qc {cs:List D} {off:Nat} {agg:Bool} {size:Nat} {d:D} (h:part cs off agg size=some d) :
 (agg=true∧off+size≤cs.length∧d = .agg ((cs.drop off).take size))∨(agg=false∧cs[off]? = some d):=by
 unfold part at h
 split at h
 ·split at h
  ·cases h;exact .inl ⟨rfl, ‹_›,rfl⟩
  ·cases h
 ·exact .inr ⟨rfl,h⟩
theorem qt {cs:List D} {off size:Nat} {agg:Bool} {d:D} (h:part cs off agg size=some d) (us:List Value) (hl:us.length=if agg then size else 1)
 (gH:agg=true→∀ u∈us,u.oneCell'=true)
 (hr : ∀ (j:Nat) (d:D) (u:Value),cs[off+j]? = some d→us[j]? = some u→RD M s d u):RD M s d (if agg then .agg us.toArray else us.getD 0 Go.undef):=by
 rcases qc h with ⟨rfl,h1,rfl⟩|⟨rfl,h1⟩
 ·simp only [if_true]at hl ⊢
  refine .agg _ _ (by simp[hl];omega) (fun v hv=>gH rfl v (by simpa using hv)) (fun i d v e1 e2=>?_)
  rw[List.getElem?_take]at e1
  split at e1
  ·rw [List.getElem?_drop]at e1
   exact hr i d v e1 (by simpa using e2)
  ·cases e1
 ·simp only [Bool.false_eq_true,if_false]at hl ⊢
  match us,hl with
  | [u],_=>exact hr 0 d u (by simpa using h1) rfl
end
end Go.Abs
namespace Go.Abs
def cJ (P:Program) (M:Map) (s:St) (w:World) (x:Sem Next) (d:D) (s':St):Prop:=
 ∃ v w' M',(x.run P w = .ok (.value v) w'∨(x.run P w = .ok .skip w'∧v=Go.undef))∧Rel M' s' w'∧RD M' s' d v∧Ext M s w M' s' w'
section
variable {P:Program} {M:Map} {s:St} {w:World}
theorem cJ.pure {x:Sem Next} {d:D} {v:Value} (r:Rel M s w) (h:x.run P w = .ok (.value v) w) (hd:RD M s d v):cJ P M s w x d s:=
 ⟨v,w,M, .inl h,r,hd,Ext.refl M s w⟩
theorem Lh (r:Rel M s w) {t:TypeId} {z:List D} (hz:zeroOf P t=some z) :
 cJ P M s w (do pure (.value (← Instr.alloc t true (.tuple #[])))) (.ptr s.ah.length 0) {s with ah:=s.ah++ [z]}:=by
 unfold zeroOf at hz
 split at hz
 ·rename_i i hi
  split at hz
  ·rename_i v hv
   split at hz
   ·rename_i dK
    obtain⟨h1,h2,h3⟩:=kU (M:=M) (s:=s) hz
    obtain⟨r',e'⟩:=r.dJ z v.cells t (by rw[h1];simp) (fun u hu=>h2 u (by simpa using hu)) (fun i d u e1 e2=>h3 i d u e1 (by simpa using e2))
    refine⟨_,_,_, .inl ?_,r', .ptr _ _ (by simp) (by simp[Map.dJ,Map.ob,Ob.plain]),e'⟩
    simp[Instr.alloc,zeroValue,fL P hi,hv,newVar,newRow,Map.dJ,Map.mu]
   ·cases hz
  ·cases hz
 ·cases hz
theorem Ju (r:Rel M s w) {t:TypeId} {z:List D} (hz:xS P t=some (.dN::z)) :
 cJ P M s w (do pure (.value (← Instr.alloc t true (.tuple #[])))) (.ptr s.ah.length 0) {s with ah:=s.ah++ [.fb t s.ah.length::z]}:=by
 unfold xS at hz
 split at hz
 ·rename_i i hi
  split at hz
  ·rename_i v hv
   split at hz
   ·rename_i dK
    obtain⟨h1,h2,h3⟩:=BV (M:=M) (s:=s) hz
    obtain⟨r',e'⟩:=r.Hb (.fb t s.ah.length::z) v.cells t (.ty t) trivial (fun _ h=>by cases h;rfl) (by simp at h1 ⊢;omega) (fun u hu=>h2 u (by simpa using hu)) (fun i d u e1 e2=>by
     cases i with
     |zero=>
      simp at e1;subst e1
      have:=(h3 0 .dN u rfl (by simpa using e2)).rz
      exact .fb t _ u (by simp) (by simp[Map.dJ,Map.ty,Ob.ty?]) (.inl this)
     |succ i=>exact(h3 (i+1) d u (by simpa using e1) (by simpa using e2)).mono (ry s w.heap.size _ _))
    refine⟨_,_,_, .inl ?_,r', .ptr _ _ (by simp) (by simp[Map.dJ,Map.ob,Ob.plain]),e'⟩
    simp[Instr.alloc,zeroValue,fL P hi,hv,newVar,newRow,Map.dJ,Map.mu]
   ·cases hz
  ·cases hz
 ·cases hz
theorem Rp (r:Rel M s w) {t:TypeId} {d:D} {v:Value} {row:List D} (hd:RD M s d v) (hr:d.row=some row) :
 cJ P M s w (do pure (.value (← Instr.box t v))) (.ptr s.ah.length 0) {s with ah:=s.ah++ [row]}:=by
 obtain⟨h1,h2,h3⟩:=hd.row hr
 obtain⟨r',e'⟩:=r.dJ row v.cells t h1 h2 h3
 refine⟨_,_,_, .inl ?_,r', .ptr _ _ (by simp) (by simp[Map.dJ,Map.ob,Ob.plain]),e'⟩
 simp[Instr.box,newVar,newRow,Map.dJ,Map.mu]
theorem Oj (r:Rel M s w) {t:TypeId} {d:D} {v:Value} {row:List D} (hd:RD M s d v) (hr:d.row=some (.dN::row)) :
 cJ P M s w (do pure (.value (← Instr.box t v))) (.ptr s.ah.length 0) {s with ah:=s.ah++ [.fb t s.ah.length::row]}:=by
 obtain⟨h1,h2,h3⟩:=hd.row hr
 obtain⟨r',e'⟩:=r.Hb (.fb t s.ah.length::row) v.cells t (.ty t) trivial (fun _ h=>by cases h;rfl) (by simp at h1 ⊢;omega) h2 (fun i d u e1 e2=>by
  cases i with
  |zero=>
   simp at e1;subst e1
   have:=(h3 0 .dN u rfl e2).rz
   exact .fb t _ u (by simp) (by simp[Map.dJ,Map.ty,Ob.ty?]) (.inl this)
  |succ i=>exact(h3 (i+1) d u (by simpa using e1) e2).mono (ry s w.heap.size _ _))
 refine⟨_,_,_, .inl ?_,r', .ptr _ _ (by simp) (by simp[Map.dJ,Map.ob,Ob.plain]),e'⟩
 simp[Instr.box,newVar,newRow,Map.dJ,Map.mu]
theorem Gf (r:Rel M s w) {t:TypeId} {i:TypeInfo} {agg:Bool} (hi:P.info? t=some i) (ha:qn P t=some agg) {o off:Nat} {cs:List D} {d:D}
 (ho:s.ah[o]? = some cs) (hk:(M.ob o).plain) (hp:part cs off agg i.size=some d) :
 cJ P M s w (do pure (.value (← Instr.loadAt t (.pointer (some ⟨M.mu o,off,none⟩))))) d s:=by
 obtain⟨vs,T,hh,dK,⟨gH,_⟩,jd⟩:=r.obj o cs ho
 replace hh:w.heap[M.mu o]? = some (.cells vs T (0,0)):=hh.cells hk
 let n:=if agg then i.size else 1
 have iX:off+n≤vs.size:=by
  rcases qc hp with ⟨rfl,h1,_⟩|⟨rfl,h1⟩
  ·simp[n];omega
  ·have:=(List.getElem?_eq_some_iff.1 h1).1;simp[n];omega
 have hlen:((vs.toList.drop off).take n).length=n:=by simp;omega
 have hY : ∀ (j:Nat) (u:Value),((vs.toList.drop off).take n)[j]? = some u→vs[off+j]? = some u:=by
  intro j u h
  rw[List.getElem?_take]at h
  split at h
  ·rw[List.getElem?_drop]at h;simpa using h
  ·cases h
 have dC:=xV (w:=w) P hi ha (M.mu o) off ((vs.toList.drop off).take n) hlen (fun j u h=>by rw[iP hh];exact hY j u h)
 refine cJ.pure (v:=if agg then .agg ((vs.toList.drop off).take n).toArray else((vs.toList.drop off).take n).getD 0 Go.undef) r (by simp[Instr.loadAt,Instr.sureAddr,dC]) ?_
 refine qt hp _ hlen (fun _ u hu=>gH u ?_) (fun j d u e1 e2=>jd _ d u e1 (hY j u e2))
 exact Array.mem_toList_iff.1 (List.mem_of_mem_drop (List.mem_of_mem_take hu))
theorem xW {b:Nat} : ∀ (n k:Nat),(∀ j,j<n→∃ u,M.G b (k+j)=some u)→∃ us:List Value,us.length=n∧∀ (j:Nat) (u:Value),us[j]? = some u→M.G b (k+j)=some u
 | 0,_,_=>⟨[],rfl,fun j u h=>by simp at h⟩
 |n+1,k,h=>by
  obtain⟨u0,h0⟩:=h 0 (by omega)
  obtain⟨us,h1,h2⟩:=xW n (k+1) (fun j hj=>by obtain⟨u,hu⟩:=h (j+1) (by omega);exact⟨u,by rw[show k+1+j=k+(j+1) by omega];exact hu⟩)
  refine⟨u0::us,by simp[h1],fun j u hj=>?_⟩
  cases j with
  |zero=>simp at hj;subst hj;exact h0
  |succ j=>simp at hj;have:=h2 j u hj;rw[show k+(j+1)=k+1+j by omega];exact this
theorem Gg (r:Rel M s w) {t:TypeId} {i:TypeInfo} {agg:Bool} (hi:P.info? t=some i) (ha:qn P t=some agg) {row:List D} {off b k:Nat} {d:D}
 (h1 : ∀ (i:Nat) (d:D),row[i]? = some d→∃ u,M.G b (k+i)=some u) (h2 : ∀ (i:Nat) (d:D) (u:Value),row[i]? = some d→M.G b (k+i)=some u→RD M s d u)
 (hp:part row off agg i.size=some d) :
 cJ P M s w (do pure (.value (← Instr.loadAt t (.pointer (some ⟨b,k+off,none⟩))))) d s:=by
 let n:=if agg then i.size else 1
 have iX:off+n≤row.length:=by
  rcases qc hp with ⟨rfl,h1,_⟩|⟨rfl,h1⟩
  ·simp[n];omega
  ·have:=(List.getElem?_eq_some_iff.1 h1).1;simp[n];omega
 obtain⟨us,hl,BU⟩:=xW (M:=M) (b:=b) n (k+off) (fun j hj=>by
  obtain⟨d,hd⟩ : ∃ d,row[off+j]? = some d:=⟨_,List.getElem?_eq_getElem (by omega)⟩
  obtain⟨u,hu⟩:=h1 _ d hd
  exact⟨u,by rw[show k+off+j=k+(off+j) by omega];exact hu⟩)
 have dC:=xV (w:=w) P hi ha b (k+off) us hl (fun j u h=>(r.comm _ _ _ (BU j u h)).1)
 refine cJ.pure (v:=if agg then .agg us.toArray else us.getD 0 Go.undef) r (by simp[Instr.loadAt,Instr.sureAddr,dC]) ?_
 refine qt hp us hl (fun _ u hu=>?_) (fun j d u e1 e2=>h2 _ d u e1 (by rw[show k+(off+j)=k+off+j by omega];exact BU j u e2))
 obtain⟨j,hj⟩:=List.mem_iff_getElem?.1 hu
 exact(r.comm _ _ _ (BU j u hj)).2
theorem Li (r:Rel M s w) {t:TypeId} {i:TypeInfo} (hi:P.info? t=some i) {o off:Nat} {cs row:List D} {d:D} {v:Value} (ho:s.ah[o]? = some cs) (hk:(M.ob o).plain)
 (hd:RD M s d v) (hr:d.row=some row) (hl:row.length=i.size) (iX:off+i.size≤cs.length) :
 cJ P M s w (do Instr.storeAt t (.pointer (some ⟨M.mu o,off,none⟩)) v;pure .skip) (.tuple []) {s with ah:=s.ah.set o (gY cs off row)}:=by
 obtain⟨h1,h2,h3⟩:=hd.row hr
 obtain⟨w',dC,r',e'⟩:=r.Ld P ho hk row v.cells.toList (by simpa using h1) (by rw[hl];exact iX) (fun u hu=>h2 u (by simpa using hu)) (fun i d u e1 e2=>h3 i d u e1 (by simpa using e2))
 refine⟨Go.undef,w',M, .inr ⟨?_,rfl⟩,r', .undef,e'⟩
 have dK:v.cells.size=i.size:=by omega
 simp[Instr.storeAt,Instr.sureAddr,storeVar,sizeOf,fL P hi,dK,dC]
theorem xX (r:Rel M s w) {d:D} {a:Addr} (hd:RD M s d (.pointer (some a))) :
 cJ P M s w (pure (.value (.pointer (some a)))) d s:=cJ.pure r rfl hd
theorem zV {t:TypeId} {f off size:Nat} {agg:Bool} (h:lP P t f=some (off,size,agg)) (b k:Nat) :
 (Instr.fieldAt t (.pointer (some ⟨b,k,none⟩)) f).run P w = .ok (.pointer (some ⟨b,k+off,none⟩)) w:=by
 unfold lP at h
 split at h
 ·rename_i fs hu
  split at h
  ·rename_i fd hf
   split at h
   ·rename_i i a hi ha
    split at h
    ·cases h
    ·rename_i eK
     cases h
     simp[Instr.fieldAt,run_underlying hu,hf,Instr.sureAddr,fieldPlace,sizeOf,fL P hi,eK,lQ]
   ·cases h
  ·cases h
 ·cases h
theorem Ol {t:TypeId} {f off size:Nat} {agg:Bool} (h:lP P t f=some (off,size,agg)) (vs:Array Value) (us:List Value) (hl:us.length=if agg then size else 1)
 (hg : ∀ j,j<us.length→vs[off+j]? = us[j]?) :
 (Instr.field t (.agg vs) f).run P w = .ok (if agg then .agg us.toArray else us.getD 0 Go.undef) w:=by
 unfold lP at h
 split at h
 ·rename_i fs hu
  split at h
  ·rename_i fd hf
   split at h
   ·rename_i i a hi ha
    split at h
    ·cases h
    ·rename_i eK
     cases h
     have zU:(isAgg fd.type).run P w = .ok agg w:=by
      unfold qn at ha
      unfold isAgg
      cases hu:P.underlying fd.type with
      |none=>rw[hu]at ha;cases ha
      |some d=>
       rw[hu]at ha
       simp only[Sem.run_bind,run_underlying hu,Result.andThen_ok]
       cases d<;>simp_all
     cases agg with
     | true=>
      simp only[if_true]at hl ⊢
      have:vs.extract fd.offset (fd.offset+i.size)=us.toArray:=by
       apply Array.ext_getElem?
       intro j
       rw[Array.getElem?_extract]
       by_cases hj:j<us.length
       ·rw [← hl,if_pos (by
         have h1:=hg j hj
         rw[List.getElem?_eq_getElem hj]at h1
         have:=(Array.getElem?_eq_some_iff.1 h1).1
         have h2:=hg (us.length - 1) (by omega)
         rw[List.getElem?_eq_getElem (by omega)]at h2
         have:=(Array.getElem?_eq_some_iff.1 h2).1
         omega),hg j hj]
        simp
       ·have hn:us.toArray[j]? = none:=by simp;omega
        rw[hn,if_neg (by omega)]
      simp[Instr.field,run_underlying hu,hf,asAgg,Go.part,zU,sizeOf,fL P hi,this]
     | false=>
      simp only[Bool.false_eq_true,if_false]at hl ⊢
      match us,hl with
      | [u],_=>
       have:=hg 0 (by simp)
       simp at this
       simp[Instr.field,run_underlying hu,hf,asAgg,Go.part,zU,this]
   ·cases h
  ·cases h
 ·cases h
end
end Go.Abs
namespace Go.Abs
section
variable {P:Program} {M:Map} {s:St} {w:World}
theorem Lj {op : BinOp} {t : TypeId} {k : IntKind} {a b : Int} {d : D} (h : fU op k a b = some d) :
   ∃ v, (binOp op t (.int k a) (.int k b)).run P w = .ok v w ∧ RD M s d v := by
 cases op<;>simp only[fU]at h<;>first
   |(cases h; done)
   | (split at h
      · cases h
      · cases h
        exact ⟨_, by simp[binOp, Op.intDiv, *], .int _ _⟩)
   |(cases h; exact ⟨_, by simp[binOp, Op.intArith], .int _ _⟩)
   |(cases h; exact ⟨_, by simp[binOp, Op.intCmp], .bool _⟩)
theorem Lk {op:BinOp} {t:TypeId} {a b:List UInt8} {d:D} (h:nH op a b=some d) :
 ∃ v,(binOp op t (.string ⟨⟨a⟩⟩) (.string ⟨⟨b⟩⟩)).run P w = .ok v w∧RD M s d v:=by
 have sz : ∀ l:List UInt8,(⟨⟨l⟩⟩:ByteArray).size=l.length:=fun _=>rfl
 cases op<;>simp only[nH]at h<;>first
  |(cases h;done)
  |skip
 case add=>
  split at h
  ·rename_i hl
   cases h
   refine⟨.string ⟨⟨a++b⟩⟩, ?_, .str _⟩
   have h1 : ¬ ((((⟨⟨a⟩⟩:ByteArray).size+(⟨⟨b⟩⟩:ByteArray).size:Nat):Int) > IntKind.i64.max):=by
    rw[sz,sz,IntKind.max_i64];simp only[bH]at hl;omega
   simp only[binOp,Op.stringOp,h1,if_false]
   simp only[Sem.run_pure]
   congr 2
  ·cases h
 case eql=>cases h;exact⟨_,by simp[binOp,Op.stringOp], .bool _⟩
 case neq=>cases h;exact⟨_,by simp[binOp,Op.stringOp], .bool _⟩
 case lss=>cases h;exact⟨_,by simp[binOp,Op.stringOp,bytesLess], .bool _⟩
theorem jt {op:BinOp} {t:TypeId} {x y:Operand} {a b:Value} (h:(∀ vs,a≠ .agg vs)∧a≠ .nilIface):(eqGuard op t x y a b).run P w = .ok () w:=by
 obtain⟨h1,h2⟩:=h
 cases a<;>first
  |exact(h2 rfl).elim
  |exact(h1 _ rfl).elim
  |(cases op<;>simp[eqGuard])
theorem Rq (r:Rel M s w) {op:BinOp} {t:TypeId} {x y:Operand} {dx dy d:D} {a b:Value} (ha:RD M s dx a) (hb:RD M s dy b) (h:wc op dx dy=some d) :
 cJ P M s w (do pure (.value (← (do eqGuard op t x y a b;binOp op t a b)))) d s:=by
 unfold wc at h
 split at h
 ·rename_i k n k' m
  split at h
  ·rename_i hk;subst hk
   rw[ha.gT,hb.gT]
   obtain⟨v,hv,hd⟩:=Lj (P:=P) (M:=M) (s:=s) (w:=w) (t:=t) h
   exact cJ.pure r (by simp[jt (P:=P) (w:=w) (op:=op) (t:=t) (x:=x) (y:=y) (a:= .int k n) (b:= .int k m) ⟨by simp,by simp⟩,hv]) hd
  ·cases h
 ·rename_i l m
  rw[ha.kT,hb.kT]
  obtain⟨v,hv,hd⟩:=Lk (P:=P) (M:=M) (s:=s) (w:=w) (t:=t) h
  exact cJ.pure r (by simp[jt (P:=P) (w:=w) (op:=op) (t:=t) (x:=x) (y:=y) (a:= .string ⟨⟨l⟩⟩) (b:= .string ⟨⟨m⟩⟩) ⟨by simp,by simp⟩,hv]) hd
 ·cases h
theorem RD.mB {v u:Value} (h:RD M s (.val v) u):u=v:=by cases h;rfl
theorem Ll {k:FloatKind} {x y d:D} (h:pV (.ofInt k) x y=some d) : ∃ j n,x = .int j n∧d = .val (.float k (k.nearest n)):=by
 cases x<;>first|(cases h;done)|(cases h;exact⟨_,_,rfl,rfl⟩)
theorem Lm {k:IntKind} {x y d:D} (h:pV (.toInt k) x y=some d) : ∃ s b n,x = .val (.float s b)∧(s.decode b).toInt .zero=some n∧(k.min≤n∧n≤k.max)∧d = .int k n:=by
 cases x with
 | val v=>
  cases v with
  | float s b=>
   simp only[pV]at h
   split at h
   ·rename_i n hn
    split at h
    ·rename_i hr;cases h;exact⟨_,_,_,rfl,hn,hr,rfl⟩
    ·cases h
   ·cases h
  |_=>cases h
 |_=>cases h
theorem Om {x y d:D} (h:pV .G3 x y=some d) : ∃ k a b,x = .val (.float k a)∧y = .val (.float k b)∧d = .val (.complex k a b):=by
 unfold pV at h
 split at h<;>first|(cases h;done)|skip
 all_goals (first|(rename_i heq;cases heq;done)|skip)
 all_goals
  split at h
  ·rename_i hk;subst hk;cases h;first|exact⟨_,_,_,rfl,rfl,rfl⟩|(rename_i heq _ _;cases heq)
  ·cases h
theorem On {x y d:D} (h:pV .real x y=some d) : ∃ k a b,x = .val (.complex k a b)∧d = .val (.float k a):=by
 cases x with
 |val v=>cases v<;>first|(cases h;done)|(cases h;exact⟨_,_,_,rfl,rfl⟩)
 |_=>cases h
theorem Oo {x y d:D} (h:pV .imag x y=some d) : ∃ k a b,x = .val (.complex k a b)∧d = .val (.float k b):=by
 cases x with
 |val v=>cases v<;>first|(cases h;done)|(cases h;exact⟨_,_,_,rfl,rfl⟩)
 |_=>cases h
theorem Oq (r:Rel M s w) {op:BinOp} {o:FO} (ho:(o = .eq∧op = .eql)∨(o = .G4∧op = .add)∨(o = .Oe∧op = .eql)) {t:TypeId} {x y:Operand} {dx dy d:D} {a b:Value} (ha:RD M s dx a) (hb:RD M s dy b) (h:pV o dx dy=some d) :
 cJ P M s w (do pure (.value (← (do eqGuard op t x y a b;binOp op t a b)))) d s:=by
 unfold pV at h
 split at h<;>(try simp only[reduceCtorEq,false_and,true_and,false_or,or_false]at ho)
 ·rename_i k p k' q
  split at h<;>cases h
  rename_i hk;subst hk;subst ho
  cases ha.mB;cases hb.mB
  exact cJ.pure r (by simp[jt (P:=P) (w:=w) (op:= .eql) (t:=t) (x:=x) (y:=y) (a:= .float k p) (b:= .float k q) ⟨by simp,by simp⟩,binOp,Op.floatCmp]) (.bool _)
 ·rename_i k p p' k' q q'
  split at h
  ·rename_i hk;subst hk;subst ho
   cases ha.mB;cases hb.mB
   split at h
   ·rename_i e f h1 h2
    cases h
    simp only[Rm]at h1 h2
    exact cJ.pure r (by simp[jt (P:=P) (w:=w) (op:= .add) (t:=t) (x:=x) (y:=y) (a:= .complex k p p') (b:= .complex k q q') ⟨by simp,by simp⟩,binOp,Op.complexOp,Op.Complex.arith,Op.floatArith,h1,h2]) (.val _ rfl)
   ·cases h
  ·cases h
 ·rename_i k p p' k' q q'
  split at h<;>cases h
  rename_i hk;subst hk;subst ho
  cases ha.mB;cases hb.mB
  exact cJ.pure r (by simp[jt (P:=P) (w:=w) (op:= .eql) (t:=t) (x:=x) (y:=y) (a:= .complex k p p') (b:= .complex k q q') ⟨by simp,by simp⟩,binOp,Op.complexOp,Op.Complex.cmp,Op.floatCmp,asBool]) (.bool _)
 ·cases h
theorem Rr (r:Rel M s w) {neg:Bool} {t:TypeId} {x y:Operand} {p q:Bool} (ht:P.underlying t=some .bool) :
 cJ P M s w (do pure (.value (← (do eqGuard (if neg then .neq else .eql) t x y (.bool p) (.bool q);binOp (if neg then .neq else .eql) t (.bool p) (.bool q))))) (.bool (if neg then !(p==q)else p==q)) s:=by
 refine cJ.pure (v:= .bool (if neg then !(p==q)else p==q)) r ?_ (.bool _)
 have hg:=jt (P:=P) (w:=w) (op:=if neg then .neq else .eql) (t:=t) (x:=x) (y:=y) (a:= .bool p) (b:= .bool q) ⟨by simp,by simp⟩
 have he:(Op.equal t (.bool p) (.bool q)).run P w = .ok (p==q) w:=by
  exact run_equalIn_bool w 9999 t p q ht
 cases neg
 ·simp only [Bool.false_eq_true,if_false]at hg ⊢
  simp[hg,binOp,he]
 ·simp only [if_true]at hg ⊢
  simp[hg,binOp,he]
theorem Jv (n:Nat) {t e:TypeId} {a:Option Addr} (ht:P.underlying t=some (.pointer e)):(Op.equalIn (n+1) t (.pointer a) (.pointer none)).run P w = .ok a.isNone w:=by
 cases a<;>simp[Op.equalIn,run_underlying ht]
theorem Cm (r:Rel M s w) {neg:Bool} {t e:TypeId} {x y:Operand} {a:Option Addr} (ht:P.underlying t=some (.pointer e)) :
 cJ P M s w (do pure (.value (← (do eqGuard (if neg then .neq else .eql) t x y (.pointer a) (.pointer none);binOp (if neg then .neq else .eql) t (.pointer a) (.pointer none))))) (.bool (if neg then !a.isNone else a.isNone)) s:=by
 refine cJ.pure (v:= .bool (if neg then !a.isNone else a.isNone)) r ?_ (.bool _)
 have hg:=jt (P:=P) (w:=w) (op:=if neg then .neq else .eql) (t:=t) (x:=x) (y:=y) (a:= .pointer a) (b:= .pointer none) ⟨by simp,by simp⟩
 have he:(Op.equal t (.pointer a) (.pointer none)).run P w = .ok a.isNone w:=by
  exact Jv 9999 ht
 cases neg
 ·simp only [Bool.false_eq_true,if_false]at hg ⊢
  simp[hg,binOp,he]
 ·simp only [if_true]at hg ⊢
  simp[hg,binOp,he]
theorem Ln (n:Nat) {t:TypeId} {k:Nat} (hk:k8 P t=some k) {x y:D} {v u:Value} (rv:RD M s x v) (ru:RD M s y u) {b:Bool} (h:mz k x y=some b) :
 (Op.equalIn (n+1) t v u).run P w = .ok b w:=by
 unfold k8 at hk
 split at hk<;>first|(cases hk;done)|skip
 ·rename_i kk hu
  cases hk
  cases x<;>cases y<;>simp[mz]at h
  obtain⟨rfl,rfl⟩:=h
  rw[rv.gT,ru.gT]
  exact run_equalIn_int w n t _ _ _ _ hu
 ·rename_i hu
  cases hk
  cases x<;>cases y<;>simp[mz]at h
  subst h
  rw[rv.nu,ru.nu]
  exact run_equalIn_bool w n t _ _ hu
 ·rename_i hu
  cases hk
  cases x<;>cases y<;>simp[mz]at h
  subst h
  rw[rv.kT,ru.kT]
  rw[run_equalIn_string w n t _ _ hu]
  simp
theorem zW (n:Nat) : ∀ (fs:List Field) (off:Nat) (ks:List Nat) (xs ys:List D) (vs us:Array Value) (e:Bool),
 Ba P off fs=some ks→(∀ (i:Nat) (d:D) (v:Value),xs[i]? = some d→vs[off+i]? = some v→RD M s d v)→(∀ i,i<xs.length→(vs[off+i]?).isSome)→
 (∀ (i:Nat) (d:D) (v:Value),ys[i]? = some d→us[off+i]? = some v→RD M s d v)→(∀ i,i<ys.length→(us[off+i]?).isSome)→
 kS ks xs ys=some e→(Op.eqFields (n+1) vs us fs).run P w = .ok e w
 | [],off,ks,xs,ys,vs,us,e,hk,_,_,_,_,h=>by
  cases hk
  cases xs<;>cases ys<;>simp[kS]at h
  subst h;rfl
 | f::fs,off,ks,xs,ys,vs,us,e,hk,h1,h2,h3,h4,h=>by
  unfold Ba at hk
  split at hk
  ·rename_i hf
   obtain⟨ho,ade⟩:=hf
   split at hk
   ·rename_i k ks' vv cf
    cases hk
    match xs,ys with
    | [],[]=>cases h
    | [],_::_=>cases h
    |_::_,[]=>cases h
    | x::xs,y::ys=>
     obtain⟨v,hv⟩:=Option.isSome_iff_exists.1 (h2 0 (by simp))
     obtain⟨u,hu⟩:=Option.isSome_iff_exists.1 (h4 0 (by simp))
     simp only[Nat.add_zero]at hv hu
     have rv:=h1 0 x v rfl hv
     have ru:=h3 0 y u rfl hu
     have zU:(isAgg f.type).run P w = .ok false w:=by
      unfold isAgg
      unfold k8 at vv
      cases hu:P.underlying f.type with
      |none=>rw[hu]at vv;simp at vv
      |some d=>simp only[Sem.run_bind,run_underlying hu,Result.andThen_ok];rw[hu]at vv;cases d<;>simp_all
     have pv:(Go.part f.type vs f.offset).run P w = .ok v w:=by simp[Go.part,zU,ho,hv]
     have pu:(Go.part f.type us f.offset).run P w = .ok u w:=by simp[Go.part,zU,ho,hu]
     cases hc:mz k x y with
     |none=>simp[kS,hc]at h
     | some b=>
      have hb:=Ln (w:=w) n vv rv ru hc
      simp only[kS,hc]at h
      simp only[Op.eqFields,if_pos ade,Sem.run_bind,pv,pu,hb,Result.andThen_ok,Sem.run_ite,Sem.run_pure]
      cases b with
      |false=>cases h;rfl
      | true=>
       have:=zW n fs (off+1) ks' xs ys vs us e cf
        (fun i d v e1 e2=>h1 (i+1) d v (by simpa using e1) (by rw[show off+(i+1)=off+1+i by omega];exact e2))
        (fun i hi=>by have:=h2 (i+1) (by simpa using hi);rwa [show off+(i+1)=off+1+i by omega]at this)
        (fun i d v e1 e2=>h3 (i+1) d v (by simpa using e1) (by rw[show off+(i+1)=off+1+i by omega];exact e2))
        (fun i hi=>by have:=h4 (i+1) (by simpa using hi);rwa [show off+(i+1)=off+1+i by omega]at this) h
       simp[this]
   ·cases hk
  ·cases hk
theorem Rt (r:Rel M s w) {neg:Bool} {t:TypeId} {x y:Operand} {ks:List Nat} {xs ys:List D} {a b:Value} {e:Bool} (ht:pz P t=some ks) (ha:RD M s (.agg xs) a) (hb:RD M s (.agg ys) b) (he:kS ks xs ys=some e) :
 cJ P M s w (do pure (.value (← (do eqGuard (if neg then .neq else .eql) t x y a b;binOp (if neg then .neq else .eql) t a b)))) (.bool (if neg then !e else e)) s:=by
 obtain⟨vs,rfl,hl,_,h1⟩:=ha.Ep
 obtain⟨us,rfl,nI,_,h2⟩:=hb.Ep
 unfold pz at ht
 split at ht
 ·rename_i fs hu
  split at ht
  ·rename_i hg
   obtain⟨xa,BW⟩:=hg
   have hf:P.fieldsOf t=fs:=by simp[Program.fieldsOf,hu]
   have dC:(Op.equalIn 10000 t (.agg vs) (.agg us)).run P w = .ok e w:=by
    rw[run_equalIn_struct w 9999 t vs us (by rw[hf];exact hu) BW,hf]
    exact zW 9998 fs.toList 0 ks xs ys vs us e ht (fun i d v e1 e2=>h1 i d v e1 (by simpa using e2)) (fun i hi=>by simp;omega)
     (fun i d v e1 e2=>h2 i d v e1 (by simpa using e2)) (fun i hi=>by simp;omega) he
   have Fj:=run_eqGuard_agg (P:=P) w (if neg then .neq else .eql) t x y vs us xa
   refine cJ.pure (v:= .bool (if neg then !e else e)) r ?_ (.bool _)
   cases neg
   ·simp only [Bool.false_eq_true,if_false]at Fj ⊢
    simp only[Sem.run_bind,Fj,Result.andThen_ok,run_eql_struct,dC,Sem.run_pure]
   ·simp only [if_true]at Fj ⊢
    simp only[Sem.run_bind,Fj,Result.andThen_ok,run_neq_struct,dC,Sem.run_pure]
  ·cases ht
 ·cases ht
end
end Go.Abs
namespace Go.Abs
section
variable {P:Program} {M:Map} {s:St} {w:World}
theorem Bb (l:List UInt8):(⟨⟨l⟩⟩:ByteArray).size=l.length:=rfl
theorem extract_mk (l:List UInt8) (a b:Nat):(⟨⟨l⟩⟩:ByteArray).extract a b = ⟨⟨(l.take b).drop a⟩⟩:=by
 apply ByteArray.ext
 rw[ByteArray.data_extract]
 apply Array.ext'
 simp[List.drop_take]
theorem getElem?_mk (l:List UInt8) (n:Nat):(⟨⟨l⟩⟩:ByteArray)[n]? = l[n]? :=by
 by_cases h:n<l.length
 ·rw[getElem?_pos (⟨⟨l⟩⟩:ByteArray) n h,List.getElem?_eq_getElem h];rfl
 ·rw [List.getElem?_eq_none (by omega)]
  rw[getElem?_neg (c:=(⟨⟨l⟩⟩:ByteArray)) (i:=n)]
  show ¬ n<(⟨⟨l⟩⟩:ByteArray).size
  rw[Bb];omega
theorem Ou (r:Rel M s w) {t:TypeId} {l:List UInt8} {k:IntKind} {n:Int} {c:UInt8} (ht:P.underlying t=some .string) (h0:0≤n) (hc:l[n.toNat]? = some c) :
 cJ P M s w (do pure (.value (← Instr.index t (.string ⟨⟨l⟩⟩) (.int k n)))) (.int .u8 c.toNat) s:=by
 refine cJ.pure (v:= .int .u8 c.toNat) r ?_ (.int _ _)
 simp[Instr.index,asIntOf,run_underlying ht,h0,getElem?_mk,hc]
theorem Hd (r:Rel M s w) {t ty:TypeId} {l:List UInt8} (ht:P.underlying t=some .string) :
 cJ P M s w (do pure (.value (← Builtin.len_ #[t] ty #[.string ⟨⟨l⟩⟩]))) (.int .i64 l.length) s:=by
 refine cJ.pure (v:= .int .i64 l.length) r ?_ (.int _ _)
 simp[Builtin.len_,run_underlying ht,goInt,Bb]
theorem mC (r:Rel M s w) {t ty e:TypeId} {a:Option Addr} {n c:Nat} (ht:P.underlying t=some (.slice e)) :
 cJ P M s w (do pure (.value (← Builtin.len_ #[t] ty #[.slice a n c]))) (.int .i64 n) s:=by
 refine cJ.pure (v:= .int .i64 n) r ?_ (.int _ _)
 simp[Builtin.len_,run_underlying ht,goInt]
theorem Lo (r:Rel M s w) {t e:TypeId} {i:TypeInfo} {g:Tag} {rows:List (List D)} {row:List D} {v:Value} {k:IntKind} {n:Int} (ht:P.underlying t=some (.slice e)) (hi:P.info? e=some i)
 (hd:RD M s (.slice g i.size rows) v) (h0:0≤n) (hr:rows[n.toNat]? = some row) :
 cJ P M s w (do pure (.value (← Instr.indexAt t v (.int k n)))) (.dt row 0) s:=by
 have hD:=(List.getElem?_eq_some_iff.1 hr).1
 rcases hd.iQ with ⟨rfl,_,_⟩|⟨rfl,_,_⟩|⟨b,q,cap,rfl,hl,hs,h1,h2,_⟩
 ·simp at hr
 ·simp at hr
 ·refine cJ.pure (v:= .pointer (some ⟨b,q+n.toNat*i.size+0,none⟩)) r ?_ ?_
  ·have:n<(rows.length:Int):=by omega
   simp[Instr.indexAt,asIntOf,run_underlying ht,h0,this,sizeOf,fL P hi,lQ]
  ·refine .dt row 0 b (q+n.toNat*i.size) (fun j d hj=> ?_) (fun j d u hj hu=> ?_)
   ·obtain⟨u,hu⟩:=h1 n.toNat row j d hr hj
    exact⟨u,by rw[Nat.add_assoc];exact hu⟩
   ·exact h2 n.toNat row j d u hr hj (by rw[← Nat.add_assoc];exact hu)
def Ov (lv:Option Value) (l:Int):Prop:=(lv=none∧l=0)∨∃ k,lv=some (.int k l)
def Ow (hv:Option Value) (len:Nat) (h:Int):Prop:=(hv=none∧h=len)∨∃ k,hv=some (.int k h)
theorem oU {isSlice:Bool} {lv hv:Option Value} {len cap:Nat} {l h:Int} (h1:Ov lv l) (h2:Ow hv len h) (a:0≤l) (b:l≤h) (c:h≤len) (d:len≤cap) :
 (Instr.sliceBounds isSlice len cap lv hv none).run P w = .ok (l.toNat,h.toNat,cap) w:=by
 have h0:0≤h:=by omega
 have hc:h≤cap:=by omega
 rcases h1 with ⟨rfl,rfl⟩|⟨k,rfl⟩<;>rcases h2 with ⟨rfl,rfl⟩|⟨k',rfl⟩
 ·simp[Instr.sliceBounds]
 ·simp[Instr.sliceBounds,run_sliceBound w _ _ _ _ h0 hc]
 ·simp[Instr.sliceBounds,run_sliceBound w _ _ _ _ a b]
 ·have e:(h.toNat:Int)=h:=Int.toNat_of_nonneg h0
  simp[Instr.sliceBounds,run_sliceBound w _ _ _ _ h0 hc,run_sliceBound w _ _ _ _ a (show l≤(h.toNat:Int) by omega)]
theorem Ox (r:Rel M s w) {t:TypeId} {lv hv:Option Value} {x:List UInt8} {l h:Int} (ht:P.underlying t=some .string) (h1:Ov lv l) (h2:Ow hv x.length h) (a:0≤l) (b:l≤h) (c:h≤x.length) :
 cJ P M s w (do pure (.value (← Instr.sliceAt t (.string ⟨⟨x⟩⟩) lv hv none))) (.str ((x.take h.toNat).drop l.toNat)) s:=by
 have hb:=oU (P:=P) (w:=w) (isSlice:=false) (cap:=x.length) h1 h2 a b c (Nat.le_refl _)
 refine cJ.pure (v:= .string ⟨⟨(x.take h.toNat).drop l.toNat⟩⟩) r ?_ (.str _)
 simp[Instr.sliceAt,run_underlying ht,Instr.slice,Bb,hb,extract_mk]
theorem iB.cut {g:Tag} {z len Ru cap:Nat} {base:Option (Nat×Nat)} (h:iB M s g z len base cap) (hl:Ru≤len) (whole:Bool) (hw:whole=true→Ru=len):iB M s (g.cut whole) z Ru base cap:=by
 cases g with
 |full=>
  cases whole with
  |true=>rw[hw rfl];exact h
  |false=>trivial
 |shared=>trivial
 |tok t y=>
  obtain⟨x1,x2⟩:=h
  refine⟨x1,fun n hn=>⟨Nat.le_trans hl (x2 n hn).1,fun e=>?_⟩⟩
  have:len=n:=by have:=(x2 n hn).1;omega
  exact(x2 n hn).2 this
theorem Rv (r:Rel M s w) {t e:TypeId} {i:TypeInfo} {g:Tag} {z:Nat} {lv hv:Option Value} {rows:List (List D)} {v:Value} {l h:Int} (ht:P.underlying t=some (.slice e)) (Dg:P.info? e=some i) (hz:rows = []∨z=i.size)
 (hd:RD M s (.slice g z rows) v) (h1:Ov lv l) (h2:Ow hv rows.length h) (a:0≤l) (b:l≤h) (c:h≤rows.length) :
 cJ P M s w (do pure (.value (← Instr.sliceAt t v lv hv none))) (.slice (if l=0 then g.cut (h=rows.length)else .shared) z ((rows.take h.toNat).drop l.toNat)) s:=by
 have hlen:((rows.take h.toNat).drop l.toNat).length=h.toNat - l.toNat:=by simp;omega
 have tag : ∀ base cap,iB M s g z rows.length base cap→iB M s (if l=0 then g.cut (h=rows.length)else .shared) z ((rows.take h.toNat).drop l.toNat).length base cap:=by
  intro base cap nV
  split
  ·exact nV.cut (by omega) _ (fun hh=>by simp at hh;omega)
  ·trivial
 rcases hd.iQ with ⟨rfl,rfl,nV⟩|⟨rfl,rfl,a',cap,rfl⟩|⟨b',q,cap,rfl,hl,hs,g1,g2,nV⟩
 ·have hb:=oU (P:=P) (w:=w) (isSlice:=true) (cap:=0) h1 h2 a b c (Nat.le_refl _)
  have qd:l=0:=by simp at c;omega
  have YR:h=0:=by simp at c;omega
  subst qd;subst YR
  refine cJ.pure (v:= .slice none 0 0) r ?_ ?_
  ·simp at hb
   simp[Instr.sliceAt,run_underlying ht,Instr.slice,hb,sizeOf,fL P Dg]
  ·have:=tag _ _ nV
   simp only[Int.toNat_zero,List.take_nil,List.drop_nil,List.length_nil]at this ⊢
   exact .iz _ _ 0 rfl this
 ·have hb:=oU (P:=P) (w:=w) (isSlice:=true) (cap:=cap) h1 h2 a b c (Nat.zero_le _)
  have qd:l=0:=by simp at c;omega
  have YR:h=0:=by simp at c;omega
  subst qd;subst YR
  simp only[List.length_nil]at hb
  have dC : ∃ a2:Addr,(Instr.sliceAt t (.slice (some a') 0 cap) lv hv none).run P w = .ok (.slice (some a2) 0 cap) w:=by
   refine⟨if cap=(0:Int).toNat then a' else a'.add ((0:Int).toNat*i.size), ?_⟩
   simp only[Instr.sliceAt,Sem.run_bind,run_underlying ht,Result.andThen_ok,Instr.slice,hb,sizeOf,fL P Dg,Sem.run_pure]
   split<;>simp
  obtain⟨a2,dC⟩:=dC
  refine cJ.pure (v:= .slice (some a2) 0 cap) r (by simp[dC]) ?_
  simp only[↓reduceIte,Int.toNat_zero,List.take_nil,List.drop_nil]
  have:Tag.cut .shared (decide ((0:Int)=(([] : List (List D)).length:Int))) = .shared:=rfl
  rw[this]
  exact .k6 _ a2 cap
 ·have hb:=oU (P:=P) (w:=w) (isSlice:=true) (cap:=cap) h1 h2 a b c hl
  have dC:(Instr.sliceAt t (.slice (some ⟨b',q,none⟩) rows.length cap) lv hv none).run P w = .ok (.slice (some (if cap=l.toNat then⟨b',q,none⟩else⟨b',q+l.toNat*i.size,none⟩)) (h.toNat - l.toNat) (cap - l.toNat)) w:=by
   simp only[Instr.sliceAt,Sem.run_bind,run_underlying ht,Result.andThen_ok,Instr.slice,hb,sizeOf,fL P Dg,Sem.run_pure]
   split<;>simp[lQ]
  by_cases qd:l=0
  ·subst qd
   have e:(if cap=(0:Int).toNat then(⟨b',q,none⟩:Addr)else⟨b',q+(0:Int).toNat*i.size,none⟩) = ⟨b',q,none⟩:=by simp
   rw[e]at dC
   refine cJ.pure (v:= .slice (some ⟨b',q,none⟩) ((rows.take h.toNat).drop (0:Int).toNat).length cap) r (by simp[dC];omega) ?_
   refine .slice _ z _ b' q cap (by omega) (fun row hr=>hs row ?_) (fun i row j d e1 e2=>?_) (fun i row j d u e1 e2 eu=>?_) (tag _ _ nV)
   ·simp at hr;exact List.mem_of_mem_take hr
   ·simp[List.getElem?_take]at e1;exact g1 i row j d e1.2 e2
   ·simp[List.getElem?_take]at e1;exact g2 i row j d u e1.2 e2 eu
  ·rw [if_neg qd]
   by_cases s5:cap=l.toNat
   ·have:(rows.take h.toNat).drop l.toNat = []:=List.eq_nil_of_length_eq_zero (by omega)
    rw[this]
    rw[if_pos s5]at dC
    refine cJ.pure (v:= .slice (some ⟨b',q,none⟩) ([] : List (List D)).length (cap - l.toNat)) r (by simp[dC];omega) ?_
    exact .slice _ z [] b' q _ (by simp) (by simp) (by simp) (by simp) trivial
   ·rw [if_neg s5]at dC
    refine cJ.pure (v:= .slice (some ⟨b',q+l.toNat*i.size,none⟩) ((rows.take h.toNat).drop l.toNat).length (cap - l.toNat)) r (by simp[dC];omega) ?_
    have dS : ∀ (k:Nat) (row:List D),((rows.take h.toNat).drop l.toNat)[k]? = some row→rows[l.toNat+k]? = some row:=by
     intro k row e
     rw[List.getElem?_drop,List.getElem?_take]at e
     split at e
     ·exact e
     ·cases e
    have hzz : ∀ (k:Nat) (row:List D),((rows.take h.toNat).drop l.toNat)[k]? = some row→z=i.size:=by
     intro k row e
     rcases hz with rfl|hz
     ·simp at e
     ·exact hz
    refine .slice _ z _ b' _ _ (by omega) (fun row hr=>hs row (List.mem_of_mem_take (List.mem_of_mem_drop hr))) (fun k row j d e1 e2=>?_) (fun k row j d u e1 e2 eu=>?_) trivial
    ·obtain⟨u,hu⟩:=g1 _ row j d (dS k row e1) e2
     refine⟨u, ?_⟩
     rw[← hu, ← hzz k row e1]
     congr 1
     rw[Nat.add_mul];omega
    ·refine g2 _ row j d u (dS k row e1) e2 ?_
     rw[← eu, ← hzz k row e1]
     congr 1
     rw[Nat.add_mul];omega
theorem vw (off:Nat) : ∀ (l:List Value) (k:Nat) (cells:Array Value) (i:Nat),
 ((l.zipIdx k).foldl (fun cs p=>cs.setIfInBounds (off+p.2) p.1) cells).size=cells.size∧
 (off+k+l.length≤cells.size→((l.zipIdx k).foldl (fun cs p=>cs.setIfInBounds (off+p.2) p.1) cells)[i]? = if off+k≤i∧i<off+k+l.length then l[i - (off+k)]? else cells[i]?)
 | [],k,cells,i=>by simp;intro _ h1 h2;omega
 | v::l,k,cells,i=>by
  obtain⟨h1,h2⟩:=vw off l (k+1) (cells.setIfInBounds (off+k) v) i
  simp only[List.zipIdx_cons,List.foldl_cons]
  refine⟨by rw[h1];simp,fun iX=>?_⟩
  simp only[List.length_cons]at iX
  rw[h2 (by simp;omega)]
  rw[Array.getElem?_setIfInBounds]
  by_cases hi:off+k=i
  ·subst hi
   rw[if_neg (by omega),if_pos rfl,if_pos (by omega),if_pos (by simp)]
   simp
  ·rw [if_neg hi]
   by_cases hr:off+(k+1)≤i∧i<off+(k+1)+l.length
   ·rw [if_pos hr,if_pos (by simp;omega)]
    rw[show i - (off+k)=(i - (off+(k+1)))+1 by omega]
    simp
   ·rw[if_neg hr,if_neg (by simp;omega)]
def sw (M:Map) (s:St) (ds:List D) (vs:Array Value):Prop:=vs.size=ds.length∧(∀ v∈vs,v.oneCell'=true)∧∀ (i:Nat) (d:D) (v:Value),ds[i]? = some d→vs[i]? = some v→RD M s d v
theorem sw.gY {ds:List D} {vs:Array Value} (h:sw M s ds vs) {d:D} {v:Value} {row:List D} (hd:RD M s d v) (hr:d.row=some row) {off:Nat} (iX:off+row.length≤ds.length) :
 sw M s (gY ds off row) (v.cells.zipIdx.foldl (fun cs (p:Value×Nat)=>cs.setIfInBounds (off+p.2) p.1) vs):=by
 obtain⟨h1,h2,h3⟩:=hd.row hr
 obtain⟨g1,g2,g3⟩:=h
 have e:v.cells.zipIdx.foldl (fun cs (p:Value×Nat)=>cs.setIfInBounds (off+p.2) p.1) vs=(v.cells.toList.zipIdx 0).foldl (fun cs p=>cs.setIfInBounds (off+p.2) p.1) vs:=by
  rw[← Array.foldl_toList];simp
 rw[e]
 have hl:v.cells.toList.length=row.length:=by simpa using h1
 have fs:=fun i=>vw off v.cells.toList 0 vs i
 have get : ∀ i,((v.cells.toList.zipIdx 0).foldl (fun cs p=>cs.setIfInBounds (off+p.2) p.1) vs)[i]? = if off≤i∧i<off+row.length then v.cells.toList[i - off]? else vs[i]? :=by
  intro i
  have:=(fs i).2 (by omega)
  rw[hl]at this
  simpa using this
 refine⟨by rw[(fs 0).1,g1,sY ds off row iX],fun u hu=>?_,fun i d' u e1 e2=>?_⟩
 ·obtain⟨i,hi⟩:=Array.mem_iff_getElem?.1 hu
  rw[get]at hi
  split at hi
  ·exact h2 u (Array.mem_toList_iff.1 (List.mem_of_getElem? hi))
  ·exact g2 u (Array.mem_of_getElem? hi)
 ·rw [qp ds off row iX]at e1
  rw[get]at e2
  by_cases h5:off≤i
  ·by_cases h6:i<off+row.length
   ·rw [if_pos ⟨h5,h6⟩]at e2
    rw[if_neg (by omega),if_pos h6]at e1
    exact h3 _ d' u e1 (by simpa using e2)
   ·rw [if_neg (fun h=>h6 h.2)]at e2
    rw[if_neg (by omega),if_neg h6]at e1
    exact g3 i d' u e1 e2
  ·rw [if_neg (fun h=>h5 h.1)]at e2
   rw[if_pos (by omega)]at e1
   exact g3 i d' u e1 e2
theorem He {place:Nat→Option (Nat×Nat)} : ∀ (vp:List (Nat×Value)) (dp:List (Nat×Nat×D)) (ds:List D) (vs:Array Value) (na:List D),sw M s ds vs→
 dp.length=vp.length→(∀ (j:Nat) (i:Nat) (v:Value) (off size:Nat) (d:D),vp[j]? = some (i,v)→dp[j]? = some (off,size,d)→place i=some (off,size)∧RD M s d v)→
 qm ds dp=some na→∃ fu,Instr.fill place vs vp=some fu∧sw M s na fu
 | [],[],ds,vs,na,h,_,_,e=>by cases e;exact⟨vs,rfl,h⟩
 | [],_::_,_,_,_,_,hl,_,_=>by simp at hl
 |_::_,[],_,_,_,_,hl,_,_=>by simp at hl
 | (i,v)::vp,(off,size,d)::dp,ds,vs,na,h,hl,hp,e=>by
  obtain⟨h1,h2⟩:=hp 0 i v off size d rfl rfl
  unfold qm at e
  split at e
  ·cases e
  ·rename_i row hr
   split at e
   ·rename_i hc
    obtain⟨c1,c2⟩:=hc
    have dK:=(h2.row hr).1
    obtain⟨fu,f1,f2⟩:=He vp dp (gY ds off row) _ na (h.gY h2 hr (by omega)) (by simpa using hl)
     (fun j i v off size d e1 e2=>hp (j+1) i v off size d (by simpa using e1) (by simpa using e2)) e
    refine⟨fu, ?_,f2⟩
    unfold Instr.fill
    simp only[h1]
    rw[if_neg]
    ·exact f1
    ·simp;exact⟨by omega,by have:=h.1;omega⟩
   ·cases e
end
end Go.Abs
namespace Go.Abs
section
variable {P:Program} {M:Map} {s:St} {w:World}
def lF (M:Map) (s:St) (size:Nat) (rows:List (List D)) (vs:Array Value):Prop:=
 rows.length*size≤vs.size∧(∀ row∈rows,row.length=size)∧(∀ v∈vs,v.oneCell'=true)∧
 ∀ (i:Nat) (row:List D) (j:Nat) (d:D) (v:Value),rows[i]? = some row→row[j]? = some d→vs[i*size+j]? = some v→RD M s d v
theorem zX {size:Nat} {rows:List (List D)} (hs : ∀ row∈rows,row.length=size) {i:Nat} {row:List D} {j:Nat} {d:D} (h1:rows[i]? = some row) (h2:row[j]? = some d):i*size+j<rows.length*size:=by
 have hi:=(List.getElem?_eq_some_iff.1 h1).1
 have hj:=(List.getElem?_eq_some_iff.1 h2).1
 have:=hs row (List.mem_of_getElem? h1)
 have:i*size+size≤rows.length*size:=by rw[← Nat.succ_mul];exact Nat.mul_le_mul_right _ hi
 omega
theorem lF.fixed {size:Nat} {rows:List (List D)} {vs:Array Value} (h:lF M s size rows vs) {M':Map} {s':St} (le:Le M s M' s') {b:Nat}
 (hG : ∀ o,o<rows.length*size→M'.G b o=vs[o]?) :
 (∀ (i:Nat) (row:List D) (j:Nat) (d:D),rows[i]? = some row→row[j]? = some d→∃ u,M'.G b (0+(i*size+j))=some u)∧
 (∀ (i:Nat) (row:List D) (j:Nat) (d:D) (u:Value),rows[i]? = some row→row[j]? = some d→M'.G b (0+(i*size+j))=some u→RD M' s' d u):=by
 obtain⟨h1,h2,h3,h4⟩:=h
 refine⟨fun i row j d e1 e2=>?_,fun i row j d u e1 e2 eu=>?_⟩
 ·have hD:=zX h2 e1 e2
  rw[Nat.zero_add,hG _ hD]
  exact⟨_,Array.getElem?_eq_getElem (by omega)⟩
 ·have hD:=zX h2 e1 e2
  rw[Nat.zero_add,hG _ hD]at eu
  exact(h4 i row j d u e1 e2 eu).mono le
theorem lG (z:List D) : ∀ n,(fK z n).length=n
 | 0=>rfl
 |n+1=>by simp[fK,lG z n]
theorem oq (z:List D) : ∀ n,∀ row∈fK z n,row=z
 | 0,_,h=>by cases h
 |n+1,row,h=>by
  rcases List.mem_cons.1 h with rfl|h
  ·rfl
  ·exact oq z n row h
theorem lF.zero {z:List D} {zs:Array Value} (h:sw M s z zs) (hp:0<z.length) (n:Nat):lF M s z.length (fK z n) ((Array.range (n*z.length)).map (zs[· % zs.size]!)):=by
 obtain⟨h1,h2,h3⟩:=h
 have get : ∀ q,q<n*z.length→((Array.range (n*z.length)).map (zs[· % zs.size]!))[q]? = zs[q % z.length]? :=by
  intro q hq
  have:q % z.length<zs.size:=by rw[h1];exact Nat.mod_lt _ hp
  simp only[Array.getElem?_map,Array.getElem?_range,hq,if_true,Option.map_some]
  rw[h1,getElem!_pos zs (q % z.length) this,Array.getElem?_eq_getElem this]
 refine⟨by simp[lG],fun row hr=>by rw[oq z n row hr],fun v hv=>?_,fun i row j d v e1 e2 e3=>?_⟩
 ·obtain⟨q,hq⟩:=Array.mem_iff_getElem?.1 hv
  have hD:q<n*z.length:=by have:=(Array.getElem?_eq_some_iff.1 hq).1;simpa using this
  rw[get q hD]at hq
  exact h2 v (Array.mem_of_getElem? hq)
 ·have dS:=oq z n row (List.mem_of_getElem? e1)
  subst dS
  have hD:=zX (size:=row.length) (fun r hr=>by rw[oq row n r hr]) e1 e2
  rw[lG]at hD
  rw[get _ hD]at e3
  have hj:=(List.getElem?_eq_some_iff.1 e2).1
  rw[Nat.mul_comm,Nat.mul_add_mod,Nat.mod_eq_of_lt hj]at e3
  exact h3 j d v e2 e3
theorem lF.set {size:Nat} {rows:List (List D)} {vs:Array Value} (h:lF M s size rows vs) {d:D} {v:Value} {row:List D} (hd:RD M s d v) (hr:d.row=some row) (hl:row.length=size) {i:Nat} (hi:i<rows.length) :
 lF M s size (rows.set i row) (v.cells.zipIdx.foldl (fun cs (p:Value×Nat)=>cs.setIfInBounds (i*size+p.2) p.1) vs):=by
 obtain⟨h1,h2,h3⟩:=hd.row hr
 obtain⟨g1,g2,g3,g4⟩:=h
 have e:v.cells.zipIdx.foldl (fun cs (p:Value×Nat)=>cs.setIfInBounds (i*size+p.2) p.1) vs=(v.cells.toList.zipIdx 0).foldl (fun cs p=>cs.setIfInBounds (i*size+p.2) p.1) vs:=by
  rw[← Array.foldl_toList];simp
 rw[e]
 have kL:v.cells.toList.length=size:=by simp[h1,hl]
 have iX:i*size+size≤vs.size:=by
  have:(i+1)*size≤rows.length*size:=Nat.mul_le_mul_right _ hi
  rw[Nat.succ_mul]at this;omega
 have fs:=fun q=>vw (i*size) v.cells.toList 0 vs q
 have get : ∀ q,((v.cells.toList.zipIdx 0).foldl (fun cs p=>cs.setIfInBounds (i*size+p.2) p.1) vs)[q]? = if i*size≤q∧q<i*size+size then v.cells.toList[q - i*size]? else vs[q]? :=by
  intro q
  have:=(fs q).2 (by omega)
  rw[kL]at this
  simpa using this
 refine⟨by rw[(fs 0).1];simpa using g1,fun r Oy=>?_,fun u hu=>?_,fun i' j8 j d' u e1 e2 e3=>?_⟩
 ·rcases List.mem_or_eq_of_mem_set Oy with h | rfl
  ·exact g2 r h
  ·exact hl
 ·obtain⟨q,hq⟩:=Array.mem_iff_getElem?.1 hu
  rw[get]at hq
  split at hq
  ·exact h2 u (Array.mem_toList_iff.1 (List.mem_of_getElem? hq))
  ·exact g3 u (Array.mem_of_getElem? hq)
 ·rw [List.getElem?_set]at e1
  rw[get]at e3
  split at e1
  ·rename_i heq;subst heq
   simp at e1
   obtain⟨_,rfl⟩:=e1
   have hj:=(List.getElem?_eq_some_iff.1 e2).1
   rw[if_pos (by omega)]at e3
   rw[show i*size+j - i*size=j by omega]at e3
   exact h3 j d' u e2 (by simpa using e3)
  ·rename_i eK
   have hj:=(List.getElem?_eq_some_iff.1 e2).1
   have zY:=g2 j8 (List.mem_of_getElem? e1)
   rw[if_neg]at e3
   ·exact g4 i' j8 j d' u e1 e2 e3
   ·rintro⟨a,b⟩
    rcases Nat.lt_or_gt_of_ne eK with h|h
    ·have:(i+1)*size≤i'*size:=Nat.mul_le_mul_right _ h
     rw[Nat.succ_mul]at this;omega
    ·have:(i'+1)*size≤i*size:=Nat.mul_le_mul_right _ h
     rw[Nat.succ_mul]at this;omega
theorem zZ {size:Nat} : ∀ (vp:List (Nat×Value)) (dp:List (Nat×D)) (rows:List (List D)) (vs:Array Value) (oa:List (List D)),lF M s size rows vs→
 dp.length=vp.length→(∀ (j:Nat) (i:Nat) (v:Value) (i':Nat) (d:D),vp[j]? = some (i,v)→dp[j]? = some (i',d)→i'=i∧RD M s d v)→
 jJ size rows dp=some oa→∃ fu,Instr.fill (fun i=>some (i*size,size)) vs vp=some fu∧lF M s size oa fu∧oa.length=rows.length∧fu.size=vs.size
 | [],[],rows,vs,oa,h,_,_,e=>by cases e;exact⟨vs,rfl,h,rfl,rfl⟩
 | [],_::_,_,_,_,_,hl,_,_=>by simp at hl
 |_::_,[],_,_,_,_,hl,_,_=>by simp at hl
 | (i,v)::vp,(i',d)::dp,rows,vs,oa,h,hl,hp,e=>by
  obtain⟨h1,h2⟩:=hp 0 i v i' d rfl rfl
  subst h1
  unfold jJ at e
  split at e
  ·cases e
  ·rename_i row hr
   split at e
   ·rename_i hc
    obtain⟨c1,c2⟩:=hc
    have dK:=(h2.row hr).1
    have adf:=h.set h2 hr c1 c2
    obtain⟨fu,f1,f2,f3,f4⟩:=zZ vp dp (rows.set i' row) _ oa adf (by simpa using hl)
     (fun j i v i' d e1 e2=>hp (j+1) i v i' d (by simpa using e1) (by simpa using e2)) e
    have iX:i'*size+size≤vs.size:=by
     have:(i'+1)*size≤rows.length*size:=Nat.mul_le_mul_right _ c2
     have:=h.1
     rw[Nat.succ_mul]at *;omega
    refine⟨fu, ?_,f2,by rw[f3];simp, ?_⟩
    ·unfold Instr.fill
     simp only
     rw[if_neg]
     ·exact f1
     ·simp;exact⟨by omega,by omega⟩
    ·rw [f4]
     have:=(vw (i'*size) v.cells.toList 0 vs 0).1
     rw[← this, ← Array.foldl_toList];simp
   ·cases e
theorem Lp (r:Rel M s w) {size:Nat} {rows:List (List D)} {vs:Array Value} (T:TypeId) (h:lF M s size rows vs) :
 RD (M.fy w.heap.size vs.size vs) s (.slice .full size rows) (.slice (some ⟨w.heap.size,0,none⟩) rows.length rows.length)∧
 Rel (M.fy w.heap.size vs.size vs) s (w.alloc (.cells vs T))∧Ext M s w (M.fy w.heap.size vs.size vs) s (w.alloc (.cells vs T)):=by
 obtain⟨r',e'⟩:=r.fy vs.size vs T (0,0) h.2.2.1
 obtain⟨g1,g2⟩:=h.fixed e'.le (b:=w.heap.size) (fun o ho=>by
  have:o<vs.size:=Nat.lt_of_lt_of_le ho h.1
  simp[Map.fy,this])
 exact⟨.slice .full size rows w.heap.size 0 rows.length (Nat.le_refl _) h.2.1 g1 g2 rfl,r',e'⟩
theorem k9 {t u ty e:TypeId} {i:TypeInfo} (ht:P.underlying t=some (.slice e)) (hi:P.info? e=some i) {base:Option Addr} {len cap:Nat} {y:Value} (hs:Src P i.size u y 0 [] w) (hc:len≤cap) :
 (Builtin.append_ #[t,u] ty #[.slice base len cap,y]).run P w = .ok (.slice base len cap) w:=by
 have lH:=hs.cells
 rcases hs.kind with ⟨e',hk⟩|hk<;>cases base<;>simp[Builtin.append_,run_underlying ht,run_underlying hk,sizeOf,typeInfo,hi,hs.len,hc,lH,storeCells]
theorem Fk (r:Rel M s w) {u e':TypeId} (hu:P.underlying u=some (.slice e')) {g:Tag} {size:Nat} {rows:List (List D)} {y:Value} (hy:RD M s (.slice g size rows) y) :
 ∃ news:List Value,Src P size u y rows.length news w∧
  (∀ (i:Nat) (row:List D) (j:Nat) (d:D) (v:Value),rows[i]? = some row→row[j]? = some d→news[i*size+j]? = some v→RD M s d v)∧
  ∀ (b q n c:Nat),y = .slice (some ⟨b,q,none⟩) n c→∀ o,o<rows.length*size→M.G b (q+o)=news[o]? :=by
 rcases hy.iQ with ⟨rfl,rfl,_⟩|⟨rfl,_,a,cap,rfl⟩|⟨b,q,cap,rfl,hl,hs,g1,g2,_⟩
 ·exact⟨[],Src.ofNil w hu 0,by simp,by simp⟩
 ·exact⟨[],Src.ofSlice w hu a 0 cap [] (by simp) (by simp) (by simp),by simp,by simp⟩
 ·obtain⟨us,hlen,BU⟩:=xW (M:=M) (b:=b) (rows.length*size) q (fun k hk=>by
   have hz:0<size:=by
    rcases Nat.eq_zero_or_pos size with h|h
    ·subst h;simp at hk
    ·exact h
   have hi:k / size<rows.length:=by rw[Nat.div_lt_iff_lt_mul hz];exact hk
   obtain⟨row,dS⟩ : ∃ row,rows[k / size]? = some row:=⟨_,List.getElem?_eq_getElem hi⟩
   have zY:=hs row (List.mem_of_getElem? dS)
   have hj:k % size<row.length:=by rw[zY];exact Nat.mod_lt _ hz
   obtain⟨u,hu⟩:=g1 _ row _ _ dS (List.getElem?_eq_getElem hj)
   refine⟨u, ?_⟩
   rw[← hu,Nat.mul_comm (k / size) size,Nat.div_add_mod])
  refine⟨us,Src.ofSlice w hu ⟨b,q,none⟩ rows.length cap us hlen (fun j u h=>by rw[lQ];exact(r.comm _ _ _ (BU j u h)).1) (fun u hu=>?_),fun i row j d v e1 e2 e3=>g2 i row j d v e1 e2 (BU _ v e3),
   fun b' q' n c heq o ho=>by
    cases heq
    rw[BU o _ (List.getElem?_eq_getElem (by omega)),List.getElem?_eq_getElem (by omega)]⟩
  obtain⟨j,hj⟩:=List.mem_iff_getElem?.1 hu
  exact(r.comm _ _ _ (BU j u hj)).2
theorem Dh {size:Nat} {rows new:List (List D)} {pb news:List Value} (yX : ∀ row∈rows,row.length=size) (yY : ∀ row∈new,row.length=size)
 (l1:pb.length=rows.length*size) (l2:news.length=new.length*size) (o1 : ∀ u∈pb,u.oneCell'=true) (o2 : ∀ u∈news,u.oneCell'=true)
 (h1 : ∀ (i:Nat) (row:List D) (j:Nat) (d:D) (v:Value),rows[i]? = some row→row[j]? = some d→pb[i*size+j]? = some v→RD M s d v)
 (h2 : ∀ (i:Nat) (row:List D) (j:Nat) (d:D) (v:Value),new[i]? = some row→row[j]? = some d→news[i*size+j]? = some v→RD M s d v)
 (z:Array Value) (hz : ∀ v∈z,v.oneCell'=true):lF M s size (rows++new) ((pb++news).toArray++z):=by
 have hs : ∀ row∈rows++new,row.length=size:=fun row h=>(List.mem_append.1 h).elim (yX row) (yY row)
 refine⟨by simp[l1,l2,Nat.add_mul],hs,fun v hv=>?_,fun i row j d v e1 e2 e3=>?_⟩
 ·simp at hv
  rcases hv with (h|h)|h
  ·exact o1 v h
  ·exact o2 v h
  ·exact hz v h
 ·have hD:=zX hs e1 e2
  rw[List.length_append,Nat.add_mul]at hD
  rw[Array.getElem?_append_left (by simp[l1,l2];omega),List.getElem?_toArray]at e3
  by_cases hi:i<rows.length
  ·rw [List.getElem?_append_left hi]at e1
   have:=zX yX e1 e2
   rw[List.getElem?_append_left (by omega)]at e3
   exact h1 i row j d v e1 e2 e3
  ·rw [List.getElem?_append_right (by omega)]at e1
   have tD:rows.length*size≤i*size:=Nat.mul_le_mul_right _ (by omega)
   rw[List.getElem?_append_right (by omega),l1]at e3
   refine h2 (i - rows.length) row j d v e1 e2 ?_
   rw[← e3]
   congr 1
   rw[Nat.sub_mul];omega
theorem s6 {z:Array Value} (h : ∀ v∈z,v.oneCell'=true) (n:Nat) : ∀ v∈Builtin.zeroCells z n,v.oneCell'=true:=by
 intro v hv
 unfold Builtin.zeroCells at hv
 obtain⟨q,hq,rfl⟩:=Array.mem_map.1 hv
 have hD:q<n*z.size:=by simpa using hq
 have hz:0<z.size:=by
  rcases Nat.eq_zero_or_pos z.size with h|h
  ·rw[h]at hD;simp at hD
  ·exact h
 have:=Nat.mod_lt q hz
 rw[getElem!_pos z (q % z.size) this]
 exact h _ (Array.getElem_mem this)
def Et (eb:Bool) (size bytes:Nat) (x y:D) (s:St):Option (D×St):=
 match x,y with
 | .slice g z rows, .slice _ z' new=>
  if(rows = []∨z=size)∧(new = []∨z'=size)∧(rows.length+new.length)*(bytes+1)≤bH then
   match new with
   | []=>some (.slice g z rows,s)
   |_::_=>
    match g with
    | .full=>some (.slice (.tok s.av.length eb) size (rows++new),{s with av:=s.av++ [some (rows.length+new.length)]})
    | .shared=>none
    | .tok t y=>if(y=true→eb=true)∧z=size∧s.av[t]? = some (some rows.length)then some (.slice (.tok t y) size (rows++new),{s with av:=s.av.set t (some (rows.length+new.length))})else none
  else none
 |_,_=>none
theorem YS {size bytes:Nat} {x y d:D} {s s':St} (h:gZ size bytes x y s=some (d,s')):Et false size bytes x y s=some (d,s'):=by
 unfold gZ at h
 unfold Et
 split at h
 ·split at h
  ·rename_i hc
   simp only[hc,and_self,if_true]
   split at h
   ·exact h
   ·split at h
    ·exact h
    ·exact h
    ·cases h
    ·split at h
     ·rename_i hq
      simp only[hq,and_self,Bool.false_eq_true,false_imp_iff,if_true]
      exact h
     ·cases h
  ·cases h
 ·cases h
theorem Oz {x y d:D} {s s':St} (h:zO x y s=some (d,s')):Et true 1 1 x y s=some (d,s'):=by
 unfold zO at h
 unfold Et
 split at h
 ·split at h
  ·rename_i hc
   simp only[hc,and_self,if_true]
   split at h
   ·exact h
   ·split at h
    ·exact h
    ·exact h
    ·split at h
     ·rename_i hq
      simp only[hq,and_self,imp_true_iff,if_true]
      exact h
     ·cases h
  ·cases h
 ·cases h
theorem Uv {b:Bool} {n:Nat} (h:b=true→n=1) (hn:0<n):zs (bz b n)=n:=by
 cases b
 ·show(if n=0 then 1 else n)=n
  rw[if_neg (by omega)]
 ·simp[zs,bz,h rfl]
theorem Cn (eb:Bool) (r:Rel M s w) {t u ty e:TypeId} {i:TypeInfo} {z:Value} (ht:P.underlying t=some (.slice e)) (hi:P.info? e=some i) (hz:i.zero=some z)
 (xb:z.cells.size=i.size) (BX : ∀ v∈z.cells,v.oneCell'=true) {dx dy d:D} {x y:Value} {s':St} (hx:RD M s dx x) (Uw:eb=true→e=oT∧i.size=1) (rC:0<i.size) (he:Et eb i.size i.bytes dx dy s=some (d,s'))
 (src : ∀ (g:Tag) (size:Nat) (rows:List (List D)),dy = .slice g size rows→(rows = []→Src P i.size u y 0 [] w)∧(rows≠ []→size=i.size→(∀ row∈rows,row.length=i.size)∧∃ news:List Value,Src P i.size u y rows.length news w∧
  (∀ (k:Nat) (row:List D) (j:Nat) (d:D) (v:Value),rows[k]? = some row→row[j]? = some d→news[k*i.size+j]? = some v→RD M s d v))) :
 ∃ v w' M',(Builtin.append_ #[t,u] ty #[x,y]).run P w = .ok v w'∧Rel M' s' w'∧RD M' s' d v∧Ext M s w M' s' w':=by
 unfold Et at he
 split at he
 case h_2=>cases he
 rename_i g zx rows g' zy new
 split at he
 case isFalse=>cases he
 rename_i hc
 obtain⟨o5,Hg,vx⟩:=hc
 cases new with
 | nil=>
  simp only at he
  cases he
  have uA:Src P i.size u y 0 [] w:=(src _ _ _ rfl).1 rfl
  rcases hx.iQ with ⟨_,hv,_⟩|⟨_,_,a,cap,hv⟩|⟨b,q,cap,hv,hl,_⟩
  ·refine⟨x,w,M, ?_,r,hx,Ext.refl M s w⟩
   rw[hv]
   exact k9 ht hi uA (Nat.le_refl _)
  ·refine⟨x,w,M, ?_,r,hx,Ext.refl M s w⟩
   rw[hv]
   exact k9 ht hi uA (Nat.zero_le _)
  ·refine⟨x,w,M, ?_,r,hx,Ext.refl M s w⟩
   rw[hv]
   exact k9 ht hi uA hl
 | cons n0 new=>
  have eK:(n0::new)≠ []:=by simp
  generalize da:n0::new=dP at *
  have OA:zy=i.size:=Hg.resolve_left eK
  subst OA
  obtain⟨Fl,news,hs,Bc⟩:=(src _ _ _ rfl).2 eK rfl
  have hm:0<dP.length:=List.length_pos_iff.2 eK
  have sy:(rows.length+dP.length)*i.bytes≤140737488355328:=by rw[Nat.mul_succ]at vx;simp only[bH]at vx;omega
  have OB:rows.length+dP.length≤1099511627776:=by rw[Nat.mul_succ]at vx;simp only[bH]at vx;omega
  -- what the first argument reads as
  obtain⟨base,cap,pb,hxv,hle,ju,hod,Ux,YU,hsx,hoG,nV⟩ : ∃ (base:Option Addr) (cap:Nat) (pb:List Value),x = .slice base rows.length cap∧rows.length≤cap∧pb.length=rows.length*i.size∧
   (Builtin.firstCells i.size rows.length (.slice base rows.length cap)).run P w.drew = .ok pb.toArray w.drew∧(∀ u∈pb,u.oneCell'=true)∧
   (∀ (k:Nat) (row:List D) (j:Nat) (d:D) (v:Value),rows[k]? = some row→row[j]? = some d→pb[k*i.size+j]? = some v→RD M s d v)∧(∀ row∈rows,row.length=i.size)∧
   (∀ b q,base=some ⟨b,q,none⟩→∀ o,o<rows.length*i.size→M.G b (q+o)=pb[o]?)∧
   ((base=none∧rows = []∧iB M s g zx 0 none cap)∨∃ b q,base=some ⟨b,q,none⟩∧iB M s g zx rows.length (some (b,q)) cap):=by
   rcases o5 with h0|h0
   ·subst h0
    rcases hx.iQ with ⟨_,hv,nV⟩|⟨_,rfl,_⟩|⟨b,q,cap,hv,hl,_,_,_,nV⟩
    ·exact⟨none,0,[],hv,Nat.le_refl _,by simp,by simp[Builtin.firstCells],by simp,by simp,by simp,by simp, .inl ⟨rfl,rfl,nV⟩⟩
    ·exfalso;simp only[← da]at he;cases he
    ·exact⟨some ⟨b,q,none⟩,cap,[],hv,hl,by simp,by simp[Builtin.firstCells,loadCells,loadCellsFrom],by simp,by simp,by simp,by simp, .inr ⟨b,q,rfl,nV⟩⟩
   ·subst h0
    obtain⟨pb,z6,ho2,ho3⟩:=Fk r ht hx
    rcases hx.iQ with ⟨h0,hv,nV⟩|⟨_,rfl,_⟩|⟨b,q,cap,hv,hl,ou,_,_,nV⟩
    ·subst h0
     refine⟨none,0,pb,hv,Nat.le_refl _,z6.newsLen, ?_,z6.one,ho2,by simp,by simp, .inl ⟨rfl,rfl,nV⟩⟩
     have:=z6.cellsD;rw[hv]at this;exact this
    ·exfalso;simp only[← da]at he;cases he
    ·refine⟨some ⟨b,q,none⟩,cap,pb,hv,hl,z6.newsLen, ?_,z6.one,ho2,ou,fun b' q' heq o ho=> ?_, .inr ⟨b,q,rfl,nV⟩⟩
     ·have:=z6.cellsD;rw[hv]at this;exact this
     ·cases heq;exact ho3 b q _ cap hv o ho
  subst hxv
  -- the way that makes a new row
  have grow : ∀ (hg:cap<rows.length+dP.length),∃ (w':World) (M1:Map) (vs:Array Value) (ov:Nat),
   (Builtin.append_ #[t,u] ty #[.slice base rows.length cap,y]).run P w = .ok (.slice (some ⟨w.heap.size,0,none⟩) (rows.length+dP.length) ov) w'∧
   w'.heap[w.heap.size]? = some (.cells vs e (0,0))∧vs.size=ov*i.size∧rows.length+dP.length≤ov∧M1=M.fy w.heap.size ((rows.length+dP.length)*i.size) vs∧
   lF M s i.size (rows++dP) vs∧Rel M1 s w'∧Ext M s w M1 s w':=by
   intro hg
   have tD:=grownCap_ge w (rows.length+dP.length) cap e
   have dC:=run_append_grow_src (P:=P) w t u ty e i z ht hi hz base rows.length cap pb hod y dP.length news hs hg (by omega) (growslice_fits hg sy)
   have dS:=Dh (M:=M) (s:=s) hsx Fl ju hs.newsLen Ux hs.one YU Bc (Builtin.zeroCells z.cells (grownCap w (rows.length+dP.length) cap e - (rows.length+dP.length))) (s6 BX _)
   obtain⟨r1,e1⟩:=(r.of_heap (w':=w.drew) rfl).fy ((rows.length+dP.length)*i.size) _ e (0,0) dS.2.2.1
   refine⟨_,_,_,_,dC,heap_alloc_new w.drew _, ?_,tD,rfl,dS,r1,(Ext.of_heap (M:=M) (s:=s) (w:=w) (w':=w.drew) rfl rfl rfl rfl).trans e1⟩
   simp only[Array.size_append,List.size_toArray,List.length_append,size_zeroCells,xb,ju,hs.newsLen, ← Nat.add_mul]
   congr 1;omega
  have hlen:(rows++dP).length=rows.length+dP.length:=by simp
  cases g with
  |shared=>simp only[← da]at he;cases he
  | full=>
   have s5:cap=rows.length:=by
    rcases nV with ⟨_,h0,h1⟩|⟨_,_,_,h1⟩
    ·subst h0;exact h1
    ·exact h1
   obtain⟨w',M1,vs,ov,dC,hh,dK,hn,Di,dS,r1,e1⟩:=grow (by omega)
   simp only[← da]at he
   simp only[da]at he
   cases he
   have Hh:zs (bz eb i.size)=i.size:=Uv (fun h=>(Uw h).2) rC
   have Uy:bz eb i.size=0→e=oT:=fun h0=>by
    cases eb with
    |true=>exact(Uw rfl).1
    |false=>simp[bz]at h0;omega
   obtain⟨r2,l2⟩:=r1.Uu (rows.length+dP.length) w.heap.size ov (bz eb i.size) vs e hh (by rw[Hh];exact dK) hn Uy
    (fun off ho=>by rw[Hh]at ho;rw[Di];simp[Map.fy];omega)
    (fun o ho=>by have:=r.pM ho;rw [Di];show M.mu o≠_;omega) (fun q c z' hl heq=>by
     have:M.be q=some (w.heap.size,c,z'):=by rw[Di]at heq;exact heq
     have:=r.rT hl this;omega)
   refine⟨_,w',_,dC,r2, ?_, ?_⟩
   ·obtain⟨f1,f2⟩:=dS.fixed (e1.le.trans l2) (b:=w.heap.size) (fun o ho=>by
     rw[Di,hlen]at *
     simp[Map.eB,Map.fy,ho])
    have key:=RD.slice (M:=M1.eB s.av.length (some (w.heap.size,ov,bz eb i.size))) (s:= {s with av:=s.av++ [some (rows.length+dP.length)]}) (.tok s.av.length eb) i.size (rows++dP) w.heap.size 0 ov (by rw[hlen];exact hn) dS.2.1 f1 f2
     ⟨by simp,fun n qu=>by
      simp at qu
      subst qu
      exact⟨by rw[hlen];exact Nat.le_refl _,fun _=> .inr ⟨_,rfl,by simp[Map.eB]⟩⟩⟩
    rw[hlen]at key
    exact key
   ·refine⟨e1.le.trans l2,e1.kept,e1.sX,fun q b c z' hl heq=> ?_,e1.rp,e1.size,e1.os,e1.tape,e1.output⟩
    obtain⟨k,hk⟩:=hl
    rcases Nat.lt_or_ge q s.av.length with h|h
    ·have Hi:M1.be q=some (b,c,z'):=by
      have:(M1.eB s.av.length (some (w.heap.size,ov,bz eb i.size))).be q=M1.be q:=by simp[Map.eB];omega
      rw[this]at heq;exact heq
     simp only[List.getElem?_append_left h]at hk
     exact e1.pU q b c z' ⟨k,hk⟩ Hi
    ·have:=(List.getElem?_eq_some_iff.1 hk).1
     simp at this
     have:q=s.av.length:=by omega
     subst this
     have:(M1.eB s.av.length (some (w.heap.size,ov,bz eb i.size))).be s.av.length=some (w.heap.size,ov,bz eb i.size):=by simp[Map.eB]
     rw[this]at heq;cases heq
     exact .inr (Nat.le_refl _)
  | tok q yb=>
   simp only[← da]at he
   simp only[da]at he
   split at he
   case isFalse=>cases he
   rename_i hq
   obtain⟨Uy,hzx,hq⟩:=hq
   cases he
   have Hh:zs (bz yb i.size)=i.size:=Uv (fun h=>(Uw (Uy h)).2) rC
   have ahr:bz yb i.size=0→e=oT:=fun h0=>by
    cases yb with
    |true=>exact(Uw (Uy rfl)).1
    |false=>simp[bz]at h0;omega
   have Lq : ∀ (hg:cap<rows.length+dP.length),∃ v w' M',(Builtin.append_ #[t,u] ty #[.slice base rows.length cap,y]).run P w = .ok v w'∧Rel M' {s with av:=s.av.set q (some (rows.length+dP.length))} w'∧
    RD M' {s with av:=s.av.set q (some (rows.length+dP.length))} (.slice (.tok q yb) i.size (rows++dP)) v∧Ext M s w M' {s with av:=s.av.set q (some (rows.length+dP.length))} w':=by
    intro hg
    obtain⟨w',M1,vs,ov,dC,hh,dK,hn,Di,dS,r1,e1⟩:=grow hg
    have Hj:q<s.av.length:=(List.getElem?_eq_some_iff.1 hq).1
    obtain⟨r2,l2⟩:=r1.ac9 q rows.length (rows.length+dP.length) w.heap.size ov (bz yb i.size) vs e hq (by omega) hh (by rw[Hh];exact dK) hn ahr
     (fun off ho=>by rw[Hh]at ho;rw[Di];simp[Map.fy];omega)
     (fun o ho=>by have:=r.pM ho;rw [Di];show M.mu o≠_;omega) (fun q c z' hl heq=>by
      have:M.be q=some (w.heap.size,c,z'):=by rw[Di]at heq;exact heq
      have:=r.rT hl this;omega)
    refine⟨_,w',_,dC,r2, ?_, ?_⟩
    ·obtain⟨f1,f2⟩:=dS.fixed (e1.le.trans l2) (b:=w.heap.size) (fun o ho=>by
      rw[Di,hlen]at *
      simp[Map.eB,Map.fy,ho])
     have key:=RD.slice (M:=M1.eB q (some (w.heap.size,ov,bz yb i.size))) (s:= {s with av:=s.av.set q (some (rows.length+dP.length))}) (.tok q yb) i.size (rows++dP) w.heap.size 0 ov (by rw[hlen];exact hn) dS.2.1 f1 f2
      ⟨by simp [Hj],fun n qu=>by
       simp[Hj]at qu
       subst qu
       exact⟨by rw[hlen];exact Nat.le_refl _,fun _=> .inr ⟨_,rfl,by simp[Map.eB]⟩⟩⟩
     rw[hlen]at key
     exact key
    ·refine⟨e1.le.trans l2,e1.kept,e1.sX,fun q' b c z' hl heq=> ?_,e1.rp,e1.size,e1.os,e1.tape,e1.output⟩
     obtain⟨k,hk⟩:=hl
     by_cases h:q'=q
     ·subst h
      have:(M1.eB q' (some (w.heap.size,ov,bz yb i.size))).be q'=some (w.heap.size,ov,bz yb i.size):=by simp[Map.eB]
      rw[this]at heq;cases heq
      exact .inr (Nat.le_refl _)
     ·have Hi:M1.be q'=some (b,c,z'):=by
       have:(M1.eB q (some (w.heap.size,ov,bz yb i.size))).be q'=M1.be q':=by simp[Map.eB,h]
       rw[this]at heq;exact heq
      simp only[List.getElem?_set_ne (Ne.symm h)]at hk
      exact e1.pU q' b c z' ⟨k,hk⟩ Hi
   rcases nV with ⟨rfl,rfl,h1⟩|⟨b,k,rfl,h1⟩
   ·obtain⟨_,h2⟩:=h1
    obtain⟨_,h3⟩:=h2 _ hq
    rcases h3 rfl with ⟨_,h4⟩|⟨b,h4,_⟩
    ·exact Lq (by simp;omega)
    ·cases h4
   ·obtain⟨_,h2⟩:=h1
    obtain⟨_,h3⟩:=h2 _ hq
    rcases h3 rfl with ⟨_,h4⟩|⟨b2,h4,ku⟩
    ·exact Lq (by omega)
    cases h4
    subst hzx
    by_cases qs:rows.length+dP.length≤cap
    ·rcases r.tok q rows.length hq with ⟨h4,_⟩ | ⟨b',pX,xT,vs,T,h4,h5,h6,h7,h8⟩
     ·rw[ku]at h4;cases h4
     ·rw [ku]at h4;cases h4
      rw[Hh]at h6
      obtain⟨r2,e2⟩:=r.ada q rows.length dP.length b cap (bz yb i.size) i.size news Hh hq ku hs.newsLen qs hm hs.one vs T h5 h6 h8.2
      have iX:rows.length*i.size+news.length≤vs.size:=by rw[hs.newsLen,h6, ← Nat.add_mul];exact Nat.mul_le_mul_right _ qs
      have jr:=run_storeCells_at P b (rows.length*i.size) T news 0 vs w h5 (by simpa using iX) hs.one
      simp only[Nat.add_zero]at jr
      have dC:(Builtin.append_ #[t,u] ty #[.slice (some ⟨b,0,none⟩) rows.length cap,y]).run P w = .ok (.slice (some ⟨b,0,none⟩) (rows.length+dP.length) cap) (w.setRow b (vs.toList.take (rows.length*i.size)++news++vs.toList.drop (rows.length*i.size+news.length)).toArray):=by
       rcases hs.kind with ⟨Kf,hk⟩|hk<;>simp[Builtin.append_,run_underlying ht,run_underlying hk,sizeOf,typeInfo,hi,hs.len,qs,hs.cells,Addr.add_lit,jr]
      refine⟨_,_,_,dC,r2, ?_,e2⟩
      have hG : ∀ o,o<(rows++dP).length*i.size→(M.fix b (rows.length*i.size) news).G b o=(pb++news).toArray[o]? :=by
       intro o ho
       rw[hlen,Nat.add_mul]at ho
       rw[List.getElem?_toArray]
       by_cases h9:o<rows.length*i.size
       ·rw [List.getElem?_append_left (by omega)]
        have:(M.fix b (rows.length*i.size) news).G b o=M.G b o:=by simp[Map.fix];omega
        rw[this]
        have:=hoG b 0 rfl o h9
        rwa [Nat.zero_add]at this
       ·rw [List.getElem?_append_right (by omega),ju]
        have:(M.fix b (rows.length*i.size) news).G b o=news[o - rows.length*i.size]? :=by
         simp only[Map.fix];rw[if_pos ⟨trivial,by omega,by rw[hs.newsLen];omega⟩]
        rw[this]
      have dS:=Dh (M:=M) (s:=s) hsx Fl ju hs.newsLen Ux hs.one YU Bc #[] (by simp)
      rw[Array.append_empty]at dS
      obtain⟨f1,f2⟩:=dS.fixed e2.le (b:=b) hG
      have Hj:q<s.av.length:=(List.getElem?_eq_some_iff.1 hq).1
      have key:=RD.slice (M:=M.fix b (rows.length*i.size) news) (s:= {s with av:=s.av.set q (some (rows.length+dP.length))}) (.tok q yb) i.size (rows++dP) b 0 cap (by rw[hlen];exact qs) dS.2.1 f1 f2
       ⟨by simp [Hj],fun n qu=>by
        simp[Hj]at qu
        subst qu
        exact⟨by rw[hlen];exact Nat.le_refl _,fun _=> .inr ⟨_,rfl,ku⟩⟩⟩
      rw[hlen]at key
      exact key
    ·exact Lq (by omega)
theorem Eu (r:Rel M s w) {u e':TypeId} {i:TypeInfo} (hu:P.underlying u=some (.slice e')) {y:Value} {dy:D} (hy:RD M s dy y) (g:Tag) (size:Nat) (rows:List (List D)) (YV:dy = .slice g size rows) :
 (rows = []→Src P i.size u y 0 [] w)∧(rows≠ []→size=i.size→(∀ row∈rows,row.length=i.size)∧∃ news:List Value,Src P i.size u y rows.length news w∧
  (∀ (k:Nat) (row:List D) (j:Nat) (d:D) (v:Value),rows[k]? = some row→row[j]? = some d→news[k*i.size+j]? = some v→RD M s d v)):=by
 subst YV
 refine⟨fun h0=>?_,fun eK dK=>?_⟩
 ·subst h0
  rcases hy.iQ with ⟨_,rfl,_⟩|⟨_,_,a,cap,rfl⟩|⟨b,q,cap,rfl,_⟩
  ·exact Src.ofNil w hu 0
  ·exact Src.ofSlice w hu a 0 cap [] (by simp) (by simp) (by simp)
  ·exact Src.ofSlice w hu ⟨b,q,none⟩ 0 cap [] (by simp) (by simp) (by simp)
 ·subst dK
  obtain⟨news,h1,h2,_⟩:=Fk r hu hy
  refine⟨?_,news,h1,h2⟩
  rcases hy.iQ with ⟨h0,_⟩|⟨h0,_⟩|⟨_,_,_,_,_,h,_⟩
  ·exact(eK h0).elim
  ·exact(eK h0).elim
  ·exact h
theorem OC (r:Rel M s w) {t u ty e e':TypeId} {i:TypeInfo} {z:Value} (ht:P.underlying t=some (.slice e)) (hu:P.underlying u=some (.slice e')) (hi:P.info? e=some i) (hz:i.zero=some z)
 (xb:z.cells.size=i.size) (BX : ∀ v∈z.cells,v.oneCell'=true) {dx dy d:D} {x y:Value} {s':St} (hx:RD M s dx x) (hy:RD M s dy y) (rC:0<i.size) (he:gZ i.size i.bytes dx dy s=some (d,s')) :
 ∃ v w' M',(Builtin.append_ #[t,u] ty #[x,y]).run P w = .ok v w'∧Rel M' s' w'∧RD M' s' d v∧Ext M s w M' s' w':=
 Cn false r ht hi hz xb BX hx (fun h=>by cases h) rC (YS he) (Eu r hu hy)
theorem Lr (r:Rel M s w) {t u ty e':TypeId} {i:TypeInfo} {z:Value} (ht:P.underlying t=some (.slice oT)) (hu:P.underlying u=some (.slice e')) (hi:P.info? oT=some i) (hz:i.zero=some z) (h1:i.size=1) (h2:i.bytes=1)
 (xb:z.cells.size=i.size) (BX : ∀ v∈z.cells,v.oneCell'=true) {dx dy d:D} {x y:Value} {s':St} (hx:RD M s dx x) (hy:RD M s dy y) (he:zO dx dy s=some (d,s')) :
 ∃ v w' M',(Builtin.append_ #[t,u] ty #[x,y]).run P w = .ok v w'∧Rel M' s' w'∧RD M' s' d v∧Ext M s w M' s' w':=
 Cn true r ht hi hz xb BX hx (fun _=>⟨rfl,h1⟩) (by omega) (by rw[h1,h2];exact Oz he) (Eu r hu hy)
theorem Ls (r:Rel M s w) {t u ty:TypeId} {i:TypeInfo} {z:Value} (ht:P.underlying t=some (.slice oT)) (hu:P.underlying u=some .string) (hi:P.info? oT=some i) (hz:i.zero=some z) (h1:i.size=1) (h2:i.bytes=1)
 (xb:z.cells.size=i.size) (BX : ∀ v∈z.cells,v.oneCell'=true) {dx d:D} {x:Value} {l:List UInt8} {s':St} (hx:RD M s dx x) (he:zO dx (.slice .shared 1 (l.map fun c=> [.int .u8 c.toNat])) s=some (d,s')) :
 ∃ v w' M',(Builtin.append_ #[t,u] ty #[x, .string ⟨⟨l⟩⟩]).run P w = .ok v w'∧Rel M' s' w'∧RD M' s' d v∧Ext M s w M' s' w':=by
 have hs:Src P i.size u (.string ⟨⟨l⟩⟩) l.length (l.map fun c=> .int .u8 c.toNat) w:=by
  rw[h1]
  exact Src.ofString w hu ⟨⟨l⟩⟩
 refine Cn true r ht hi hz xb BX hx (fun _=>⟨rfl,h1⟩) (by omega) (by rw[h1,h2];exact Oz he) fun g size rows YV=>?_
 cases YV
 refine⟨fun h0=>?_,fun eK dK=>?_⟩
 ·have:l = []:=by simpa using h0
  subst this
  exact hs
 ·refine⟨fun row hr=> ?_,_,by simpa using hs,fun k row j d v e1 e2 e3=> ?_⟩
  ·obtain⟨c,_,rfl⟩:=List.mem_map.1 hr
   rw[h1];rfl
  ·rw [List.getElem?_map,Option.map_eq_some_iff]at e1
   obtain⟨c,e1,rfl⟩:=e1
   cases j with
   |zero=>
    simp at e2
    subst e2
    simp[h1,e1]at e3
    subst e3
    exact .int _ _
   |succ j=>simp at e2
end
end Go.Abs
namespace Go.Abs
section
variable {P:Program} {M:Map} {s:St} {w:World}
theorem map_some {α β:Type} {f:α→β} {x:Option α} {y:β} (h:x.map f=some y) : ∃ a,x=some a∧y=f a:=by
 cases x with
 |none=>cases h
 |some a=>cases h;exact⟨a,rfl,rfl⟩
theorem rU {t:TypeId} {z:List D} (h:zeroOf P t=some z) : ∃ i v,P.info? t=some i∧i.zero=some v∧v.cells.size=i.size∧nr v.cells.toList=some z:=by
 unfold zeroOf at h
 split at h
 ·rename_i i hi
  split at h
  ·rename_i v hv
   split at h
   ·exact⟨i,v,hi,hv, ‹_›,h⟩
   ·cases h
  ·cases h
 ·cases h
theorem qv {z:List D} {v:Value} (h:nr v.cells.toList=some z):sw M s z v.cells:=by
 obtain⟨h1,h2,h3⟩:=kU (M:=M) (s:=s) h
 exact⟨by simpa using h1.symm,fun u hu=>h2 u (by simpa using hu),fun i d u e1 e2=>h3 i d u e1 (by simpa using e2)⟩
theorem Lt {t:TypeId} {z:List D} (h:xS P t=some z) : ∃ i v,P.info? t=some i∧i.zero=some v∧v.cells.size=i.size∧sw M s z v.cells:=by
 unfold xS at h
 split at h
 ·rename_i i hi
  split at h
  ·rename_i v hv
   split at h
   ·refine⟨i,v,hi,hv, ‹_›, ?_⟩
    obtain⟨h1,h2,h3⟩:=BV (M:=M) (s:=s) h
    exact⟨by simpa using h1.symm,fun u hu=>h2 u (by simpa using hu),fun i d u e1 e2=>h3 i d u e1 (by simpa using e2)⟩
   ·cases h
  ·cases h
 ·cases h
theorem z7 {t:TypeId} {tm:Tm} {act:Act} (hr:lE M s tm act.tmps) : ∀ {l:List (Nat×Operand)} {ps:List (Nat×Nat×X)},zR P t l=some ps→
 (ps.map fun p=>(p.1,p.2.1,p.2.2.ev tm)).length=(l.map fun p=>(p.1,act.eval p.2)).length∧
 ∀ (j:Nat) (i:Nat) (v:Value) (off size:Nat) (d:D),(l.map fun p=>(p.1,act.eval p.2))[j]? = some (i,v)→(ps.map fun p=>(p.1,p.2.1,p.2.2.ev tm))[j]? = some (off,size,d)→
  (∃ a,lP P t i=some (off,size,a))∧RD M s d v
 | [],ps,h=>by cases h;exact⟨rfl,by simp⟩
 | (i0,x)::l,ps,h=>by
  unfold zR at h
  split at h
  ·rename_i off size a x' r' h1 h2 h3
   cases h
   obtain⟨g1,g2⟩:=z7 hr h3
   refine⟨by simpa using g1,fun j i v wh xT d e1 e2=>?_⟩
   cases j with
   |zero=>
    simp at e1 e2
    obtain⟨rfl,rfl⟩:=e1
    obtain⟨rfl,rfl,rfl⟩:=e2
    exact⟨⟨a,h1⟩,bM h2 hr⟩
   |succ j=>exact g2 j i v wh xT d (by simpa using e1) (by simpa using e2)
  ·cases h
theorem Dj {tm:Tm} {act:Act} (hr:lE M s tm act.tmps) : ∀ {l:List (Nat×Operand)} {ps:List (Nat×X)},G9 l=some ps→
 (ps.map fun p=>(p.1,p.2.ev tm)).length=(l.map fun p=>(p.1,act.eval p.2)).length∧
 ∀ (j:Nat) (i:Nat) (v:Value) (i':Nat) (d:D),(l.map fun p=>(p.1,act.eval p.2))[j]? = some (i,v)→(ps.map fun p=>(p.1,p.2.ev tm))[j]? = some (i',d)→i'=i∧RD M s d v
 | [],ps,h=>by cases h;exact⟨rfl,by simp⟩
 | (i0,x)::l,ps,h=>by
  unfold G9 at h
  split at h
  ·rename_i x' r' h1 h2
   cases h
   obtain⟨g1,g2⟩:=Dj hr h2
   refine⟨by simpa using g1,fun j i v i' d e1 e2=>?_⟩
   cases j with
   |zero=>
    simp at e1 e2
    obtain⟨rfl,rfl⟩:=e1
    obtain⟨rfl,rfl⟩:=e2
    exact⟨rfl,bM h1 hr⟩
   |succ j=>exact g2 j i v i' d (by simpa using e1) (by simpa using e2)
  ·cases h
theorem Dk : ∀ (l:List Field),(∀ f∈l,(P.info? f.type).isSome)→
 ∃ ps:List (Nat×Nat),(l.mapM fun f=>do pure (f.offset, ← sizeOf f.type):Sem (List (Nat×Nat))).run P w = .ok ps w∧
  ∀ (j:Nat) (f:Field) (i:TypeInfo),l[j]? = some f→P.info? f.type=some i→ps[j]? = some (f.offset,i.size)
 | [],_=>⟨[],rfl,by simp⟩
 | f::l,h=>by
  obtain⟨i,hi⟩:=Option.isSome_iff_exists.1 (h f (by simp))
  obtain⟨ps,h1,h2⟩:=Dk l (fun g hg=>h g (by simp[hg]))
  refine⟨(f.offset,i.size)::ps, ?_,fun j g i' e1 e2=>?_⟩
  ·rw [List.mapM_cons]
   simp only[Sem.run_bind,sizeOf,fL P hi,Result.andThen_ok,Sem.run_pure]at h1 ⊢
   simp only[h1,Result.andThen_ok]
  ·cases j with
   |zero=>simp at e1;subst e1;rw[hi]at e2;cases e2;rfl
   |succ j=>exact h2 j g i' (by simpa using e1) e2
theorem Lu (r:Rel M s w) {t:TypeId} {fs:Array Field} {z:List D} {l:List (Nat×Operand)} {ps:List (Nat×Nat×X)} {tm:Tm} {act:Act} {cs:List D} (hr:lE M s tm act.tmps)
 (ht:P.underlying t=some (.struct fs)) (Dl:(fs.toList.all fun f=>(P.info? f.type).isSome)=true) (hz:xS P t=some z) (hp:zR P t l=some ps) (hf:qm z (ps.map fun p=>(p.1,p.2.1,p.2.2.ev tm))=some cs) :
 cJ P M s w (do pure (.value (← Instr.build t (l.toArray.map fun(i,x)=>(i,act.eval x))))) (.agg cs) s:=by
 obtain⟨i,v,h1,h2,h3,hc⟩:=Lt (M:=M) (s:=s) hz
 obtain⟨g1,g2⟩:=z7 hr hp
 obtain⟨pl,p1,p2⟩:=Dk (P:=P) (w:=w) fs.toList (fun f hf'=>by simpa using List.all_eq_true.1 Dl f hf')
 have Wt:(fs.mapM fun f=>do pure (f.offset, ← sizeOf f.type):Sem (Array (Nat×Nat))).run P w = .ok pl.toArray w:=by
  rw[Array.mapM_eq_mapM_toList,Sem.run_map,p1];rfl
 obtain⟨vs,f1,f2⟩:=He (place:=(pl.toArray[·]?)) (l.map fun p=>(p.1,act.eval p.2)) _ z v.cells cs hc g1 (fun j i v off size d e1 e2=>by
  obtain⟨⟨a,ha⟩,hd⟩:=g2 j i v off size d e1 e2
  refine⟨?_,hd⟩
  unfold lP at ha
  rw[ht]at ha
  simp only at ha
  split at ha
  ·rename_i fd hfd
   split at ha
   ·rename_i i' a' gI _
    split at ha
    ·cases ha
    ·cases ha
     simpa using p2 i fd i' (by simpa using hfd) gI
   ·cases ha
  ·cases ha) hf
 refine cJ.pure (v:= .agg vs) r ?_ (.agg _ _ f2.1.symm f2.2.1 f2.2.2)
 have rj:(l.toArray.map fun(i,x)=>(i,act.eval x)).toList=l.map fun p=>(p.1,act.eval p.2):=by simp
 unfold Instr.build
 simp only[Sem.run_bind,zeroValue,fL P h1,h2,Result.andThen_ok,Sem.run_pure,run_underlying ht,Wt,rj,f1]
theorem BY (r:Rel M s w) {t e:TypeId} {i:TypeInfo} {z:List D} {n:Nat} {l:List (Nat×Operand)} {ps:List (Nat×X)} {tm:Tm} {act:Act} {rows:List (List D)} (hr:lE M s tm act.tmps)
 (ht:P.underlying t=some (.slice e)) (hi:P.info? e=some i) (hz:zeroOf P e=some z) (rC:0<i.size) (hn:n*i.size≤65536) (hp:G9 l=some ps)
 (hf:jJ i.size (fK z n) (ps.map fun p=>(p.1,p.2.ev tm))=some rows) :
 ∃ (vs:Array Value) (T:TypeId),lF M s i.size rows vs∧rows.length=n∧vs.size=n*i.size∧
  (Instr.buildSlice t n (l.toArray.map fun(i,x)=>(i,act.eval x))).run P w = .ok (.slice (some ⟨w.heap.size,0,none⟩) n n) (w.alloc (.cells vs T)):=by
 obtain⟨i',v,h1,h2,h3,h4⟩:=rU hz
 rw[hi]at h1;cases h1
 have hc:=qv (M:=M) (s:=s) h4
 have Uz:z.length=i.size:=by rw[← hc.1,h3]
 have Fm:=lF.zero hc (by omega) n
 rw[Uz]at Fm
 obtain⟨g1,g2⟩:=Dj hr hp
 obtain⟨vs,f1,f2,f3,f4⟩:=zZ (l.map fun p=>(p.1,act.eval p.2)) _ _ _ rows Fm g1 g2 hf
 have hzr:=lG z n
 refine⟨vs,e,f2,by rw[f3,hzr],by rw[f4];simp, ?_⟩
 have sy : ¬ (n*i.size > 2 ^ 24):=by omega
 have rj:(l.toArray.map fun(i,x)=>(i,act.eval x)).toList=l.map fun p=>(p.1,act.eval p.2):=by simp
 by_cases h0:n*i.size=0
 ·have lH:(Array.range (n*i.size)).map ((#[] : Array Value)[· % (#[] : Array Value).size]!)=(Array.range (n*i.size)).map (v.cells[· % v.cells.size]!):=by rw [h0];simp
  unfold Instr.buildSlice
  simp only[Sem.run_bind,run_underlying ht,Result.andThen_ok,sizeOf,fL P hi,Sem.run_pure,if_neg sy,if_pos h0,lH,rj,f1,newRow,run_newObj]
  rfl
 ·unfold Instr.buildSlice
  simp only[Sem.run_bind,run_underlying ht,Result.andThen_ok,sizeOf,fL P hi,Sem.run_pure,if_neg sy,if_neg h0,zeroValue,h2,rj,f1,newRow,run_newObj]
  rfl
end
end Go.Abs
namespace Go.Abs
section
variable {P:Program} {M:Map} {s:St} {w:World}
theorem foldl_push (ns:List Int) : ∀ r:ByteArray,ns.foldl (fun r n=>r.push (UInt8.ofNat n.toNat)) r = ⟨r.data++(ns.map fun n=>UInt8.ofNat n.toNat).toArray⟩:=by
 induction ns with
 |nil=>intro r;simp
 |cons n ns ih=>intro r;simp only[List.foldl_cons];rw[ih];simp[ByteArray.push]
theorem uB : ∀ {rows:List (List D)} {l:List UInt8},nQ rows=some l→∃ ns:List Int,rows=ns.map (fun n=> [.int .u8 n])∧l=ns.map fun n=>UInt8.ofNat n.toNat
 | [],l,h=>by cases h;exact⟨[],rfl,rfl⟩
 | r::rs,l,h=>by
  unfold nQ at h
  split at h
  ·rename_i b bs h1 h2
   cases h
   obtain⟨ns,g1,g2⟩:=uB h2
   unfold Fh at h1
   split at h1
   ·rename_i n
    cases h1
    exact⟨n::ns,by rw[g1];rfl,by rw[g2];rfl⟩
   ·cases h1
  ·cases h
theorem Lv (r:Rel M s w) {src dst e:TypeId} {g:Tag} {z:Nat} {rows:List (List D)} {v:Value} {l:List UInt8} (hs:P.underlying src=some (.slice e)) (he:P.underlying e=some (.int .u8)) (hd:P.underlying dst=some .string)
 (hv:RD M s (.slice g z rows) v) (hb:nQ rows=some l):cJ P M s w (do pure (.value (← convert src dst v))) (.str l) s:=by
 obtain⟨ns,rfl,rfl⟩:=uB hb
 refine cJ.pure (v:= .string ⟨⟨ns.map fun n=>UInt8.ofNat n.toNat⟩⟩) r ?_ (.str _)
 rcases hv.iQ with ⟨h0,rfl,_⟩|⟨h0,_,a,cap,rfl⟩|⟨b,q,cap,rfl,hl,dK,g1,g2,_⟩
 ·have:ns = []:=by simpa using h0
  subst this
  have:=run_convert_bytes_string w src dst e none 0 0 hs he hd
  simp only[Sem.run_bind,this,Conv.bytesToString,Sem.run_pure,Result.andThen_ok]
  rfl
 ·have:ns = []:=by simpa using h0
  subst this
  have h2:=run_convert_bytes_string w src dst e (some a) 0 cap hs he hd
  simp only[Sem.run_bind,h2,Conv.bytesToString,Sem.run_pure,Result.andThen_ok]
  rfl
 ·have lH:=run_loadCells_list (P:=P) w ⟨b,q,none⟩ (ns.map (Value.int .u8)) (fun j v hj=>by
   rw[lQ]
   simp only[List.getElem?_map,Option.map_eq_some_iff]at hj
   obtain⟨n,hn,rfl⟩:=hj
   have dS:(ns.map (fun n=> [D.int .u8 n]))[j]? = some [.int .u8 n]:=by simp[hn]
   have hz:z=1:=by have:=dK [.int .u8 n] (List.mem_of_getElem? dS);simpa using this.symm
   subst hz
   obtain⟨u,hu⟩:=g1 j _ 0 _ dS rfl
   have:=g2 j _ 0 _ u dS rfl hu
   rw[this.gT]at hu
   have:=(r.comm _ _ _ hu).1
   simpa using this)
  simp only[List.length_map]at lH ⊢
  have h1:=run_bytesToString (P:=P) w ⟨b,q,none⟩ ns.length cap ns lH
  have h2:=run_convert_bytes_string w src dst e (some ⟨b,q,none⟩) ns.length cap hs he hd
  simp only[Sem.run_bind,h2,h1,Sem.run_pure,Result.andThen_ok,foldl_push]
  congr 3
  simp[ByteArray.empty,ByteArray.emptyWithCapacity]
  rfl
theorem Hk (r:Rel M s w) {src dst e:TypeId} {l:List UInt8} (hs:P.underlying src=some .string) (hd:P.underlying dst=some (.slice e)) (he:P.underlying e=some (.int .u8)) :
 cJ P M s w (do pure (.value (← convert src dst (.string ⟨⟨l⟩⟩)))) (.slice .shared 1 (l.map fun c=> [.int .u8 c.toNat])) s:=by
 have dC:=run_bytes_of_string (P:=P) w src dst e ⟨⟨l⟩⟩ hs hd he
 generalize s5:grownCap w (ByteArray.size ⟨⟨l⟩⟩) 0 e=cap at dC
 have tD:l.length≤cap:=by rw[← s5];exact grownCap_ge w l.length 0 e
 have dS : ∀ j,j<l.length→(bytesRow ⟨⟨l⟩⟩ cap)[j]? = some (.int .u8 ((l[j]?.getD 0).toNat:Int)):=by
  intro j hj
  unfold bytesRow
  rw[Array.getElem?_append_left (by simpa using hj)]
  simp[hj]
 have dK:(bytesRow ⟨⟨l⟩⟩ cap).size=cap:=by simp[bytesRow,Bb];omega
 have gH : ∀ v∈bytesRow ⟨⟨l⟩⟩ cap,v.oneCell'=true:=by
  intro v hv
  unfold bytesRow at hv
  simp at hv
  rcases hv with ⟨a,_,rfl⟩|⟨_,rfl⟩<;>rfl
 have hR:lF M s 1 (l.map fun c=> [D.int .u8 c.toNat]) (bytesRow ⟨⟨l⟩⟩ cap):=by
  refine⟨by simp[dK];omega,by simp,gH,fun i row j d v e1 e2 e3=>?_⟩
  simp only[List.getElem?_map,Option.map_eq_some_iff]at e1
  obtain⟨c,hc,rfl⟩:=e1
  cases j with
  |zero=>
   simp at e2;subst e2
   have hi:=(List.getElem?_eq_some_iff.1 hc).1
   rw[show i*1+0=i by omega,dS i hi,hc]at e3
   cases e3
   exact .int _ _
  |succ j=>simp at e2
 obtain⟨r1,e1⟩:=(r.of_heap (w':=w.drew) rfl).fy l.length (bytesRow ⟨⟨l⟩⟩ cap) e ((bytesRow ⟨⟨l⟩⟩ cap).size,(bytesRow ⟨⟨l⟩⟩ cap).size+1) gH
 obtain⟨f1,f2⟩:=hR.fixed e1.le (b:=w.heap.size) (fun o ho=>by simp at ho;simp[Map.fy,ho])
 refine⟨.slice (some ⟨w.heap.size,0,none⟩) l.length cap,_,_, .inl (by simp only[Sem.run_bind,dC,Result.andThen_ok,Sem.run_pure];rfl),r1, ?_,(Ext.of_heap (M:=M) (s:=s) (w:=w) (w':=w.drew) rfl rfl rfl rfl).trans e1⟩
 have key:=RD.slice (M:=M.fy w.heap.size l.length (bytesRow ⟨⟨l⟩⟩ cap)) (s:=s) .shared 1 (l.map fun c=> [D.int .u8 c.toNat]) w.heap.size 0 cap (by simpa using tD) hR.2.1 f1 f2 trivial
 simp only[List.length_map]at key
 exact key
theorem Rx (r:Rel M s w) {t e:TypeId} {q z:Nat} {yb:Bool} {rows:List (List D)} {v:Value} (ht:P.underlying t=some (.slice e)) (he:P.underlying e=some (.int .u8)) (hv:RD M s (.slice (.tok q yb) z rows) v) (eK:rows≠ []) (hq:s.av[q]? = some (some rows.length)) :
 cJ P M s w (do pure (.value (← convert t t v))) (.slice .shared z rows) {s with av:=s.av.set q none}:=by
 rcases hv.iQ with ⟨h0,_,_⟩|⟨h0,_,_⟩|⟨b,k,cap,rfl,hl,dK,g1,g2,nV⟩
 ·exact(eK h0).elim
 ·exact(eK h0).elim
 ·obtain⟨_,h2⟩:=nV
  obtain⟨_,h3⟩:=h2 _ hq
  rcases h3 rfl with ⟨_,h4,_⟩|⟨b2,h4,ku⟩
  ·subst h4
   exact(eK (List.eq_nil_of_length_eq_zero (Nat.le_zero.1 hl))).elim
  cases h4
  obtain⟨r1,l1⟩:=r.adb q
  rcases r.tok q rows.length hq with ⟨h4,_⟩|⟨b',pX,xT,vs,T,h4,h5,h6,h7,h8⟩
  ·rw[ku]at h4;cases h4
  ·rw [ku]at h4;cases h4
   have ij : ∀ p,St.live {s with av:=s.av.set q none} p→p≠q∧s.live p:=by
    rintro p ⟨n,hn⟩
    rw[List.getElem?_set]at hn
    split at hn
    ·simp at hn
    ·rename_i eK;exact⟨fun h=>eK h.symm,n,hn⟩
   obtain⟨r2,hh,ou,ho,Dm,Ry⟩:=r1.freeze (b:=b) vs.size 1 (fun o ho=>r.eZ q b cap _ o ⟨_,hq⟩ ku ho)
    (fun p c y hp heq=>(ij p hp).1 (r.fJ p q b c y cap _ (ij p hp).2 ⟨_,hq⟩ heq ku))
   have YW:w.shape? b=some (T,vs.size):=by simp[World.shape?,h5]
   refine⟨.slice (some ⟨b,0,none⟩) rows.length cap,_,M, .inl ?_,r2, ?_, ?_⟩
   ·simp[convert,run_underlying ht,run_underlying he,markStringish,YW]
   ·have h9:=(RD.slice (M:=M) (s:=s) .shared z rows b 0 cap hl dK g1 g2 trivial).mono l1
    exact h9
   ·refine⟨l1,fun p _ _ h4=>hh p (fun e=>h4 q cap (bz yb z) ⟨_,hq⟩ (by rw [ku,e])),fun o h3 h4=> ?_,fun p b' c y hp heq=> .inl ⟨(ij p hp).2,c,y,heq⟩,fun _ _ h=>(h rfl).elim,by rw [ou];exact Nat.le_refl _,ho,Dm,Ry⟩
    simp at h4;omega
theorem OD (r:Rel M s w) {size:Nat} {rows:List (List D)} {vs:Array Value} (T:TypeId) (h:lF M s size rows vs) (dK:vs.size=rows.length*size) (rC:0<size) :
 ∃ M',RD M' {s with av:=s.av++ [some rows.length]} (.slice (.tok s.av.length) size rows) (.slice (some ⟨w.heap.size,0,none⟩) rows.length rows.length)∧
 Rel M' {s with av:=s.av++ [some rows.length]} (w.alloc (.cells vs T))∧Ext M s w M' {s with av:=s.av++ [some rows.length]} (w.alloc (.cells vs T)):=by
 obtain⟨r1,e1⟩:=r.fy vs.size vs T (0,0) h.2.2.1
 have xb:zs size=size:=by show(if size=0 then 1 else size)=size;rw[if_neg (by omega)]
 obtain⟨r2,l2⟩:=r1.Uu rows.length w.heap.size rows.length size vs T (heap_alloc_new w _) (by rw[xb];exact dK) (Nat.le_refl _) (fun h=>by omega)
  (fun off ho=>by rw[xb]at ho;simp[Map.fy];omega) (fun o ho=>by have:=r.pM ho;show M.mu o≠_;omega)
  (fun q c z' hl heq=>by have:=r.rT hl (show M.be q=some (w.heap.size,c,z')from heq);omega)
 obtain⟨f1,f2⟩:=h.fixed (e1.le.trans l2) (b:=w.heap.size) (fun o ho=>by
  have:o<vs.size:=Nat.lt_of_lt_of_le ho h.1
  simp[Map.eB,Map.fy,this])
 refine⟨_, ?_,r2, ?_⟩
 ·exact .slice _ size rows w.heap.size 0 rows.length (Nat.le_refl _) h.2.1 f1 f2 ⟨by simp,fun n hn=>by
   simp at hn;subst hn
   exact⟨Nat.le_refl _,fun _=> .inr ⟨_,rfl,by simp[Map.eB,bz]⟩⟩⟩
 ·refine⟨e1.le.trans l2,e1.kept,e1.sX,fun q b c z' hl heq=> ?_,e1.rp,e1.size,e1.os,e1.tape,e1.output⟩
  obtain⟨k,hk⟩:=hl
  rcases Nat.lt_or_ge q s.av.length with h'|h'
  ·have Hi:M.be q=some (b,c,z'):=by
    have:((M.fy w.heap.size vs.size vs).eB s.av.length (some (w.heap.size,rows.length,size))).be q=M.be q:=by simp[Map.eB,Map.fy];omega
    rw[this]at heq;exact heq
   simp only[List.getElem?_append_left h']at hk
   exact .inl ⟨⟨k,hk⟩,c,z',Hi⟩
  ·have:=(List.getElem?_eq_some_iff.1 hk).1
   simp at this
   have:q=s.av.length:=by omega
   subst this
   have:((M.fy w.heap.size vs.size vs).eB s.av.length (some (w.heap.size,rows.length,size))).be s.av.length=some (w.heap.size,rows.length,size):=by simp[Map.eB]
   rw[this]at heq;cases heq
   exact .inr (Nat.le_refl _)
end
end Go.Abs
namespace Go.Abs
open Go.MapKept
section
variable {P:Program} {M:Map} {s:St} {w:World}
theorem vy : ∀ (a b:List MapEntry),gu (a++b)=gu a++gu b
 | [],b=>rfl
 |e::a,b=>by simp only[List.cons_append,gu,vy a b]
theorem Fo : ∀ (a:List MapEntry) (j:Nat) (e:MapEntry) (k v:Value),a[j]? = some e→e.key=k→gu (a.set j {e with key:=k,val:=v})=(gu a).set (2*j+1) v
 | [],j,e,k,v,h,_=>by simp at h
 |x::a,0,e,k,v,h,hk=>by
  simp at h;subst h;subst hk
  simp[gu]
 |x::a,j+1,e,k,v,h,hk=>by
  have:=Fo a j e k v (by simpa using h) hk
  simp only[List.set_cons_succ,gu,this]
  rw[show 2*(j+1)=(2*j+1)+1 by omega,List.set_cons_succ]
theorem Rz (a b:List UInt8):((⟨⟨a⟩⟩:ByteArray) == ⟨⟨b⟩⟩)=(a==b):=by
 show((⟨a⟩:Array UInt8) == ⟨b⟩)=(a==b)
 simp
theorem find_spec {key:List UInt8} : ∀ (es:List MapEntry) (cs:List D) (i:Nat),(gu es).length=cs.length→(∀ (i:Nat) (d:D) (v:Value),cs[i]? = some d→(gu es)[i]? = some v→RD M s d v)→
 (∀ z d,xQ key z cs=some d→(Instr.findNow .string (.string ⟨⟨key⟩⟩) es i=some none∧d=z)∨∃ (j:Nat) (e:MapEntry),Instr.findNow .string (.string ⟨⟨key⟩⟩) es i=some (some (i+j,e.val))∧RD M s d e.val)∧
 (∀ d jq,we key d cs=some jq→(Instr.findNow .string (.string ⟨⟨key⟩⟩) es i=some none∧jq=cs++ [.str key,d])∨
  ∃ (j:Nat) (e:MapEntry),Instr.findNow .string (.string ⟨⟨key⟩⟩) es i=some (some (i+j,e.val))∧es[j]? = some e∧e.key = .string ⟨⟨key⟩⟩∧jq=cs.set (2*j+1) d)
 | [],cs,i,hl,hr=>by
  have:cs = []:=by cases cs<;>simp[gu]at hl;rfl
  subst this
  refine⟨fun z d h=> .inl ⟨rfl,by simp[xQ]at h;exact h.symm⟩,fun d jq h=> .inl ⟨rfl,by simp[we]at h;simp[← h]⟩⟩
 | x::es,cs,i,hl,hr=>by
  match cs,hl with
  | [],hl=>simp[gu]at hl
  | [_],hl=>simp[gu]at hl
  | c0::c1::r,hl=>
   simp only[gu,List.length_cons]at hl hr
   have h0:=hr 0 c0 x.key rfl rfl
   have h1:=hr 1 c1 x.val rfl rfl
   obtain⟨ih1,ih2⟩:=find_spec es r (i+1) (by omega) (fun j d v e1 e2=>hr (j+2) d v (by simpa using e1) (by simpa using e2))
   have hky : ∀ k,c0 = .str k→x.key = .string ⟨⟨k⟩⟩∧Instr.findNow .string (.string ⟨⟨key⟩⟩) (x::es) i=if key==k then some (some (i,x.val))else Instr.findNow .string (.string ⟨⟨key⟩⟩) es (i+1):=by
    intro k hk
    subst hk
    have hx:=h0.kT
    refine⟨hx, ?_⟩
    simp only[Instr.findNow,hx,Instr.sameNow,Rz]
    cases hb:key==k<;>simp
   refine⟨fun z d h=>?_,fun d jq h=>?_⟩
   ·cases c0 <;> simp only [xQ]at h <;> try (cases h;done)
    rename_i k
    obtain⟨k1,k2⟩:=hky k rfl
    rw[k2]
    by_cases yZ:k=key
    ·subst yZ
     simp at h
     subst h
     exact .inr ⟨0,x,by simp,h1⟩
    ·have e1:(k==key)=false:=by simpa using yZ
     have e2:(key==k)=false:=by simpa using fun e:key=k=>yZ (Eq.symm e)
     rw[e1]at h
     rw[e2]
     simp only[Bool.false_eq_true,↓reduceIte]at h ⊢
     rcases ih1 z d h with h2|⟨j,e,h2,h3⟩
     ·exact .inl h2
     ·exact .inr ⟨j+1,e,by rw[h2];congr 3;omega,h3⟩
   ·cases c0 <;> simp only [we]at h <;> try (cases h;done)
    rename_i k
    obtain⟨k1,k2⟩:=hky k rfl
    rw[k2]
    by_cases yZ:k=key
    ·subst yZ
     simp at h
     subst h
     exact .inr ⟨0,x,by simp,rfl,k1,by simp⟩
    ·have e1:(k==key)=false:=by simpa using yZ
     have e2:(key==k)=false:=by simpa using fun e:key=k=>yZ (Eq.symm e)
     rw[e1]at h
     rw[e2]
     simp only[Bool.false_eq_true,↓reduceIte]at h ⊢
     split at h
     ·rename_i r' Oy
      cases h
      rcases ih2 d r' Oy with ⟨h2,h3⟩|⟨j,e,h2,h3,h4,h5⟩
      ·exact .inl ⟨h2,by rw[h3];rfl⟩
      ·refine .inr ⟨j+1,e,by rw [h2];congr 3;omega,by simpa using h3,h4, ?_⟩
       rw[h5,show 2*(j+1)+1=(2*j+1)+1+1 by omega]
       simp only[List.set_cons_succ]
     ·cases h
theorem Rel.s9 (r:Rel M s w) {o:Nat} {cs jq:List D} (he:s.ah[o]? = some cs) (hk:M.ob o = .map) (z8:Array MapEntry) (ck:Nat) (hl:(gu z8.toList).length=jq.length)
 (h1 : ∀ v∈gu z8.toList,v.oneCell'=true) (h2 : ∀ (i:Nat) (d:D) (v:Value),jq[i]? = some d→(gu z8.toList)[i]? = some v→RD M s d v) :
 Rel M {s with ah:=s.ah.set o jq} {w with heap:=w.heap.setIfInBounds (M.mu o) (.map z8 ck)}∧Ext M s w M {s with ah:=s.ah.set o jq} {w with heap:=w.heap.setIfInBounds (M.mu o) (.map z8 ck)}:=by
 obtain⟨vs,T,hh,hs,⟨gH,Ut⟩,jd⟩:=r.obj o cs he
 obtain⟨es,ck0,(hh:w.heap[M.mu o]? = _),sA⟩:=hh.K7 hk
 have ho:o<s.ah.length:=(List.getElem?_eq_some_iff.1 he).1
 obtain⟨tW,lD⟩:=heap_set (w:=w) (o':= .map z8 ck) hh
 have le:Le M s M {s with ah:=s.ah.set o jq}:=
  ⟨fun _ _ _ h=>h,by simp,fun _ _=> .refl _,Nat.le_refl _,fun t n _ h=>⟨n,h,Nat.le_refl _,fun _=>rfl⟩⟩
 refine⟨⟨fun b q v e=>?_,fun o' ds e=>?_,fun q hq wh=>r.jv q (by simpa using hq) wh,fun q q' hq l5 e=>r.inj q q' (by simpa using hq) (by simpa using l5) e,fun t n e=>?_,
  fun t b c z q hl e hq=>r.eZ t b c z q hl e (by simpa using hq),fun t t' b c z c' z' h h' e e'=>r.fJ t t' b c z c' z' h h' e e'⟩, ?_⟩
 ·obtain⟨h3,h4⟩:=r.comm b q v e
  refine⟨?_,h4⟩
  have hb:b≠M.mu o:=fun eq=>by subst eq;rw[r.jv o ho q]at e;cases e
  rw[← h3]
  simp[World.cell?,lD b hb]
 ·rw [List.getElem?_set]at e
  split at e
  ·rename_i heq
   subst heq
   simp at e
   obtain⟨_,rfl⟩:=e
   refine⟨⟨gu z8.toList⟩,0, ?_,by simpa using hl,⟨fun v hv=>h1 v (by simpa using hv),fun T' h=>?_⟩,fun i d v e1 e2=>(h2 i d v e1 (by simpa using e2)).mono le⟩
   ·exact ig.ofMap hk ⟨z8,ck,tW,rfl⟩
   ·have:M.ty o=none:=by
     have:(M.loc o).2 = .map:=hk
     simp[Map.ty,this,Ob.ty?]
    rw[this]at h;cases h
  ·rename_i eK
   obtain⟨fu,T',h3,h4,h5,h6⟩:=r.obj o' ds e
   have nc:o'<s.ah.length:=(List.getElem?_eq_some_iff.1 e).1
   refine⟨fu,T', ?_,h4,h5,fun i d v e1 e2=>(h6 i d v e1 e2).mono le⟩
   exact h3.keep (lD _ (fun eq=>eK (r.inj o o' ho nc eq.symm)))
 ·rcases r.tok t n e with h3 | ⟨b,cap,size,fu,T',h3,h4,h5⟩
  ·exact .inl h3
  ·refine .inr ⟨b,cap,size,fu,T',h3, ?_,h5⟩
   show(w.heap.setIfInBounds (M.mu o) (.map z8 ck))[b]? = _
   rw[lD b (fun eq=>r.eZ t b cap size o ⟨n,e⟩ h3 ho eq.symm)];exact h4
 ·refine⟨le,fun b hb h3 _=>lD b (fun eq=>h3 o ho eq.symm),fun q h3 h4=> ?_,fun t b c z h e=> .inl ⟨h,c,z,e⟩,fun _ _ h=>(h rfl).elim,by simp,rfl,rfl,rfl⟩
  simp at h4;rcases h3 with h3|h3;omega;exact(h3 rfl).elim
theorem sB (l:List UInt8):IsKey .string (.string ⟨⟨l⟩⟩):=by simp[IsKey]
theorem Lw (r:Rel M s w) {t kt e:TypeId} (ht:P.underlying t=some (.map kt e)):cJ P M s w (do pure (.value (← Instr.makeMap t none))) (.fI s.ah.length) {s with ah:=s.ah++ [[]]}:=by
 obtain⟨r',e'⟩:=r.Ha [] (.map #[] 0) #[] 0 .map (fun hp e=>⟨#[],0,e,rfl⟩) (fun _ h=>by cases h) rfl (by simp) (by simp)
 have hm:(M.dJ s.ah.length w.heap.size .map).mu s.ah.length=w.heap.size:=by simp[Map.dJ,Map.mu]
 have hv:=RD.fI (M:=M.dJ s.ah.length w.heap.size .map) (s:= {s with ah:=s.ah++ [[]]}) s.ah.length (by simp) (by simp[Map.dJ,Map.ob])
 rw[hm]at hv
 refine⟨_,_,_, .inl ?_,r',hv,e'⟩
 simp only[Instr.makeMap,newObj,Sem.run_bind,Sem.run_pure,Sem.run,Result.andThen_ok]
 rfl
theorem Lx (r:Rel M s w) {t kt e:TypeId} {i:TypeInfo} {z:Value} {zd:D} (ht:P.underlying t=some (.map kt e)) (hk:P.underlying kt=some .string) (hi:P.info? e=some i) (hz:i.zero=some z) (YX:rr z=some zd)
 {o:Nat} {key:List UInt8} {cs:List D} {d:D} (wZ:M.ob o = .map) (ho:s.ah[o]? = some cs) (hg:xQ key zd cs=some d) :
 cJ P M s w (do pure (.value (← Instr.lookup t (.map (some (M.mu o))) (.string ⟨⟨key⟩⟩) false))) d s:=by
 obtain⟨vs,T,hh,hs,⟨gH,Ut⟩,jd⟩:=r.obj o cs ho
 obtain⟨es,ck,(hh:w.heap[M.mu o]? = _),sA⟩:=hh.K7 wZ
 have Cp : ∀ (i:Nat) (d:D) (v:Value),cs[i]? = some d→(gu es.toList)[i]? = some v→RD M s d v:=fun i d v e1 e2=>jd i d v e1 (by rw[← sA]at e2;simpa using e2)
 have hzv:(zeroValue e).run P w = .ok z w:=by simp[zeroValue,fL P hi,hz]
 rcases(find_spec es.toList cs 0 (by rw[← sA];simpa using hs) Cp).1 zd d hg with ⟨h1,rfl⟩|⟨j,en,h1,h2⟩
 ·refine cJ.pure (v:=z) r ?_ (pN YX).1
  simp[Instr.lookup,run_underlying ht,MapKept.run_getObj_map hh,run_checkKey hk (sB key),run_findKey hk h1,hzv]
 ·refine cJ.pure (v:=en.val) r ?_ h2
  simp[Instr.lookup,run_underlying ht,MapKept.run_getObj_map hh,run_checkKey hk (sB key),run_findKey hk h1]
theorem OE (r:Rel M s w) {t kt e:TypeId} (ht:P.underlying t=some (.map kt e)) (hk:P.underlying kt=some .string)
 {o:Nat} {key:List UInt8} {cs jq:List D} {d:D} {v:Value} (wZ:M.ob o = .map) (ho:s.ah[o]? = some cs) (hv:RD M s d v) (xc:v.oneCell'=true) (hg:we key d cs=some jq) :
 cJ P M s w (do Instr.mapUpdate t (.map (some (M.mu o))) (.string ⟨⟨key⟩⟩) v;pure .skip) (.tuple []) {s with ah:=s.ah.set o jq}:=by
 obtain⟨vs,T,hh,hs,⟨gH,Ut⟩,jd⟩:=r.obj o cs ho
 obtain⟨es,ck,(hh:w.heap[M.mu o]? = _),sA⟩:=hh.K7 wZ
 have Cp : ∀ (i:Nat) (d:D) (v:Value),cs[i]? = some d→(gu es.toList)[i]? = some v→RD M s d v:=fun i d v e1 e2=>jd i d v e1 (by rw[← sA]at e2;simpa using e2)
 have hl:(gu es.toList).length=cs.length:=by rw[← sA];simpa using hs
 have UA : ∀ v∈gu es.toList,v.oneCell'=true:=fun v hv=>gH v (by rw[← sA]at hv;simpa using hv)
 rcases(find_spec es.toList cs 0 hl Cp).2 d jq hg with ⟨h1,rfl⟩|⟨j,en,h1,h2,h3,rfl⟩
 ·obtain⟨r',e'⟩:=r.s9 (jq:=cs++ [.str key,d]) ho wZ (es.push {key:= .string ⟨⟨key⟩⟩,val:=v,born:=ck}) (ck+1) (by simp [vy,gu,hl]) (fun u hu=>by
   simp only[Array.toList_push,vy,gu,List.mem_append,List.mem_cons,List.not_mem_nil,or_false]at hu
   rcases hu with hu|rfl|rfl
   ·exact UA u hu
   ·rfl
   ·exact xc) (fun i d' u e1 e2=>by
   simp only[Array.toList_push,vy,gu]at e2
   rcases Nat.lt_or_ge i cs.length with hi|hi
   ·rw [List.getElem?_append_left hi]at e1
    rw[List.getElem?_append_left (by omega)]at e2
    exact Cp i d' u e1 e2
   ·rw [List.getElem?_append_right hi]at e1
    rw[List.getElem?_append_right (by omega),hl]at e2
    match i - cs.length,e1,e2 with
    | 0,e1,e2=>simp at e1 e2;subst e1 e2;exact .str _
    | 1,e1,e2=>simp at e1 e2;subst e1 e2;exact hv
    |k+2,e1,e2=>simp at e1)
  refine⟨Go.undef,_,M, .inr ⟨?_,rfl⟩,r', .undef,e'⟩
  simp[Instr.mapUpdate,run_underlying ht,MapKept.run_getObj_map hh,run_checkKey hk (sB key),run_findKey hk h1,MapKept.run_setObj_map _ hh]
 ·simp only [Nat.zero_add]at h1
  have hj:es[j]? = some en:=by simpa using h2
  have RA:(es.modify j fun e=> {e with key:= .string ⟨⟨key⟩⟩,val:=v}).toList=es.toList.set j {en with key:= .string ⟨⟨key⟩⟩,val:=v}:=by
   apply List.ext_getElem?
   intro i
   rw[Array.getElem?_toList,Array.getElem?_modify,List.getElem?_set]
   by_cases UB:j=i
   ·subst UB
    have:j<es.size:=by have:=(List.getElem?_eq_some_iff.1 h2).1;simpa using this
    simp[hj,this]
    have:=(Array.getElem?_eq_some_iff.1 hj).2
    rw[this]
   ·simp[UB]
  have iR:=Fo es.toList j en (.string ⟨⟨key⟩⟩) v h2 h3
  obtain⟨r',e'⟩:=r.s9 (jq:=cs.set (2*j+1) d) ho wZ (es.modify j fun e=> {e with key:= .string ⟨⟨key⟩⟩,val:=v}) ck (by rw[RA,iR];simp[hl]) (fun u hu=>by
   rw[RA,iR]at hu
   rcases List.mem_or_eq_of_mem_set hu with hu|rfl
   ·exact UA u hu
   ·exact xc) (fun i d' u e1 e2=>by
   rw[RA,iR,List.getElem?_set]at e2
   rw[List.getElem?_set]at e1
   by_cases hi:2*j+1=i
   ·rw [if_pos hi]at e1 e2
    split at e1
    ·split at e2
     ·cases e1;cases e2;exact hv
     ·cases e2
    ·cases e1
   ·rw [if_neg hi]at e1 e2
    exact Cp i d' u e1 e2)
  refine⟨Go.undef,_,M, .inr ⟨?_,rfl⟩,r', .undef,e'⟩
  simp[Instr.mapUpdate,run_underlying ht,MapKept.run_getObj_map hh,run_checkKey hk (sB key),run_findKey hk h1,hj,h3,run_keyThatStays (sB key),MapKept.run_setObj_map _ hh]
end
end Go.Abs
namespace Go.Abs
section
variable {M:Map} {s:St} {w:World}
theorem Dn {o g:Nat} {cells:List D} (h:nq s o g=some cells):s.ah[o]? = some (.int .i64 g::cells):=by
 unfold nq at h
 split at h
 ·rename_i n cs e
  split at h
  ·rename_i hn;cases h;rw[e,hn]
  ·cases h
 ·cases h
theorem Rel.Hl (r:Rel M s w) {o z g:Nat} {A:Nat→Option (Nat×Nat)} {cells:List D} (hm:M.ob o = .arr z A) (ha:nq s o g=some cells) :
 ∃ (us:Array Value) (T:TypeId) (cap:Nat),w.heap[M.mu o]? = some (.cells us T (0,0))∧A g=some (M.mu o,cap)∧(∀ g',g<g'→A g'=none)∧us.size=cap*z∧cells.length≤us.size∧
  (∀ u∈us,u.oneCell'=true)∧∀ (i:Nat) (d:D) (u:Value),cells[i]? = some d→us[i]? = some u→RD M s d u:=by
 obtain⟨vs,T,hh,hs,_,jd⟩:=r.obj o _ (Dn ha)
 obtain⟨us,g0,n,cap,h1,h2,h3,h4,h5,h6,h7⟩ : ∃ (us:Array Value) (g n cap:Nat),w.heap[(M.loc o).1]? = some (.cells us T (0,0))∧A g=some ((M.loc o).1,cap)∧(∀ g',g<g'→A g'=none)∧us.size=cap*z∧n≤us.size∧
  vs.toList = .int .i64 g::us.toList.take n∧∀ u∈us,u.oneCell'=true:=by
  unfold ig at hh
  rw[show(M.loc o).2 = .arr z A from hm]at hh
  exact hh
 have hY : ∀ i,vs[i]? = (Value.int .i64 g0::us.toList.take n)[i]? :=fun i=>by rw[← h6,Array.getElem?_toList]
 have hg:g0=g:=by
  have:=(jd 0 (.int .i64 g) (.int .i64 g0) rfl (by rw[hY];rfl))
  cases this
  rfl
 subst hg
 have hn:n=cells.length:=by
  have:vs.toList.length=(Value.int .i64 g0::us.toList.take n).length:=by rw[h6]
  simp at this hs
  omega
 subst hn
 refine⟨us,T,cap,h1,h2,h3,h4,h5,h7,fun i d u e1 e2=>jd (i+1) d u (by simpa using e1) ?_⟩
 rw[hY,List.getElem?_cons_succ,List.getElem?_take,if_pos (List.getElem?_eq_some_iff.1 e1).1]
 simpa using e2
def Map.qw (M:Map) (o:Nat) (l:Nat×Ob):Map:= {M with loc:=fun q=>if q=o then l else M.loc q}
theorem Rel.RB (r:Rel M s w) {o z g:Nat} {A:Nat→Option (Nat×Nat)} {cells:List D} (hm:M.ob o = .arr z A) (ha:nq s o g=some cells) (b' g' pX:Nat) (A':Nat→Option (Nat×Nat))
 (hA : ∀ g x,A g=some x→A' g=some x) (xa:A' g'=some (b',pX)) (BW : ∀ Kh,g'<Kh→A' Kh=none) (w':World) (us:Array Value) (T:TypeId) (hh:w'.heap[b']? = some (.cells us T (0,0))) (dK:us.size=pX*z)
 (uC:List D) (hl:uC.length≤us.size) (gH : ∀ u∈us,u.oneCell'=true) (jd : ∀ (i:Nat) (d:D) (u:Value),uC[i]? = some d→us[i]? = some u→RD M s d u)
 (hb:b'=M.mu o∨w.heap.size≤b') (GH : ∀ b,b<w.heap.size→b≠M.mu o→w'.heap[b]? = w.heap[b]?) (rV:w.heap.size≤w'.heap.size) (h1:w'.os=w.os) (h2:w'.tape=w.tape) (h3:w'.output=w.output) :
 Rel (M.qw o (b', .arr z A')) {s with ah:=s.ah.set o (.int .i64 g'::uC)} w'∧Ext M s w (M.qw o (b', .arr z A')) {s with ah:=s.ah.set o (.int .i64 g'::uC)} w':=by
 have ho:o<s.ah.length:=(List.getElem?_eq_some_iff.1 (Dn ha)).1
 have yW:(M.loc o).2 = .arr z A:=hm
 have tW:(M.qw o (b', .arr z A')).loc o=(b', .arr z A'):=by simp[Map.qw]
 have Ly : ∀ q,q≠o→(M.qw o (b', .arr z A')).loc q=M.loc q:=fun q hq=>by simp[Map.qw,hq]
 have mA:(M.qw o (b', .arr z A')).mu o=b':=congrArg Prod.fst tW
 have Cq : ∀ q,q≠o→(M.qw o (b', .arr z A')).mu q=M.mu q:=fun q hq=>congrArg Prod.fst (Ly q hq)
 have le:Le M s (M.qw o (b', .arr z A')) {s with ah:=s.ah.set o (.int .i64 g'::uC)}:=by
  refine⟨fun _ _ _ h=>h,by simp,fun q _=>?_,Nat.le_refl _,fun t n _ h=>⟨n,h,Nat.le_refl _,fun _=>rfl⟩⟩
  by_cases hq:q=o
  ·subst hq
   rw[tW,show M.loc q=((M.loc q).1, .arr z A) by rw[← yW]]
   exact .arr _ _ z A A' hA
  ·rw[Ly q hq];exact .refl _
 have eK : ∀ q,q<s.ah.length→q≠o→M.mu q≠b':=fun q hq uD e=>by
  rcases hb with hb|hb
  ·exact uD (r.inj q o hq ho (e.trans hb))
  ·have:=r.pM hq;omega
 have hG : ∀ off,M.G b' off=none:=fun off=>by
  rcases hb with hb|hb
  ·rw[hb];exact r.jv o ho off
  ·exact r.Lc hb off
 refine⟨⟨fun b q v e=>?_,fun q ds e=>?_,fun q hq off=>?_,fun q q' hq l5 e=>?_,fun t n e=>?_,fun t b c z' q hl e hq=>?_,fun t t' b c z c' z' h h' e e'=>r.fJ t t' b c z c' z' h h' e e'⟩, ?_⟩
 ·obtain⟨h4,h5⟩:=r.comm b q v e
  refine⟨?_,h5⟩
  have hbo:b≠M.mu o:=fun eq=>by subst eq;have e0:M.G (M.mu o) q=some v:=e;rw[r.jv o ho q]at e0;cases e0
  rw[← h4]
  simp[World.cell?,GH b (r.zS e) hbo]
 ·simp only [List.getElem?_set]at e
  split at e
  ·rename_i hq
   subst hq
   cases e
   refine⟨⟨.int .i64 g'::us.toList.take uC.length⟩,T, ?_,by simp;omega,⟨fun v hv=>?_,fun T' hT=>?_⟩,fun i d v e1 e2=>?_⟩
   ·unfold ig
    rw[tW]
    exact⟨us,g',uC.length,pX,hh,xa,BW,dK,hl,rfl,gH⟩
   ·simp at hv
    rcases hv with rfl|hv
    ·rfl
    ·exact gH v (Array.mem_toList_iff.1 (List.mem_of_mem_take hv))
   ·have:(M.qw o (b', .arr z A')).ty o=none:=by unfold Map.ty;rw [tW];rfl
    rw[this]at hT;cases hT
   ·cases i with
    |zero=>simp at e1 e2;subst e1 e2;exact .int _ _
    |succ i=>
     simp at e1 e2
     rw[List.getElem?_take]at e2
     split at e2
     ·exact(jd i d v e1 (by simpa using e2)).mono le
     ·cases e2
  ·rename_i hq
   have hq:q≠o:=fun e=>hq e.symm
   obtain⟨fu,T',h4,h5,h6,h7⟩:=r.obj q ds e
   have Hj:q<s.ah.length:=(List.getElem?_eq_some_iff.1 e).1
   refine⟨fu,T', ?_,h5,⟨h6.1,by unfold Map.ty;rw[Ly q hq];exact h6.2⟩,fun i d v e1 e2=>(h7 i d v e1 e2).mono le⟩
   rw[Ly q hq]
   exact h4.keep (GH _ h4.lt fun e=>hq (r.inj q o Hj ho e))
 ·simp at hq
  by_cases uD:q=o
  ·subst uD;rw[mA];exact hG off
  ·rw[Cq q uD];exact r.jv q hq off
 ·simp at hq l5
  by_cases h4:q=o<;>by_cases h5:q'=o
  ·omega
  ·subst h4;rw[mA,Cq q' h5]at e;exact(eK q' l5 h5 e.symm).elim
  ·subst h5;rw[mA,Cq q h4]at e;exact(eK q hq h4 e).elim
  ·rw[Cq q h4,Cq q' h5]at e;exact r.inj q q' hq l5 e
 ·rcases r.tok t n e with h4 | ⟨b,cap,size,fu,T',h4,h5,h6⟩
  ·exact .inl h4
  ·refine .inr ⟨b,cap,size,fu,T',h4, ?_,h6⟩
   rw[GH b (jR h5) (fun eq=>r.eZ t b cap size o ⟨n,e⟩ h4 ho eq.symm)];exact h5
 ·simp at hq
  by_cases uD:q=o
  ·subst uD;rw [mA]
   rcases hb with hb|hb
   ·rw[hb];exact r.eZ t b c z' q hl e hq
   ·have:=r.rT hl e;omega
  ·rw[Cq q uD];exact r.eZ t b c z' q hl e hq
 ·refine⟨le,fun b rk h4 _=>GH b rk (fun e=>h4 o ho e.symm),fun q h4 h5=> ?_,fun t b c z h e=> .inl ⟨h,c,z,e⟩,fun _ _ h=>(h rfl).elim,rV,h1,h2,h3⟩
  simp at h5
  by_cases uD:q=o
  ·subst uD
   rw[mA]at h4 ⊢
   rcases hb with hb|hb
   ·rcases h4 with h4 | h4
    ·omega
    ·exact(h4 hb).elim
   ·exact hb
  ·rw [Cq q uD]at h4
   rcases h4 with h4|h4
   ·omega
   ·exact(h4 rfl).elim
theorem Rel.YY (r:Rel M s w) (z cap:Nat) (us:Array Value) (T:TypeId) (dK:us.size=cap*z) (cells:List D) (hl:cells.length≤us.size) (gH : ∀ u∈us,u.oneCell'=true)
 (jd : ∀ (i:Nat) (d:D) (u:Value),cells[i]? = some d→us[i]? = some u→RD M s d u) :
 ∃ M',Rel M' {s with ah:=s.ah++ [.int .i64 ((0:Nat):Int)::cells]} (w.alloc (.cells us T))∧Ext M s w M' {s with ah:=s.ah++ [.int .i64 ((0:Nat):Int)::cells]} (w.alloc (.cells us T))∧
  ∀ len,len≤cap→RD M' {s with ah:=s.ah++ [.int .i64 ((0:Nat):Int)::cells]} (.dW z s.ah.length 0 len) (.slice (some ⟨w.heap.size,0,none⟩) len cap):=by
 obtain⟨r',e'⟩:=r.Ha (.int .i64 ((0:Nat):Int)::cells) (.cells us T) ⟨.int .i64 ((0:Nat):Int)::us.toList.take cells.length⟩ T (.arr z fun g=>if g=0 then some (w.heap.size,cap)else none)
  (fun hp e=>⟨us,0,cells.length,cap,e,rfl,fun g' h=>if_neg (by omega),dK,hl,rfl,gH⟩) (fun _ h=>by cases h) (by simp;omega) (fun v hv=>by
   simp at hv
   rcases hv with rfl|hv
   ·rfl
   ·exact gH v (Array.mem_toList_iff.1 (List.mem_of_mem_take hv))) (fun i d v e1 e2=>by
   cases i with
   |zero=>simp at e1 e2;subst e1 e2;exact .int _ _
   |succ i=>
    simp at e1 e2
    rw[List.getElem?_take]at e2
    split at e2
    ·exact(jd i d v e1 (by simpa using e2)).mono (ry s w.heap.size _ _)
    ·cases e2)
 exact⟨_,r',e',fun len h=> .dW z _ 0 len w.heap.size cap _ (by simp) (by simp[Map.dJ,Map.ob];rfl) (if_pos rfl) h⟩
end
end Go.Abs
namespace Go.Abs
section
variable {P:Program} {M:Map} {s:St} {w:World}
theorem Ki (r:Rel M s w) {o g off:Nat} {v:Value} {cells:List D} (hx:RD M s (.fc o g off) v) (ha:nq s o g=some cells) :
 ∃ z A,M.ob o = .arr z A∧v = .pointer (some ⟨M.mu o,off,none⟩):=by
 obtain⟨z,b,cap,A,hv,ho,hm,hg⟩:=hx.Ck
 obtain⟨us,T,pX,h1,h2,_⟩:=r.Hl hm ha
 rw[hg]at h2;cases h2
 exact⟨z,A,hm,hv⟩
theorem Jw (r:Rel M s w) {t:TypeId} {i:TypeInfo} {agg:Bool} (hi:P.info? t=some i) (hag:qn P t=some agg) {x d:D} {v:Value} {s':St} (hx:RD M s x v) (h:xR x agg i.size s=some (d,s')) :
 cJ P M s w (do pure (.value (← Instr.loadAt t v))) d s':=by
 unfold xR at h
 split at h
 case h_2=>cases h
 rename_i o g off
 split at h
 case h_2=>cases h
 rename_i cells ha
 split at h
 case h_2=>cases h
 rename_i d' hp
 cases h
 obtain⟨z,A,hm,rfl⟩:=Ki r hx ha
 obtain⟨us,T,cap,hh,_,_,_,hl,gH,jd⟩:=r.Hl hm ha
 let n:=if agg then i.size else 1
 have iX:off+n≤us.size:=by
  rcases qc hp with ⟨rfl,h1,_⟩|⟨rfl,h1⟩
  ·simp[n];omega
  ·have:=(List.getElem?_eq_some_iff.1 h1).1;simp[n];omega
 have hlen:((us.toList.drop off).take n).length=n:=by simp;omega
 have hY : ∀ (j:Nat) (u:Value),((us.toList.drop off).take n)[j]? = some u→us[off+j]? = some u:=by
  intro j u h
  rw[List.getElem?_take]at h
  split at h
  ·rw[List.getElem?_drop]at h;simpa using h
  ·cases h
 have dC:=xV (w:=w) P hi hag (M.mu o) off ((us.toList.drop off).take n) hlen (fun j u h=>by rw[iP hh];exact hY j u h)
 refine cJ.pure (v:=if agg then .agg ((us.toList.drop off).take n).toArray else((us.toList.drop off).take n).getD 0 Go.undef) r (by simp[Instr.loadAt,Instr.sureAddr,dC]) ?_
 refine qt hp _ hlen (fun _ u hu=>gH u ?_) (fun j d u e1 e2=>jd _ d u e1 (hY j u e2))
 exact Array.mem_toList_iff.1 (List.mem_of_mem_drop (List.mem_of_mem_take hu))
theorem xd {vs:Array Value} {off:Nat} {us:List Value} {n:Nat} (hu:us.length=n) (h:off+n≤vs.size) (i:Nat) :
 (vs.toList.take off++us++vs.toList.drop (off+us.length)).toArray[i]? = if i<off then vs[i]? else if i<off+n then us[i - off]? else vs[i]? :=by
 subst hu
 simp only[List.getElem?_toArray]
 have hl:(vs.toList.take off).length=off:=by simp;omega
 split
 ·rename_i h3
  rw[List.append_assoc,List.getElem?_append_left (by omega),List.getElem?_take_of_lt h3];simp
 ·rename_i h3
  rw[List.append_assoc,List.getElem?_append_right (by omega),hl]
  split
  ·rename_i h4
   rw[List.getElem?_append_left (by omega)]
  ·rename_i h4
   rw[List.getElem?_append_right (by omega),List.getElem?_drop]
   rw[show off+us.length+(i - off - us.length)=i by omega];simp
theorem xe {vs:Array Value} {off k:Nat} {us:List Value} (h1 : ∀ v∈vs,v.oneCell'=true) (h2 : ∀ u∈us,u.oneCell'=true) : ∀ v∈(vs.toList.take off++us++vs.toList.drop k).toArray,v.oneCell'=true:=by
 intro v hv
 simp at hv
 rcases hv with hv|hv|hv
 ·exact h1 v (Array.mem_toList_iff.1 (List.mem_of_mem_take hv))
 ·exact h2 v hv
 ·exact h1 v (Array.mem_toList_iff.1 (List.mem_of_mem_drop hv))
theorem Hn (r:Rel M s w) {t:TypeId} {i:TypeInfo} (hi:P.info? t=some i) {x y d:D} {v u:Value} {s':St} (hx:RD M s x v) (hy:RD M s y u) (h:zP x y.row i.size s=some (d,s')) :
 cJ P M s w (do Instr.storeAt t v u;pure .skip) d s':=by
 unfold zP at h
 split at h
 case h_2=>cases h
 rename_i o g off row hr
 split at h
 case h_2=>cases h
 rename_i cells ha
 split at h
 case isFalse=>cases h
 rename_i hc
 obtain⟨hl,iX⟩:=hc
 cases h
 obtain⟨z,A,hm,rfl⟩:=Ki r hx ha
 obtain⟨us,T,cap,hh,xa,BW,dK,hle,gH,jd⟩:=r.Hl hm ha
 obtain⟨h1,h2,h3⟩:=hy.row hr
 have hu:u.cells.toList.length=row.length:=by simpa using h1
 have jr:=run_storeCells_at P (M.mu o) off T u.cells.toList 0 us w hh (by omega) (fun u hu=>h2 u (by simpa using hu))
 simp only[Nat.add_zero]at jr
 generalize da:(us.toList.take off++u.cells.toList++us.toList.drop (off+u.cells.toList.length)).toArray=iH at jr
 have qq:iH.size=us.size:=by rw[← da];simp;omega
 have hY : ∀ i,iH[i]? = if i<off then us[i]? else if i<off+row.length then u.cells.toList[i - off]? else us[i]? :=fun i=>by rw[← da];exact xd hu (by omega) i
 have hlc:(gY cells off row).length=cells.length:=sY cells off row (by omega)
 obtain⟨r',e'⟩:=r.RB hm ha (M.mu o) g cap A (fun _ _ h=>h) xa BW (w.setRow (M.mu o) iH) iH T (setRow_heap w (M.mu o) us iH T (0,0) hh) (by rw[qq,dK]) (gY cells off row) (by omega)
  (by rw [← da];exact xe gH (fun u hu=>h2 u (by simpa using hu))) (fun i d v e1 e2=>by
   rw[qp cells off row (by omega)]at e1
   rw[hY]at e2
   split at e1
   ·rename_i h4;simp only[h4,if_true]at e2;exact jd i d v e1 e2
   ·rename_i h4
    simp only[h4,if_false]at e2
    split at e1
    ·rename_i h5;simp only[h5,if_true]at e2;exact h3 _ d v e1 (by simpa using e2)
    ·rename_i h5;simp only[h5,if_false]at e2;exact jd i d v e1 e2) (.inl rfl) (fun b _ hb=>setRow_other w (M.mu o) b _ hb) (by simp) rfl rfl rfl
 refine⟨Go.undef,_,_, .inr ⟨?_,rfl⟩,r', .undef,e'⟩
 have ahs:u.cells.size=i.size:=by omega
 simp[Instr.storeAt,Instr.sureAddr,storeVar,sizeOf,fL P hi,ahs,jr]
theorem Ho (r:Rel M s w) {t e:TypeId} {i:TypeInfo} (ht:P.underlying t=some (.slice e)) (hi:P.info? e=some i) {x y d:D} {v u:Value} (hx:RD M s x v) (hy:RD M s y u) (h:wX x y i.size=some d) :
 cJ P M s w (do pure (.value (← Instr.indexAt t v u))) d s:=by
 unfold wX at h
 split at h
 case h_2=>cases h
 rename_i z o g len k n
 split at h
 case isFalse=>cases h
 rename_i hc
 obtain⟨h0,h1,rfl⟩:=hc
 cases h
 obtain⟨b,cap,A,rfl,ho,hm,hg,hl⟩:=hx.w7
 rw[hy.gT]
 refine cJ.pure (v:= .pointer (some ⟨b,n.toNat*i.size,none⟩)) r ?_ (.fc _ _ _ _ b cap A ho hm hg)
 simp[Instr.indexAt,asIntOf,run_underlying ht,h0,h1,sizeOf,fL P hi,lQ]
theorem Lz (r:Rel M s w) {t e:TypeId} {i:TypeInfo} {lv hv:Option Value} {lo hi:Option D} (ht:P.underlying t=some (.slice e)) (Dg:P.info? e=some i) {x d:D} {v:Value} (hx:RD M s x v)
 (h1 : ∀ l,sq lo=some l→Ov lv l) (h2 : ∀ len l,sr hi len=some l→Ow hv len l) (h:wg x lo hi=some d) :
 cJ P M s w (do pure (.value (← Instr.sliceAt t v lv hv none))) d s:=by
 unfold wg at h
 split at h
 ·rename_i z o g len
  split at h
  case h_2=>cases h
  rename_i l hh el eh
  split at h
  case isFalse=>cases h
  rename_i hc
  obtain⟨rfl,h0,hle⟩:=hc
  cases h
  obtain⟨b,cap,A,rfl,ho,hm,hg,hl⟩:=hx.w7
  have hb:=oU (P:=P) (w:=w) (isSlice:=true) (cap:=cap) (h1 _ el) (h2 _ _ eh) (Int.le_refl 0) h0 hle hl
  refine cJ.pure (v:= .slice (some ⟨b,0,none⟩) hh.toNat cap) r ?_ (.dW z o g _ b cap A ho hm hg (by omega))
  simp[Instr.sliceAt,run_underlying ht,Instr.slice,hb,sizeOf,fL P Dg,lQ]
 ·rename_i z
  split at h
  case h_2=>cases h
  rename_i l hh el eh
  split at h
  case isFalse=>cases h
  rename_i hc
  obtain⟨rfl,rfl⟩:=hc
  cases h
  obtain⟨a,rfl⟩:=hx.Cl
  have hb:=oU (P:=P) (w:=w) (isSlice:=true) (len:=0) (cap:=0) (h1 _ el) (h2 _ _ eh) (Int.le_refl 0) (Int.le_refl 0) (Int.le_refl 0) (Nat.le_refl 0)
  refine cJ.pure (v:= .slice a 0 0) r ?_ (.dU z a)
  cases a<;>simp[Instr.sliceAt,run_underlying ht,Instr.slice,hb,sizeOf,fL P Dg,lQ]
 ·cases h
theorem LA (r:Rel M s w) {t ty e:TypeId} (ht:P.underlying t=some (.slice e)) {x d:D} {v:Value} (hx:RD M s x v) (h:Em x=some d) :
 cJ P M s w (do pure (.value (← Builtin.len_ #[t] ty #[v]))) d s:=by
 unfold Em at h
 split at h
 ·cases h
  obtain⟨b,cap,A,rfl,_⟩:=hx.w7
  exact mC r ht
 ·cases h
  obtain⟨a,rfl⟩:=hx.Cl
  exact mC r ht
 ·cases h
theorem xZ {size:Nat} : ∀ {rows:List (List D)},(∀ row∈rows,row.length=size)→rows.flatten.length=rows.length*size∧
 ∀ (k:Nat) (d:D),rows.flatten[k]? = some d→∃ (i:Nat) (row:List D) (j:Nat),rows[i]? = some row∧row[j]? = some d∧k=i*size+j
 | [],_=>by simp
 | row::rows,h=>by
  have hr:=h row (List.mem_cons_self ..)
  obtain⟨h1,h2⟩:=xZ fun q hq=>h q (List.mem_cons_of_mem _ hq)
  refine⟨by simp only[List.flatten_cons,List.length_append,h1,hr,List.length_cons,Nat.add_mul];omega,fun k d e=>?_⟩
  rw[List.flatten_cons]at e
  rcases Nat.lt_or_ge k row.length with hk|hk
  ·rw [List.getElem?_append_left hk]at e
   exact⟨0,row,k,rfl,e,by omega⟩
  ·rw [List.getElem?_append_right hk]at e
   obtain⟨i,j8,j,g1,g2,g3⟩:=h2 _ d e
   exact⟨i+1,j8,j,by simpa using g1,g2,by rw[Nat.add_mul];omega⟩
theorem LB (r:Rel M s w) {t u ty e e':TypeId} {i:TypeInfo} {z:Value} (ht:P.underlying t=some (.slice e)) (hu:P.underlying u=some (.slice e')) (hi:P.info? e=some i) (hz:i.zero=some z)
 (xb:z.cells.size=i.size) (BX : ∀ v∈z.cells,v.oneCell'=true) {dx dy d:D} {x y:Value} {s':St} (hx:RD M s dx x) (hy:RD M s dy y) (rC:0<i.size) (he:zQ i.size i.bytes dx dy s=some (d,s')) :
 ∃ v w' M',(Builtin.append_ #[t,u] ty #[x,y]).run P w = .ok v w'∧Rel M' s' w'∧RD M' s' d v∧Ext M s w M' s' w':=by
 have src:=Eu (i:=i) r hu hy
 unfold zQ at he
 split at he
 ·-- behind an array
  rename_i z0 o g len g' zy new
  split at he
  case isFalse=>cases he
  rename_i hc
  obtain⟨rfl,Hg,vx⟩:=hc
  obtain⟨b,cap,A,rfl,ho,hm,hg,hlc⟩:=hx.w7
  cases new with
  |nil=>
   simp only at he
   cases he
   exact⟨_,w,M,k9 ht hi ((src _ _ _ rfl).1 rfl) hlc,r,hx,Ext.refl M s w⟩
  |cons n0 new=>
  have eK:(n0::new)≠ []:=by simp
  generalize da:n0::new=dP at *
  have OA:zy=i.size:=Hg.resolve_left eK
  subst OA
  obtain⟨Fl,news,hs,Bc⟩:=(src _ _ _ rfl).2 eK rfl
  have yW:0<dP.length:=List.length_pos_iff.2 eK
  simp only[← da]at he
  simp only[da]at he
  split at he
  case h_2=>cases he
  rename_i cells ha
  split at he
  case isFalse=>cases he
  rename_i oc
  cases he
  obtain⟨us,T,pX,hh,xa,BW,dK,hle,gH,jd⟩:=r.Hl hm ha
  rw[hg]at xa
  simp only[Option.some.injEq,Prod.mk.injEq]at xa
  obtain⟨rfl,rfl⟩:=xa
  obtain⟨iR,OF⟩:=xZ Fl
  have Hp:(cells.take (len*i.size)).length=len*i.size:=by simp;omega
  have hA : ∀ (b' c':Nat) (g0:Nat) (x:Nat×Nat),A g0=some x→(if g0=g+1 then some (b',c')else A g0)=some x:=fun b' c' g0 x h=>by
   rw[if_neg]
   ·exact h
   ·rintro rfl
    rw[BW (g+1) (by omega)]at h;cases h
  have sy:(len+dP.length)*i.bytes≤140737488355328:=by rw[Nat.mul_succ]at vx;simp only[bH]at vx;omega
  have OB:len+dP.length≤1099511627776:=by rw[Nat.mul_succ]at vx;simp only[bH]at vx;omega
  have OG:=hs.newsLen
  -- what is laid there
  have UC : ∀ (vs:Array Value),(∀ k,k<len*i.size→vs[k]? = us[k]?)→(∀ k,k<news.length→vs[len*i.size+k]? = news[k]?)→∀ (k:Nat) (d:D) (v:Value),
   (cells.take (len*i.size)++dP.flatten)[k]? = some d→vs[k]? = some v→RD M s d v:=fun vs g1 g2 k d v e1 e2=>by
   rcases Nat.lt_or_ge k (len*i.size)with hk|hk
   ·rw [List.getElem?_append_left (by omega),List.getElem?_take_of_lt hk]at e1
    rw[g1 k hk]at e2
    exact jd k d v e1 e2
   ·rw [List.getElem?_append_right (by omega),Hp]at e1
    have cf:=(List.getElem?_eq_some_iff.1 e1).1
    have:=g2 (k - len*i.size) (by omega)
    rw[show len*i.size+(k - len*i.size)=k by omega]at this
    rw[this]at e2
    obtain⟨a,row,j,f1,f2,f3⟩:=OF _ d e1
    rw[f3]at e2
    exact Bc a row j d v f1 f2 e2
  by_cases qs:len+dP.length≤cap
  ·have iX:len*i.size+news.length≤us.size:=by rw [OG,dK, ← Nat.add_mul];exact Nat.mul_le_mul_right _ qs
   have jr:=run_storeCells_at P (M.mu o) (len*i.size) T news 0 us w hh (by simpa using iX) hs.one
   simp only[Nat.add_zero]at jr
   have dC:(Builtin.append_ #[t,u] ty #[.slice (some ⟨M.mu o,0,none⟩) len cap,y]).run P w = .ok (.slice (some ⟨M.mu o,0,none⟩) (len+dP.length) cap) (w.setRow (M.mu o) (us.toList.take (len*i.size)++news++us.toList.drop (len*i.size+news.length)).toArray):=by
    rcases hs.kind with ⟨Kf,hk⟩|hk<;>simp[Builtin.append_,run_underlying ht,run_underlying hk,sizeOf,typeInfo,hi,hs.len,qs,hs.cells,Addr.add_lit,jr]
   have hY:=xd (vs:=us) (off:=len*i.size) (us:=news) rfl iX
   generalize qx:(us.toList.take (len*i.size)++news++us.toList.drop (len*i.size+news.length)).toArray=iH at dC hY
   have qq:iH.size=us.size:=by rw[← qx];simp;omega
   obtain⟨r',e'⟩:=r.RB hm ha (M.mu o) (g+1) cap (fun g0=>if g0=g+1 then some (M.mu o,cap)else A g0) (hA _ _) (if_pos rfl) (fun Kh h=>by rw[if_neg (by omega)];exact BW Kh (by omega))
    (w.setRow (M.mu o) iH) iH T (setRow_heap w (M.mu o) us iH T (0,0) hh) (by rw[qq,dK]) (cells.take (len*i.size)++dP.flatten) (by rw[List.length_append,Hp,iR,qq];omega)
    (by rw[← qx];exact xe gH hs.one) (UC iH (fun k hk=>by rw[hY,if_pos hk]) (fun k hk=>by rw[hY,if_neg (by omega),if_pos (by omega)];congr 1;omega)) (.inl rfl) (fun b _ hb=>setRow_other w (M.mu o) b _ hb) (by simp) rfl rfl rfl
   refine⟨_,_,_,dC,r', ?_,e'⟩
   exact .dW i.size o (g+1) _ (M.mu o) cap _ (by simpa using ho) (by simp[Map.ob,Map.qw];rfl) (if_pos rfl) qs
  ·have B0:cap<len+dP.length:=by omega
   have tD:=grownCap_ge w (len+dP.length) cap e
   have Kj:(Builtin.firstCells i.size len (.slice (some ⟨M.mu o,0,none⟩) len cap)).run P w.drew = .ok (us.toList.take (len*i.size)).toArray w.drew:=
    (Src.ofSlice w ht ⟨M.mu o,0,none⟩ len cap (us.toList.take (len*i.size)) (by simp;omega) (fun j v hj=>by
     rw[lQ,Nat.zero_add,iP hh]
     rw[List.getElem?_take]at hj
     split at hj
     ·simpa using hj
     ·cases hj) (fun v hv=>gH v (Array.mem_toList_iff.1 (List.mem_of_mem_take hv)))).cellsD
   have dC:=run_append_grow_src (P:=P) w t u ty e i z ht hi hz (some ⟨M.mu o,0,none⟩) len cap (us.toList.take (len*i.size)) Kj y dP.length news hs B0 (by omega) (growslice_fits B0 sy)
   generalize qx:(us.toList.take (len*i.size)++news).toArray++Builtin.zeroCells z.cells (grownCap w (len+dP.length) cap e - (len+dP.length))=iH at dC
   have w5:(us.toList.take (len*i.size)).length=len*i.size:=by simp;omega
   have qq:iH.size=grownCap w (len+dP.length) cap e*i.size:=by
    rw[← qx]
    simp only[Array.size_append,List.size_toArray,List.length_append,size_zeroCells,xb,w5,OG, ← Nat.add_mul]
    congr 1;omega
   have LC : ∀ v∈iH,v.oneCell'=true:=fun v hv=>by
    rw[← qx,Array.mem_append]at hv
    rcases hv with hv|hv
    ·simp at hv
     rcases hv with hv|hv
     ·exact gH v (Array.mem_toList_iff.1 (List.mem_of_mem_take hv))
     ·exact hs.one v hv
    ·exact s6 BX _ v hv
   have adi : ∀ k,k<len*i.size→iH[k]? = us[k]? :=fun k hk=>by
    rw[← qx,Array.getElem?_append_left (by simp;omega),List.getElem?_toArray,List.getElem?_append_left (by omega),List.getElem?_take_of_lt hk];simp
   have lI : ∀ k,k<news.length→iH[len*i.size+k]? = news[k]? :=fun k hk=>by
    rw[← qx,Array.getElem?_append_left (by simp;omega),List.getElem?_toArray,List.getElem?_append_right (by omega),w5]
    congr 1;omega
   have Ev:(len+dP.length)*i.size≤iH.size:=by rw[qq];exact Nat.mul_le_mul_right _ tD
   have RC:w.heap.size≤(w.drew.alloc (.cells iH e)).heap.size:=by
    have e1:w.drew.heap.size=w.heap.size:=rfl
    have e2:(w.drew.alloc (.cells iH e)).heap.size=w.drew.heap.size+1:=by simp
    omega
   obtain⟨r',e'⟩:=r.RB hm ha w.heap.size (g+1) (grownCap w (len+dP.length) cap e) (fun g0=>if g0=g+1 then some (w.heap.size,grownCap w (len+dP.length) cap e)else A g0) (hA _ _) (if_pos rfl) (fun Kh h=>by rw[if_neg (by omega)];exact BW Kh (by omega))
    (w.drew.alloc (.cells iH e)) iH e (heap_alloc_new w.drew _) qq (cells.take (len*i.size)++dP.flatten) (by rw[List.length_append,Hp,iR];rw[Nat.add_mul]at Ev;omega)
    LC (UC iH adi lI) (.inr (Nat.le_refl _)) (fun b hb _=>heap_alloc_old w.drew _ b hb) RC rfl rfl rfl
   refine⟨_,_,_,dC,r', ?_,e'⟩
   exact .dW i.size o (g+1) _ w.heap.size _ _ (by simpa using ho) (by simp[Map.ob,Map.qw];rfl) (if_pos rfl) tD
 ·-- the first array
  rename_i z0 g' zy new
  split at he
  case isFalse=>cases he
  rename_i hc
  obtain⟨rfl,Hg,vx⟩:=hc
  obtain⟨a,rfl⟩:=hx.Cl
  cases new with
  |nil=>
   simp only at he
   cases he
   exact⟨_,w,M,k9 ht hi ((src _ _ _ rfl).1 rfl) (Nat.le_refl 0),r,hx,Ext.refl M s w⟩
  |cons n0 new=>
  have eK:(n0::new)≠ []:=by simp
  generalize da:n0::new=dP at *
  have OA:zy=i.size:=Hg.resolve_left eK
  subst OA
  obtain⟨Fl,news,hs,Bc⟩:=(src _ _ _ rfl).2 eK rfl
  have yW:0<dP.length:=List.length_pos_iff.2 eK
  simp only[← da]at he
  simp only[da]at he
  cases he
  obtain⟨iR,OF⟩:=xZ Fl
  have OG:=hs.newsLen
  have sy:(0+dP.length)*i.bytes≤140737488355328:=by rw[Nat.mul_succ]at vx;simp only[bH]at vx;rw[Nat.zero_add];omega
  have OB:dP.length≤1099511627776:=by rw[Nat.mul_succ]at vx;simp only[bH]at vx;omega
  have B0:0<0+dP.length:=by omega
  have tD:=grownCap_ge w (0+dP.length) 0 e
  have Kj:(Builtin.firstCells i.size 0 (.slice a 0 0)).run P w.drew = .ok ([] : List Value).toArray w.drew:=by
   cases a with
   |none=>simp[Builtin.firstCells]
   |some a=>simp[Builtin.firstCells,loadCells,loadCellsFrom]
  have dC:=run_append_grow_src (P:=P) w t u ty e i z ht hi hz a 0 0 [] Kj y dP.length news hs B0 (by omega) (growslice_fits B0 sy)
  generalize qx:(([] : List Value)++news).toArray++Builtin.zeroCells z.cells (grownCap w (0+dP.length) 0 e - (0+dP.length))=iH at dC
  have qq:iH.size=grownCap w (0+dP.length) 0 e*i.size:=by
   rw[← qx]
   simp only[Array.size_append,List.size_toArray,List.nil_append,size_zeroCells,xb,OG, ← Nat.add_mul]
   congr 1;omega
  have LC : ∀ v∈iH,v.oneCell'=true:=fun v hv=>by
   rw[← qx,Array.mem_append]at hv
   rcases hv with hv|hv
   ·exact hs.one v (by simpa using hv)
   ·exact s6 BX _ v hv
  have lI : ∀ k,k<news.length→iH[k]? = news[k]? :=fun k hk=>by
   rw[← qx,Array.getElem?_append_left (by simpa using hk)];simp
  have Ev:dP.length*i.size≤iH.size:=by rw[qq];exact Nat.mul_le_mul_right _ (by omega)
  have rd:Rel M s w.drew:=r.of_heap rfl
  obtain⟨M',r',e',f'⟩:=rd.YY i.size (grownCap w (0+dP.length) 0 e) iH e qq dP.flatten (by omega) LC (fun k d v e1 e2=>by
   have hk:=(List.getElem?_eq_some_iff.1 e1).1
   rw[lI k (by omega)]at e2
   obtain⟨a,row,j,f1,f2,f3⟩:=OF _ d e1
   rw[f3]at e2
   exact Bc a row j d v f1 f2 e2)
  refine⟨_,_,M',dC,r', ?_,(Ext.of_heap (M:=M) (s:=s) (w:=w) (w':=w.drew) rfl rfl rfl rfl).trans e'⟩
  have:=f' dP.length (by omega)
  simpa using this
 ·cases he
theorem LD (r:Rel M s w) {t e:TypeId} {i:TypeInfo} {z:List D} (ht:P.underlying t=some (.slice e)) (hi:P.info? e=some i) (hz:zeroOf P e=some z) (rC:0<i.size) {n:Int} (h0:0≤n) (h1:n*((i.bytes:Int)+1)≤bH) :
 cJ P M s w (do pure (.value (← Instr.makeSlice t (.int .i64 n) (.int .i64 n)))) (.dW i.size s.ah.length 0 n.toNat) {s with ah:=s.ah++ [.int .i64 ((0:Nat):Int)::(fK z n.toNat).flatten]}:=by
 obtain⟨i',v,g1,g2,g3,g4⟩:=rU hz
 rw[hi]at g1;cases g1
 have Fp:=qv (M:=M) (s:=s) g4
 have hmul:n*((i.bytes:Int)+1)=(i.bytes:Int)*n+n:=by rw[Int.mul_add,Int.mul_one,Int.mul_comm]
 have hnb:0≤(i.bytes:Int)*n:=Int.mul_nonneg (by omega) h0
 have hmx:(bH:Int)=1099511627776:=rfl
 have dC:=run_make (P:=P) w t e i v ht hi g2 .i64 .i64 n n h0 (Int.le_refl _) (by omega) (by omega)
 have Uz:z.length=i.size:=by have:=Fp.1;omega
 obtain⟨q1,q2,q3,q4⟩:=lF.zero Fp (by omega) n.toNat
 obtain⟨iR,OF⟩:=xZ (rows:=fK z n.toNat) (size:=z.length) (fun row hr=>by rw[oq z _ row hr])
 rw[lG]at iR
 have Fq:madeCells v.cells (n.toNat*i.size)=(Array.range (n.toNat*z.length)).map (v.cells[· % v.cells.size]!):=by rw[Uz];rfl
 obtain⟨M',r',e',f'⟩:=r.YY i.size n.toNat (madeCells v.cells (n.toNat*i.size)) e (by rw[Fq];simp[Uz]) (fK z n.toNat).flatten (by rw[iR,Fq];simp) (by rw[Fq];exact q3) (fun k d u e1 e2=>by
  obtain⟨a,row,j,f1,f2,f3⟩:=OF k d e1
  rw[Fq,f3]at e2
  exact q4 a row j d u f1 f2 e2)
 refine⟨_,_,M', .inl ?_,r',f' n.toNat (Nat.le_refl _),e'⟩
 simp only[Sem.run_bind,dC,Result.andThen_ok,Sem.run_pure]
end
end Go.Abs
namespace Go.Abs
section
variable {P:Program} {M:Map} {s:St} {w:World}
theorem Kk {tm:Tm} {act:Act} (hr:lE M s tm act.tmps) : ∀ {l:List Operand} {xs:List X},wY l=some xs→
 xs.length=l.length∧∀ (i:Nat) (d:D) (v:Value),(xs.map (·.ev tm))[i]? = some d→(l.map act.eval)[i]? = some v→RD M s d v
 | [],xs,h=>by cases h;exact⟨rfl,by simp⟩
 | x::l,xs,h=>by
  unfold wY at h
  split at h
  ·rename_i x' r' h1 h2
   cases h
   obtain⟨g1,g2⟩:=Kk hr h2
   refine⟨by simp[g1],fun i d v e1 e2=>?_⟩
   cases i with
   |zero=>simp at e1 e2;subst e1;subst e2;exact bM h1 hr
   |succ i=>exact g2 i d v (by simpa using e1) (by simpa using e2)
  ·cases h
theorem Hq {lo:Option Operand} {Fs:Option X} {tm:Tm} {act:Act} (hr:lE M s tm act.tmps) (h:Uq lo=some Fs) {l:Int} (hl:sq (Fs.map (·.ev tm))=some l):Ov (lo.map act.eval) l:=by
 cases lo with
 |none=>cases h;simp only[Option.map_none,sq,Option.some.injEq]at hl;exact .inl ⟨rfl,hl.symm⟩
 |some x=>
  obtain⟨y,hy,rfl⟩:=map_some (f:=some) h
  have:=bM hy hr
  simp only[Option.map_some]at hl ⊢
  cases hd:y.ev tm<;>rw[hd]at hl this<;>simp only[sq]at hl<;>try (cases hl;done)
  cases hl
  rw[this.gT]
  exact .inr ⟨_,rfl⟩
theorem Hr {hi:Option Operand} {gI:Option X} {tm:Tm} {act:Act} (hr:lE M s tm act.tmps) (h:Uq hi=some gI) {len:Nat} {l:Int} (hl:sr (gI.map (·.ev tm)) len=some l):Ow (hi.map act.eval) len l:=by
 cases hi with
 |none=>cases h;simp only[Option.map_none,sr,Option.some.injEq]at hl;exact .inl ⟨rfl,hl.symm⟩
 |some x=>
  obtain⟨y,hy,rfl⟩:=map_some (f:=some) h
  have:=bM hy hr
  simp only[Option.map_some]at hl ⊢
  cases hd:y.ev tm<;>rw[hd]at hl this<;>simp only[sr]at hl<;>try (cases hl;done)
  cases hl
  rw[this.gT]
  exact .inr ⟨_,rfl⟩
theorem LF {t:TypeId} {f off size:Nat} {agg:Bool} (h:lP P t f=some (off,size,agg)) {cs:List D} {vs:Array Value} (hl:cs.length=vs.size) (h1 : ∀ v∈vs,v.oneCell'=true)
 (h2 : ∀ (i:Nat) (d:D) (v:Value),cs[i]? = some d→vs[i]? = some v→RD M s d v) {d:D} (hp:part cs off agg size=some d) (r:Rel M s w) :
 cJ P M s w (do pure (.value (← Instr.field t (.agg vs) f))) d s:=by
 let n:=if agg then size else 1
 have iX:off+n≤vs.size:=by
  rcases qc hp with ⟨rfl,h1,_⟩|⟨rfl,h1⟩
  ·simp[n];omega
  ·have:=(List.getElem?_eq_some_iff.1 h1).1;simp[n];omega
 have hlen:((vs.toList.drop off).take n).length=n:=by simp;omega
 have hY : ∀ (j:Nat),j<((vs.toList.drop off).take n).length→vs[off+j]? = ((vs.toList.drop off).take n)[j]? :=by
  intro j h
  rw[hlen]at h
  rw[List.getElem?_take,if_pos h,List.getElem?_drop];simp
 refine cJ.pure (v:=if agg then .agg ((vs.toList.drop off).take n).toArray else((vs.toList.drop off).take n).getD 0 Go.undef) r (by simp only[Sem.run_bind,Ol h vs _ hlen hY,Result.andThen_ok,Sem.run_pure]) ?_
 refine qt hp _ hlen (fun _ u hu=>h1 u (Array.mem_toList_iff.1 (List.mem_of_mem_drop (List.mem_of_mem_take hu)))) (fun j d u e1 e2=>h2 _ d u e1 ?_)
 rw[hY j (List.getElem?_eq_some_iff.1 e2).1];exact e2
theorem rW {o:Oper} {ao:AO} {tm:Tm} {act:Act} {d:D} {s':St} (hc:Dd P o=some ao) (r:Rel M s w) (hr:lE M s tm act.tmps) (he:aI ao tm s=some (d,s')) :
 cJ P M s w (execOp act.eval o) d s':=by
 obtain⟨dst,op,type,pos,after,guard⟩:=o
 unfold Dd at hc
 simp only at hc
 cases op with
 |move x=>
  obtain⟨y,hy,rfl⟩:=map_some hc
  cases he
  exact cJ.pure r rfl (bM hy hr)
 |assign x=>
  obtain⟨y,hy,rfl⟩:=map_some hc
  cases he
  exact cJ.pure r rfl (bM hy hr)
 | pick c a b=>
  simp only at hc
  split at hc
  ·rename_i c' a' b' h1 h2 h3
   cases hc
   simp only[aI]at he
   split at he
   ·rename_i t ht
    cases he
    have hcb:=bM h1 hr
    rw[ht]at hcb
    have:=hcb.nu
    refine cJ.pure (v:=if t then act.eval a else act.eval b) r ?_ ?_
    ·simp only [execOp,this,asBool]
     simp
    ·cases t
     ·exact bM h3 hr
     ·exact bM h2 hr
   ·cases he
  ·cases hc
 | alloc t=>
  simp only at hc
  split at hc
  ·obtain⟨z,hz,rfl⟩:=map_some hc
   simp only[aI]at he
   split at he
   ·cases he;exact Ju r hz
   ·cases he
  ·obtain⟨z,hz,rfl⟩:=map_some hc
   cases he
   exact Lh r hz
 | box t x=>
  simp only at hc
  split at hc
  ·obtain⟨y,hy,rfl⟩:=map_some hc
   simp only[aI]at he
   split at he
   ·rename_i row dS
    cases he
    exact Oj r (bM hy hr) dS
   ·cases he
  ·obtain⟨y,hy,rfl⟩:=map_some hc
   simp only[aI]at he
   split at he
   ·rename_i row dS
    cases he
    exact Rp r (bM hy hr) dS
   ·cases he
 | build t parts=>
  simp only at hc
  split at hc
  ·rename_i fs z ps h1 h2 h3
   split at hc
   ·rename_i Dl
    cases hc
    simp only[aI]at he
    split at he
    ·rename_i cs ng
     cases he
     have:=Lu r hr h1 Dl h2 h3 ng
     simpa[execOp]using this
    ·cases he
   ·cases hc
  ·cases hc
 | buildSlice t n parts=>
  simp only at hc
  split at hc
  ·rename_i e hu
   split at hc
   ·rename_i i z ps h1 h2 h3
    split at hc
    ·rename_i la
     cases hc
     simp only[aI]at he
     split at he
     ·rename_i rows jT
      cases he
      obtain⟨vs,T,g1,g2,g3,g4⟩:=BY r hr hu h1 h2 la.1 la.2 h3 jT
      obtain⟨f1,f2,f3⟩:=Lp r T g1
      refine⟨_,_,_, .inl ?_,f2,f1,f3⟩
      simp only[Array.toArray_toList]at g4
      simp only[execOp,Sem.run_bind,g4,Result.andThen_ok,Sem.run_pure]
      rw[g2]
     ·cases he
    ·cases hc
   ·cases hc
  ·cases hc
 | load t x=>
  simp only at hc
  split at hc
  ·rename_i y a i h1 h2 h3
   cases hc
   have hx:=bM h1 hr
   simp only[aI]at he
   split at he
   ·rename_i o off ho
    rw[ho]at hx
    have Hs:=hx.zT
    obtain⟨hv,_⟩:=hx.rA
    split at he
    ·rename_i cs ng
     split at he
     ·rename_i d' kM
      cases he
      have:=Gf r h3 h2 ng Hs kM
      simp only[execOp,hv]
      exact this
     ·cases he
    ·cases he
   ·rename_i row off ho
    rw[ho]at hx
    obtain⟨b,k,hv,g1,g2⟩:=hx.xU
    split at he
    ·rename_i d' kM
     cases he
     have:=Gg r h3 h2 g1 g2 kM
     simp only[execOp,hv]
     exact this
    ·cases he
   ·exact Jw r h3 h2 hx he
  ·cases hc
 | store t a x=>
  simp only at hc
  split at hc
  ·rename_i a' x' i h1 h2 h3
   cases hc
   have ha:=bM h1 hr
   have hx:=bM h2 hr
   simp only[aI]at he
   split at he
   ·rename_i o off row ho dS
    rw[ho]at ha
    have Hs:=ha.zT
    obtain⟨hv,_⟩:=ha.rA
    split at he
    ·rename_i cs ng
     split at he
     ·rename_i iX
      cases he
      have:=Li r h3 ng Hs hx dS iX.1 iX.2
      simp only[execOp,hv]
      exact this
     ·cases he
    ·cases he
   ·exact Hn r h3 ha hx he
  ·cases hc
 | nilCheck x=>
  obtain⟨y,hy,rfl⟩:=map_some hc
  have hx:=bM hy hr
  simp only[aI]at he
  split at he
  ·rename_i o off ho
   cases he
   rw[ho]at hx
   have hv:=hx.rA.1
   rw[hv]at hx
   simp only[execOp,hv]
   exact xX r hx
  ·rename_i row off ho
   cases he
   rw[ho]at hx
   obtain⟨b,k,hv,_⟩:=hx.xU
   rw[hv]at hx
   simp only[execOp,hv]
   exact xX r hx
  ·split at he
   case h_2=>cases he
   rename_i d' sD
   cases he
   unfold K8 at sD
   split at sD
   ·rename_i o g off hq
    cases sD
    rw[hq]at hx
    obtain⟨z,b,cap,A,hv,_⟩:=hx.Ck
    rw[hv]at hx
    simp only[execOp,hv]
    exact xX r hx
   ·cases sD
 | binOp op t x y yt=>
  simp only at hc
  split at hc
  ·rename_i x' y' h1 h2
   have hx:=bM h1 hr
   have hy:=bM h2 hr
   have fin : ∀ d',wc op (x'.ev tm) (y'.ev tm)=some d'→(d',s)=(d,s')→cJ P M s w (execOp act.eval ⟨dst, .binOp op t x y yt,type,pos,after,guard⟩) d s':=by
    intro d' kM heq
    cases heq
    exact Rq r hx hy kM
   have YZ:(match wc op (x'.ev tm) (y'.ev tm)with|some d=>some (d,s)|none=>none)=some (d,s')→cJ P M s w (execOp act.eval ⟨dst, .binOp op t x y yt,type,pos,after,guard⟩) d s':=by
    intro h
    split at h
    ·rename_i d' kM
     exact fin d' kM (by cases h;rfl)
    ·cases h
   have RE : ∀ o:FO,((o = .eq∧op = .eql)∨(o = .G4∧op = .add)∨(o = .Oe∧op = .eql))→aI (.ql o x' y') tm s=some (d,s')→cJ P M s w (execOp act.eval ⟨dst, .binOp op t x y yt,type,pos,after,guard⟩) d s':=by
    intro o ho h
    simp only[aI]at h
    split at h
    ·rename_i d' kM
     cases h
     exact Oq r ho hx hy kM
    ·cases h
   have Y0 : ∀ neg,op=(if neg then .neq else .eql)→P.underlying t=some .bool→aI (.Ff neg x' y') tm s=some (d,s')→cJ P M s w (execOp act.eval ⟨dst, .binOp op t x y yt,type,pos,after,guard⟩) d s':=by
    intro neg l6 ht h
    simp only[aI]at h
    split at h
    ·rename_i p q hp hq
     cases h
     rw[hp]at hx;rw[hq]at hy
     simp only[execOp,hx.nu,hy.nu,l6]
     exact Rr r ht
    ·cases h
   have Y1 : ∀ neg e,op=(if neg then .neq else .eql)→P.underlying t=some (.pointer e)→aI (.Fg neg x' y') tm s=some (d,s')→cJ P M s w (execOp act.eval ⟨dst, .binOp op t x y yt,type,pos,after,guard⟩) d s':=by
    intro neg e l6 ht h
    simp only[aI]at h
    split at h
    ·rename_i hp hq
     cases h
     rw[hp]at hx;rw[hq]at hy
     simp only[execOp,hx.rz,hy.rz,l6]
     have:=Cm r (neg:=neg) (x:=x) (y:=y) (a:=none) ht
     cases neg<;>simpa using this
    ·rename_i o off hp hq
     cases h
     rw[hp]at hx;rw[hq]at hy
     simp only[execOp,hx.rA.1,hy.rz,l6]
     have:=Cm r (neg:=neg) (x:=x) (y:=y) (a:=some ⟨M.mu o,off,none⟩) ht
     cases neg<;>simpa using this
    ·rename_i row off hp hq
     cases h
     rw[hp]at hx;rw[hq]at hy
     obtain⟨b,k,hv,_⟩:=hx.xU
     simp only[execOp,hv,hy.rz,l6]
     have:=Cm r (neg:=neg) (x:=x) (y:=y) (a:=some ⟨b,k+off,none⟩) ht
     cases neg<;>simpa using this
    ·cases h
   have Y2 : ∀ neg ks,op=(if neg then .neq else .eql)→pz P t=some ks→aI (.eqs neg ks x' y') tm s=some (d,s')→cJ P M s w (execOp act.eval ⟨dst, .binOp op t x y yt,type,pos,after,guard⟩) d s':=by
    intro neg ks l6 ht h
    simp only[aI]at h
    split at h
    ·rename_i p q hp hq
     split at h
     ·rename_i e' sD
      cases h
      rw[hp]at hx;rw[hq]at hy
      simp only[execOp,l6]
      exact Rt r ht hx hy sD
     ·cases h
    ·cases h
   split at hc
   ·cases hc;exact YZ he
   ·cases hc;exact YZ he
   ·rename_i hu;cases hc;exact Y0 false rfl hu he
   ·rename_i hu;cases hc;exact Y0 true rfl hu he
   ·rename_i hu;cases hc;exact Y1 false _ rfl hu he
   ·rename_i hu;cases hc;exact Y1 true _ rfl hu he
   ·obtain⟨ks,hk,rfl⟩:=map_some hc;exact Y2 false ks rfl hk he
   ·obtain⟨ks,hk,rfl⟩:=map_some hc;exact Y2 true ks rfl hk he
   ·cases hc;exact RE .eq (.inl ⟨rfl,rfl⟩) he
   ·cases hc;exact RE .G4 (.inr (.inl ⟨rfl,rfl⟩)) he
   ·cases hc;exact RE .Oe (.inr (.inr ⟨rfl,rfl⟩)) he
   ·cases hc
  ·cases hc
 | unOp op t x=>
  obtain⟨y,hy,rfl⟩:=map_some hc
  have hx:=bM hy hr
  simp only[aI]at he
  split at he
  ·rename_i d' kM
   cases he
   unfold G8 at kM
   split at kM
   ·rename_i k n hk
    cases kM
    rw[hk]at hx
    exact cJ.pure (v:= .int k (k.wrap (0 - n))) r (by simp[execOp,hx.gT,Op.unary,Op.intArith]) (.int _ _)
   ·rename_i b hb
    cases kM
    rw[hb]at hx
    exact cJ.pure (v:= .bool (!b)) r (by simp[execOp,hx.nu,Op.unary]) (.bool _)
   ·cases kM
  ·cases he
 | convert src atG x=>
  simp only at hc
  split at hc
  ·rename_i y k1 k h1 h2 h3
   cases hc
   have hx:=bM h1 hr
   simp only[aI]at he
   split at he
   ·rename_i k2 n hn
    cases he
    rw[hn]at hx
    refine cJ.pure (v:= .int k (k.wrap n)) r ?_ (.int _ _)
    simp[execOp,hx.gT,convert,run_underlying h2,run_underlying h3,Conv.intToInt]
   ·cases he
  ·rename_i y e h1 h2 h3
   split at hc
   ·rename_i h4
    cases hc
    have hx:=bM h1 hr
    simp only[aI]at he
    split at he
    ·rename_i g z rows jT
     split at he
     ·rename_i b hb
      cases he
      rw[jT]at hx
      exact Lv r h2 h4 h3 hx hb
     ·cases he
    ·cases he
   ·cases hc
  ·rename_i y e e2 h1 h2 h3
   split at hc
   ·rename_i h4
    split at hc
    ·rename_i rl
     cases hc
     subst rl
     have hx:=bM h1 hr
     simp only[aI]at he
     split at he
     ·rename_i t z rows jT
      split at he
      ·rename_i la
       cases he
       rw[jT]at hx
       exact Rx r h2 h4 hx la.1 la.2
      ·cases he
     ·cases he
    ·cases hc
   ·cases hc
  ·rename_i y e h1 h2 h3
   split at hc
   ·rename_i i h4 h5
    split at hc
    ·cases hc
     have hx:=bM h1 hr
     simp only[aI]at he
     split at he
     ·rename_i l hl
      cases he
      rw[hl]at hx
      simp only[execOp,hx.kT]
      exact Hk r h2 h3 h4
     ·cases he
    ·cases hc
   ·cases hc
  ·rename_i y k0 k h1 h2 h3
   cases hc
   have hx:=bM h1 hr
   simp only[aI]at he
   split at he
   ·rename_i d' kM
    cases he
    obtain⟨j,n,hn,rfl⟩:=Ll kM
    rw[hn]at hx
    refine cJ.pure (v:= .float k (k.nearest n)) r ?_ (.val _ rfl)
    simp[execOp,hx.gT,convert,run_underlying h2,run_underlying h3,Conv.intToFloat]
   ·cases he
  ·rename_i y k0 k h1 h2 h3
   cases hc
   have hx:=bM h1 hr
   simp only[aI]at he
   split at he
   ·rename_i d' kM
    cases he
    obtain⟨f,b,n,hn,h4,h5,rfl⟩:=Lm kM
    rw[hn]at hx
    refine cJ.pure (v:= .int k n) r ?_ (.int _ _)
    simp[execOp,hx.mB,convert,run_underlying h2,run_underlying h3,Conv.floatToInt,h4,h5]
   ·cases he
  ·cases hc
 | slice t x lo hi mx=>
  cases mx with
  |some m=>cases hc
  | none=>
   simp only at hc
   split at hc
   ·rename_i y Fs gI h1 h2 h3 h4
    cases hc
    have hx:=bM h1 hr
    simp only[aI]at he
    split at he
    ·rename_i u hu
     rw[hu]at hx
     split at he
     ·rename_i l h hl hh
      split at he
      ·rename_i la
       cases he
       have:=Ox r h4 (Hq hr h2 hl) (Hr hr h3 hh) la.1 la.2.1 la.2.2
       simp only[execOp,hx.kT,Option.map_none]
       exact this
      ·cases he
     ·cases he
    ·cases he
   ·rename_i y Fs gI e h1 h2 h3 h4
    split at hc
    ·rename_i i Dg
     cases hc
     have hx:=bM h1 hr
     simp only[aI]at he
     split at he
     ·rename_i g z rows jT
      rw[jT]at hx
      split at he
      ·rename_i l h hl hh
       split at he
       ·rename_i la
        cases he
        have:=Rv r h4 Dg la.1 hx (Hq hr h2 hl) (Hr hr h3 hh) la.2.1 la.2.2.1 la.2.2.2
        simp only[execOp,Option.map_none]
        exact this
       ·cases he
      ·cases he
     ·split at he
      case h_2=>cases he
      rename_i d' sD
      cases he
      have:=Lz r h4 Dg hx (fun l e=>Hq hr h2 e) (fun len l e=>Hr hr h3 e) sD
      simp only[execOp,Option.map_none]
      exact this
    ·cases hc
   ·cases hc
 | fieldAddr t x f=>
  simp only at hc
  split at hc
  ·rename_i y off size a h1 h2
   cases hc
   have hx:=bM h1 hr
   simp only[aI]at he
   split at he
   ·rename_i o k ho
    cases he
    rw[ho]at hx
    have Hs:=hx.zT
    obtain⟨hv,hD⟩:=hx.rA
    refine cJ.pure (v:= .pointer (some ⟨M.mu o,k+off,none⟩)) r ?_ (.ptr _ _ hD Hs)
    simp only[execOp,hv,Sem.run_bind,zV h2,Result.andThen_ok,Sem.run_pure]
   ·rename_i row k ho
    cases he
    rw[ho]at hx
    obtain⟨b,q,hv,g1,g2⟩:=hx.xU
    refine cJ.pure (v:= .pointer (some ⟨b,q+(k+off),none⟩)) r ?_ (.dt _ _ _ _ g1 g2)
    simp only[execOp,hv,Sem.run_bind,zV h2,Result.andThen_ok,Sem.run_pure,Nat.add_assoc]
   ·split at he
    case h_2=>cases he
    rename_i d' sD
    cases he
    unfold Dc at sD
    split at sD
    ·rename_i o g k hq
     cases sD
     rw[hq]at hx
     obtain⟨z,b,cap,A,hv,ho,hm,hg⟩:=hx.Ck
     refine cJ.pure (v:= .pointer (some ⟨b,k+off,none⟩)) r ?_ (.fc _ _ _ _ b cap A ho hm hg)
     simp only[execOp,hv,Sem.run_bind,zV h2,Result.andThen_ok,Sem.run_pure]
    ·cases sD
  ·cases hc
 | field t x f=>
  simp only at hc
  split at hc
  ·rename_i y off size a h1 h2
   cases hc
   have hx:=bM h1 hr
   simp only[aI]at he
   split at he
   ·rename_i cs ng
    split at he
    ·rename_i d' kM
     cases he
     rw[ng]at hx
     obtain⟨vs,hv,g1,g2,g3⟩:=hx.Ep
     simp only[execOp,hv]
     exact LF h2 g1 g2 g3 kM r
    ·cases he
   ·cases he
  ·cases hc
 | indexAddr t x i=>
  simp only at hc
  split at hc
  ·rename_i y j e h1 h2 h3
   split at hc
   ·rename_i inf LH
    split at hc
    ·cases hc
     have hx:=bM h1 hr
     have hj:=bM h2 hr
     simp only[aI]at he
     split at he
     ·rename_i g z rows k n jT hn
      split at he
      ·rename_i la
       obtain⟨Ht,hz⟩:=la
       subst hz
       split at he
       ·rename_i row dS
        cases he
        rw[jT]at hx;rw[hn]at hj
        simp only[execOp,hj.gT]
        exact Lo r h3 LH hx Ht dS
       ·cases he
      ·cases he
     ·split at he
      case h_2=>cases he
      rename_i d' sD
      cases he
      exact Ho r h3 LH hx hj sD
    ·cases hc
   ·cases hc
  ·cases hc
 | index t x i=>
  simp only at hc
  split at hc
  ·rename_i y j h1 h2 h3
   cases hc
   have hx:=bM h1 hr
   have hj:=bM h2 hr
   simp only[aI]at he
   split at he
   ·rename_i l k n hl hn
    split at he
    ·rename_i Ht
     split at he
     ·rename_i c Y3
      cases he
      rw[hl]at hx;rw[hn]at hj
      simp only[execOp,hj.gT,hx.kT]
      exact Ou r h3 Ht Y3
     ·cases he
    ·cases he
   ·cases he
  ·cases hc
 | extract x i=>
  obtain⟨y,hy,rfl⟩:=map_some hc
  have hx:=bM hy hr
  simp only[aI]at he
  split at he
  ·rename_i ds Aa
   split at he
   ·rename_i d' kM
    cases he
    rw[Aa]at hx
    obtain⟨vs,hv,g1,g2⟩:=hx.Fi
    have hD:=(List.getElem?_eq_some_iff.1 kM).1
    have Hu:vs[i]? = some vs[i]:=Array.getElem?_eq_getElem (by omega)
    refine cJ.pure (v:=vs[i]) r ?_ (g2 i _ _ kM Hu)
    simp[execOp,hv,Instr.extract,Hu]
   ·cases he
  ·cases he
 | call c=>
  obtain⟨callee,args,l7⟩:=c
  cases callee with
  |value f=>cases hc
  |invoke f m=>cases hc
  | builtin bi=>
   have two : ∀ {x y:Operand} {x' y':X} {isMax:Bool},cX x=some x'→cX y=some y'→bi=(if isMax then .max else .min)→args.toList = [x,y]→aI (.mm isMax x' y') tm s=some (d,s')→
    cJ P M s w (execOp act.eval ⟨dst, .call ⟨.builtin bi,args,l7⟩,type,pos,after,guard⟩) d s':=by
    intro x y x' y' isMax h1 h2 hb ha h
    have gJ:args = #[x,y]:=by rw[← Array.toArray_toList (xs:=args),ha]
    subst gJ
    have hx:=bM h1 hr
    have hy:=bM h2 hr
    simp only[aI]at h
    split at h
    ·rename_i k a k' b OI Hs
     split at h
     ·rename_i yZ
      subst yZ
      cases h
      rw[OI]at hx;rw[Hs]at hy
      refine cJ.pure (v:= .int k (if isMax then(if b > a then b else a)else(if b<a then b else a))) r ?_ (.int _ _)
      subst hb
      cases isMax
      ·simp[execOp,resolve,invoke,builtin,Builtin.min_,Builtin.min2,hx.gT,hy.gT]
      ·simp[execOp,resolve,invoke,builtin,Builtin.max_,Builtin.max2,hx.gT,hy.gT]
     ·cases h
    ·cases h
   cases bi<;>simp only at hc<;>try (cases hc;done)
   case append=>
    split at hc
    ·rename_i x y t u ha qy
     split at hc
     ·rename_i e e' x' y' h1 h2 h3 h4
      split at hc
      ·rename_i i z hi hz
       split at hc
       ·rename_i rC
        cases hc
        have gJ:args = #[x,y]:=by rw[← Array.toArray_toList (xs:=args),ha]
        have Hv:l7 = #[t,u]:=by rw[← Array.toArray_toList (xs:=l7),qy]
        subst gJ;subst Hv
        obtain⟨i',v,g1,g2,g3,g4⟩:=rU hz
        rw[hi]at g1;cases g1
        have Fp:=qv (M:=M) (s:=s) g4
        split at he
        ·rename_i hb
         obtain⟨rfl,Hw,Y4⟩:=hb
         obtain⟨v',w',M',f1,f2,f3,f4⟩:=Lr (ty:=type) r h1 h2 hi g2 Hw Y4 g3 Fp.2.1 (bM h3 hr) (bM h4 hr) he
         refine⟨v',w',M', .inl ?_,f2,f3,f4⟩
         simp[execOp,resolve,invoke,builtin,f1]
        ·have Y5:=bM h3 hr
         simp only[aI]at he
         split at he
         ·rename_i gq zq rq hq
          rw[hq]at Y5
          obtain⟨v',w',M',f1,f2,f3,f4⟩:=OC (ty:=type) r h1 h2 hi g2 g3 Fp.2.1 Y5 (bM h4 hr) rC he
          refine⟨v',w',M', .inl ?_,f2,f3,f4⟩
          simp[execOp,resolve,invoke,builtin,f1]
         ·obtain⟨v',w',M',f1,f2,f3,f4⟩:=LB (ty:=type) r h1 h2 hi g2 g3 Fp.2.1 Y5 (bM h4 hr) rC he
          refine⟨v',w',M', .inl ?_,f2,f3,f4⟩
          simp[execOp,resolve,invoke,builtin,f1]
       ·cases hc
      ·cases hc
     ·rename_i e x' y' h1 h2 h3 h4
      split at hc
      ·rename_i i z hi hz
       split at hc
       ·rename_i hb
        cases hc
        obtain⟨rfl,Hw,Y4⟩:=hb
        have gJ:args = #[x,y]:=by rw[← Array.toArray_toList (xs:=args),ha]
        have Hv:l7 = #[t,u]:=by rw[← Array.toArray_toList (xs:=l7),qy]
        subst gJ;subst Hv
        obtain⟨i',v,g1,g2,g3,g4⟩:=rU hz
        rw[hi]at g1;cases g1
        have Fp:=qv (M:=M) (s:=s) g4
        have hy:=bM h4 hr
        simp only[aI]at he
        split at he
        ·rename_i l hl
         rw[hl]at hy
         obtain⟨v',w',M',f1,f2,f3,f4⟩:=Ls (ty:=type) r h1 h2 hi g2 Hw Y4 g3 Fp.2.1 (bM h3 hr) he
         refine⟨v',w',M', .inl ?_,f2,f3,f4⟩
         simp[execOp,resolve,invoke,builtin,hy.kT,f1]
        ·cases he
       ·cases hc
      ·cases hc
     ·cases hc
    ·cases hc
   case len=>
    split at hc
    ·rename_i x t ha qy
     have gJ:args = #[x]:=by rw[← Array.toArray_toList (xs:=args),ha]
     have Hv:l7 = #[t]:=by rw[← Array.toArray_toList (xs:=l7),qy]
     subst gJ;subst Hv
     have hex:execOp act.eval ⟨dst, .call ⟨.builtin .len, #[x], #[t]⟩,type,pos,after,guard⟩=(do pure (.value (← Builtin.len_ #[t] type #[act.eval x]))):=by
      simp[execOp,resolve,invoke,builtin]
     rw[hex]
     split at hc
     ·rename_i ht
      obtain⟨y,hy,rfl⟩:=map_some hc
      have hx:=bM hy hr
      simp only[aI]at he
      split at he
      ·rename_i l hl
       cases he
       rw[hl]at hx
       rw[hx.kT]
       exact Hd r ht
      ·cases he
     ·rename_i e ht
      obtain⟨y,hy,rfl⟩:=map_some hc
      have hx:=bM hy hr
      simp only[aI]at he
      split at he
      ·rename_i g z rows jT
       cases he
       rw[jT]at hx
       rcases hx.iQ with ⟨h0,hv,_⟩|⟨h0,_,a,cap,hv⟩|⟨b,q,cap,hv,_⟩
       ·rw[hv,h0];exact mC r ht
       ·rw[hv,h0];exact mC r ht
       ·rw[hv];exact mC r ht
      ·split at he
       case h_2=>cases he
       rename_i d' sD
       cases he
       exact LA r ht hx sD
     ·cases hc
    ·cases hc
   case max=>
    split at hc
    ·rename_i x y ha
     split at hc
     ·rename_i x' y' h1 h2
      cases hc
      exact two (isMax:=true) h1 h2 rfl ha he
     ·cases hc
    ·cases hc
   case min=>
    split at hc
    ·rename_i x y ha
     split at hc
     ·rename_i x' y' h1 h2
      cases hc
      exact two (isMax:=false) h1 h2 rfl ha he
     ·cases hc
    ·cases hc
   case complex=>
    split at hc
    ·rename_i x y ha
     split at hc
     ·rename_i x' y' h1 h2
      cases hc
      have gJ:args = #[x,y]:=by rw[← Array.toArray_toList (xs:=args),ha]
      subst gJ
      have hx:=bM h1 hr
      have hy:=bM h2 hr
      simp only[aI]at he
      split at he
      ·rename_i d' kM
       cases he
       obtain⟨k,a,b,vz,rk,rfl⟩:=Om kM
       rw[vz]at hx;rw[rk]at hy
       refine cJ.pure (v:= .complex k a b) r ?_ (.val _ rfl)
       have hb:Builtin.complex_ l7 type #[.float k a, .float k b] = pure (.complex k a b):=if_pos rfl
       simp[execOp,resolve,invoke,builtin,hb,hx.mB,hy.mB]
      ·cases he
     ·cases hc
    ·cases hc
   case real=>
    split at hc
    ·rename_i x ha
     obtain⟨x',h1,rfl⟩:=map_some hc
     have gJ:args = #[x]:=by rw[← Array.toArray_toList (xs:=args),ha]
     subst gJ
     have hx:=bM h1 hr
     simp only[aI]at he
     split at he
     ·rename_i d' kM
      cases he
      obtain⟨k,a,b,vz,rfl⟩:=On kM
      rw[vz]at hx
      refine cJ.pure (v:= .float k a) r ?_ (.val _ rfl)
      have hb:Builtin.real_ l7 type #[.complex k a b] = pure (.float k a):=rfl
      simp[execOp,resolve,invoke,builtin,hb,hx.mB]
     ·cases he
    ·cases hc
   case imag=>
    split at hc
    ·rename_i x ha
     obtain⟨x',h1,rfl⟩:=map_some hc
     have gJ:args = #[x]:=by rw[← Array.toArray_toList (xs:=args),ha]
     subst gJ
     have hx:=bM h1 hr
     simp only[aI]at he
     split at he
     ·rename_i d' kM
      cases he
      obtain⟨k,a,b,vz,rfl⟩:=Oo kM
      rw[vz]at hx
      refine cJ.pure (v:= .float k b) r ?_ (.val _ rfl)
      have hb:Builtin.imag_ l7 type #[.complex k a b] = pure (.float k b):=rfl
      simp[execOp,resolve,invoke,builtin,hb,hx.mB]
     ·cases he
    ·cases hc
 | makeFunc fn first captured=>
  cases fn<;>simp only at hc<;>try (cases hc;done)
  split at hc
  ·rename_i f h0
   obtain⟨xs,od,rfl⟩:=map_some hc
   simp only[aI,Option.some.injEq,Prod.mk.injEq]at he
   obtain⟨rfl,rfl⟩:=he
   obtain⟨c1,c2⟩:=Kk hr od
   have hf:first = #[]:=Array.eq_empty_of_size_eq_zero h0
   subst hf
   refine cJ.pure (v:= .func (.func f) #[] (captured.map act.eval)) r ?_ (.fS _ _ _ (by simp[c1]) (fun i d v e1 e2=>c2 i d v e1 (by simpa using e2)))
   simp[execOp,Instr.makeFunc]
  ·cases hc
 | makeMap t rv=>
  cases rv with
  | none=>
   simp only at hc
   split at hc
   ·rename_i ht
    cases hc
    simp only[aI,Option.some.injEq,Prod.mk.injEq]at he
    obtain⟨rfl,rfl⟩:=he
    simp only[execOp,Option.map_none]
    exact Lw r ht
   ·cases hc
  |some x=>cases hc
 | makeSlice t l c=>
  simp only at hc
  split at hc
  ·rename_i l' c' e h1 h2 ht
   split at hc
   ·rename_i i z hi hz
    split at hc
    ·rename_i rC
     cases hc
     have hl:=bM h1 hr
     have hcx:=bM h2 hr
     simp only[aI]at he
     split at he
     ·rename_i n m hn hm
      split at he
      ·rename_i la
       obtain⟨rfl,h0,hmx⟩:=la
       cases he
       rw[hn]at hl;rw[hm]at hcx
       simp only[execOp,hl.gT,hcx.gT]
       exact LD r ht hi hz rC h0 hmx
      ·cases he
     ·cases he
    ·cases hc
   ·cases hc
  ·cases hc
 | mapUpdate t m k v=>
  simp only at hc
  split at hc
  ·rename_i kt et m' k' v' ht h1 h2 h3
   split at hc
   ·rename_i Y7
    cases hc
    have hm:=bM h1 hr
    have hk:=bM h2 hr
    have hv:=bM h3 hr
    simp only[aI]at he
    split at he
    ·rename_i o key g z rows ho RF jT
     rw[ho]at hm;rw[RF]at hk;rw[jT]at hv
     obtain⟨Y8,hD,wZ⟩:=hm.Hc
     split at he
     ·rename_i cs ng
      split at he
      ·rename_i jq ahw
       cases he
       have xc:(act.eval v).oneCell'=true:=by
        rcases hv.iQ with ⟨_,h,_⟩|⟨_,_,a,cap,h⟩|⟨b,q,cap,h,_⟩<;>rw[h]<;>rfl
       simp only[execOp,Y8,hk.kT]
       exact OE r ht Y7 wZ ng hv xc ahw
      ·cases he
     ·cases he
    ·cases he
   ·cases hc
  ·cases hc
 | lookup t m k ok=>
  cases ok<;>simp only at hc<;>try (cases hc;done)
  split at hc
  ·rename_i kt et m' k' ht h1 h2
   split at hc
   ·rename_i i Y7 hi
    split at hc
    ·rename_i z hz
     obtain⟨zd,YX,rfl⟩:=map_some hc
     have hm:=bM h1 hr
     have hk:=bM h2 hr
     simp only[aI]at he
     split at he
     ·rename_i o key ho RF
      rw[ho]at hm;rw[RF]at hk
      obtain⟨Y8,hD,wZ⟩:=hm.Hc
      split at he
      ·rename_i cs ng
       split at he
       ·rename_i d' kM
        cases he
        simp only[execOp,Y8,hk.kT]
        exact Lx r ht Y7 hi hz YX wZ ng kM
       ·cases he
      ·cases he
     ·cases he
    ·cases hc
   ·cases hc
  ·cases hc
 |_=>cases hc
theorem x7 {o:Oper} {z:List D} {k n:Nat} {ps:List (Nat×X)} {tm:Tm} {act:Act} {d:D} {s':St} (hc:Dd P o=some (.du z k n ps)) (r:Rel M s w) (hr:lE M s tm act.tmps) (he:aI (.uu z k n ps) tm s=some (d,s')) :
 cJ P M s w (execOp act.eval o) d s':=by
 obtain⟨dst,op,type,pos,after,guard⟩:=o
 unfold Dd at hc
 simp only at hc
 cases op with
 | buildSlice t n' parts=>
  simp only at hc
  split at hc
  ·rename_i e hu
   split at hc
   ·rename_i i z ps h1 h2 h3
    split at hc
    ·rename_i la
     cases hc
     simp only[aI]at he
     split at he
     ·rename_i rows jT
      cases he
      obtain⟨vs,T,g1,g2,g3,g4⟩:=BY r hr hu h1 h2 la.1 la.2 h3 jT
      obtain⟨M',f1,f2,f3⟩:=OD r T g1 (by rw[g3,g2]) la.1
      refine⟨_,_,_, .inl ?_,f2,f1,f3⟩
      simp only[Array.toArray_toList]at g4
      simp only[execOp,Sem.run_bind,g4,Result.andThen_ok,Sem.run_pure]
      rw[g2]
     ·cases he
    ·cases hc
   ·cases hc
  ·cases hc
 |_=>
  exfalso
  revert hc
  try simp only
  repeat' split
  all_goals (first|(intro h;cases h;done)|(intro h;obtain⟨_,_,h⟩:=map_some h;cases h;done)|contradiction|(simp;done)|(intro h;simp_all;done))
end
end Go.Abs
namespace Go.Abs
structure fM where
 M:Map
 s:St
 w:World
 laid:Laid M s w
 B1 : ∀ b o v,M.G b o=some v→b<w.heap.size
def Holds (B:fM) (nt:Nat) (tm:Tm) (s:St) (act:Act) (w:World):Prop:=
 ∃ M,Ext B.M B.s B.w M s w∧Rel M s w∧lE M s tm act.tmps∧act.tmps.size=nt∧act.defers = []
def pe (B:fM) (nt:Nat) (Q:Exit→Tm→St→Prop):Exit→Act→World→Prop:=fun e act w=>∃ tm s,Q e tm s∧Holds B nt tm s act w
def bG (P:Program) (f:FuncId) (args:List D) (s:St) (Q:D→St→Prop):Prop:=
 ∀ (M:Map) (w:World) (fz:Array Value),Rel M s w→Laid M s w→fz.size=args.length→(∀ (i:Nat) (d:D) (v:Value),args[i]? = some d→fz[i]? = some v→RD M s d v)→
  Calls P f fz w fun e w'=>∃ M' d v s',e = .returned v∧Q d s'∧Ext M s w M' s' w'∧Rel M' s' w'∧RD M' s' d v
theorem bG.mono {P:Program} {f:FuncId} {args:List D} {s:St} {Q Q':D→St→Prop} (h:bG P f args s Q) (hq : ∀ d s',Q d s'→Q' d s'):bG P f args s Q':=
 fun M w fz r hd hl ha=>(h M w fz r hd hl ha).mono fun _ _ ⟨M',d,v,s',h1,h2,h3⟩=>⟨M',d,v,s',h1,hq _ _ h2,h3⟩
def guarded (g:Option (Nat×Bool)) (tm:Tm) (A B:Prop):Prop:=
 match g with
 |none=>A
 |some (t,want)=>
  match tm.get t with
  | .bool b=>(b=want→A)∧(b=(!want)→B)
  | .tuple _=>B
  |_=>False
def iI (P:Program):List AI→(Tm→St→Prop)→Tm→St→Prop
 | [],K,tm,s=>K tm s
 | .op dst g o::r,K,tm,s=>
  guarded g tm (match aI o tm s with|some (d,s')=>iI P r K (tm.put dst d) s'|none=>False) (iI P r K (tm.put dst (.tuple [])) s)
 | .call dst g f xs::r,K,tm,s=>
  guarded g tm (bG P f (xs.map (·.ev tm)) s fun d s'=>iI P r K (tm.put dst d) s') (iI P r K (tm.put dst (.tuple [])) s)
 | .nil dst g neg x::r,K,tm,s=>
  guarded g tm (match x.ev tm with
   | .slice _ _ rows=>∀ b:Bool,(rows≠ []→b=false)→iI P r K (tm.put dst (.bool (if neg then !b else b))) s
   |_=>False) (iI P r K (tm.put dst (.tuple [])) s)
 | .jb dst g t xs::r,K,tm,s=>
  guarded g tm (match tm.get t with
   | .fS f np=>enters P f=true∧bG P f (xs.map (·.ev tm)++np) s fun d s'=>iI P r K (tm.put dst d) s'
   |_=>False) (iI P r K (tm.put dst (.tuple [])) s)
section
variable {P:Program}
theorem Ab {f:FuncId} (h:enters P f=true) (args:Array Value) (w:World):(callFunc f args).run P w = .ok (.enter f args) w:=by
 unfold enters at h
 split at h
 ·rename_i fn hf
  simp only[Bool.and_eq_true,Bool.not_eq_true']at h
  obtain⟨h1,h2⟩:=h
  have h3:fn.body.isNone=false:=by cases hb:fn.body<;>simp_all
  simp only[callFunc,Sem.run_bind,run_program,Result.andThen_ok,hf,h2,h3]
  simp
 ·cases h
theorem wj (ρ:Operand→Value) (dst:Option Tmp) (f:FuncId) (args:Array Operand) (l7:Array TypeId) (ty:TypeId) (pos:String) (after:Array Edge) (g:Option (Nat×Bool))
 (hρ:ρ (.func f) = .func (.func f) #[] #[]) (h:enters P f=true) (w:World) :
 (execOp ρ ⟨dst, .call ⟨.value (.func f),args,l7⟩,ty,pos,after,g⟩).run P w = .ok (.enter f (args.map ρ)) w:=by
 simp[execOp,resolve,hρ,Deferred.ofValue,invoke,Ab h]
theorem Ac (ρ:Operand→Value) (dst:Option Tmp) (x:Operand) (f:FuncId) (np:Array Value) (args:Array Operand) (l7:Array TypeId) (ty:TypeId) (pos:String) (after:Array Edge) (g:Option (Nat×Bool))
 (hρ:ρ x = .func (.func f) #[] np) (h:enters P f=true) (w:World) :
 (execOp ρ ⟨dst, .call ⟨.value x,args,l7⟩,ty,pos,after,g⟩).run P w = .ok (.enter f (args.map ρ++np)) w:=by
 simp[execOp,resolve,hρ,Deferred.ofValue,invoke,Ab h]
theorem vA {M:Map} {s:St} {tm:Tm} {act:Act} (hr:lE M s tm act.tmps) : ∀ {l:List Operand} {xs:List X},wY l=some xs→
 xs.length=l.length∧∀ (i:Nat) (d:D) (v:Value),(xs.map (·.ev tm))[i]? = some d→(l.map act.eval)[i]? = some v→RD M s d v
 | [],xs,h=>by cases h;exact⟨rfl,by simp⟩
 | x::l,xs,h=>by
  unfold wY at h
  split at h
  ·rename_i x' r' h1 h2
   cases h
   obtain⟨g1,g2⟩:=vA hr h2
   refine⟨by simp[g1],fun i d v e1 e2=>?_⟩
   cases i with
   |zero=>simp at e1 e2;subst e1;subst e2;exact bM h1 hr
   |succ i=>exact g2 i d v (by simpa using e1) (by simpa using e2)
  ·cases h
theorem Ft {M:Map} {s:St} {tm:Tm} {act:Act} {args:Array Operand} {xs:List X} {np:List D} {vs:Array Value} (od:wY args.toList=some xs) (ht:lE M s tm act.tmps) (hlen:np.length=vs.size)
 (Dp : ∀ (i:Nat) (d:D) (v:Value),np[i]? = some d→vs[i]? = some v→RD M s d v) :
 (args.map act.eval++vs).size=(xs.map (·.ev tm)++np).length∧∀ (i:Nat) (d:D) (v:Value),(xs.map (·.ev tm)++np)[i]? = some d→(args.map act.eval++vs)[i]? = some v→RD M s d v:=by
 obtain⟨c1,c2⟩:=vA ht od
 refine⟨by simp[c1,hlen],fun i d v e1 e2=>?_⟩
 rcases Nat.lt_or_ge i args.size with nh|nh
 ·rw [List.getElem?_append_left (by simp [c1];exact nh)]at e1
  rw[Array.getElem?_append_left (by simp;exact nh)]at e2
  exact c2 i d v e1 (by simpa using e2)
 ·rw [List.getElem?_append_right (by simp [c1];exact nh)]at e1
  rw[Array.getElem?_append_right (by simp;exact nh)]at e2
  simp only[List.length_map,c1,Array.size_map,Array.length_toList]at e1 e2
  exact Dp _ d v e1 e2
theorem za {M:Map} {s:St} {w:World} {o:Oper} {neg:Bool} {x:X} {tm:Tm} {act:Act} (hc:Eo P o=some (neg,x)) (hr:lE M s tm act.tmps) {g:Tag} {z:Nat} {rows:List (List D)} (hx:x.ev tm = .slice g z rows) :
 ∃ b:Bool,(rows≠ []→b=false)∧(execOp act.eval o).run P w = .ok (.value (.bool (if neg then !b else b))) w:=by
 obtain⟨dst,op,type,pos,after,guard⟩:=o
 unfold Eo at hc
 split at hc
 ·rename_i op t y yt heq
  simp only at heq
  subst heq
  have fin : ∀ e,P.underlying t=some (.slice e)→cX y=some x→op=(if neg then .neq else .eql)→∃ b:Bool,(rows≠ []→b=false)∧
   (execOp act.eval ⟨dst, .binOp op t y (.const (.slice none 0 0)) yt,type,pos,after,guard⟩).run P w = .ok (.value (.bool (if neg then !b else b))) w:=by
   intro e ht hy l6
   have hv:=bM hy hr
   rw[hx]at hv
   have key : ∀ (a:Option Addr) (n c:Nat),act.eval y = .slice a n c→(execOp act.eval ⟨dst, .binOp op t y (.const (.slice none 0 0)) yt,type,pos,after,guard⟩).run P w = .ok (.value (.bool (if neg then !a.isNone else a.isNone))) w:=by
    intro a n c pf
    have hg:=jt (P:=P) (w:=w) (op:=op) (t:=t) (x:=y) (y:= .const (.slice none 0 0)) (a:= .slice a n c) (b:= .slice none 0 0) ⟨by simp,by simp⟩
    have he:(Op.equal t (.slice a n c) (.slice none 0 0)).run P w = .ok a.isNone w:=by
     have : ∀ d,(Op.equalIn (d+1) t (.slice a n c) (.slice none 0 0)).run P w = .ok a.isNone w:=by
      intro d
      cases a<;>simp[Op.equalIn,run_underlying ht]
     exact this 9999
    have ahy:act.eval (.const (.slice none 0 0)) = .slice none 0 0:=rfl
    simp only[execOp,pf,ahy]
    rw[l6]at hg ⊢
    cases neg
    ·simp only [Bool.false_eq_true,if_false]at hg ⊢
     simp[hg,binOp,he]
    ·simp only [if_true]at hg ⊢
     simp[hg,binOp,he]
   rcases hv.iQ with ⟨h0,pf,_⟩|⟨_,_,a,cap,pf⟩|⟨b,q,cap,pf,_⟩
   ·exact⟨true,fun h=>(h h0).elim,key none 0 0 pf⟩
   ·exact⟨false,fun _=>rfl,key _ _ _ pf⟩
   ·exact⟨false,fun _=>rfl,key _ _ _ pf⟩
  split at hc
  ·cases hc
   exact fin _ ‹_› ‹_› rfl
  ·cases hc
   exact fin _ ‹_› ‹_› rfl
  ·cases hc
 ·cases hc
variable {B:fM} {nt:Nat}
theorem Holds.put {tm:Tm} {s:St} {act:Act} {w:World} {M':Map} {s':St} {w':World} {M:Map} (e:Ext B.M B.s B.w M s w) (ht:lE M s tm act.tmps) (hn:act.tmps.size=nt) (hd:act.defers = [])
 {dst:Option Nat} (pY : ∀ t,dst=some t→t<nt) {d:D} {v:Value} (e':Ext M s w M' s' w') (r':Rel M' s' w') (hv:RD M' s' d v):Holds B nt (tm.put dst d) s' (act.put dst v) w':=by
 refine⟨M',e.trans e',r',(ht.mono e'.le).put (fun t h=>by rw[hn];exact pY t h) hv, ?_, ?_⟩
 ·cases dst<;>simp[Act.put,hn]
 ·cases dst<;>simp[Act.put,hd]
theorem xf {ops:Array Oper} {o:Oper} {ai:AI} (h:cI P nt ops o=some ai) : ∀ t,o.dst=some t→t<nt:=by
 intro t ht
 unfold cI at h
 split at h
 ·cases h
 ·split at h
  ·rename_i hD;rw[ht]at hD;simpa[Ur]using hD
  ·cases h
theorem jU {ops:Array Oper} {o:Oper} {g:Option (Nat×Bool)} (hg:ux ops o.guard=some g) {M:Map} {s:St} {tm:Tm} {act:Act} (hr:lE M s tm act.tmps) {A C:Prop} (h:guarded g tm A C) :
 (Region.wanted o (yielded ops act.tmps)=true∧A)∨(Region.wanted o (yielded ops act.tmps)=false∧C):=by
 unfold ux at hg
 split at hg
 ·rename_i hn
  cases hg
  exact .inl ⟨by simp[Region.wanted,hn],h⟩
 ·rename_i j want hn
  split at hg
  ·rename_i t ht
   cases hg
   have UD:=hr t
   unfold guarded at h
   simp only at h
   split at h
   ·rename_i b hb
    rw[hb]at UD
    have hv:=UD.nu
    have adj:act.tmps[t]? = some (.bool b):=by
     cases hc:act.tmps[t]? with
     |none=>simp[Array.getD_eq_getD_getElem?,hc,Go.undef]at hv
     |some v=>simp[Array.getD_eq_getD_getElem?,hc]at hv;rw[hv]
    have hy:yielded ops act.tmps j=some b:=by simp[yielded,ht,adj]
    have hw:Region.wanted o (yielded ops act.tmps)=(some b==some want):=by simp[Region.wanted,hn,hy]
    by_cases Y9:b=want
    ·exact .inl ⟨by rw[hw,Y9];simp,h.1 Y9⟩
    ·refine .inr ⟨by rw [hw];simp [Y9],h.2 ?_⟩
     cases b<;>cases want<;>simp_all
   ·rename_i ds Aa
    rw[Aa]at UD
    obtain⟨vs,hv,_⟩:=UD.Fi
    refine .inr ⟨?_,h⟩
    have hy:yielded ops act.tmps j=none:=by
     unfold yielded
     rw[ht]
     cases hc:act.tmps[t]? with
     |none=>simp[hc]
     |some v=>simp[Array.getD_eq_getD_getElem?,hc]at hv;simp[hc,hv]
    simp[Region.wanted,hn,hy]
   ·exact h.elim
  ·cases hg
theorem Ad {ops:Array Oper} {Q:Exit→Tm→St→Prop} : ∀ (l:List Nat) (ol:List Oper) (is:List AI),l.map (ops[·]?)=ol.map some→qo P nt ops ol=some is→
 ∀ (tm:Tm) (s:St) (act:Act) (w:World),iI P is (Q .normal) tm s→Holds B nt tm s act w→wpOps P ops (pe B nt Q) l act w
 | [],[],is,_,hc,tm,s,act,w,h,hh=>by cases hc;exact⟨tm,s,h,hh⟩
 | [],_::_,_,hl,_,_,_,_,_,_,_=>by simp at hl
 |_::_,[],_,hl,_,_,_,_,_,_,_=>by simp at hl
 | i::l,o::ol,is,hl,hc,tm,s,act,w,h,hh=>by
  simp only[List.map_cons,List.cons.injEq]at hl
  obtain⟨hi,hl⟩:=hl
  unfold qo at hc
  split at hc
  ·rename_i ai ON h1 h2
   cases hc
   obtain⟨M,e,r,ht,hn,hd⟩:=hh
   have pY:=xf h1
   have ih:=fun tm s act w=>Ad (Q:=Q) l ol ON hl h2 tm s act w
   have skip : ∀ (x:Prop),iI P ON (Q .normal) (tm.put o.dst (.tuple [])) s→wpOps P ops (pe B nt Q) l (act.put o.dst Go.undef) w:=fun _ hk=>
    ih _ _ _ _ hk (Holds.put e ht hn hd pY (Ext.refl M s w) r .undef)
   simp only[wpOps,hi]
   unfold cI at h1
   split at h1
   ·cases h1
   ·rename_i g hg
    split at h1
    ·unfold rS at h1
     split at h1
     ·-- a call
      rename_i f args l7 l6
      split at h1
      ·rename_i x8
       obtain⟨xs,od,rfl⟩:=map_some h1
       unfold iI at h
       rcases jU hg ht h with ⟨hw,hA⟩|⟨hw,hB⟩
       ·simp only [hw,if_true]
        left
        have hex:(execOp act.eval o).run P w = .ok (.enter f (args.map act.eval)) w:=by
         obtain⟨dst,op,type,pos,after,guard⟩:=o
         simp only at l6
         subst l6
         exact wj act.eval dst f args l7 type pos after guard rfl x8 w
        obtain⟨c1,c2⟩:=vA ht od
        unfold Oper.wp
        rw[hex,Oper.upon_enter]
        refine(hA M w (args.map act.eval) r (B.laid.ext e) (by simp[c1]) (fun i d v e1 e2=>c2 i d v e1 (by simpa using e2))).mono ?_
        rintro en w' ⟨M',d,v,s',rfl,hk,e',r',hv⟩
        exact ih _ _ _ _ hk (Holds.put e ht hn hd pY e' r' hv)
       ·simp only [hw]
        exact skip True hB
      ·cases h1
     ·-- what a slot holds is called
      rename_i t args l7 l6
      obtain⟨xs,od,rfl⟩:=map_some h1
      unfold iI at h
      rcases jU hg ht h with ⟨hw,hA⟩|⟨hw,hB⟩
      ·simp only [hw,if_true]
       left
       split at hA
       ·rename_i f np oc
        obtain⟨x8,hA⟩:=hA
        have OO:=ht t
        rw[oc]at OO
        obtain⟨vs,sA,hlen,Dp⟩:=OO.Kg
        have hex:(execOp act.eval o).run P w = .ok (.enter f (args.map act.eval++vs)) w:=by
         obtain⟨dst,op,type,pos,after,guard⟩:=o
         simp only at l6
         subst l6
         exact Ac act.eval dst (.tmp t) f vs args l7 type pos after guard sA x8 w
        unfold Oper.wp
        rw[hex,Oper.upon_enter]
        have cc:=Ft od ht hlen Dp
        refine(hA M w (args.map act.eval++vs) r (B.laid.ext e) cc.1 cc.2).mono ?_
        rintro en w' ⟨M',d,v,s',rfl,hk,e',r',hv⟩
        exact ih _ _ _ _ hk (Holds.put e ht hn hd pY e' r' hv)
       ·exact hA.elim
      ·simp only [hw]
       exact skip True hB
     ·split at h1
      ·-- a slice held against nil
       rename_i neg x Cr
       cases h1
       unfold iI at h
       rcases jU hg ht h with ⟨hw,hA⟩|⟨hw,hB⟩
       ·simp only [hw,if_true]
        left
        split at hA
        ·rename_i g' z rows hx
         obtain⟨b,hb,hex⟩:=za (w:=w) Cr ht hx
         unfold Oper.wp
         rw[hex,Oper.upon_value]
         exact ih _ _ _ _ (hA b hb) (Holds.put e ht hn hd pY (Ext.refl M s w) r (.bool _))
        ·exact hA.elim
       ·simp only [hw]
        exact skip True hB
      ·-- any other operation
       have fin : ∀ ao,ai = .op o.dst g ao→(∀ d s',aI ao tm s=some (d,s')→cJ P M s w (execOp act.eval o) d s')→
        (if Region.wanted o (yielded ops act.tmps)=true then o.wp P act w (wpOps P ops (pe B nt Q) l) (pe B nt Q)∨(o.asks P act w∧LetsOut (pe B nt Q))else wpOps P ops (pe B nt Q) l (act.put o.dst Go.undef) w):=by
        intro ao vB Zb
        subst vB
        unfold iI at h
        rcases jU hg ht h with ⟨hw,hA⟩|⟨hw,hB⟩
        ·simp only [hw,if_true]
         left
         split at hA
         ·rename_i d s' qe
          obtain⟨v,w',M',dC,r',hv,e'⟩:=Zb d s' qe
          unfold Oper.wp
          rcases dC with dC|⟨dC,rfl⟩
          ·rw [dC,Oper.upon_value]
           exact ih _ _ _ _ hA (Holds.put e ht hn hd pY e' r' hv)
          ·rw [dC,Oper.upon_skip]
           exact ih _ _ _ _ hA (Holds.put e ht hn hd pY e' r' hv)
         ·exact hA.elim
        ·simp only [hw]
         exact skip True hB
       split at h1
       ·rename_i z k n ps nJ
        cases h1
        refine fin _ rfl (fun d s' qe=>?_)
        split at qe
        ·exact x7 nJ r ht qe
        ·exact rW nJ r ht qe
       ·rename_i ao nJ
        cases h1
        exact fin _ rfl (fun d s' qe=>rW nJ r ht qe)
       ·cases h1
    ·cases h1
  ·cases hc
end
end Go.Abs
namespace Go.Abs
def Turned (P:Program) (nt:Nat):AC→Code→Prop
 | .skip,c=>c = .skip
 | .run is,c=>∃ id ops,c = .region id ops false∧qo P nt ops ops.toList=some is
 | .par is lq,c=>∃ id ops,c = .region id ops true∧qo P nt ops ops.toList=some is∧P.follows .mixedOrders=true∧∃ pt,G6 is (ops.toList.map my) pt lq=true
 | .seq a b,c=>∃ x y,c = .seq x y∧cC P nt x=some a∧cC P nt y=some b
 | .cond x a b,c=>∃ o p q,c = .cond o p q∧cX o=some x∧cC P nt p=some a∧cC P nt q=some b
 | .block id a,c=>∃ x,c = .block id x∧cC P nt x=some a
 | .loop a,c=>∃ x,c = .loop x∧cC P nt x=some a
 | .exit id,c=>c = .exit id
 | .scope a,c=>∃ x,c = .scope x∧cC P nt x=some a
 | .label l,c=>c = .label l
 | .goto l,c=>c = .goto l
 | .ret,c=>c = .ret
theorem lb {P:Program} {nt:Nat} {c:Code} {ac:AC} (h:cC P nt c=some ac):Turned P nt ac c:=by
 cases c with
 |skip=>cases h;rfl
 | region id ops draw=>
  cases draw
  ·obtain⟨is,h1,rfl⟩:=map_some (x:=qo P nt ops ops.toList) (f:=AC.run) (by simpa [cC]using h)
   exact⟨id,ops,rfl,h1⟩
  ·simp only [cC]at h
   split at h
   ·rename_i hm
    obtain⟨is,h1,h2⟩:=Option.bind_eq_some_iff.1 h
    unfold Us at h2
    split at h2
    ·rename_i hp
     cases h2
     exact⟨id,ops,rfl,h1,hm,_,hp⟩
    ·cases h2
   ·cases h
 |seq a b=>
  simp only[cC]at h
  split at h
  ·rename_i a' b' h1 h2;cases h;exact⟨a,b,rfl,h1,h2⟩
  ·cases h
 |cond x a b=>
  simp only[cC]at h
  split at h
  ·rename_i x' a' b' h1 h2 h3;cases h;exact⟨x,a,b,rfl,h1,h2,h3⟩
  ·cases h
 |block id a=>
  obtain⟨a',h1,rfl⟩:=map_some (x:=cC P nt a) (f:=AC.block id) (by simpa[cC]using h)
  exact⟨a,rfl,h1⟩
 |loop a=>
  obtain⟨a',h1,rfl⟩:=map_some (x:=cC P nt a) (f:=AC.loop) (by simpa[cC]using h)
  exact⟨a,rfl,h1⟩
 |rangeFunc f p a b=>simp[cC]at h
 |exit id=>cases h;rfl
 |scope a=>
  obtain⟨a',h1,rfl⟩:=map_some (x:=cC P nt a) (f:=AC.scope) (by simpa[cC]using h)
  exact⟨a,rfl,h1⟩
 |label l=>cases h;rfl
 |goto l=>cases h;rfl
 |ret=>cases h;rfl
 |refuse w=>simp[cC]at h
def Sem (P:Program) (B:fM) (nt:Nat) (ac:AC) (Q:Exit→Tm→St→Prop) (tm:Tm) (s:St):Prop:=
 ∀ c,cC P nt c=some ac→∀ act w,Holds B nt tm s act w→c.wp P (pe B nt Q) act w
def nw (next:Tm→St→Prop) (Q:Exit→Tm→St→Prop):Exit→Tm→St→Prop
 | .normal,tm,s=>next tm s
 |e,tm,s=>Q e tm s
def km (id:Nat) (Q:Exit→Tm→St→Prop):Exit→Tm→St→Prop
 | .exit i,tm,s=>if i=id then Q .normal tm s else Q (.exit i) tm s
 |e,tm,s=>Q e tm s
section
variable {P:Program} {B:fM} {nt:Nat} {Q:Exit→Tm→St→Prop} {tm:Tm} {s:St}
theorem Sem.mono {ac:AC} {Q':Exit→Tm→St→Prop} (h:Sem P B nt ac Q tm s) (hq : ∀ e tm s,Q e tm s→Q' e tm s):Sem P B nt ac Q' tm s:=
 fun c hc act w hh=>wp_mono (h c hc act w hh) fun _ _ _ ⟨tm,s,h1,h2⟩=>⟨tm,s,hq _ _ _ h1,h2⟩
theorem Sem.skip (h:Q .normal tm s):Sem P B nt .skip Q tm s:=by
 intro c hc act w hh
 cases lb hc
 exact wp_skip ⟨tm,s,h,hh⟩
theorem Sem.label {l:Nat} (h:Q .normal tm s):Sem P B nt (.label l) Q tm s:=by
 intro c hc act w hh
 cases lb hc
 exact wp_label ⟨tm,s,h,hh⟩
theorem Sem.exit {id:Nat} (h:Q (.exit id) tm s):Sem P B nt (.exit id) Q tm s:=by
 intro c hc act w hh
 cases lb hc
 exact wp_exit ⟨tm,s,h,hh⟩
theorem Sem.goto {l:Nat} (h:Q (.goto l) tm s):Sem P B nt (.goto l) Q tm s:=by
 intro c hc act w hh
 cases lb hc
 exact wp_goto ⟨tm,s,h,hh⟩
theorem Sem.ret (h:Q .ret tm s):Sem P B nt .ret Q tm s:=by
 intro c hc act w hh
 cases lb hc
 exact wp_ret ⟨tm,s,h,hh⟩
theorem Ae (ops:Array Oper):(List.range ops.size).map (ops[·]?)=ops.toList.map some:=by
 apply List.ext_getElem?
 intro i
 by_cases h:i<ops.size
 ·simp[h]
 ·simp[h]
theorem Sem.run {is:List AI} (h:iI P is (Q .normal) tm s):Sem P B nt (.run is) Q tm s:=by
 intro c hc act w hh
 obtain⟨id,ops,rfl,hi⟩:=lb hc
 exact wp_region (Ad (Q:=Q) (List.range ops.size) ops.toList is (Ae ops) hi tm s act w h hh)
theorem Sem.seq {a b:AC} (h:Sem P B nt a (nw (Sem P B nt b Q) Q) tm s):Sem P B nt (.seq a b) Q tm s:=by
 intro c hc act w hh
 obtain⟨x,y,rfl,h1,h2⟩:=lb hc
 refine wp_seq (wp_mono (h x h1 act w hh) fun e act w hp=>?_)
 obtain⟨bl,s',hq,jP⟩:=hp
 cases e with
 |normal=>exact hq y h2 act w jP
 |exit id=>exact⟨bl,s',hq,jP⟩
 |goto l=>exact⟨bl,s',hq,jP⟩
 |ret=>exact⟨bl,s',hq,jP⟩
 |panic ch=>exact⟨bl,s',hq,jP⟩
 |outgrown=>exact⟨bl,s',hq,jP⟩
theorem Sem.cond {x:X} {a b:AC} {t:Bool} (hx:x.ev tm = .bool t) (h1:t=true→Sem P B nt a Q tm s) (h2:t=false→Sem P B nt b Q tm s):Sem P B nt (.cond x a b) Q tm s:=by
 intro c hc act w hh
 obtain⟨o,p,q,rfl,g1,g2,g3⟩:=lb hc
 have jP:=hh
 obtain⟨M,e,r,ht,hn,hd⟩:=hh
 have hv:=bM g1 ht
 rw[hx]at hv
 exact wp_cond_split hv.nu (fun h=>h1 h p g2 act w jP) (fun h=>h2 h q g3 act w jP)
theorem Sem.block {id:Nat} {a:AC} (h:Sem P B nt a (km id Q) tm s):Sem P B nt (.block id a) Q tm s:=by
 intro c hc act w hh
 obtain⟨x,rfl,h1⟩:=lb hc
 refine wp_block (wp_mono (h x h1 act w hh) fun e act w hp=>?_)
 obtain⟨bl,s',hq,jP⟩:=hp
 cases e with
 |exit i=>
  simp only[km]at hq
  simp only[Exit.inBlock]
  split at hq
  ·rename_i h;rw[if_pos h];exact⟨bl,s',hq,jP⟩
  ·rename_i h;rw[if_neg h];exact⟨bl,s',hq,jP⟩
 |normal=>exact⟨bl,s',hq,jP⟩
 |goto l=>exact⟨bl,s',hq,jP⟩
 |ret=>exact⟨bl,s',hq,jP⟩
 |panic ch=>exact⟨bl,s',hq,jP⟩
 |outgrown=>exact⟨bl,s',hq,jP⟩
def x9 (P:Program) (c:Code) (Q:Exit→Act→World→Prop) (a:Act) (w:World):Prop:=
 ∀ (b:Frame) (k:List Item) (cs:List Frame),∃ e a' w',Q e a' w'∧Arrives P (lone (b.at a (.code c:: .inLoop c::k)) cs w) b k cs e a' w'
theorem x9.wp {c:Code} {Q:Exit→Act→World→Prop} {a:Act} {w:World} (h:x9 P c Q a w):(Code.loop c).wp P Q a w:=fun b k cs=>
 let ⟨e,a',w',hq,gJ⟩:=h b k cs
 ⟨e,a',w',hq, .of_steps (.one step_loop) gJ⟩
theorem x9.once {c:Code} {Q:Exit→Act→World→Prop} {a:Act} {w:World} (h:c.wp P (Exit.then (x9 P c Q) Q) a w):x9 P c Q a w:=by
 intro b k cs
 obtain⟨e,a₁,w₁,hq,gJ⟩:=h b (.inLoop c::k) cs
 cases e with
 |normal=>
  obtain⟨e₂,a₂,w₂,Zc,LI⟩:=hq b k cs
  exact⟨e₂,a₂,w₂,Zc, .of_steps (Steps.trans gJ (.one step_inLoop)) LI⟩
 |exit id=>exact⟨_,a₁,w₁,hq, .pass (x:= .inLoop c) rfl (fun _ _=> .inl (by simp)) gJ⟩
 |goto l=>exact⟨_,a₁,w₁,hq, .pass (x:= .inLoop c) rfl (fun _ _=> .inl (by simp)) gJ⟩
 |ret=>exact⟨_,a₁,w₁,hq, .pass (x:= .inLoop c) rfl (fun _ _=> .inl (by simp)) gJ⟩
 |panic ch=>exact⟨_,a₁,w₁,hq, .pass (x:= .inLoop c) rfl (fun _ _=> .inl (by simp)) gJ⟩
 |outgrown=>exact⟨_,a₁,w₁,hq, .pass (x:= .inLoop c) rfl (fun _ _=> .inl (by simp)) gJ⟩
def bq (P:Program) (B:fM) (nt:Nat) (ac:AC) (Q:Exit→Tm→St→Prop) (tm:Tm) (s:St):Prop:=
 ∀ c,cC P nt c=some ac→∀ act w,Holds B nt tm s act w→x9 P c (pe B nt Q) act w
theorem Sem.loop {a:AC} (h:bq P B nt a Q tm s):Sem P B nt (.loop a) Q tm s:=by
 intro c hc act w hh
 obtain⟨x,rfl,h1⟩:=lb hc
 exact(h x h1 act w hh).wp
theorem bq.once {a:AC} (h:Sem P B nt a (nw (bq P B nt a Q) Q) tm s):bq P B nt a Q tm s:=by
 intro c hc act w hh
 refine x9.once (wp_mono (h c hc act w hh) fun e act w hp=>?_)
 obtain⟨bl,s',hq,jP⟩:=hp
 cases e with
 |normal=>exact hq c hc act w jP
 |exit id=>exact⟨bl,s',hq,jP⟩
 |goto l=>exact⟨bl,s',hq,jP⟩
 |ret=>exact⟨bl,s',hq,jP⟩
 |panic ch=>exact⟨bl,s',hq,jP⟩
 |outgrown=>exact⟨bl,s',hq,jP⟩
def uE (P:Program) (c r:Code) (Q:Exit→Act→World→Prop) (a:Act) (w:World):Prop:=
 ∀ (b:Frame) (k:List Item) (cs:List Frame),∃ e a' w',Q e a' w'∧Arrives P (lone (b.at a (.code r:: .inScope c::k)) cs w) b k cs e a' w'
def adk (P:Program) (c:Code) (Q:Exit→Act→World→Prop):Exit→Act→World→Prop
 | .goto l,a,w=>∃ rest,findLabel c l=some rest∧uE P c rest Q a w
 |e,a,w=>Q e a w
theorem uE.wp {c:Code} {Q:Exit→Act→World→Prop} {a:Act} {w:World} (h:uE P c c Q a w):(Code.scope c).wp P Q a w:=fun b k cs=>
 let ⟨e,a',w',hq,gJ⟩:=h b k cs
 ⟨e,a',w',hq, .of_steps (.one step_scope) gJ⟩
theorem uE.once {c r:Code} {Q:Exit→Act→World→Prop} {a:Act} {w:World} (h:r.wp P (adk P c Q) a w):uE P c r Q a w:=by
 intro b k cs
 obtain⟨e,a₁,w₁,hq,gJ⟩:=h b (.inScope c::k) cs
 cases e with
 |normal=>exact⟨.normal,a₁,w₁,hq,Steps.trans gJ (.one step_inScope)⟩
 |exit id=>exact⟨.exit id,a₁,w₁,hq,fun k' hk=>gJ k' (by simp[exitTo,hk])⟩
 |goto l=>
  obtain⟨rest,hf,hs⟩:=hq
  obtain⟨e₂,a₂,w₂,Zc,LI⟩:=hs b k cs
  exact⟨e₂,a₂,w₂,Zc, .of_steps (gJ _ (by simp[gotoIn,hf])) LI⟩
 |ret=>exact⟨_,a₁,w₁,hq,gJ⟩
 |panic ch=>exact⟨_,a₁,w₁,hq,gJ⟩
 |outgrown=>exact⟨_,a₁,w₁,hq,gJ⟩
def tX:AC→Nat→Option AC
 | .seq a b,l=>
  match tX a l with
  |some r=>some (.seq r b)
  |none=>tX b l
 | .label l',l=>if l'==l then some .skip else none
 |_,_=>none
theorem Jy : ∀ {c:Code} {ac:AC},cC P nt c=some ac→∀ l,(tX ac l=none→findLabel c l=none)∧∀ r,tX ac l=some r→∃ rest,findLabel c l=some rest∧cC P nt rest=some r:=by
 intro c
 induction c with
 | seq a b OQ OR=>
  intro ac h l
  simp only[cC]at h
  split at h
  ·rename_i a' b' h1 h2
   cases h
   obtain⟨n1,s1⟩:=OQ h1 l
   obtain⟨n2,s2⟩:=OR h2 l
   simp only[tX,findLabel]
   cases hf:tX a' l with
   |none=>
    rw[n1 hf]
    exact⟨n2,s2⟩
   |some r=>
    obtain⟨rest,g1,g2⟩:=s1 r hf
    rw[g1]
    refine⟨(by intro h;cases h),fun r' h=>?_⟩
    cases h
    exact⟨_,rfl,by simp[cC,g2,h2]⟩
  ·cases h
 |label l'=>
  intro ac h l
  cases h
  simp only[tX,findLabel]
  split
  ·exact⟨(by intro h;cases h),(by intro r h;cases h;exact⟨_,rfl,rfl⟩)⟩
  ·exact⟨fun _=>rfl,(by intro r h;cases h)⟩
 | _=>
  intro ac h l
  have:=lb h
  cases ac<;>simp only[Turned]at this<;>first
   |(exfalso;obtain⟨_,_,this⟩:=this;cases this.1;done)
   |exact⟨fun _=>rfl,(by intro r h;cases h)⟩
   |(exfalso;cases this;done)
   |(exfalso;obtain⟨_,this⟩:=this;cases this.1;done)
   |(exfalso;obtain⟨_,_,_,_,this⟩:=this;cases this.1;done)
def ld (P:Program) (B:fM) (nt:Nat) (ac r:AC) (Q:Exit→Tm→St→Prop) (tm:Tm) (s:St):Prop:=
 ∀ c rest,cC P nt c=some ac→cC P nt rest=some r→∀ act w,Holds B nt tm s act w→uE P c rest (pe B nt Q) act w
def ya (P:Program) (B:fM) (nt:Nat) (ac:AC) (Q:Exit→Tm→St→Prop):Exit→Tm→St→Prop
 | .goto l,tm,s=>∃ r,tX ac l=some r∧ld P B nt ac r Q tm s
 |e,tm,s=>Q e tm s
theorem Sem.scope {a:AC} (h:ld P B nt a a Q tm s):Sem P B nt (.scope a) Q tm s:=by
 intro c hc act w hh
 obtain⟨x,rfl,h1⟩:=lb hc
 exact(h x x h1 h1 act w hh).wp
theorem ld.once {a r:AC} (h:Sem P B nt r (ya P B nt a Q) tm s):ld P B nt a r Q tm s:=by
 intro c rest hc GK act w hh
 refine uE.once (wp_mono (h rest GK act w hh) fun e act w hp=>?_)
 obtain⟨bl,s',hq,jP⟩:=hp
 cases e with
 |normal=>exact⟨bl,s',hq,jP⟩
 |exit id=>exact⟨bl,s',hq,jP⟩
 |goto l=>
  obtain⟨r',hf,hs⟩:=hq
  obtain⟨Bd,g1,g2⟩:=(Jy hc l).2 r' hf
  exact⟨Bd,g1,hs c Bd hc g2 act w jP⟩
 |ret=>exact⟨bl,s',hq,jP⟩
 |panic ch=>exact⟨bl,s',hq,jP⟩
 |outgrown=>exact⟨bl,s',hq,jP⟩
def Tag.fg (m:Nat):Tag→Tag
 | .tok t y=>if t<m then .tok t y else .shared
 |g=>g
mutual
def D.fg (n m:Nat):D→D
 | .ptr o off=>if o<n then .ptr o off else .junk
 | .dt row off=> .dt (D.gf n m row) off
 | .slice g z rows=> .slice (g.fg m) z (D.kg n m rows)
 | .agg cs=> .agg (D.gf n m cs)
 | .tuple ds=> .tuple (D.gf n m ds)
 | .junk=> .junk
 | .int k x=> .int k x
 | .bool b=> .bool b
 | .str l=> .str l
 | .dN=> .dN
 | .val v=> .val v
 | .fb T o=>if o<n then .fb T o else .junk
 | .fS f cs=> .fS f (D.gf n m cs)
 | .fI o=>if o<n then .fI o else .junk
 | .dW z o g len=>if o<n then .dW z o g len else .junk
 | .fc o g off=>if o<n then .fc o g off else .junk
 | .dU z=> .dU z
def D.gf (n m:Nat):List D→List D
 | []=> []
 |d::r=>D.fg n m d::D.gf n m r
def D.kg (n m:Nat):List (List D)→List (List D)
 | []=> []
 |d::r=>D.gf n m d::D.kg n m r
end
theorem mD (n m:Nat) : ∀ l,D.gf n m l=l.map (D.fg n m)
 | []=>by simp[D.gf]
 |d::r=>by simp[D.gf,mD n m r]
theorem OS (n m:Nat) : ∀ l,D.kg n m l=l.map (D.gf n m)
 | []=>by simp[D.kg]
 |d::r=>by simp[D.kg,OS n m r]
def St.cut (s:St) (n m:Nat):St:=⟨(s.ah.take n).map (D.gf n m),s.av.take m⟩
def Tm.fg (n m:Nat) (tm:Tm):Tm:=tm.map fun p=>(p.1,p.2.fg n m)
def Tm.keep (ks:List Nat) (tm:Tm):Tm:=tm.filter fun p=>ks.contains p.1
theorem ny (s:St) (n m:Nat):(s.cut n m).ah.length=min n s.ah.length:=by simp[St.cut]
theorem iB.fg {M:Map} {g:Tag} {z len cap:Nat} {base:Option (Nat×Nat)} (n m:Nat) (h:iB M s g z len base cap):iB M (s.cut n m) (g.fg m) z len base cap:=by
 cases g with
 |full=>exact h
 |shared=>exact h
 | tok t y=>
  simp only[Tag.fg]
  split
  ·rename_i ht
   obtain⟨h1,h2⟩:=h
   refine⟨by simp[St.cut];omega,fun k hk=>h2 k ?_⟩
   simpa[St.cut,List.getElem?_take_of_lt ht]using hk
  ·trivial
theorem RD.fg {M:Map} {d:D} {v:Value} (n m:Nat) (h:RD M s d v):RD M (s.cut n m) (d.fg n m) v:=by
 induction h with
 |junk v=>simp only[D.fg];exact .junk v
 |int k x=>simp only[D.fg];exact .int k x
 |bool b=>simp only[D.fg];exact .bool b
 |str l=>simp only[D.fg];exact .str l
 |dN=>simp only[D.fg];exact .dN
 |val v hv=>simp only[D.fg];exact .val v hv
 |fb T o v h ht hv=>
  simp only[D.fg]
  split
  ·exact .fb T o v (by rw[ny];omega) ht hv
  ·exact .junk _
 |fI o h hm=>
  simp only[D.fg]
  split
  ·exact .fI o (by rw[ny];omega) hm
  ·exact .junk _
 |dU z a=>simp only[D.fg];exact .dU z a
 |dW z o g len b cap A h hm ha hl=>
  simp only[D.fg]
  split
  ·exact .dW z o g len b cap A (by rw[ny];omega) hm ha hl
  ·exact .junk _
 |fc z o g off b cap A h hm ha=>
  simp only[D.fg]
  split
  ·exact .fc z o g off b cap A (by rw[ny];omega) hm ha
  ·exact .junk _
 |fS f ds vs hl _ ih=>
  simp only[D.fg,mD]
  refine .fS f _ vs (by simpa using hl) (fun i d v e1 e2=>?_)
  simp only[List.getElem?_map,Option.map_eq_some_iff]at e1
  obtain⟨d',e1,rfl⟩:=e1
  exact ih i d' v e1 e2
 |ptr o off h hm=>
  simp only[D.fg]
  split
  ·exact .ptr o off (by rw[ny];omega) hm
  ·exact .junk _
 | dt row off b k h1 h2 ih=>
  simp only[D.fg,mD]
  refine .dt _ off b k (fun i d e=>?_) (fun i d u e eu=>?_)
  ·simp only [List.getElem?_map,Option.map_eq_some_iff]at e
   obtain⟨d',e,rfl⟩:=e
   exact h1 i d' e
  ·simp only [List.getElem?_map,Option.map_eq_some_iff]at e
   obtain⟨d',e,rfl⟩:=e
   exact ih i d' u e eu
 |iz g z cap hc ht=>simp only[D.fg,D.kg];exact .iz _ z cap hc (ht.fg n m)
 |k6 z a cap=>simp only[D.fg,D.kg,Tag.fg];exact .k6 z a cap
 | slice g z rows b k cap hl hs h1 h2 ht ih=>
  simp only[D.fg,OS]
  have hlen:(rows.map (D.gf n m)).length=rows.length:=by simp
  have key:=RD.slice (M:=M) (s:=s.cut n m) (g.fg m) z (rows.map (D.gf n m)) b k cap (by rw[hlen];exact hl) (fun row hr=>by
   obtain⟨j8,h',rfl⟩:=List.mem_map.1 hr
   rw[mD,List.length_map];exact hs j8 h')
   (fun i row j d e1 e2=>by
    simp only[List.getElem?_map,Option.map_eq_some_iff]at e1
    obtain⟨j8,e1,rfl⟩:=e1
    rw[mD]at e2
    simp only[List.getElem?_map,Option.map_eq_some_iff]at e2
    obtain⟨d',e2,rfl⟩:=e2
    exact h1 i j8 j d' e1 e2)
   (fun i row j d u e1 e2 eu=>by
    simp only[List.getElem?_map,Option.map_eq_some_iff]at e1
    obtain⟨j8,e1,rfl⟩:=e1
    rw[mD]at e2
    simp only[List.getElem?_map,Option.map_eq_some_iff]at e2
    obtain⟨d',e2,rfl⟩:=e2
    exact ih i j8 j d' u e1 e2 eu)
   (by rw[hlen];exact ht.fg n m)
  rw[hlen]at key
  exact key
 |agg cells vs hl h1 _ ih=>
  simp only[D.fg,mD]
  refine .agg _ vs (by simpa using hl) h1 (fun i d v e1 e2=>?_)
  simp only[List.getElem?_map,Option.map_eq_some_iff]at e1
  obtain⟨d',e1,rfl⟩:=e1
  exact ih i d' v e1 e2
 |tuple ds vs hl _ ih=>
  simp only[D.fg,mD]
  refine .tuple _ vs (by simpa using hl) (fun i d v e1 e2=>?_)
  simp only[List.getElem?_map,Option.map_eq_some_iff]at e1
  obtain⟨d',e1,rfl⟩:=e1
  exact ih i d' v e1 e2
theorem Ew {t k n m:Nat} (h:(s.cut n m).av[t]? = some (some k)):s.av[t]? = some (some k):=by
 simp only[St.cut,List.getElem?_take]at h
 split at h
 ·exact h
 ·cases h
theorem uF {t n m:Nat} (h:(s.cut n m).live t):s.live t:=by
 obtain⟨k,hk⟩:=h
 exact⟨k,Ew hk⟩
theorem Rel.cut {M:Map} {w:World} (n m:Nat) (r:Rel M s w):Rel M (s.cut n m) w:=by
 have hD : ∀ o,o<(s.cut n m).ah.length→o<s.ah.length:=fun o h=>by rw[ny]at h;omega
 refine⟨r.comm,fun o ds e=>?_,fun o ho=>r.jv o (hD o ho),fun o o' h h'=>r.inj o o' (hD o h) (hD o' h'),fun t k e=>r.tok t k (Ew e),
  fun t b c z o hl e ho=>r.eZ t b c z o (uF hl) e (hD o ho),fun t t' b c z c' z' h h' e e'=>r.fJ t t' b c z c' z' (uF h) (uF h') e e'⟩
 simp only[St.cut,List.getElem?_map,Option.map_eq_some_iff,List.getElem?_take]at e
 obtain⟨na,e,rfl⟩:=e
 split at e
 ·obtain⟨vs,T,h1,h2,h3,h4⟩:=r.obj o na e
  refine⟨vs,T,h1,by rw[mD];simpa using h2,h3,fun i d v e1 e2=>?_⟩
  rw[mD]at e1
  simp only[List.getElem?_map,Option.map_eq_some_iff]at e1
  obtain⟨d',e1,rfl⟩:=e1
  exact(h4 i d' v e1 e2).fg n m
 ·cases e
theorem Ext.cut {M0 M:Map} {s0:St} {w0 w:World} {n m:Nat} (e:Ext M0 s0 w0 M s w) (hn:s0.ah.length≤n) (hm:s0.av.length≤m):Ext M0 s0 w0 M (s.cut n m) w:=by
 have hD : ∀ o,o<(s.cut n m).ah.length→o<s.ah.length:=fun o h=>by rw[ny]at h;omega
 refine⟨⟨e.le.G,by rw[ny];have:=e.le.n;omega,e.le.loc,by simp[St.cut];have:=e.le.t;omega,fun t k h1 h2=>e.le.tk t k h1 (Ew h2)⟩,e.kept,fun o h1 h2=>e.sX o h1 (hD o h2),fun t b c z h=>e.pU t b c z (uF h),e.rp,e.size,e.os,e.tape,e.output⟩
end
end Go.Abs
namespace Go.Abs
def ml:Nat→List D→Tm
 |_,[]=> []
 |n,d::r=>(n,d)::ml (n+1) r
def aR:List (Nat×Option (Bool×Nat))→Tm→St→Option (List D)
 | [],_,_=>some []
 |(t,none)::r,tm,s=>match aR r tm s with|some l=>some (tm.get t::l)|none=>none
 | (t,some (agg,size))::r,tm,s=>
  match tm.get t with
  | .ptr o off=>
   match s.ah[o]? with
   |some cs=>match part cs off agg size,aR r tm s with|some d,some l=>some (d::l)|_,_=>none
   |none=>none
  |_=>none
def aS:List D→D
 | [d]=>d
 |l=> .tuple l
def ahC (B:fM) (res:List (Nat×Option (Bool×Nat))) (Q:D→St→Prop):Exit→Tm→St→Prop
 | .normal,tm,s| .ret,tm,s=>∃ l,aR res tm s=some l∧∃ n m,B.s.ah.length≤n∧B.s.av.length≤m∧Q ((aS l).fg n m) (s.cut n m)
 |_,_,_=>False
section
variable {P:Program} {M:Map} {s:St} {w:World}
theorem Fu : ∀ (l:List D) (n t:Nat),(ml n l).get t=if n≤t then(l[t - n]?).getD .junk else .junk
 | [],n,t=>by simp[ml,Tm.get]
 | d::r,n,t=>by
  simp only[ml,Tm.get,Fu r (n+1) t]
  by_cases h:n=t
  ·subst h;simp
  ·rw [if_neg h]
   by_cases h2:n+1≤t
   ·rw[if_pos h2,if_pos (by omega),show t - n=(t - (n+1))+1 by omega];simp
   ·rw[if_neg h2,if_neg (by omega)]
def Af (tmps:Array Value):ResultVar→Go.Sem Value
 | .tmp t=>pure (tmps.getD t Go.undef)
 | .cell a t=>do loadVar t (← asAddr (tmps.getD a Go.undef))
theorem Cs (r:Rel M s w) {tm:Tm} {tmps:Array Value} (ht:lE M s tm tmps) : ∀ {rs:List ResultVar} {res:List (Nat×Option (Bool×Nat))} {l:List D},Cj P rs=some res→aR res tm s=some l→
 ∃ vs:List Value,(rs.mapM (Af tmps)).run P w = .ok vs w∧vs.length=l.length∧
  ∀ (i:Nat) (d:D) (v:Value),l[i]? = some d→vs[i]? = some v→RD M s d v
 | [],res,l,hc,hl=>by cases hc;cases hl;exact⟨[],rfl,rfl,by simp⟩
 | .tmp t::rs,res,l,hc,hl=>by
  obtain⟨ahD,h1,rfl⟩:=map_some (by simpa[Cj]using hc)
  simp only[aR]at hl
  split at hl
  ·rename_i l' nI
   cases hl
   obtain⟨vs,g1,g2,g3⟩:=Cs r ht h1 nI
   refine⟨tmps.getD t Go.undef::vs, ?_,by simp[g2],fun i d v e1 e2=>?_⟩
   ·rw [List.mapM_cons]
    simp only[Af,Go.Sem.run_bind,Go.Sem.run_pure,Result.andThen_ok,g1]
   ·cases i with
    |zero=>simp only[List.getElem?_cons_zero,Option.some.injEq]at e1 e2;subst e1;subst e2;exact ht t
    |succ i=>exact g3 i d v (by simpa using e1) (by simpa using e2)
  ·cases hl
 | .cell a t::rs,res,l,hc,hl=>by
  simp only[Cj]at hc
  split at hc
  ·rename_i g i ahD h1 h2 h3
   cases hc
   simp only[aR]at hl
   split at hl
   ·rename_i o off ho
    split at hl
    ·rename_i cs ng
     split at hl
     ·rename_i d l' hd nI
      cases hl
      obtain⟨vs,g1,g2,g3⟩:=Cs r ht h3 nI
      have hv:=ht a
      rw[ho]at hv
      have hk:=hv.zT
      obtain⟨hv,_⟩:=hv.rA
      have adl : ∃ v,(loadVar t ⟨M.mu o,off,none⟩).run P w = .ok v w∧RD M s d v:=by
       obtain⟨fu,T,hh,dK,⟨gH,_⟩,Cp⟩:=r.obj o cs ng
       replace hh:w.heap[M.mu o]? = some (.cells fu T (0,0)):=hh.cells hk
       let n:=if g then i.size else 1
       have iX:off+n≤fu.size:=by
        rcases qc hd with ⟨rfl,hq,_⟩|⟨rfl,hq⟩
        ·simp[n];omega
        ·have:=(List.getElem?_eq_some_iff.1 hq).1;simp[n];omega
       have hlen:((fu.toList.drop off).take n).length=n:=by simp;omega
       have hY : ∀ (j:Nat) (u:Value),((fu.toList.drop off).take n)[j]? = some u→fu[off+j]? = some u:=by
        intro j u h
        rw[List.getElem?_take]at h
        split at h
        ·rw[List.getElem?_drop]at h;simpa using h
        ·cases h
       refine⟨_,xV (w:=w) P h2 h1 (M.mu o) off ((fu.toList.drop off).take n) hlen (fun j u h=>by rw[iP hh];exact hY j u h), ?_⟩
       exact qt hd _ hlen (fun _ u hu=>gH u (Array.mem_toList_iff.1 (List.mem_of_mem_drop (List.mem_of_mem_take hu)))) (fun j d u e1 e2=>Cp _ d u e1 (hY j u e2))
      obtain⟨v,hlv,hvd⟩:=adl
      refine⟨v::vs, ?_,by simp[g2],fun i d' v' e1 e2=>?_⟩
      ·rw [List.mapM_cons]
       have gH:(Af tmps (.cell a t)).run P w = .ok v w:=by
        simp only[Af,Go.Sem.run_bind,hv,asAddr,Go.Sem.run_pure,Result.andThen_ok,hlv]
       simp only[Go.Sem.run_bind,gH,Result.andThen_ok,g1,Go.Sem.run_pure]
      ·cases i with
       |zero=>simp only[List.getElem?_cons_zero,Option.some.injEq]at e1 e2;subst e1;subst e2;exact hvd
       |succ i=>exact g3 i d' v' (by simpa using e1) (by simpa using e2)
     ·cases hl
    ·cases hl
   ·cases hl
  ·cases hc
theorem Gj (r:Rel M s w) {tm:Tm} {tmps:Array Value} (ht:lE M s tm tmps) {fn:Func} {res:List (Nat×Option (Bool×Nat))} {l:List D} (hc:Cj P fn.results.toList=some res) (hl:aR res tm s=some l) :
 ∃ v,(results fn tmps).run P w = .ok v w∧RD M s (aS l) v:=by
 obtain⟨vs,g1,g2,g3⟩:=Cs (P:=P) r ht hc hl
 have dC:(results fn tmps).run P w = .ok (if h:vs.toArray.size=1 then vs.toArray[0]else .tuple vs.toArray) w:=by
  have e:results fn tmps=(do let vs ← fn.results.mapM (Af tmps);pure (if h:vs.size=1 then vs[0]else .tuple vs)):=by
   unfold results
   rfl
  rw[e,Array.mapM_eq_mapM_toList]
  simp only[Go.Sem.run_bind,Go.Sem.run_map,g1,Result.andThen_ok,Go.Sem.run_pure]
 refine⟨_,dC, ?_⟩
 clear dC g1 hl
 match l,vs,g2,g3 with
 | [],[],_,_=>exact .tuple [] #[] rfl (by simp)
 | [d],[v],_,g3=>exact g3 0 d v rfl rfl
 |d::d'::l,v::v'::vs,h,g3=>
  have : ¬ ((v::v'::vs).toArray.size=1):=by simp
  rw[dif_neg this]
  exact .tuple _ _ (by simpa using h.symm) (fun i d v e1 e2=>g3 i d v e1 (by simpa using e2))
def RG (res:List (Nat×Option (Bool×Nat))) (Q:D→St→Prop):Exit→Tm→St→Prop
 | .normal,tm,s| .ret,tm,s=>∃ l,aR res tm s=some l∧Q (aS l) s
 |_,_,_=>False
theorem bG.OU {f:FuncId} {fn:Func} {af:AF} {args:List D} {Q:D→St→Prop} (hf:P.funcs[f]? = some fn) (hc:cF P fn=some af) (hl:args.length≤af.ntmps)
 (h : ∀ B:fM,B.s=s→Sem P B af.ntmps af.body (RG af.results Q) (ml 0 args) s):bG P f args s Q:=by
 intro M w fz r kh dK ha
 unfold cF at hc
 split at hc
 ·rename_i c Be
  split at hc
  ·rename_i b res h1 h2
   cases hc
   simp only at h hl
   refine calls_of_wp hf Be ?_
   have hs:=h ⟨M,s,w,kh,fun b o v e=>r.zS e⟩ rfl c h1 {tmps:=fz++Array.replicate (fn.ntmps - fz.size) Go.undef,defers:= []} w
    ⟨M,Ext.refl M s w,r,fun t=>by
     rw[Fu]
     simp only[Nat.zero_le,if_true,Nat.sub_zero]
     cases hd:args[t]? with
     |none=>exact .junk _
     | some d=>
      have hD:=(List.getElem?_eq_some_iff.1 hd).1
      have hv:fz[t]? = some fz[t]:=Array.getElem?_eq_getElem (by omega)
      have:(fz++Array.replicate (fn.ntmps - fz.size) Go.undef).getD t Go.undef=fz[t]:=by
       rw[Array.getD_eq_getD_getElem?,Array.getElem?_append_left (by omega),hv];rfl
      rw[this]
      exact ha t d _ hd hv,by simp;omega,rfl⟩
   refine wp_mono hs fun e act w' hp=>?_
   obtain⟨tm,s',hq,M',ahE,r',ht,_,hdf⟩:=hp
   have fin:(∃ l,aR res tm s'=some l∧Q (aS l) s')→act.defers = []∧∃ v,(results fn act.tmps).run P w' = .ok v w'∧
    ∃ M' d v' s',Ending.returned v = .returned v'∧Q d s'∧Ext M s w M' s' w'∧Rel M' s' w'∧RD M' s' d v':=by
    rintro⟨l,hl,hQ⟩
    obtain⟨v,dC,jd⟩:=Gj (P:=P) r' ht h2 hl
    exact⟨hdf,v,dC,M',_,v,_,rfl,hQ,ahE,r',jd⟩
   cases e with
   |normal=>exact fin hq
   |ret=>exact fin hq
   |exit id=>exact hq.elim
   |goto l=>exact hq.elim
   |panic ch=>exact hq.elim
   |outgrown=>exact hq.elim
  ·cases hc
 ·cases hc
theorem bG.intro {f:FuncId} {fn:Func} {af:AF} {args:List D} {Q:D→St→Prop} (hf:P.funcs[f]? = some fn) (hc:cF P fn=some af) (hl:args.length≤af.ntmps)
 (h : ∀ B:fM,B.s=s→Sem P B af.ntmps af.body (ahC B af.results Q) (ml 0 args) s):bG P f args s Q:=by
 intro M w fz r kh dK ha
 refine(bG.OU (Q:=fun d s'=>∃ n m,s.ah.length≤n∧s.av.length≤m∧Q (d.fg n m) (s'.cut n m)) hf hc hl (fun B hB=>(h B hB).mono fun e tm s' hq=>?_) M w fz r kh dK ha).mono ?_
 ·subst hB
  cases e<;>exact hq
 ·rintro e w' ⟨M',d,v,s',h1,⟨n,m,hn,hm,hQ⟩,h3,h4,h5⟩
  exact⟨M',_,v,_,h1,hQ,h3.cut hn hm,h4.cut n m,h5.fg n m⟩
end
end Go.Abs
