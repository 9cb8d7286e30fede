/-
  What is proved here: part 0 of the road to the claim (Globs, Abs, Lang, Rel, Sound, Sound2, Sound3, Sound4, Sound5, Sound6, Sound7, SoundM, RelA, SoundA, Sound8, Code, Flow, Call).
  No conditions.
-/
import GoSem.Core.Value
import Derived.Orders
import Derived.Calls
import Derived.Below
import Derived.Laws.AppendOwn
import Derived.Deep.AppendSrc
import Derived.Laws.StructEq
import Derived.Laws.Slices
import Derived.Laws.Strings
import Derived.Laws.IdiomStrings
import Derived.Laws.BytesString
import Derived.MapKept
import Derived.Laws.MakeOwn
import Derived.Scope

set_option linter.unusedSimpArgs false
set_option linter.unusedVariables false
namespace Go.Abs
def ZT:Nat→Option (Array Value):=fun _=>none
def ph:TypeId:=1000000
inductive Tag where
 |full
 |shared
 |tok (t:Nat) (byte:Bool:=false) -- 'byte': its row's block bears the bytes' type
inductive D where
 |junk
 |int (k:IntKind) (n:Int)
 |bool (b:Bool)
 |str (s:List UInt8)
 |dO
 |ptr (o off:Nat)
 |dt (row:List D) (off:Nat)
 |slice (g:Tag) (size:Nat) (rows:List (List D))
 |agg (cells:List D)
 |tuple (vs:List D)
 |val (v:Value)
 |fh (T:TypeId) (o:Nat)
 |fV (f:Nat) (nH:List D) -- a function value with what it captured
 |fL (o:Nat) -- a map, kept as an object: keys and values by turns
 |dZ (z o g len:Nat) -- a slice from an array's beginning: the object, its generation
 |fi (o g off:Nat) -- a pointer into an array
 |dX (z:Nat) -- an empty slice without room: what is laid behind it becomes an array
instance:Inhabited D:=⟨.junk⟩
inductive Ob where
 |any
 |ty (T:TypeId)
 |map
 |arr (z:Nat) (A:Nat→Option (Nat×Nat))
def Ob.plain:Ob→Prop
 | .any=>True
 | .ty _=>True
 |_=>False
inductive ux:Nat×Ob→Nat×Ob→Prop where
 |refl (x:Nat×Ob):ux x x
 |arr (b b' z:Nat) (A A':Nat→Option (Nat×Nat)) (h : ∀ g x,A g=some x→A' g=some x):ux (b, .arr z A) (b', .arr z A')
theorem ux.trans {x y z:Nat×Ob} (h:ux x y) (k:ux y z):ux x z:=by
 cases h with
 |refl=>exact k
 |arr b b' z A A' h=>
  cases k with
  |refl=>exact .arr b b' z A A' h
  |arr _ b'' _ _ A'' h'=>exact .arr b b'' z A A'' fun g x e=>h' g x (h g x e)
structure Map where
 G:Nat→Nat→Option Value
 loc:Nat→Nat×Ob
 be:Nat→Option (Nat×Nat×Nat)
def Map.mu (M:Map) (o:Nat):Nat:=(M.loc o).1
def Ob.ty? : Ob→Option TypeId
 | .ty T=>some T
 |_=>none
def Map.ob (M:Map) (o:Nat):Ob:=(M.loc o).2
def Map.ty (M:Map) (o:Nat):Option TypeId:=(M.loc o).2.ty?
structure St where
 ah:List (List D)
 au:List (Option Nat)
def zs (z:Nat):Nat:=if z=0 then 1 else z
def bz (byte:Bool) (size:Nat):Nat:=match byte with|true=>0|false=>size
def iI (M:Map) (s:St) (g:Tag) (size len:Nat) (base:Option (Nat×Nat)) (cap:Nat):Prop:=
 match g with
 | .full=>cap=len
 | .shared=>True
 | .tok t y=>t<s.au.length∧∀ n,s.au[t]? = some (some n)→len≤n∧
  (len=n→(M.be t=none∧cap=0∧(y=true→base=none))∨∃ b,base=some (b,0)∧M.be t=some (b,cap,bz y size))
inductive RD (M:Map) (s:St):D→Value→Prop where
 |junk (v:Value):RD M s .junk v
 |int (k:IntKind) (n:Int):RD M s (.int k n) (.int k n)
 |bool (b:Bool):RD M s (.bool b) (.bool b)
 |str (l:List UInt8):RD M s (.str l) (.string ⟨⟨l⟩⟩)
 |dO:RD M s .dO (.pointer none)
 |ptr (o off:Nat) (h:o<s.ah.length) (hm:(M.ob o).plain):RD M s (.ptr o off) (.pointer (some ⟨M.mu o,off,none⟩))
 |dt (row:List D) (off b k:Nat) (h1 : ∀ (i:Nat) (d:D),row[i]? = some d→∃ u,M.G b (k+i)=some u)
  (h2 : ∀ (i:Nat) (d:D) (u:Value),row[i]? = some d→M.G b (k+i)=some u→RD M s d u) :
  RD M s (.dt row off) (.pointer (some ⟨b,k+off,none⟩))
 |iG (g:Tag) (size cap:Nat) (hc:cap=0) (ht:iI M s g size 0 none cap):RD M s (.slice g size []) (.slice none 0 cap)
 |lh (size:Nat) (a:Addr) (cap:Nat):RD M s (.slice .shared size []) (.slice (some a) 0 cap)
 |slice (g:Tag) (size:Nat) (rows:List (List D)) (b k cap:Nat) (hl:rows.length≤cap)
  (hs : ∀ row∈rows,row.length=size)
  (h1 : ∀ (i:Nat) (row:List D) (j:Nat) (d:D),rows[i]? = some row→row[j]? = some d→∃ u,M.G b (k+(i*size+j))=some u)
  (h2 : ∀ (i:Nat) (row:List D) (j:Nat) (d:D) (u:Value),rows[i]? = some row→row[j]? = some d→M.G b (k+(i*size+j))=some u→RD M s d u)
  (ht:iI M s g size rows.length (some (b,k)) cap) :
  RD M s (.slice g size rows) (.slice (some ⟨b,k,none⟩) rows.length cap)
 |agg (cells:List D) (vs:Array Value) (hl:cells.length=vs.size) (h1 : ∀ v∈vs,v.oneCell'=true)
  (h : ∀ (i:Nat) (d:D) (v:Value),cells[i]? = some d→vs[i]? = some v→RD M s d v):RD M s (.agg cells) (.agg vs)
 |tuple (ds:List D) (vs:Array Value) (hl:ds.length=vs.size)
  (h : ∀ (i:Nat) (d:D) (v:Value),ds[i]? = some d→vs[i]? = some v→RD M s d v):RD M s (.tuple ds) (.tuple vs)
 |val (v:Value) (h:v.oneCell'=true):RD M s (.val v) v
 |fh (T:TypeId) (o:Nat) (v:Value) (h:o<s.ah.length) (ht:M.ty o=some T) (hv:v = .pointer none∨v = .pointer (some ⟨M.mu o,0,none⟩)):RD M s (.fh T o) v
 |fV (f:Nat) (ds:List D) (vs:Array Value) (hl:ds.length=vs.size)
  (h : ∀ (i:Nat) (d:D) (v:Value),ds[i]? = some d→vs[i]? = some v→RD M s d v):RD M s (.fV f ds) (.func (.func f) #[] vs)
 |fL (o:Nat) (h:o<s.ah.length) (hm:M.ob o = .map):RD M s (.fL o) (.map (some (M.mu o)))
 |dZ (z o g len b cap:Nat) (A:Nat→Option (Nat×Nat)) (h:o<s.ah.length) (hm:M.ob o = .arr z A) (ha:A g=some (b,cap)) (hl:len≤cap):RD M s (.dZ z o g len) (.slice (some ⟨b,0,none⟩) len cap)
 |fi (z o g off b cap:Nat) (A:Nat→Option (Nat×Nat)) (h:o<s.ah.length) (hm:M.ob o = .arr z A) (ha:A g=some (b,cap)):RD M s (.fi o g off) (.pointer (some ⟨b,off,none⟩))
 |dX (z:Nat) (a:Option Addr):RD M s (.dX z) (.slice a 0 0)
structure Le (M:Map) (s:St) (M':Map) (s':St):Prop where
 G : ∀ b o v,M.G b o=some v→M'.G b o=some v
 n:s.ah.length≤s'.ah.length
 loc : ∀ o,o<s.ah.length→ux (M.loc o) (M'.loc o)
 t:s.au.length≤s'.au.length
 tk : ∀ t n',t<s.au.length→s'.au[t]? = some (some n')→∃ n,s.au[t]? = some (some n)∧n≤n'∧(n'=n→M'.be t=M.be t)
theorem Le.same {M:Map} {s:St} {M':Map} {s':St} (h:Le M s M' s') {o:Nat} (ho:o<s.ah.length) (hk : ∀ z A,M.ob o≠ .arr z A):M'.loc o=M.loc o:=by
 have:=h.loc o ho
 have ud : ∀ z A,(M.loc o).2≠ .arr z A:=hk
 generalize M.loc o=x at *
 generalize M'.loc o=y at *
 cases this with
 |refl=>rfl
 |arr b b' z A A' h=>exact(ud z A rfl).elim
theorem Ob.FX {x:Ob} (h:x.plain) : ∀ z A,x≠ .arr z A:=fun z A e=>by subst e;exact h
theorem Le.mu {M:Map} {s:St} {M':Map} {s':St} (h:Le M s M' s') {o:Nat} (ho:o<s.ah.length) (hk : ∀ z A,M.ob o≠ .arr z A):M'.mu o=M.mu o:=congrArg Prod.fst (h.same ho hk)
theorem Le.ob {M:Map} {s:St} {M':Map} {s':St} (h:Le M s M' s') {o:Nat} (ho:o<s.ah.length) (hk : ∀ z A,M.ob o≠ .arr z A):M'.ob o=M.ob o:=congrArg Prod.snd (h.same ho hk)
theorem ux.ty {x y:Nat×Ob} (h:ux x y):y.2.ty? = x.2.ty? :=by cases h<;>rfl
theorem Le.ty {M:Map} {s:St} {M':Map} {s':St} (h:Le M s M' s') : ∀ o,o<s.ah.length→M'.ty o=M.ty o:=fun o ho=>(h.loc o ho).ty
theorem Le.arr {M:Map} {s:St} {M':Map} {s':St} (h:Le M s M' s') {o z:Nat} {A:Nat→Option (Nat×Nat)} (ho:o<s.ah.length) (hm:M.ob o = .arr z A) : ∃ A',M'.ob o = .arr z A'∧∀ g x,A g=some x→A' g=some x:=by
 have:=h.loc o ho
 have zN:(M.loc o).2 = .arr z A:=hm
 show ∃ A',(M'.loc o).2=_∧_
 generalize M.loc o=x at *
 generalize M'.loc o=y at *
 cases this with
 |refl=>exact⟨A,zN,fun _ _ h=>h⟩
 |arr b b' z A A' h=>cases zN;exact⟨A',rfl,h⟩
theorem Le.refl (M:Map) (s:St):Le M s M s:=⟨fun _ _ _ h=>h,Nat.le_refl _,fun _ _=> .refl _,Nat.le_refl _,fun _ n _ h=>⟨n,h,Nat.le_refl _,fun _=>rfl⟩⟩
theorem Le.trans {M M' K9:Map} {s s' Px:St} (h:Le M s M' s') (k:Le M' s' K9 Px):Le M s K9 Px:=
 ⟨fun b o v e=>k.G b o v (h.G b o v e),Nat.le_trans h.n k.n,fun o ho=>(h.loc o ho).trans (k.loc o (Nat.lt_of_lt_of_le ho h.n)),Nat.le_trans h.t k.t,
  fun t n'' ht e=>by
   obtain⟨n',e',l,b⟩:=k.tk t n'' (Nat.lt_of_lt_of_le ht h.t) e
   obtain⟨n,La,l',b'⟩:=h.tk t n' ht e'
   refine⟨n,La,Nat.le_trans l' l,fun eq=>?_⟩
   have h1:n'=n:=by omega
   have h2:n''=n':=by omega
   rw[b h2,b' h1]⟩
theorem iI.mono {M M':Map} {s s':St} (h:Le M s M' s') {g:Tag} {size len cap:Nat} {base:Option (Nat×Nat)} (ht:iI M s g size len base cap) :
 iI M' s' g size len base cap:=by
 cases g with
 |full=>exact ht
 |shared=>trivial
 |tok t y=>
  obtain⟨hD,ht⟩:=ht
  refine⟨Nat.lt_of_lt_of_le hD h.t,fun n' e'=>?_⟩
  obtain⟨n,e,l,b⟩:=h.tk t n' hD e'
  obtain⟨l',b'⟩:=ht n e
  refine⟨Nat.le_trans l' l,fun eq=>?_⟩
  have h1:n'=n:=by omega
  have h2:len=n:=by omega
  rw[b h1]
  exact b' h2
theorem RD.mono {M M':Map} {s s':St} (h:Le M s M' s') {d:D} {v:Value} (r:RD M s d v):RD M' s' d v:=by
 induction r with
 |junk v=>exact .junk v
 |int k n=>exact .int k n
 |bool b=>exact .bool b
 |str l=>exact .str l
 |dO=>exact .dO
 |ptr o off ho hm=>rw[← h.mu ho (Ob.FX hm)];exact .ptr o off (Nat.lt_of_lt_of_le ho h.n) (by rw[h.ob ho (Ob.FX hm)];exact hm)
 | dt row off b k h1 h2 ih=>
  refine .dt row off b k (fun i d e=>?_) (fun i d u e eu=>?_)
  ·obtain⟨u,hu⟩:=h1 i d e;exact⟨u,h.G _ _ _ hu⟩
  ·obtain⟨u',hu⟩:=h1 i d e
   have:=h.G _ _ _ hu
   rw[eu]at this
   cases this
   exact ih i d u e hu
 |iG g size cap hc ht=>exact .iG g size cap hc (ht.mono h)
 |lh size a cap=>exact .lh size a cap
 | slice g size rows b k cap hl hs h1 h2 ht ih=>
  refine .slice g size rows b k cap hl hs (fun i row j d e e2=>?_) (fun i row j d u e e2 eu=>?_) (ht.mono h)
  ·obtain⟨u,hu⟩:=h1 i row j d e e2;exact⟨u,h.G _ _ _ hu⟩
  ·obtain⟨u',hu⟩:=h1 i row j d e e2
   have:=h.G _ _ _ hu
   rw[eu]at this
   cases this
   exact ih i row j d u e e2 hu
 |agg cells vs hl h1 _ ih=>exact .agg cells vs hl h1 ih
 |tuple ds vs hl _ ih=>exact .tuple ds vs hl ih
 |val v hv=>exact .val v hv
 |fh T o v ho ht hv=>exact .fh T o v (Nat.lt_of_lt_of_le ho h.n) (by rw[h.ty o ho];exact ht) (by rw[h.mu ho (fun z A e=>by rw[Map.ty,show(M.loc o).2=_ from e]at ht;cases ht)];exact hv)
 |fV f ds vs hl _ ih=>exact .fV f ds vs hl ih
 |fL o ho hm=>
  have hk : ∀ z A,M.ob o≠ .arr z A:=fun z A e=>by rw[hm]at e;cases e
  rw[← h.mu ho hk];exact .fL o (Nat.lt_of_lt_of_le ho h.n) (by rw[h.ob ho hk];exact hm)
 |dZ z o g len b cap A ho hm ha hl=>
  obtain⟨A',h1,h2⟩:=h.arr ho hm
  exact .dZ z o g len b cap A' (Nat.lt_of_lt_of_le ho h.n) h1 (h2 g _ ha) hl
 |fi z o g off b cap A ho hm ha=>
  obtain⟨A',h1,h2⟩:=h.arr ho hm
  exact .fi z o g off b cap A' (Nat.lt_of_lt_of_le ho h.n) h1 (h2 g _ ha)
 |dX z a=>exact .dX z a
def St.live (s:St) (t:Nat):Prop:=∃ n,s.au[t]? = some (some n)
def gx:List MapEntry→List Value
 | []=> []
 |e::l=>e.key::e.val::gx l
def iw (hp:Array Obj) (l:Nat×Ob) (vs:Array Value) (T:TypeId):Prop:=
 match l.2 with
 | .map=>∃ es ck,hp[l.1]? = some (.map es ck)∧vs.toList=gx es.toList
 | .arr z A=>∃ (us:Array Value) (g n cap:Nat),hp[l.1]? = some (.cells us T (0,0))∧A g=some (l.1,cap)∧(∀ g',g<g'→A g'=none)∧us.size=cap*z∧n≤us.size∧
  vs.toList = .int .i64 g::us.toList.take n∧∀ u∈us,u.oneCell'=true
 |_=>hp[l.1]? = some (.cells vs T (0,0))
theorem iw.cells {hp:Array Obj} {l:Nat×Ob} {vs:Array Value} {T:TypeId} (h:iw hp l vs T) (hk:l.2.plain):hp[l.1]? = some (.cells vs T (0,0)):=by
 obtain⟨b,k⟩:=l
 cases k with
 |map=>exact hk.elim
 |arr _ _=>exact hk.elim
 |any=>exact h
 |ty _=>exact h
theorem iw.of {hp:Array Obj} {l:Nat×Ob} {vs:Array Value} {T:TypeId} (h:hp[l.1]? = some (.cells vs T (0,0))) (hk:l.2.plain):iw hp l vs T:=by
 obtain⟨b,k⟩:=l
 cases k with
 |map=>exact hk.elim
 |arr _ _=>exact hk.elim
 |any=>exact h
 |ty _=>exact h
theorem iw.L9 {hp:Array Obj} {l:Nat×Ob} {vs:Array Value} {T:TypeId} (h:iw hp l vs T) (hk:l.2 = .map) : ∃ es ck,hp[l.1]? = some (.map es ck)∧vs.toList=gx es.toList:=by
 unfold iw at h
 rw[hk]at h
 exact h
theorem iw.ofMap {hp:Array Obj} {l:Nat×Ob} {vs:Array Value} {T:TypeId} (hk:l.2 = .map) (h : ∃ es ck,hp[l.1]? = some (.map es ck)∧vs.toList=gx es.toList):iw hp l vs T:=by
 unfold iw
 rw[hk]
 exact h
theorem iw.some {hp:Array Obj} {l:Nat×Ob} {vs:Array Value} {T:TypeId} (h:iw hp l vs T) : ∃ o,hp[l.1]? = some o:=by
 obtain⟨b,k⟩:=l
 cases k with
 |map=>obtain⟨es,ck,h,_⟩:=h;exact⟨_,h⟩
 |arr _ _=>obtain⟨us,g,n,cap,h,_⟩:=h;exact⟨_,h⟩
 |any=>exact⟨_,h⟩
 |ty _=>exact⟨_,h⟩
theorem iw.lt {hp:Array Obj} {l:Nat×Ob} {vs:Array Value} {T:TypeId} (h:iw hp l vs T):l.1<hp.size:=by
 obtain⟨o,h⟩:=h.some
 exact(Array.getElem?_eq_some_iff.1 h).1
theorem iw.keep {hp mK:Array Obj} {l:Nat×Ob} {vs:Array Value} {T:TypeId} (h:iw hp l vs T) (e:mK[l.1]? = hp[l.1]?):iw mK l vs T:=by
 unfold iw at h ⊢
 rw[e];exact h
structure Rel (M:Map) (s:St) (w:World):Prop where
 comm : ∀ b o v,M.G b o=some v→w.cell? ⟨b,o,none⟩=some v∧v.oneCell'=true
 obj : ∀ (o:Nat) (ds:List D),s.ah[o]? = some ds→∃ (vs:Array Value) (T:TypeId),iw w.heap (M.loc o) vs T∧vs.size=ds.length∧
  ((∀ v∈vs,v.oneCell'=true)∧∀ T',M.ty o=some T'→T'=T)∧∀ (i:Nat) (d:D) (v:Value),ds[i]? = some d→vs[i]? = some v→RD M s d v
 jD : ∀ o,o<s.ah.length→∀ off,M.G (M.mu o) off=none
 inj : ∀ o o',o<s.ah.length→o'<s.ah.length→M.mu o=M.mu o'→o=o'
 tok : ∀ t n,s.au[t]? = some (some n)→(M.be t=none∧n=0)∨∃ (b cap z:Nat) (vs:Array Value) (T:TypeId),M.be t=some (b,cap,z)∧
  w.heap[b]? = some (.cells vs T (0,0))∧vs.size=cap*zs z∧n≤cap∧(∀ off,n*zs z≤off→M.G b off=none)∧(z=0→T=ph)
 fa : ∀ t b c z o,s.live t→M.be t=some (b,c,z)→o<s.ah.length→M.mu o≠b
 fM : ∀ t t' b c z c' z',s.live t→s.live t'→M.be t=some (b,c,z)→M.be t'=some (b,c',z')→t=t'
structure Ext (M:Map) (s:St) (w:World) (M':Map) (s':St) (w':World):Prop where
 le:Le M s M' s'
 kept : ∀ b,b<w.heap.size→(∀ o,o<s.ah.length→M.mu o≠b)→(∀ t c z,s.live t→M.be t≠some (b,c,z))→w'.heap[b]? = w.heap[b]?
 tw : ∀ o,(s.ah.length≤o∨M'.mu o≠M.mu o)→o<s'.ah.length→w.heap.size≤M'.mu o
 qh : ∀ t b c z,s'.live t→M'.be t=some (b,c,z)→(s.live t∧∃ c' z',M.be t=some (b,c',z'))∨w.heap.size≤b
 rO : ∀ b o,M'.G b o≠M.G b o→w.heap.size≤b∨∃ t c z,s.live t∧M.be t=some (b,c,z)
 size:w.heap.size≤w'.heap.size
 os:w'.os=w.os
 tape:w'.tape=w.tape
 output:w'.output=w.output
theorem Ext.refl (M:Map) (s:St) (w:World):Ext M s w M s w:=
 ⟨Le.refl M s,fun _ _ _ _=>rfl,fun o h h'=>by rcases h with h|h;omega;exact(h rfl).elim,fun t b c z h e=> .inl ⟨h,c,z,e⟩,fun _ _ h=>(h rfl).elim,Nat.le_refl _,rfl,rfl,rfl⟩
theorem Ext.mo {M M':Map} {s s':St} {w w':World} (h:Ext M s w M' s' w') {o:Nat} (ho:o<s'.ah.length):(o<s.ah.length∧M'.mu o=M.mu o)∨w.heap.size≤M'.mu o:=by
 by_cases h1:s.ah.length≤o
 ·exact .inr (h.tw o (.inl h1) ho)
 ·by_cases h2:M'.mu o=M.mu o
  ·exact .inl ⟨by omega,h2⟩
  ·exact .inr (h.tw o (.inr h2) ho)
theorem Ext.trans {M M' K9:Map} {s s' Px:St} {w w' w'':World} (h:Ext M s w M' s' w') (k:Ext M' s' w' K9 Px w''):Ext M s w K9 Px w'':=by
 refine⟨h.le.trans k.le,fun b hb ho ht=>?_,fun o h1 h2=>?_,fun t b c z h1 e=>?_,fun b o eA=>?_,Nat.le_trans h.size k.size,
  k.os.trans h.os,k.tape.trans h.tape,k.output.trans h.output⟩
 ·rw [k.kept b (Nat.lt_of_lt_of_le hb h.size) (fun o hD e=> ?_) (fun t c z hD e=> ?_),h.kept b hb ho ht]
  ·rcases h.mo hD with ⟨h1,h2⟩ | h1
   ·exact ho o h1 (h2.symm.trans e)
   ·omega
  ·rcases h.qh t b c z hD e with ⟨h1,c',z',e'⟩ | h1
   ·exact ht t c' z' h1 e'
   ·omega
 ·rcases k.mo h2 with ⟨h3,h4⟩ | h3
  ·rw [h4]
   refine h.tw o ?_ h3
   rcases h1 with h1|h1
   ·exact .inl h1
   ·exact .inr (by rw[h4]at h1;exact h1)
  ·exact Nat.le_trans h.size h3
 ·rcases k.qh t b c z h1 e with ⟨h2,c',z',e'⟩ | h2
  ·exact h.qh t b c' z' h2 e'
  ·exact .inr (Nat.le_trans h.size h2)
 ·by_cases e:M'.G b o=M.G b o
  ·have:K9.G b o≠M'.G b o:=fun e'=>eA (e'.trans e)
   rcases k.rO b o this with h1|⟨t,c,z,h1,h2⟩
   ·exact .inl (Nat.le_trans h.size h1)
   ·rcases h.qh t b c z h1 h2 with ⟨h3,c',z',e'⟩ | h3
    ·exact .inr ⟨t,c',z',h3,e'⟩
    ·exact .inl h3
  ·exact h.rO b o e
def Laid (M:Map) (s:St) (w:World):Prop:=∀ g cs,ZT g=some cs→
 (∃ T fr,w.heap[g]? = some (.cells cs T fr))∧(∀ o,o<s.ah.length→M.mu o≠g)∧∀ t c z,s.live t→M.be t≠some (g,c,z)
theorem Laid.ext {M M':Map} {s s':St} {w w':World} (h:Laid M s w) (e:Ext M s w M' s' w'):Laid M' s' w':=by
 intro g cs hg
 obtain⟨⟨T,fr,h1⟩,h2,h3⟩:=h g cs hg
 have hD:g<w.heap.size:=(Array.getElem?_eq_some_iff.1 h1).1
 refine⟨⟨T,fr,by rw[e.kept g hD h2 h3];exact h1⟩,fun o ho=>?_,fun t c z hl hb=>?_⟩
 ·rcases e.mo ho with ⟨h4,h5⟩ | h4
  ·rw[h5];exact h2 o h4
  ·omega
 ·rcases e.qh t g c z hl hb with ⟨h4,c',z',h5⟩ | h4
  ·exact h3 t c' z' h4 h5
  ·omega
abbrev Tm:=List (Nat×D)
def Tm.get:Tm→Nat→D
 | [],_=> .junk
 |(k,d)::r,t=>if k=t then d else Tm.get r t
def Tm.set:Tm→Nat→D→Tm
 | [],t,d=> [(t,d)]
 |(k,e)::r,t,d=>if k=t then(k,d)::r else(k,e)::Tm.set r t d
def Tm.put (tm:Tm) (dst:Option Nat) (d:D):Tm:=
 match dst with
 |some t=>tm.set t d
 |none=>tm
inductive X where
 |s (t:Nat)
 |k (d:D)
def X.ev (tm:Tm):X→D
 | .s t=>tm.get t
 | .k d=>d
inductive FO where
 |ofInt (k:FloatKind)
 |toInt (k:IntKind)
 |HO
 |real
 |imag
 |eq
 |CQ
 |HP
inductive AO where
 |mv (x:X)
 |pick (c a b:X)
 |alloc (zero:List D)
 |box (x:X)
 |build (zero:List D) (parts:List (Nat×Nat×X))
 |dv (zero:List D) (size n:Nat) (parts:List (Nat×X))
 |uQ (zero:List D) (size n:Nat) (parts:List (Nat×X))
 |Ak (x:X)
 |load (x:X) (agg:Bool) (size:Nat)
 |store (p x:X) (size:Nat)
 |bQ (x:X)
 |bin (op:BinOp) (x y:X)
 |FY (neg:Bool) (x y:X)
 |eqs (neg:Bool) (ks:List Nat) (x y:X) -- the fields' kinds: 0 an integer, 1 a bool, 2 a text
 |FZ (neg:Bool) (x y:X)
 |un (op:UnOp) (x:X)
 |conv (k:IntKind) (x:X)
 |DI (x:X)
 |xw (x:X)
 |DJ (size:Nat) (x:X) (lo hi:Option X)
 |HQ (x:X) (lo hi:Option X)
 |aq (x:X) (off:Nat)
 |Cp (x:X) (off:Nat) (agg:Bool) (size:Nat)
 |cy (x i:X) (size:Nat)
 |Al (x i:X)
 |ext (x:X) (i:Nat)
 |len (x:X)
 |uR (x:X)
 |app (size bytes:Nat) (x y:X)
 |mm (isMax:Bool) (x y:X)
 |sK (zero:List D) (T:TypeId) -- a new object whose first cell is to hold its own address
 |Am (x:X) (T:TypeId)
 |An (x y:X) -- bytes behind others
 |apps (x y:X) -- a text's bytes behind others
 |uy (f:Nat) (xs:List X) -- a function value
 |uz
 |yu (m k v:X) -- a text's slice in a map
 |vR (m k:X) (zero:D)
 |Ao (size bytes:Nat) (zero:List D) (l c:X) -- a new array of zeros
 |nY (o:FO) (x y:X)
inductive AI where
 |jj (dst:Option Nat) (g:Option (Nat×Bool)) (t:Nat) (xs:List X) -- what a slot holds is called
 |nil (dst:Option Nat) (g:Option (Nat×Bool)) (neg:Bool) (x:X) -- is a slice nil? (of an empty one nothing is known)
 |op (dst:Option Nat) (g:Option (Nat×Bool)) (o:AO)
 |call (dst:Option Nat) (g:Option (Nat×Bool)) (f:Nat) (xs:List X)
inductive AC where
 |skip
 |run (is:List AI)
 |par (is:List AI) (lH:List (Nat×Nat))
 |seq (a b:AC)
 |cond (x:X) (a b:AC)
 |block (id:Nat) (a:AC)
 |loop (a:AC)
 |exit (id:Nat)
 |scope (a:AC)
 |label (l:Nat)
 |goto (l:Nat)
 |ret
structure AF where
 ntmps:Nat
 results:List (Nat×Option (Bool×Nat)) -- a slot; or a slot that holds the address, whether an aggregate, how many cells
 body:AC
inductive AK where
 |pure
 |load
 |alloc
 |core
 deriving DecidableEq
def AO.kind:AO→AK
 | .alloc _=> .core
 | .box _=> .core
 | .uQ .. => .core
 | .Ak _=> .core
 | .store .. => .core
 | .app .. => .core
 | .sK .. => .core
 | .Am .. => .core
 | .An .. => .core
 | .apps .. => .core
 | .uz=> .core
 | .yu .. => .core
 | .Ao .. => .core
 | .vR .. => .load
 | .load .. => .load
 |_=> .pure
def AI.kind:AI→AK
 | .op (some _) none (.alloc _)=> .alloc
 | .op _ _ o=>o.kind
 |_=> .core
def AI.dst:AI→Option Nat
 | .op d _ _=>d
 | .call d _ _ _=>d
 | .nil d _ _ _=>d
 | .jj d _ _ _=>d
def X.reads:X→List Nat
 | .s t=> [t]
 | .k _=> []
def nZ:List X→List Nat
 | []=> []
 |x::r=>x.reads++nZ r
def Ap:Option X→List Nat
 |none=> []
 |some x=>x.reads
def AO.reads:AO→List Nat
 | .mv x=>x.reads
 | .pick c a b=>c.reads++(a.reads++b.reads)
 | .alloc _=> []
 | .box x=>x.reads
 | .build _ ps=>nZ (ps.map (·.2.2))
 | .dv _ _ _ ps=>nZ (ps.map (·.2))
 | .uQ _ _ _ ps=>nZ (ps.map (·.2))
 | .Ak x=>x.reads
 | .load x _ _=>x.reads
 | .store p x _=>p.reads++x.reads
 | .bQ x=>x.reads
 | .bin _ x y=>x.reads++y.reads
 | .FY _ x y=>x.reads++y.reads
 | .eqs _ _ x y=>x.reads++y.reads
 | .FZ _ x y=>x.reads++y.reads
 | .un _ x=>x.reads
 | .conv _ x=>x.reads
 | .DI x=>x.reads
 | .xw x=>x.reads
 | .DJ _ x lo hi=>x.reads++(Ap lo++Ap hi)
 | .HQ x lo hi=>x.reads++(Ap lo++Ap hi)
 | .aq x _=>x.reads
 | .Cp x _ _ _=>x.reads
 | .cy x i _=>x.reads++i.reads
 | .Al x i=>x.reads++i.reads
 | .ext x _=>x.reads
 | .len x=>x.reads
 | .uR x=>x.reads
 | .app _ _ x y=>x.reads++y.reads
 | .mm _ x y=>x.reads++y.reads
 | .sK _ _=> []
 | .Am x _=>x.reads
 | .An x y=>x.reads++y.reads
 | .apps x y=>x.reads++y.reads
 | .uy _ xs=>nZ xs
 | .uz=> []
 | .yu m k v=>m.reads++(k.reads++v.reads)
 | .vR m k _=>m.reads++k.reads
 | .Ao _ _ _ l c=>l.reads++c.reads
 | .nY _ x y=>x.reads++y.reads
def uS:Option (Nat×Bool)→List Nat
 |none=> []
 |some (t,_)=> [t]
def AI.reads:AI→List Nat
 | .op _ g o=>uS g++o.reads
 | .call _ g _ xs=>uS g++nZ xs
 | .nil _ g _ x=>uS g++x.reads
 | .jj _ g t xs=>uS g++(t::nZ xs)
def DL (d:Option Nat) (l:List Nat):Bool:=
 match d with
 |none=>true
 |some t=> !l.contains t
def AI.apart (a q:AI):Bool:=
 DL a.dst q.reads && DL q.dst a.reads && (match a.dst,q.dst with|some x,some y=>x != y|_,_=>true)
def gL (l:List (List Nat)) (i:Nat):List Nat:=l.getD i []
def jk (is:List AI) (i:Nat):AK:=
 match is[i]? with
 |some a=>a.kind
 |none=> .core
def k6 (is:List AI) (i j:Nat):Bool:=
 match is[i]?,is[j]? with
 |some a,some b=>a.apart b
 |_,_=>false
def gy:AK→Bool
 | .core=>true
 | .alloc=>true
 |_=>false
def jz (is:List AI) (l:List Nat):Nat:=(l.filter fun i=>gy (jk is i)).length
def kS (is:List AI) (pq:List Nat):List Nat→Bool
 | []=>true
 |a::r=>(!(jk is a == .alloc && pq.contains a) ||r.all pq.contains) && kS is pq r
def oO (is:List AI) (pt:List (List Nat)) (pre:List Nat) (q b:Nat):Bool:=
 match jk is q with
 | .core=>pre.all (gL pt q).contains
 | .alloc=>pre.all fun a=>k6 is a q
 | .pure=>(pre.all fun a=>(gL pt q).contains a ||k6 is a q) && kS is (gL pt q) pre
 | .load=>(pre.all fun a=>(gL pt q).contains a ||k6 is a q) && kS is (gL pt q) pre &&
  decide (jz is (pre.filter fun a=> !(gL pt q).contains a)≤b)
def uf (is:List AI) (af pt:List (List Nat)):List Nat→List (Nat×Nat)→Bool
 |_,[]=>true
 |pre,(q,b)::r=>oO is pt pre q b && !pre.contains q && ((gL af q).all fun j=>j != q && !(r.map (·.1)).contains j) && uf is af pt (q::pre) r
def xx (af pt:List (List Nat)):Nat→Bool
 | 0=>true
 |i+1=>((gL pt i).all fun j=>(gL af i).contains j ||(gL af i).any fun k=>(gL pt k).contains j) && xx af pt i
def HR (is:List AI) (af pt:List (List Nat)) (lH:List (Nat×Nat)):Bool:=
 xx af pt is.length && uf is af pt [] lH && (List.range is.length).all (lH.map (·.1)).contains && lH.all (fun p=>decide (p.1<is.length)) &&
  (List.range is.length).all fun i=>(gL af i).all fun j=>decide (j<is.length)
def mL (o:Oper):List Nat:=(o.after.toList.filter (Region.binds .any)).map (·.on)
def HS:List (List Nat)→List (List Nat)→List (List Nat)
 |done,[]=>done
 |done,es::r=>HS (done++ [(es.flatMap fun k=>gL done k).foldl (fun l j=>if l.contains j then l else l++ [j]) es]) r
def Vy (is:List AI) (pt:List (List Nat)):List Nat→List Nat→List Nat→List Nat
 | [],rest,out=>out++((rest.filter fun j=>jk is j == .alloc)++rest.filter fun j=> !(jk is j == .alloc))
 |c::cs,rest,out=>
  let SD:=rest.filter fun j=>(gL pt c).contains j
  Vy is pt cs (rest.filter fun j=> !(SD.contains j) && j != c) (out++((SD.filter fun j=>jk is j == .alloc)++(SD.filter fun j=> !(jk is j == .alloc))++ [c]))
def Vz (is:List AI) (pt:List (List Nat)):List Nat→List Nat→List (Nat×Nat)
 |_,[]=> []
 |pre,q::r=>(q,if jk is q == .load then jz is (pre.filter fun a=> !(gL pt q).contains a)else 0)::Vz is pt (q::pre) r
def Py (is:List AI) (af:List (List Nat)):List (Nat×Nat):=
 let pt:=HS [] af
 let all:=List.range is.length
 Vz is pt [] (Vy is pt (all.filter fun i=>jk is i == .core) all [])
def D.row:D→Option (List D)
 | .agg cs=>some cs
 | .junk=>none
 | .tuple _=>none
 |d=>some [d]
def part (cs:List D) (off:Nat) (agg:Bool) (size:Nat):Option D:=
 match agg with
 |true=>if off+size≤cs.length then some (.agg ((cs.drop off).take size))else none
 |false=>cs[off]?
def ie (cs:List D) (off:Nat) (r:List D):List D:=cs.take off++r++cs.drop (off+r.length)
def qC (cells:List D):List (Nat×Nat×D)→Option (List D)
 | []=>some cells
 |(off,size,d)::rest=>
  match d.row with
  |none=>none
  |some r=>if r.length=size∧off+size≤cells.length then qC (ie cells off r) rest else none
def fN (zero:List D):Nat→List (List D)
 | 0=> []
 |n+1=>zero::fN zero n
def jQ (size:Nat) (rows:List (List D)):List (Nat×D)→Option (List (List D))
 | []=>some rows
 |(i,d)::rest=>
  match d.row with
  |none=>none
  |some r=>if r.length=size∧i<rows.length then jQ size (rows.set i r) rest else none
def bytesLess:List UInt8→List UInt8→Bool:=Op.bytesLess
def bJ:Nat:=1099511627776
def fW (op:BinOp) (k:IntKind) (a b:Int):Option D:=
 match op with
 | .add=>some (.int k (k.wrap (a+b)))
 | .sub=>some (.int k (k.wrap (a - b)))
 | .mul=>some (.int k (k.wrap (a*b)))
 | .quo=>if b=0 then none else some (.int k (k.wrap (a.tdiv b)))
 | .rem=>if b=0 then none else some (.int k (a.tmod b))
 | .eql=>some (.bool (a==b))
 | .neq=>some (.bool (a != b))
 | .lss=>some (.bool (decide (a<b)))
 | .leq=>some (.bool (decide (a≤b)))
 | .gtr=>some (.bool (decide (a > b)))
 | .geq=>some (.bool (decide (a≥b)))
 |_=>none
def n6 (op:BinOp) (a b:List UInt8):Option D:=
 match op with
 | .add=>if a.length+b.length≤bJ then some (.str (a++b))else none
 | .eql=>some (.bool (a==b))
 | .neq=>some (.bool (!(a==b)))
 | .lss=>some (.bool (bytesLess a b))
 |_=>none
def wP (op:BinOp) (x y:D):Option D:=
 match x,y with
 | .int k a, .int k' b=>if k=k' then fW op k a b else none
 | .str a, .str b=>n6 op a b
 |_,_=>none
def mM:Nat→D→D→Option Bool
 | 0, .int k a, .int k' b=>if k=k' then some (a==b)else none
 | 1, .bool a, .bool b=>some (a==b)
 | 2, .str a, .str b=>some (a==b)
 |_,_,_=>none
def k8:List Nat→List D→List D→Option Bool
 | [],[],[]=>some true
 |k::ks,x::xs,y::ys=>
  match mM k x y with
  |none=>none
  |some true=>k8 ks xs ys
  |some false=>some false
 |_,_,_=>none
def HT (op:UnOp) (x:D):Option D:=
 match op,x with
 | .neg, .int k n=>some (.int k (k.wrap (0 - n)))
 | .not, .bool b=>some (.bool (!b))
 |_,_=>none
def F0:List D→Option UInt8
 | [.int .u8 n]=>some (UInt8.ofNat n.toNat)
 |_=>none
def og:List (List D)→Option (List UInt8)
 | []=>some []
 |r::rs=>
  match F0 r,og rs with
  |some b,some bs=>some (b::bs)
  |_,_=>none
def Tag.cut (g:Tag) (whole:Bool):Tag:=
 match g with
 | .full=>if whole then .full else .shared
 |g=>g
def sL (lo:Option D):Option Int:=
 match lo with
 |none=>some 0
 |some (.int _ n)=>some n
 |_=>none
def sM (hi:Option D) (len:Nat):Option Int:=
 match hi with
 |none=>some len
 |some (.int _ n)=>some n
 |_=>none
def ig (size bytes:Nat) (x y:D) (s:St):Option (D×St):=
 match x,y with
 | .slice g z rows, .slice _ z' new=>
  if(rows = []∨z=size)∧(new = []∨z'=size)∧(rows.length+new.length)*(bytes+1)≤bJ then
   match new with
   | []=>some (.slice g z rows,s)
   |_::_=>
    match g with
    | .full=>some (.slice (.tok s.au.length) size (rows++new),{s with au:=s.au++ [some (rows.length+new.length)]})
    | .shared=>none
    | .tok _ true=>none
    | .tok t false=>if z=size∧s.au[t]? = some (some rows.length)then some (.slice (.tok t) size (rows++new),{s with au:=s.au.set t (some (rows.length+new.length))})else none
  else none
 |_,_=>none
def Aq (x y:D) (s:St):Option (D×St):=
 match x,y with
 | .slice g z rows, .slice _ z' new=>
  if(rows = []∨z=1)∧(new = []∨z'=1)∧(rows.length+new.length)*2≤bJ then
   match new with
   | []=>some (.slice g z rows,s)
   |_::_=>
    match g with
    | .full=>some (.slice (.tok s.au.length true) 1 (rows++new),{s with au:=s.au++ [some (rows.length+new.length)]})
    | .shared=>none
    | .tok t y=>if z=1∧s.au[t]? = some (some rows.length)then some (.slice (.tok t y) 1 (rows++new),{s with au:=s.au.set t (some (rows.length+new.length))})else none
  else none
 |_,_=>none
def yv (key:List UInt8) (zero:D):List D→Option D
 | []=>some zero
 | .str k::d::r=>if k==key then some d else yv key zero r
 |_=>none
def wQ (key:List UInt8) (v:D):List D→Option (List D)
 | []=>some [.str key,v]
 | .str k::d::r=>if k==key then some (.str k::v::r)else match wQ key v r with|some r'=>some (.str k::d::r')|none=>none
 |_=>none
def nI (s:St) (o g:Nat):Option (List D):=
 match s.ah[o]? with
 |some (.int .i64 n::cells)=>if n=(g:Int)then some cells else none
 |_=>none
def yw (d:D) (agg:Bool) (size:Nat) (s:St):Option (D×St):=
 match d with
 | .fi o g off=>
  match nI s o g with
  |some cells=>(match part cells off agg size with|some d=>some (d,s)|none=>none)
  |none=>none
 |_=>none
def As (d:D) (r:Option (List D)) (size:Nat) (s:St):Option (D×St):=
 match d,r with
 | .fi o g off,some r=>match nI s o g with
  |some cells=>if r.length=size∧off+size≤cells.length then some (.tuple [],{s with ah:=s.ah.set o (.int .i64 g::ie cells off r)})else none
  |none=>none
 |_,_=>none
def Ma (d:D):Option D:=
 match d with
 | .fi o g off=>some (.fi o g off)
 |_=>none
def DM (d:D) (off:Nat):Option D:=
 match d with
 | .fi o g k=>some (.fi o g (k+off))
 |_=>none
def xy (d e:D) (size:Nat):Option D:=
 match d,e with
 | .dZ z o g len, .int _ n=>if 0≤n∧n<len∧z=size then some (.fi o g (n.toNat*z))else none
 |_,_=>none
def wR (d:D) (lo hi:Option D):Option D:=
 match d with
 | .dZ z o g len=>
  match sL lo,sM hi len with
  |some l,some h=>if l=0∧0≤h∧h≤len then some (.dZ z o g h.toNat)else none
  |_,_=>none
 | .dX z=>
  match sL lo,sM hi 0 with
  |some l,some h=>if l=0∧h=0 then some (.dX z)else none
  |_,_=>none
 |_=>none
def E0 (d:D):Option D:=
 match d with
 | .dZ _ _ _ len=>some (.int .i64 len)
 | .dX _=>some (.int .i64 0)
 |_=>none
def Au (size bytes:Nat) (x y:D) (s:St):Option (D×St):=
 match x,y with
 | .dZ z o g len, .slice _ z' new=>
  if z=size∧(new = []∨z'=size)∧(len+new.length)*(bytes+1)≤bJ then
   match new with
   | []=>some (.dZ z o g len,s)
   |_::_=>match nI s o g with
    |some cells=>if len*z≤cells.length then some (.dZ z o (g+1) (len+new.length),{s with ah:=s.ah.set o (.int .i64 ((g+1:Nat):Int)::(cells.take (len*z)++new.flatten))})else none
    |none=>none
  else none
 | .dX z, .slice _ z' new=>
  if z=size∧(new = []∨z'=size)∧new.length*(bytes+1)≤bJ then
   match new with
   | []=>some (.dX z,s)
   |_::_=>some (.dZ z s.ah.length 0 new.length,{s with ah:=s.ah++ [.int .i64 ((0:Nat):Int)::new.flatten]})
  else none
 |_,_=>none
def E1 (k:FloatKind) (a b:Nat):Option Nat:=k.format.add a b
def lI (o:FO) (x y:D):Option D:=
 match o,x,y with
 | .ofInt k, .int _ n,_=>some (.val (.float k (k.nearest n)))
 | .toInt k, .val (.float s b),_=>match (s.decode b).toInt .zero with|some n=>if k.min≤n∧n≤k.max then some (.int k n)else none|none=>none
 | .HO, .val (.float k a), .val (.float k' b)=>if k=k' then some (.val (.complex k a b))else none
 | .real, .val (.complex k a _),_=>some (.val (.float k a))
 | .imag, .val (.complex k _ b),_=>some (.val (.float k b))
 | .eq, .val (.float k a), .val (.float k' b)=>if k=k' then some (.bool (k.format.order a b==some .eq))else none
 | .CQ, .val (.complex k a b), .val (.complex k' c d)=>if k=k' then(match E1 k a c,E1 k b d with|some e,some f=>some (.val (.complex k e f))|_,_=>none)else none
 | .HP, .val (.complex k a b), .val (.complex k' c d)=>if k=k' then some (.bool (k.format.order a c==some .eq && k.format.order b d==some .eq))else none
 |_,_,_=>none
def aI (o:AO) (tm:Tm) (s:St):Option (D×St):=
 match o with
 | .mv x=>some (x.ev tm,s)
 | .pick c a b=>
  match c.ev tm with
  | .bool t=>some (if t then a.ev tm else b.ev tm,s)
  |_=>none
 | .alloc zero=>some (.ptr s.ah.length 0,{s with ah:=s.ah++ [zero]})
 | .box x=>
  match (x.ev tm).row with
  |some r=>some (.ptr s.ah.length 0,{s with ah:=s.ah++ [r]})
  |none=>none
 | .build zero parts=>
  match qC zero (parts.map fun p=>(p.1,p.2.1,p.2.2.ev tm))with
  |some cs=>some (.agg cs,s)
  |none=>none
 | .dv zero size n parts=>
  match jQ size (fN zero n) (parts.map fun p=>(p.1,p.2.ev tm))with
  |some rows=>some (.slice .full size rows,s)
  |none=>none
 | .uQ zero size n parts=>
  match jQ size (fN zero n) (parts.map fun p=>(p.1,p.2.ev tm))with
  |some rows=>some (.slice (.tok s.au.length) size rows,{s with au:=s.au++ [some rows.length]})
  |none=>none
 | .Ak x=>
  match x.ev tm with
  | .slice (.tok t _) z rows=>if rows≠ []∧s.au[t]? = some (some rows.length)then some (.slice .shared z rows,{s with au:=s.au.set t none})else none
  |_=>none
 | .load x agg size=>
  match x.ev tm with
  | .ptr o off=>
   match s.ah[o]? with
   |some cs=>match part cs off agg size with|some d=>some (d,s)|none=>none
   |none=>none
  | .dt row off=>match part row off agg size with|some d=>some (d,s)|none=>none
  |d=>yw d agg size s
 | .store p x size=>
  match p.ev tm,(x.ev tm).row with
  | .ptr o off,some r=>
   match s.ah[o]? with
   |some cs=>if r.length=size∧off+size≤cs.length then some (.tuple [],{s with ah:=s.ah.set o (ie cs off r)})else none
   |none=>none
  |d,r=>As d r size s
 | .bQ x=>
  match x.ev tm with
  | .ptr o off=>some (.ptr o off,s)
  | .dt row off=>some (.dt row off,s)
  |d=>match Ma d with|some d=>some (d,s)|none=>none
 | .bin op x y=>match wP op (x.ev tm) (y.ev tm)with|some d=>some (d,s)|none=>none
 | .FY neg x y=>
  match x.ev tm,y.ev tm with
  | .bool a, .bool b=>some (.bool (if neg then !(a==b)else a==b),s)
  |_,_=>none
 | .eqs neg ks x y=>
  match x.ev tm,y.ev tm with
  | .agg a, .agg b=>match k8 ks a b with|some e=>some (.bool (if neg then !e else e),s)|none=>none
  |_,_=>none
 | .FZ neg x y=>
  match x.ev tm,y.ev tm with
  | .dO, .dO=>some (.bool (!neg),s)
  | .ptr _ _, .dO=>some (.bool neg,s)
  | .dt _ _, .dO=>some (.bool neg,s)
  |_,_=>none
 | .un op x=>match HT op (x.ev tm)with|some d=>some (d,s)|none=>none
 | .conv k x=>match x.ev tm with| .int _ n=>some (.int k (k.wrap n),s)|_=>none
 | .DI x=>
  match x.ev tm with
  | .slice _ _ rows=>match og rows with|some b=>some (.str b,s)|none=>none
  |_=>none
 | .xw x=>
  match x.ev tm with
  | .str l=>some (.slice .shared 1 (l.map fun c=> [.int .u8 c.toNat]),s)
  |_=>none
 | .DJ size x lo hi=>
  match x.ev tm with
  | .slice g z rows=>
   match sL (lo.map (·.ev tm)),sM (hi.map (·.ev tm)) rows.length with
   | some l,some h=>
    if(rows = []∨z=size)∧0≤l∧l≤h∧h≤rows.length then
     some (.slice (if l=0 then g.cut (h=rows.length)else .shared) z ((rows.take h.toNat).drop l.toNat),s)else none
   |_,_=>none
  |d=>match wR d (lo.map (·.ev tm)) (hi.map (·.ev tm))with|some d=>some (d,s)|none=>none
 | .HQ x lo hi=>
  match x.ev tm with
  | .str t=>
   match sL (lo.map (·.ev tm)),sM (hi.map (·.ev tm)) t.length with
   |some l,some h=>if 0≤l∧l≤h∧h≤t.length then some (.str ((t.take h.toNat).drop l.toNat),s)else none
   |_,_=>none
  |_=>none
 | .aq x off=>
  match x.ev tm with
  | .ptr o k=>some (.ptr o (k+off),s)
  | .dt row k=>some (.dt row (k+off),s)
  |d=>match DM d off with|some d=>some (d,s)|none=>none
 | .Cp x off agg size=>
  match x.ev tm with
  | .agg cs=>match part cs off agg size with|some d=>some (d,s)|none=>none
  |_=>none
 | .cy x i size=>
  match x.ev tm,i.ev tm with
  | .slice _ z rows, .int _ n=>
   if 0≤n∧z=size then
    match rows[n.toNat]? with
    |some row=>some (.dt row 0,s)
    |none=>none
   else none
  |d,e=>match xy d e size with|some d=>some (d,s)|none=>none
 | .Al x i=>
  match x.ev tm,i.ev tm with
  | .str t, .int _ n=>
   if 0≤n then
    match t[n.toNat]? with
    |some c=>some (.int .u8 c.toNat,s)
    |none=>none
   else none
  |_,_=>none
 | .ext x i=>
  match x.ev tm with
  | .tuple ds=>match ds[i]? with|some d=>some (d,s)|none=>none
  |_=>none
 | .uR x=>
  match x.ev tm with
  | .str t=>some (.int .i64 t.length,s)
  |_=>none
 | .len x=>
  match x.ev tm with
  | .slice _ _ rows=>some (.int .i64 rows.length,s)
  |d=>match E0 d with|some d=>some (d,s)|none=>none
 | .app size bytes x y=>
  match x.ev tm with
  | .slice g z rows=>ig size bytes (.slice g z rows) (y.ev tm) s
  |d=>Au size bytes d (y.ev tm) s
 | .mm isMax x y=>
  match x.ev tm,y.ev tm with
  | .int k a, .int k' b=>if k=k' then some (.int k (if isMax then(if b > a then b else a)else(if b<a then b else a)),s)else none
  |_,_=>none
 | .sK zero T=>
  match zero with
  | .dO::r=>some (.ptr s.ah.length 0,{s with ah:=s.ah++ [.fh T s.ah.length::r]})
  |_=>none
 | .Am x T=>
  match (x.ev tm).row with
  |some (.dO::r)=>some (.ptr s.ah.length 0,{s with ah:=s.ah++ [.fh T s.ah.length::r]})
  |_=>none
 | .An x y=>Aq (x.ev tm) (y.ev tm) s
 | .apps x y=>
  match y.ev tm with
  | .str l=>Aq (x.ev tm) (.slice .shared 1 (l.map fun c=> [.int .u8 c.toNat])) s
  |_=>none
 | .uy f xs=>some (.fV f (xs.map (·.ev tm)),s)
 | .uz=>some (.fL s.ah.length,{s with ah:=s.ah++ [[]]})
 | .yu m k v=>
  match m.ev tm,k.ev tm,v.ev tm with
  | .fL o, .str key, .slice g z rows=>
   match s.ah[o]? with
   |some cs=>match wQ key (.slice g z rows) cs with|some jB=>some (.tuple [],{s with ah:=s.ah.set o jB})|none=>none
   |none=>none
  |_,_,_=>none
 | .vR m k zero=>
  match m.ev tm,k.ev tm with
  | .fL o, .str key=>
   match s.ah[o]? with
   |some cs=>match yv key zero cs with|some d=>some (d,s)|none=>none
   |none=>none
  |_,_=>none
 | .Ao size bytes zero l c=>
  match l.ev tm,c.ev tm with
  | .int .i64 n, .int .i64 m=>if n=m∧0≤n∧n*((bytes:Int)+1)≤bJ then some (.dZ size s.ah.length 0 n.toNat,{s with ah:=s.ah++ [.int .i64 ((0:Nat):Int)::(fN zero n.toNat).flatten]})else none
  |_,_=>none
 | .nY o x y=>match lI o (x.ev tm) (y.ev tm)with|some d=>some (d,s)|none=>none
def SE (b:ByteArray):List UInt8:=b.data.toList
def rP:Value→Option D
 | .int k n=>some (.int k n)
 | .bool b=>some (.bool b)
 | .string b=>some (.str (SE b))
 | .pointer none=>some .dO
 | .slice none 0 0=>some (.slice .full 0 [])
 | .nilIface=>some (.val .nilIface)
 | .float k b=>some (.val (.float k b))
 | .complex k a b=>some (.val (.complex k a b))
 |_=>none
def nJ:List Value→Option (List D)
 | []=>some []
 |v::r=>match rP v,nJ r with|some d,some ds=>some (d::ds)|_,_=>none
def CS:Value→Option D
 | .slice none 0 0=>some (.val (.slice none 0 0))
 |v=>rP v
def vS:List Value→Option (List D)
 | []=>some []
 |v::r=>match CS v,vS r with|some d,some ds=>some (d::ds)|_,_=>none
def Mb:Value→Option D
 | .agg cs=>(nJ cs.toList).map .agg
 | .tuple ⟨[]⟩=>some (.tuple [])
 |v=>rP v
def cX:Operand→Option X
 | .tmp t=>some (.s t)
 | .const v=>(Mb v).map .k
 | .func f=>some (.k (.fV f []))
 |_=>none
def xA:List Operand→Option (List X)
 | []=>some []
 |x::r=>match cX x,xA r with|some d,some ds=>some (d::ds)|_,_=>none
def VA:Option Operand→Option (Option X)
 |none=>some none
 |some x=>(cX x).map some
section
variable (P:Program)
def qD (t:TypeId):Option Bool:=
 match P.underlying t with
 |some (.struct _)|some (.array _ _)=>some true
 |some _=>some false
 |none=>none
def zeroOf (t:TypeId):Option (List D):=
 match P.info? t with
 |some i=>match i.zero with|some z=>if z.cells.size=i.size then nJ z.cells.toList else none|none=>none
 |none=>none
def l9 (t:TypeId) (f:Nat):Option (Nat×Nat×Bool):=
 match P.underlying t with
 | some (.struct fs)=>
  match fs[f]? with
  |some fd=>match P.info? fd.type,qD P fd.type with
   |some i,some a=>if i.size=0 then none else some (fd.offset,i.size,a)
   |_,_=>none
  |none=>none
 |_=>none
def Pz (t u:TypeId):Bool:=
 match P.underlying u with
 |some (.pointer e)=>e==t
 |_=>false
def ZU (t:TypeId):Bool:=
 match P.underlying t with
 |some (.struct fs)=>
  match fs[0]? with
  |some f=>Pz P t f.type
  |none=>false
 |_=>false
def Md (t:TypeId):Bool:=
 match P.underlying t with
 |some (.struct fs)=>
  match fs[0]? with
  |some f=>Pz P t f.type ||ZU P f.type
  |none=>false
 |_=>false
def Me (self:Bool) (l:List Value):Option (List D):=if self then vS l else nJ l
def yx (t:TypeId):Option (List D):=
 match P.info? t with
 |some i=>match i.zero with|some z=>if z.cells.size=i.size then Me (Md P t) z.cells.toList else none|none=>none
 |none=>none
def Av (t:TypeId):List (Nat×Operand)→Option (List (Nat×Nat×X))
 | []=>some []
 |(i,x)::r=>match l9 P t i,cX x,Av t r with
  |some (off,size,_),some x',some r'=>some ((off,size,x')::r')
  |_,_,_=>none
def HU:List (Nat×Operand)→Option (List (Nat×X))
 | []=>some []
 |(i,x)::r=>match cX x,HU r with
  |some x',some r'=>some ((i,x')::r')
  |_,_=>none
def lk (t:TypeId):Option Nat:=
 match P.underlying t with
 |some (.int _)=>some 0
 |some .bool=>some 1
 |some .string=>some 2
 |_=>none
def BK:Nat→List Field→Option (List Nat)
 |_,[]=>some []
 | n,f::fs=>
  if f.offset=n∧f.name≠ "_" then
   match lk P f.type,BK (n+1) fs with
   |some k,some ks=>some (k::ks)
   |_,_=>none
  else none
def pS (t:TypeId):Option (List Nat):=
 match P.underlying t with
 |some (.struct fs)=>if P.eqGuardType P.depth t=false∧P.stoodInHeld t=false then BK P 0 fs.toList else none
 |_=>none
def DN (o:Oper):Option AO:=
 match o.op with
 | .move x| .assign x=>(cX x).map .mv
 | .pick c a b=>match cX c,cX a,cX b with|some c,some a,some b=>some (.pick c a b)|_,_,_=>none
 | .alloc t=>if Md P t then(yx P t).map (.sK · t)else(zeroOf P t).map .alloc
 | .box t x=>if Md P t then(cX x).map (.Am · t)else(cX x).map .box
 | .build t parts=>
  match P.underlying t,yx P t,Av P t parts.toList with
  |some (.struct fs),some z,some ps=>if fs.toList.all fun f=>(P.info? f.type).isSome then some (.build z ps)else none
  |_,_,_=>none
 | .buildSlice t n parts=>
  match P.underlying t with
  |some (.slice e)=>
   match P.info? e,zeroOf P e,HU parts.toList with
   |some i,some z,some ps=>if 0<i.size∧n*i.size≤65536 then some (.dv z i.size n ps)else none
   |_,_,_=>none
  |_=>none
 | .load t x=>
  match cX x,qD P t,P.info? t with
  |some x,some a,some i=>some (.load x a i.size)
  |_,_,_=>none
 | .store t a x=>
  match cX a,cX x,P.info? t with
  |some a,some x,some i=>some (.store a x i.size)
  |_,_,_=>none
 | .nilCheck x=>(cX x).map .bQ
 | .binOp op t x y _=>
  match cX x,cX y with
  |some x,some y=>
   match P.underlying t,op with
   |some (.int _),_=>some (.bin op x y)
   |some .string,_=>some (.bin op x y)
   |some .bool, .eql=>some (.FY false x y)
   |some .bool, .neq=>some (.FY true x y)
   |some (.pointer _), .eql=>some (.FZ false x y)
   |some (.pointer _), .neq=>some (.FZ true x y)
   |some (.struct _), .eql=>(pS P t).map (.eqs false · x y)
   |some (.struct _), .neq=>(pS P t).map (.eqs true · x y)
   |some (.float _), .eql=>some (.nY .eq x y)
   |some (.complex _), .add=>some (.nY .CQ x y)
   |some (.complex _), .eql=>some (.nY .HP x y)
   |_,_=>none
  |_,_=>none
 | .unOp op _ x=>(cX x).map (.un op)
 | .convert src dst x=>
  match cX x,P.underlying src,P.underlying dst with
  |some x,some (.int _),some (.int k)=>some (.conv k x)
  |some x,some (.slice e),some .string=>match P.underlying e with|some (.int .u8)=>some (.DI x)|_=>none
  |some x,some (.slice e),some (.slice _)=>match P.underlying e with|some (.int .u8)=>if src=dst then some (.Ak x)else none|_=>none
  |some x,some .string,some (.slice e)=>match P.underlying e,P.info? e with|some (.int .u8),some i=>if i.size=1 then some (.xw x)else none|_,_=>none
  |some x,some (.int _),some (.float k)=>some (.nY (.ofInt k) x x)
  |some x,some (.float _),some (.int k)=>some (.nY (.toInt k) x x)
  |_,_,_=>none
 | .slice t x lo hi none=>
  match cX x,VA lo,VA hi,P.underlying t with
  |some x,some lo,some hi,some .string=>some (.HQ x lo hi)
  |some x,some lo,some hi,some (.slice e)=>match P.info? e with|some i=>some (.DJ i.size x lo hi)|none=>none
  |_,_,_,_=>none
 | .fieldAddr t x f=>match cX x,l9 P t f with|some x,some (off,_,_)=>some (.aq x off)|_,_=>none
 | .field t x f=>match cX x,l9 P t f with|some x,some (off,size,a)=>some (.Cp x off a size)|_,_=>none
 | .indexAddr t x i=>
  match cX x,cX i,P.underlying t with
  |some x,some i,some (.slice e)=>match P.info? e with|some j=>if 0<j.size then some (.cy x i j.size)else none|none=>none
  |_,_,_=>none
 | .index t x i=>match cX x,cX i,P.underlying t with|some x,some i,some .string=>some (.Al x i)|_,_,_=>none
 | .extract x i=>(cX x).map (.ext · i)
 | .call {callee:= .builtin .len,args,argTypes}=>
  match args.toList,argTypes.toList with
  | [x],[t]=>match P.underlying t with
   |some .string=>(cX x).map .uR
   |some (.slice _)=>(cX x).map .len
   |_=>none
  |_,_=>none
 | .call {callee:= .builtin .append,args,argTypes}=>
  match args.toList,argTypes.toList with
  | [x,y],[t,u]=>match P.underlying t,P.underlying u,cX x,cX y with
   |some (.slice e),some (.slice _),some x,some y=>match P.info? e,zeroOf P e with
    |some i,some _=>if 0<i.size then some (if e=ph∧i.size=1∧i.bytes=1 then .An x y else .app i.size i.bytes x y)else none
    |_,_=>none
   |some (.slice e),some .string,some x,some y=>match P.info? e,zeroOf P e with
    |some i,some _=>if e=ph∧i.size=1∧i.bytes=1 then some (.apps x y)else none
    |_,_=>none
   |_,_,_,_=>none
  |_,_=>none
 | .call {callee:= .builtin .max,args, ..}=>
  match args.toList with
  | [x,y]=>match cX x,cX y with|some x,some y=>some (.mm true x y)|_,_=>none
  |_=>none
 | .call {callee:= .builtin .min,args, ..}=>
  match args.toList with
  | [x,y]=>match cX x,cX y with|some x,some y=>some (.mm false x y)|_,_=>none
  |_=>none
 | .call {callee:= .builtin .complex,args, ..}=>
  match args.toList with
  | [x,y]=>match cX x,cX y with|some x,some y=>some (.nY .HO x y)|_,_=>none
  |_=>none
 | .call {callee:= .builtin .real,args, ..}=>
  match args.toList with
  | [x]=>(cX x).map fun x=> .nY .real x x
  |_=>none
 | .call {callee:= .builtin .imag,args, ..}=>
  match args.toList with
  | [x]=>(cX x).map fun x=> .nY .imag x x
  |_=>none
 | .makeSlice t l c=>
  match cX l,cX c,P.underlying t with
  |some l,some c,some (.slice e)=>match P.info? e,zeroOf P e with
   |some i,some z=>if 0<i.size then some (.Ao i.size i.bytes z l c)else none
   |_,_=>none
  |_,_,_=>none
 | .makeFunc (.func f) first captured=>if first.size=0 then(xA captured.toList).map (.uy f)else none
 | .makeMap t none=>match P.underlying t with|some (.map _ _)=>some .uz|_=>none
 | .mapUpdate t m k v=>
  match P.underlying t,cX m,cX k,cX v with
  |some (.map kt _),some m,some k,some v=>match P.underlying kt with|some .string=>some (.yu m k v)|_=>none
  |_,_,_,_=>none
 | .lookup t m k false=>
  match P.underlying t,cX m,cX k with
  |some (.map kt e),some m,some k=>
   match P.underlying kt,P.info? e with
   |some .string,some i=>match i.zero with|some z=>(rP z).map (.vR m k)|none=>none
   |_,_=>none
  |_,_,_=>none
 |_=>none
def uT (ops:Array Oper):Option (Nat×Bool)→Option (Option (Nat×Bool))
 |none=>some none
 |some (j,b)=>
  match (ops[j]?).bind (·.dst)with
  |some t=>some (some (t,b))
  |none=>none
def enters (f:FuncId):Bool:=
 match P.funcs[f]? with
 |some fn=>fn.body.isSome && !(fn.name == "runtime.NumGoroutine")
 |none=>false
def frozenIn (ops:Array Oper) (dst:Option Nat):Bool:=
 ops.toList.any fun o=>match o.op,dst with
  | .convert s d (.tmp t),some t'=>t==t' && s==d
  |_,_=>false
def E3 (o:Oper):Option (Bool×X):=
 match o.op with
 | .binOp op t x (.const (.slice none 0 0)) _=>
  match P.underlying t,op,cX x with
  |some (.slice _), .eql,some x=>some (false,x)
  |some (.slice _), .neq,some x=>some (true,x)
  |_,_,_=>none
 |_=>none
def VB (nt:Nat) (dst:Option Nat):Bool:=
 match dst with
 |some d=>decide (d<nt)
 |none=>true
def sm (ops:Array Oper) (o:Oper) (g:Option (Nat×Bool)):Option AI:=
 match o.op with
 | .call {callee:= .value (.func f),args, ..}=>if enters P f then(xA args.toList).map (.call o.dst g f)else none
 | .call {callee:= .value (.tmp t),args, ..}=>(xA args.toList).map (.jj o.dst g t)
 | _=>
  match E3 P o with
  |some (neg,x)=>some (.nil o.dst g neg x)
  |none=>
   match DN P o with
   |some (.dv z k n ps)=>some (.op o.dst g (if frozenIn ops o.dst then .uQ z k n ps else .dv z k n ps))
   |some ao=>some (.op o.dst g ao)
   |none=>none
def cI (nt:Nat) (ops:Array Oper) (o:Oper):Option AI:=
 match uT ops o.guard with
 |none=>none
 |some g=>if VB nt o.dst=true then sm P ops o g else none
def qE (nt:Nat) (ops:Array Oper):List Oper→Option (List AI)
 | []=>some []
 |o::r=>match cI P nt ops o,qE nt ops r with|some i,some is=>some (i::is)|_,_=>none
def VC (is:List AI) (af:List (List Nat)):Option AC:=
 if HR is af (HS [] af) (Py is af)then some (.par is (Py is af))else none
def cC (nt:Nat):Code→Option AC
 | .skip=>some .skip
 | .region _ ops false=>(qE P nt ops ops.toList).map .run
 | .region _ ops true=>if P.follows .mixedOrders then(qE P nt ops ops.toList).bind (VC · (ops.toList.map mL))else none
 | .seq a b=>match cC nt a,cC nt b with|some a,some b=>some (.seq a b)|_,_=>none
 | .cond x a b=>match cX x,cC nt a,cC nt b with|some x,some a,some b=>some (.cond x a b)|_,_,_=>none
 | .block id a=>(cC nt a).map (.block id)
 | .loop a=>(cC nt a).map .loop
 | .exit id=>some (.exit id)
 | .scope a=>(cC nt a).map .scope
 | .label l=>some (.label l)
 | .goto l=>some (.goto l)
 | .ret=>some .ret
 |_=>none
def CT:List ResultVar→Option (List (Nat×Option (Bool×Nat)))
 | []=>some []
 | .tmp t::r=>(CT r).map ((t,none):: ·)
 | .cell a t::r=>match qD P t,P.info? t,CT r with
  |some g,some i,some r'=>some ((a,some (g,i.size))::r')
  |_,_,_=>none
def cF (fn:Func):Option AF:=
 match fn.body with
 |some c=>match cC P fn.ntmps c,CT P fn.results.toList with
  |some b,some r=>some ⟨fn.ntmps,r,b⟩
  |_,_=>none
 |none=>none
end
end Go.Abs
namespace Go.Abs
theorem iZ {w:World} {b:Nat} {vs:Array Value} {T:TypeId} {fr:Nat×Nat} (h:w.heap[b]? = some (.cells vs T fr)) (o:Nat):w.cell? ⟨b,o,none⟩=vs[o]? :=by
 simp[World.cell?,h]
theorem jX {w:World} {b:Nat} {o:Obj} (h:w.heap[b]? = some o):b<w.heap.size:=(Array.getElem?_eq_some_iff.1 h).1
section
variable {M:Map} {s:St} {w:World}
theorem Rel.Aw (r:Rel M s w) {b o:Nat} {v:Value} (h:M.G b o=some v):b<w.heap.size:=World.block_lt_of_cell? w _ (r.comm b o v h).1
theorem Rel.Mf (r:Rel M s w) {b:Nat} (h:w.heap.size≤b) (o:Nat):M.G b o=none:=by
 cases e:M.G b o with
 |none=>rfl
 |some v=>have:=r.Aw e;omega
theorem Rel.qa (r:Rel M s w) {o:Nat} (h:o<s.ah.length):M.mu o<w.heap.size:=by
 obtain⟨vs,T,hh,_⟩:=r.obj o _ (List.getElem?_eq_getElem h)
 exact hh.lt
theorem Rel.sn (r:Rel M s w) {t b c z:Nat} (h:s.live t) (e:M.be t=some (b,c,z)):b<w.heap.size:=by
 obtain⟨n,hn⟩:=h
 rcases r.tok t n hn with ⟨h1,_⟩|⟨b',cap,size,vs,T,h1,h2,_⟩
 ·rw[e]at h1;cases h1
 ·rw[e]at h1;cases h1;exact jX h2
theorem Rel.of_heap (r:Rel M s w) {w':World} (h:w'.heap=w.heap):Rel M s w':=by
 refine⟨fun b o v e=>?_,fun o ds e=>?_,r.jD,r.inj,fun t n e=>?_,r.fa,r.fM⟩
 ·obtain⟨h1,h2⟩:=r.comm b o v e
  refine⟨?_,h2⟩
  rw[← h1];simp[World.cell?,h]
 ·rw[h];exact r.obj o ds e
 ·rw[h];exact r.tok t n e
theorem Ext.of_heap {w':World} (h:w'.heap=w.heap) (h1:w'.os=w.os) (h2:w'.tape=w.tape) (h3:w'.output=w.output):Ext M s w M s w':=
 ⟨Le.refl M s,fun _ _ _ _=>by rw[h],fun o h h'=>by rcases h with h|h;omega;exact(h rfl).elim,fun t b c z h e=> .inl ⟨h,c,z,e⟩,fun _ _ h=>(h rfl).elim,by rw[h];exact Nat.le_refl _,h1,h2,h3⟩
def Map.dK (M:Map) (n b:Nat) (x:Ob:= .any):Map:= {M with loc:=fun o=>if o=n then(b,x)else M.loc o}
theorem sN (M:Map) {n:Nat} (b:Nat) (x:Ob) {o:Nat} (ho:o<n):(M.dK n b x).loc o=M.loc o:=by simp[Map.dK];omega
theorem rQ (s:St) (b:Nat) (ds:List D) (x:Ob:= .any):Le M s (M.dK s.ah.length b x) {s with ah:=s.ah++ [ds]}:=
 ⟨fun _ _ _ h=>h,by simp,fun o ho=>by rw[sN M b x ho];exact .refl _,Nat.le_refl _,fun t n _ h=>⟨n,h,Nat.le_refl _,fun _=>rfl⟩⟩
theorem Rel.HV (r:Rel M s w) (ds:List D) (ob:Obj) (vs:Array Value) (T:TypeId) (x:Ob) (xB : ∀ hp:Array Obj,hp[w.heap.size]? = some ob→iw hp (w.heap.size,x) vs T) (hx : ∀ T',x.ty? = some T'→T'=T) (hl:vs.size=ds.length) (h1 : ∀ v∈vs,v.oneCell'=true)
 (h2 : ∀ (i:Nat) (d:D) (v:Value),ds[i]? = some d→vs[i]? = some v→RD (M.dK s.ah.length w.heap.size x) {s with ah:=s.ah++ [ds]} d v) :
 Rel (M.dK s.ah.length w.heap.size x) {s with ah:=s.ah++ [ds]} (w.alloc ob)∧
 Ext M s w (M.dK s.ah.length w.heap.size x) {s with ah:=s.ah++ [ds]} (w.alloc ob):=by
 have le:=rQ (M:=M) s w.heap.size ds x
 have je : ∀ o,o<s.ah.length→(M.dK s.ah.length w.heap.size x).loc o=M.loc o:=fun o ho=>sN M _ x ho
 have mN : ∀ o,o<s.ah.length→(M.dK s.ah.length w.heap.size x).mu o=M.mu o:=fun o ho=>congrArg Prod.fst (je o ho)
 have da:(M.dK s.ah.length w.heap.size x).mu s.ah.length=w.heap.size:=by simp[Map.dK,Map.mu]
 have aeg:(M.dK s.ah.length w.heap.size x).ty s.ah.length=x.ty? :=by simp[Map.dK,Map.ty]
 have aeh:(M.dK s.ah.length w.heap.size x).loc s.ah.length=(w.heap.size,x):=by simp[Map.dK]
 refine⟨⟨fun b o v e=>?_,fun o nA e=>?_,fun o ho off=>?_,fun o o' ho nB e=>?_,fun t n e=>?_,fun t b c z o hl e ho=>?_,fun t t' b c z c' z' h h' e e'=>r.fM t t' b c z c' z' h h' e e'⟩, ?_⟩
 ·obtain⟨h3,h4⟩:=r.comm b o v e
  refine⟨?_,h4⟩
  rw[World.cell?_alloc_lt]
  ·exact h3
  ·exact r.Aw e
 ·rcases Nat.lt_or_ge o s.ah.length with ho | ho
  ·rw [List.getElem?_append_left ho]at e
   obtain⟨fy,T',h3,h4,h5,h6⟩:=r.obj o nA e
   refine⟨fy,T', ?_,h4,⟨h5.1,by rw[le.ty o ho];exact h5.2⟩,fun i d v e1 e2=>(h6 i d v e1 e2).mono le⟩
   rw[je o ho];exact h3.keep (heap_alloc_old w _ _ h3.lt)
  ·rw [List.getElem?_append_right ho]at e
   have:o=s.ah.length:=by
    have:=(List.getElem?_eq_some_iff.1 e).1
    simp at this;omega
   subst this
   simp at e;subst e
   refine⟨vs,T, ?_,hl,⟨h1,by rw[aeg];exact hx⟩,fun i d v e1 e2=>h2 i d v e1 e2⟩
   rw[aeh];exact xB _ (heap_alloc_new w _)
 ·simp at ho
  rcases Nat.lt_or_ge o s.ah.length with h3|h3
  ·rw[mN o h3];exact r.jD o h3 off
  ·have:o=s.ah.length:=by omega
   subst this
   rw[da];exact r.Mf (Nat.le_refl _) off
 ·simp at ho nB
  rcases Nat.lt_or_ge o s.ah.length with h3|h3<;>rcases Nat.lt_or_ge o' s.ah.length with h4|h4
  ·rw[mN o h3,mN o' h4]at e;exact r.inj o o' h3 h4 e
  ·have:o'=s.ah.length:=by omega
   subst this
   rw[mN o h3,da]at e
   have:=r.qa h3;omega
  ·have:o=s.ah.length:=by omega
   subst this
   rw[mN o' h4,da]at e
   have:=r.qa h4;omega
  ·omega
 ·rcases r.tok t n e with h3 | ⟨b,cap,size,fy,T',h3,h4,h5⟩
  ·exact .inl h3
  ·exact .inr ⟨b,cap,size,fy,T',h3,by rw[heap_alloc_old w _ _ (jX h4)];exact h4,h5⟩
 ·simp at ho
  rcases Nat.lt_or_ge o s.ah.length with h3|h3
  ·rw[mN o h3];exact r.fa t b c z o hl e h3
  ·have:o=s.ah.length:=by omega
   subst this
   rw[da]
   have:=r.sn hl e;omega
 ·refine⟨le,fun b hb _ _=>heap_alloc_old w _ b hb,fun o h3 h4=> ?_,fun t b c z h e=> .inl ⟨h,c,z,e⟩,fun _ _ h=>(h rfl).elim,by simp,rfl,rfl,rfl⟩
  simp at h4
  rcases Nat.lt_or_ge o s.ah.length with h5|h5
  ·rcases h3 with h3 | h3
   ·omega
   ·exact(h3 (mN o h5)).elim
  have:o=s.ah.length:=by omega
  subst this
  rw[da];exact Nat.le_refl _
theorem Rel.HW (r:Rel M s w) (ds:List D) (vs:Array Value) (T:TypeId) (x:Ob) (hk:x.plain) (hx : ∀ T',x.ty? = some T'→T'=T) (hl:vs.size=ds.length) (h1 : ∀ v∈vs,v.oneCell'=true)
 (h2 : ∀ (i:Nat) (d:D) (v:Value),ds[i]? = some d→vs[i]? = some v→RD (M.dK s.ah.length w.heap.size x) {s with ah:=s.ah++ [ds]} d v) :
 Rel (M.dK s.ah.length w.heap.size x) {s with ah:=s.ah++ [ds]} (w.alloc (.cells vs T))∧
 Ext M s w (M.dK s.ah.length w.heap.size x) {s with ah:=s.ah++ [ds]} (w.alloc (.cells vs T)):=
 r.HV ds _ vs T x (fun hp e=>iw.of e hk) hx hl h1 h2
theorem Rel.dK (r:Rel M s w) (ds:List D) (vs:Array Value) (T:TypeId) (hl:vs.size=ds.length) (h1 : ∀ v∈vs,v.oneCell'=true)
 (h2 : ∀ (i:Nat) (d:D) (v:Value),ds[i]? = some d→vs[i]? = some v→RD M s d v) :
 Rel (M.dK s.ah.length w.heap.size) {s with ah:=s.ah++ [ds]} (w.alloc (.cells vs T))∧
 Ext M s w (M.dK s.ah.length w.heap.size) {s with ah:=s.ah++ [ds]} (w.alloc (.cells vs T)):=
 r.HW ds vs T .any trivial (fun _ h=>by cases h) hl h1 fun i d v e1 e2=>(h2 i d v e1 e2).mono (rQ s w.heap.size ds)
theorem qF (cs:List D) (off:Nat) (r:List D) (h:off+r.length≤cs.length) (i:Nat) :
 (ie cs off r)[i]? = if i<off then cs[i]? else if i<off+r.length then r[i - off]? else cs[i]? :=by
 unfold ie
 have hl:(cs.take off).length=off:=by simp;omega
 split
 ·rename_i h1
  rw[List.append_assoc,List.getElem?_append_left (by omega),List.getElem?_take_of_lt h1]
 ·rename_i h1
  rw[List.append_assoc,List.getElem?_append_right (by omega),hl]
  split
  ·rename_i h2
   rw[List.getElem?_append_left (by omega)]
  ·rename_i h2
   rw[List.getElem?_append_right (by omega),List.getElem?_drop]
   congr 1;omega
theorem tx (cs:List D) (off:Nat) (r:List D) (h:off+r.length≤cs.length):(ie cs off r).length=cs.length:=by
 unfold ie;simp;omega
theorem Rel.Mg (P:Program) (r:Rel M s w) {o off:Nat} {cs:List D} (he:s.ah[o]? = some cs) (hk:(M.ob o).plain) (row:List D) (us:List Value) (hu:us.length=row.length) (jf:off+row.length≤cs.length)
 (h1 : ∀ u∈us,u.oneCell'=true) (h2 : ∀ (i:Nat) (d:D) (v:Value),row[i]? = some d→us[i]? = some v→RD M s d v) :
 ∃ w',(storeCells (⟨M.mu o,off,none⟩:Addr) us).run P w = .ok () w'∧Rel M {s with ah:=s.ah.set o (ie cs off row)} w'∧Ext M s w M {s with ah:=s.ah.set o (ie cs off row)} w':=by
 obtain⟨vs,T,hh,hs,⟨gM,VD⟩,jl⟩:=r.obj o cs he
 replace hh:=hh.cells hk
 have ho:o<s.ah.length:=(List.getElem?_eq_some_iff.1 he).1
 have ja:=run_storeCells_at P (M.mu o) off T us 0 vs w hh (by omega) h1
 simp only[Nat.add_zero]at ja
 have le:Le M s M {s with ah:=s.ah.set o (ie cs off row)}:=
  ⟨fun _ _ _ h=>h,by simp,fun _ _=> .refl _,Nat.le_refl _,fun t n _ h=>⟨n,h,Nat.le_refl _,fun _=>rfl⟩⟩
 generalize da:(vs.toList.take off++us++vs.toList.drop (off+us.length)).toArray=iO at ja
 have qG:iO.size=vs.size:=by rw[← da];simp;omega
 have hY : ∀ i,iO[i]? = if i<off then vs[i]? else if i<off+row.length then us[i - off]? else vs[i]? :=by
  intro i
  rw[← da]
  simp only[List.getElem?_toArray]
  have hl:(vs.toList.take off).length=off:=by simp;omega
  split
  ·rename_i h3
   rw[List.append_assoc,List.getElem?_append_left (by omega),List.getElem?_take_of_lt h3];simp
  ·rename_i h3
   rw[List.append_assoc,List.getElem?_append_right (by omega),hl]
   split
   ·rename_i h4
    rw[List.getElem?_append_left (by omega)]
   ·rename_i h4
    rw[List.getElem?_append_right (by omega),List.getElem?_drop]
    rw[show off+us.length+(i - off - us.length)=i by omega];simp
 have lS : ∀ b,b≠M.mu o→(w.setRow (M.mu o) iO).heap[b]? = w.heap[b]? :=fun b hb=>setRow_other w (M.mu o) b _ hb
 refine⟨_,ja,⟨fun b q v e=>?_,fun o' ds e=>?_,fun q hq wS=>r.jD q (by simpa using hq) wS,fun q q' hq mz e=>r.inj q q' (by simpa using hq) (by simpa using mz) e,fun t n e=>?_,
  fun t b c z q hl e hq=>r.fa t b c z q hl e (by simpa using hq),fun t t' b c z c' z' h h' e e'=>r.fM t t' b c z c' z' h h' e e'⟩, ?_⟩
 ·obtain⟨h3,h4⟩:=r.comm b q v e
  refine⟨?_,h4⟩
  have hb:b≠M.mu o:=fun eq=>by subst eq;rw[r.jD o ho q]at e;cases e
  rw[← h3]
  simp[World.cell?,lS b hb]
 ·rw [List.getElem?_set]at e
  split at e
  ·rename_i heq
   subst heq
   simp at e
   obtain⟨_,rfl⟩:=e
   refine⟨iO,T,iw.of (l:=M.loc o) (setRow_heap w (M.mu o) vs iO T (0,0) hh) hk,by rw[qG,hs,tx cs off row jf],⟨fun v hv=>?_,VD⟩,fun i d v e1 e2=>?_⟩
   ·rw [← da]at hv
    simp at hv
    rcases hv with hv|hv|hv
    ·exact gM v (Array.mem_toList_iff.1 (List.mem_of_mem_take hv))
    ·exact h1 v hv
    ·exact gM v (Array.mem_toList_iff.1 (List.mem_of_mem_drop hv))
   ·rw [qF cs off row jf]at e1
    rw[hY]at e2
    split at e1
    ·rename_i h3;simp only[h3,if_true]at e2;exact(jl i d v e1 e2).mono le
    ·rename_i h3
     simp only[h3,if_false]at e2
     split at e1
     ·rename_i h4;simp only[h4,if_true]at e2;exact(h2 _ d v e1 e2).mono le
     ·rename_i h4;simp only[h4,if_false]at e2;exact(jl i d v e1 e2).mono le
  ·rename_i eA
   obtain⟨fy,T',h3,h4,h5,h6⟩:=r.obj o' ds e
   have nB:o'<s.ah.length:=(List.getElem?_eq_some_iff.1 e).1
   refine⟨fy,T', ?_,h4,h5,fun i d v e1 e2=>(h6 i d v e1 e2).mono le⟩
   exact h3.keep (lS _ (fun eq=>eA (r.inj o o' ho nB eq.symm)))
 ·rcases r.tok t n e with h3 | ⟨b,cap,size,fy,T',h3,h4,h5⟩
  ·exact .inl h3
  ·refine .inr ⟨b,cap,size,fy,T',h3, ?_,h5⟩
   rw[lS b (fun eq=>r.fa t b cap size o ⟨n,e⟩ h3 ho eq.symm)];exact h4
 ·refine⟨le,fun b hb h3 _=>lS b (fun eq=>h3 o ho eq.symm),fun q h3 h4=> ?_,fun t b c z h e=> .inl ⟨h,c,z,e⟩,fun _ _ h=>(h rfl).elim,by simp,rfl,rfl,rfl⟩
  simp at h4;rcases h3 with h3|h3;omega;exact(h3 rfl).elim
def Map.fB (M:Map) (b n:Nat) (vs:Array Value):Map:= {M with G:=fun b' o=>if b'=b then(if o<n then vs[o]? else none)else M.G b' o}
theorem PA (r:Rel M s w) (n:Nat) (vs:Array Value):Le M s (M.fB w.heap.size n vs) s:=
 ⟨fun b o v h=>by
  have hb:b≠w.heap.size:=fun e=>by have:=r.Aw h;omega
  simp[Map.fB,hb,h],Nat.le_refl _,fun _ _=> .refl _,Nat.le_refl _,fun t n _ h=>⟨n,h,Nat.le_refl _,fun _=>rfl⟩⟩
theorem Rel.fB (r:Rel M s w) (n:Nat) (vs:Array Value) (T:TypeId) (fr:Nat×Nat) (h1 : ∀ v∈vs,v.oneCell'=true) :
 Rel (M.fB w.heap.size n vs) s (w.alloc (.cells vs T fr))∧Ext M s w (M.fB w.heap.size n vs) s (w.alloc (.cells vs T fr)):=by
 have le:=PA r n vs
 have hold : ∀ b,b<w.heap.size→∀ o,(M.fB w.heap.size n vs).G b o=M.G b o:=fun b hb o=>by
  have:b≠w.heap.size:=by omega
  simp[Map.fB,this]
 refine⟨⟨fun b o v e=>?_,fun o ds e=>?_,fun o ho off=>?_,r.inj,fun t k e=>?_,r.fa,r.fM⟩, ?_⟩
 ·by_cases hb:b=w.heap.size
  ·subst hb
   simp[Map.fB]at e
   obtain⟨_,e⟩:=e
   refine⟨by rw[iZ (heap_alloc_new w _)];exact e,h1 v (Array.mem_of_getElem? e)⟩
  ·simp [Map.fB,hb]at e
   obtain⟨h3,h4⟩:=r.comm b o v e
   refine⟨?_,h4⟩
   rw[World.cell?_alloc_lt]
   ·exact h3
   ·exact r.Aw e
 ·obtain⟨fy,T',h3,h4,h5,h6⟩:=r.obj o ds e
  exact⟨fy,T',h3.keep (heap_alloc_old w _ _ h3.lt),h4,h5,fun i d v e1 e2=>(h6 i d v e1 e2).mono le⟩
 ·rw [hold]
  ·exact r.jD o ho off
  ·exact r.qa ho
 ·rcases r.tok t k e with h3 | ⟨b,cap,size,fy,T',h3,h4,h5,h6,h7⟩
  ·exact .inl h3
  ·exact .inr ⟨b,cap,size,fy,T',h3,by rw[heap_alloc_old w _ _ (jX h4)];exact h4,h5,h6,fun off ho=>by rw[hold b (jX h4)];exact h7.1 off ho,h7.2⟩
 ·refine⟨le,fun b hb _ _=>heap_alloc_old w _ b hb,fun o h3 h4=>by rcases h3 with h3 | h3;omega;exact(h3 rfl).elim,fun t b c z h e=> .inl ⟨h,c,z,e⟩,fun b o h=> ?_,by simp,rfl,rfl,rfl⟩
  rcases Nat.lt_or_ge b w.heap.size with hb|hb
  ·exact(h (hold b hb o)).elim
  ·exact .inl hb
def Map.eK (M:Map) (t:Nat) (x:Option (Nat×Nat×Nat)):Map:= {M with be:=fun t'=>if t'=t then x else M.be t'}
theorem Rel.VE (r:Rel M s w) (n b cap size:Nat) (vs:Array Value) (T:TypeId) (hb:w.heap[b]? = some (.cells vs T (0,0))) (dL:vs.size=cap*zs size) (hn:n≤cap) (hy:size=0→T=ph)
 (hG : ∀ off,n*zs size≤off→M.G b off=none) (ho : ∀ o,o<s.ah.length→M.mu o≠b) (ht : ∀ t c z,s.live t→M.be t≠some (b,c,z)) :
 Rel (M.eK s.au.length (some (b,cap,size))) {s with au:=s.au++ [some n]} w∧Le M s (M.eK s.au.length (some (b,cap,size))) {s with au:=s.au++ [some n]}:=by
 have ix : ∀ t,St.live {s with au:=s.au++ [some n]} t→s.live t∨t=s.au.length:=by
  rintro t ⟨k,hk⟩
  rcases Nat.lt_or_ge t s.au.length with h|h
  ·rw[List.getElem?_append_left h]at hk;exact .inl ⟨k,hk⟩
  ·have:=(List.getElem?_eq_some_iff.1 hk).1
   simp at this;exact .inr (by omega)
 have hD : ∀ t,s.live t→t<s.au.length:=fun t ⟨k,hk⟩=>(List.getElem?_eq_some_iff.1 hk).1
 have hold : ∀ t,t<s.au.length→(M.eK s.au.length (some (b,cap,size))).be t=M.be t:=fun t h=>by simp[Map.eK];omega
 have da:(M.eK s.au.length (some (b,cap,size))).be s.au.length=some (b,cap,size):=by simp[Map.eK]
 have le:Le M s (M.eK s.au.length (some (b,cap,size))) {s with au:=s.au++ [some n]}:=
  ⟨fun _ _ _ h=>h,Nat.le_refl _,fun _ _=> .refl _,by simp,fun t k h e=>by
   rw[List.getElem?_append_left h]at e
   exact⟨k,e,Nat.le_refl _,fun _=>hold t h⟩⟩
 refine⟨⟨r.comm,fun o ds e=>?_,r.jD,r.inj,fun t k e=>?_,fun t b' c z o hl e nB=>?_,fun t t' b' c z c' z' h h' e e'=>?_⟩,le⟩
 ·obtain⟨fy,T',h3,h4,h5,h6⟩:=r.obj o ds e
  exact⟨fy,T',h3,h4,h5,fun i d v e1 e2=>(h6 i d v e1 e2).mono le⟩
 ·rcases Nat.lt_or_ge t s.au.length with h | h
  ·rw [List.getElem?_append_left h]at e
   rw[hold t h];exact r.tok t k e
  ·have:=(List.getElem?_eq_some_iff.1 e).1
   simp at this
   have:t=s.au.length:=by omega
   subst this
   simp at e;subst e
   exact .inr ⟨b,cap,size,vs,T,da,hb,dL,hn,hG,hy⟩
 ·rcases ix t hl with h | h
  ·rw[hold t (hD t h)]at e;exact r.fa t b' c z o h e nB
  ·subst h;rw[da]at e;cases e;exact ho o nB
 ·rcases ix t h with h | h <;> rcases ix t' h' with h' | h'
  ·rw[hold t (hD t h)]at e;rw[hold t' (hD t' h')]at e';exact r.fM t t' b' c z c' z' h h' e e'
  ·subst h';rw[da]at e';cases e';rw[hold t (hD t h)]at e;exact(ht t c z h e).elim
  ·subst h;rw[da]at e;cases e;rw[hold t' (hD t' h')]at e';exact(ht t' c' z' h' e').elim
  ·omega
theorem Rel.aei (r:Rel M s w) (t n n' b cap size:Nat) (vs:Array Value) (T:TypeId) (DP:s.au[t]? = some (some n)) (hnn:n<n') (hb:w.heap[b]? = some (.cells vs T (0,0))) (dL:vs.size=cap*zs size) (hn:n'≤cap) (hy:size=0→T=ph)
 (hG : ∀ off,n'*zs size≤off→M.G b off=none) (ho : ∀ o,o<s.ah.length→M.mu o≠b) (ht : ∀ t c z,s.live t→M.be t≠some (b,c,z)) :
 Rel (M.eK t (some (b,cap,size))) {s with au:=s.au.set t (some n')} w∧Le M s (M.eK t (some (b,cap,size))) {s with au:=s.au.set t (some n')}:=by
 have ug:t<s.au.length:=(List.getElem?_eq_some_iff.1 DP).1
 have ix : ∀ q,St.live {s with au:=s.au.set t (some n')} q→s.live q:=by
  rintro q ⟨k,hk⟩
  rw[List.getElem?_set]at hk
  split at hk
  ·rename_i h;subst h;exact⟨n,DP⟩
  ·exact⟨k,hk⟩
 have hold : ∀ q,q≠t→(M.eK t (some (b,cap,size))).be q=M.be q:=fun q h=>by simp[Map.eK,h]
 have da:(M.eK t (some (b,cap,size))).be t=some (b,cap,size):=by simp[Map.eK]
 have le:Le M s (M.eK t (some (b,cap,size))) {s with au:=s.au.set t (some n')}:=
  ⟨fun _ _ _ h=>h,Nat.le_refl _,fun _ _=> .refl _,by simp,fun q k h e=>by
   rw[List.getElem?_set]at e
   split at e
   ·rename_i h2;subst h2
    simp at e;subst e
    exact⟨n,DP,by omega,fun h=>by omega⟩
   ·rename_i h2
    exact⟨k,e,Nat.le_refl _,fun _=>hold q (fun h=>h2 h.symm)⟩⟩
 refine⟨⟨r.comm,fun o ds e=>?_,r.jD,r.inj,fun q k e=>?_,fun q b' c z o hl e nB=>?_,fun q q' b' c z c' z' h h' e e'=>?_⟩,le⟩
 ·obtain⟨fy,T',h3,h4,h5,h6⟩:=r.obj o ds e
  exact⟨fy,T',h3,h4,h5,fun i d v e1 e2=>(h6 i d v e1 e2).mono le⟩
 ·rw [List.getElem?_set]at e
  split at e
  ·rename_i h2;subst h2
   simp at e;subst e
   exact .inr ⟨b,cap,size,vs,T,da,hb,dL,hn,hG,hy⟩
  ·rename_i h2
   rw[hold q (fun h=>h2 h.symm)];exact r.tok q k e
 ·by_cases h:q=t
  ·subst h;rw[da]at e;cases e;exact ho o nB
  ·rw[hold q h]at e;exact r.fa q b' c z o (ix q hl) e nB
 ·by_cases h1:q=t <;> by_cases h2:q'=t
  ·omega
  ·subst h1;rw[da]at e;cases e;rw[hold q' h2]at e';exact(ht q' c' z' (ix q' h') e').elim
  ·subst h2;rw[da]at e';cases e';rw[hold q h1]at e;exact(ht q c z (ix q h) e).elim
  ·rw[hold q h1]at e;rw[hold q' h2]at e';exact r.fM q q' b' c z c' z' (ix q h) (ix q' h') e e'
def Map.fix (M:Map) (b lo:Nat) (us:List Value):Map:=
 {M with G:=fun b' o=>if b'=b∧lo≤o∧o<lo+us.length then us[o - lo]? else M.G b' o}
theorem Rel.aej (r:Rel M s w) (t n m b cap z size:Nat) (us:List Value) (hz:zs z=size) (DP:s.au[t]? = some (some n)) (kB:M.be t=some (b,cap,z)) (Cq:us.length=m*size) (qH:n+m≤cap) (hm:0<m)
 (h1 : ∀ u∈us,u.oneCell'=true) (vs:Array Value) (T:TypeId) (hh:w.heap[b]? = some (.cells vs T (0,0))) (dL:vs.size=cap*size) (hy:z=0→T=ph) :
 Rel (M.fix b (n*size) us) {s with au:=s.au.set t (some (n+m))} (w.setRow b (vs.toList.take (n*size)++us++vs.toList.drop (n*size+us.length)).toArray)∧
 Ext M s w (M.fix b (n*size) us) {s with au:=s.au.set t (some (n+m))} (w.setRow b (vs.toList.take (n*size)++us++vs.toList.drop (n*size+us.length)).toArray):=by
 have ug:t<s.au.length:=(List.getElem?_eq_some_iff.1 DP).1
 have xC:s.live t:=⟨n,DP⟩
 have Mh : ∀ off,n*size≤off→M.G b off=none:=by
  rcases r.tok t n DP with ⟨h3,_⟩|⟨b',qj,yy,fy,T',h3,h4,h5,h6,h7⟩
  ·rw[kB]at h3;cases h3
  ·rw[kB]at h3;cases h3;rw[← hz];exact h7.1
 have jf:n*size+us.length≤vs.size:=by rw[Cq,dL, ← Nat.add_mul];exact Nat.mul_le_mul_right _ qH
 have ix : ∀ q,St.live {s with au:=s.au.set t (some (n+m))} q→s.live q:=by
  rintro q ⟨k,hk⟩
  rw[List.getElem?_set]at hk
  split at hk
  ·rename_i h;subst h;exact xC
  ·exact⟨k,hk⟩
 generalize da:(vs.toList.take (n*size)++us++vs.toList.drop (n*size+us.length)).toArray=iO
 have qG:iO.size=vs.size:=by rw[← da];simp;omega
 have hY : ∀ i,iO[i]? = if i<n*size then vs[i]? else if i<n*size+us.length then us[i - n*size]? else vs[i]? :=by
  intro i
  rw[← da]
  simp only[List.getElem?_toArray]
  have hl:(vs.toList.take (n*size)).length=n*size:=by simp;omega
  split
  ·rename_i h3
   rw[List.append_assoc,List.getElem?_append_left (by omega),List.getElem?_take_of_lt h3];simp
  ·rename_i h3
   rw[List.append_assoc,List.getElem?_append_right (by omega),hl]
   split
   ·rename_i h4
    rw[List.getElem?_append_left (by omega)]
   ·rename_i h4
    rw[List.getElem?_append_right (by omega),List.getElem?_drop]
    rw[show n*size+us.length+(i - n*size - us.length)=i by omega];simp
 have dT:(w.setRow b iO).heap[b]? = some (.cells iO T (0,0)):=setRow_heap w b vs iO T (0,0) hh
 have lS : ∀ q,q≠b→(w.setRow b iO).heap[q]? = w.heap[q]? :=fun q hq=>setRow_other w b q _ hq
 have le:Le M s (M.fix b (n*size) us) {s with au:=s.au.set t (some (n+m))}:=by
  refine⟨fun b' o v h=>?_,Nat.le_refl _,fun _ _=> .refl _,by simp,fun q k h e=>?_⟩
  ·show(if b'=b∧n*size≤o∧o<n*size+us.length then us[o - n*size]? else M.G b' o)=some v
   rw[if_neg]
   ·exact h
   ·rintro⟨rfl,h3,_⟩;rw[Mh o h3]at h;cases h
  ·rw [List.getElem?_set]at e
   split at e
   ·rename_i h2;subst h2
    simp at e;subst e
    exact⟨n,DP,by omega,fun h=>by omega⟩
   ·exact⟨k,e,Nat.le_refl _,fun _=>rfl⟩
 have pT : ∀ b' o,b'≠b→(M.fix b (n*size) us).G b' o=M.G b' o:=fun b' o h=>by simp[Map.fix,h]
 refine⟨⟨fun b' o v e=>?_,fun o ds e=>?_,fun o ho off=>?_,r.inj,fun q k e=>?_,fun q b' c z o hl e nB=>r.fa q b' c z o (ix q hl) e nB,
  fun q q' b' c z c' z' h h' e e'=>r.fM q q' b' c z c' z' (ix q h) (ix q' h') e e'⟩, ?_⟩
 ·by_cases hb:b'=b
  ·subst hb
   rw[iZ dT,hY]
   have e':(if b'=b'∧n*size≤o∧o<n*size+us.length then us[o - n*size]? else M.G b' o)=some v:=e
   by_cases h3:n*size≤o
   ·by_cases h4:o<n*size+us.length
    ·rw [if_pos ⟨rfl,h3,h4⟩]at e'
     rw[if_neg (by omega),if_pos h4]
     exact⟨e',h1 v (List.mem_of_getElem? e')⟩
    ·rw[if_neg (fun h=>h4 h.2.2),Mh o h3]at e';cases e'
   ·rw [if_neg (fun h=>h3 h.2.1)]at e'
    obtain⟨h5,h6⟩:=r.comm b' o v e'
    rw[iZ hh]at h5
    rw[if_pos (by omega)]
    exact⟨h5,h6⟩
  ·rw [pT b' o hb]at e
   obtain⟨h5,h6⟩:=r.comm b' o v e
   refine⟨?_,h6⟩
   rw[← h5]
   simp[World.cell?,lS b' hb]
 ·obtain⟨fy,T',h3,h4,h5,h6⟩:=r.obj o ds e
  have ho:o<s.ah.length:=(List.getElem?_eq_some_iff.1 e).1
  refine⟨fy,T', ?_,h4,h5,fun i d v e1 e2=>(h6 i d v e1 e2).mono le⟩
  exact h3.keep (lS _ (r.fa t b cap z o xC kB ho))
 ·show(M.fix b (n*size) us).G (M.mu o) off=none
  rw[pT _ _ (r.fa t b cap z o xC kB ho)];exact r.jD o ho off
 ·rw [List.getElem?_set]at e
  split at e
  ·rename_i h2;subst h2
   simp at e;subst e
   refine .inr ⟨b,cap,z,iO,T,kB,dT,by rw[qG,dL,hz],qH,fun off ho=>?_,hy⟩
   rw[hz]at ho
   show(if b=b∧n*size≤off∧off<n*size+us.length then us[off - n*size]? else M.G b off)=none
   rw[Nat.add_mul]at ho
   rw[if_neg (by rintro⟨_,_,h⟩;omega)]
   exact Mh off (by omega)
  ·rename_i h2
   rcases r.tok q k e with h3|⟨b',qj,yy,fy,T',h3,h4,h5,h6,h7⟩
   ·exact .inl h3
   ·have eA:b'≠b:=fun h=>h2 (r.fM t q b cap z qj yy xC ⟨k,e⟩ kB (by rw [h3,h]))
    exact .inr ⟨b',qj,yy,fy,T',h3,by rw[lS b' eA];exact h4,h5,h6,fun off ho=>by rw[pT b' off eA];exact h7.1 off ho,h7.2⟩
 ·refine⟨le,fun q _ _ h4=>lS q (fun h=>h4 t cap z xC (by rw [kB,h])),fun o h3 h4=>by simp at h4;rcases h3 with h3 | h3;omega;exact(h3 rfl).elim,fun q b' c z h e=> .inl ⟨ix q h,c,z,e⟩,fun b' o h=> ?_,by simp,rfl,rfl,rfl⟩
  by_cases hb:b'=b
  ·exact .inr ⟨t,cap,z,xC,by rw[kB,hb]⟩
  ·exact(h (pT b' o hb)).elim
theorem Rel.freeze (r:Rel M s w) {b:Nat} (off n:Nat) (ho : ∀ o,o<s.ah.length→M.mu o≠b) (ht : ∀ t c z,s.live t→M.be t≠some (b,c,z)) :
 Rel M s (w.freeze ⟨b,off,none⟩ n)∧(∀ q,q≠b→(w.freeze ⟨b,off,none⟩ n).heap[q]? = w.heap[q]?)∧(w.freeze ⟨b,off,none⟩ n).heap.size=w.heap.size∧
 (w.freeze ⟨b,off,none⟩ n).os=w.os∧(w.freeze ⟨b,off,none⟩ n).tape=w.tape∧(w.freeze ⟨b,off,none⟩ n).output=w.output:=by
 by_cases hn:n=0
 ·simp[World.freeze,hn,r]
 ·have hh : ∀ q,q≠b→(w.freeze ⟨b,off,none⟩ n).heap[q]? = w.heap[q]? :=fun q hq=>by
   simp[World.freeze,hn,Array.getElem?_modify,Ne.symm hq]
  have iy : ∀ q o,(w.freeze ⟨b,off,none⟩ n).cell? ⟨q,o,none⟩=w.cell? ⟨q,o,none⟩:=by
   intro q o
   by_cases hq:q=b
   ·subst hq
    unfold World.cell?
    simp only[World.freeze,hn,if_false,Array.getElem?_modify,if_true]
    cases h:w.heap[q]? with
    |none=>rfl
    |some x=>cases x<;>rfl
   ·simp[World.cell?,hh q hq]
  refine⟨⟨fun q o v e=>?_,fun o ds e=>?_,r.jD,r.inj,fun t k e=>?_,r.fa,r.fM⟩,hh,by simp[World.freeze,hn],by simp[World.freeze,hn],by simp[World.freeze,hn],by simp[World.freeze,hn]⟩
  ·rw[iy];exact r.comm q o v e
  ·obtain⟨vs,T,h1,h2⟩:=r.obj o ds e
   exact⟨vs,T,h1.keep (hh _ (ho o (List.getElem?_eq_some_iff.1 e).1)),h2⟩
  ·rcases r.tok t k e with h3 | ⟨b',cap,size,vs,T,h3,h4,h5⟩
   ·exact .inl h3
   ·refine .inr ⟨b',cap,size,vs,T,h3, ?_,h5⟩
    rw[hh]
    ·exact h4
    ·rintro rfl;exact ht t cap size ⟨k,e⟩ h3
theorem Rel.aek (r:Rel M s w) (t:Nat):Rel M {s with au:=s.au.set t none} w∧Le M s M {s with au:=s.au.set t none}:=by
 have ix : ∀ q,St.live {s with au:=s.au.set t none} q→s.live q:=by
  rintro q ⟨k,hk⟩
  rw[List.getElem?_set]at hk
  split at hk
  ·split at hk<;>simp at hk
  ·exact⟨k,hk⟩
 have tz : ∀ (q k:Nat),(s.au.set t none)[q]? = some (some k)→s.au[q]? = some (some k):=by
  intro q k e
  rw[List.getElem?_set]at e
  split at e
  ·split at e<;>simp at e
  ·exact e
 have le:Le M s M {s with au:=s.au.set t none}:=
  ⟨fun _ _ _ h=>h,Nat.le_refl _,fun _ _=> .refl _,by simp,fun q k _ e=>⟨k,tz q k e,Nat.le_refl _,fun _=>rfl⟩⟩
 refine⟨⟨r.comm,fun o ds e=>?_,r.jD,r.inj,fun q k e=>r.tok q k (tz q k e),fun q b' c z o hl e nB=>r.fa q b' c z o (ix q hl) e nB,
  fun q q' b' c z c' z' h h' e e'=>r.fM q q' b' c z c' z' (ix q h) (ix q' h') e e'⟩,le⟩
 obtain⟨fy,T',h3,h4,h5,h6⟩:=r.obj o ds e
 exact⟨fy,T',h3,h4,h5,fun i d v e1 e2=>(h6 i d v e1 e2).mono le⟩
end
end Go.Abs
namespace Go.Abs
section
variable {M:Map} {s:St} {w:World}
theorem RD.gV {k:IntKind} {n:Int} {v:Value} (h:RD M s (.int k n) v):v = .int k n:=by cases h;rfl
theorem RD.nK {b:Bool} {v:Value} (h:RD M s (.bool b) v):v = .bool b:=by cases h;rfl
theorem RD.la {l:List UInt8} {v:Value} (h:RD M s (.str l) v):v = .string ⟨⟨l⟩⟩:=by cases h;rfl
theorem RD.rR {v:Value} (h:RD M s .dO v):v = .pointer none:=by cases h;rfl
theorem RD.rS {o off:Nat} {v:Value} (h:RD M s (.ptr o off) v):v = .pointer (some ⟨M.mu o,off,none⟩)∧o<s.ah.length:=by
 cases h with|ptr _ _ h hm=>exact⟨rfl,h⟩
theorem RD.Ax {o off:Nat} {v:Value} (h:RD M s (.ptr o off) v):(M.ob o).plain:=by cases h with|ptr _ _ h hm=>exact hm
theorem RD.HX {o:Nat} {v:Value} (h:RD M s (.fL o) v):v = .map (some (M.mu o))∧o<s.ah.length∧M.ob o = .map:=by cases h with|fL _ h hm=>exact⟨rfl,h,hm⟩
theorem RD.xD {z o g len:Nat} {v:Value} (h:RD M s (.dZ z o g len) v) : ∃ b cap A,v = .slice (some ⟨b,0,none⟩) len cap∧o<s.ah.length∧M.ob o = .arr z A∧A g=some (b,cap)∧len≤cap:=by
 cases h with|dZ _ _ _ _ b cap A h hm ha hl=>exact⟨b,cap,A,rfl,h,hm,ha,hl⟩
theorem RD.CW {o g off:Nat} {v:Value} (h:RD M s (.fi o g off) v) : ∃ z b cap A,v = .pointer (some ⟨b,off,none⟩)∧o<s.ah.length∧M.ob o = .arr z A∧A g=some (b,cap):=by
 cases h with|fi z _ _ _ b cap A h hm ha=>exact⟨z,b,cap,A,rfl,h,hm,ha⟩
theorem RD.CX {z:Nat} {v:Value} (h:RD M s (.dX z) v) : ∃ a,v = .slice a 0 0:=by cases h with|dX _ a=>exact⟨a,rfl⟩
theorem RD.Lb {f:Nat} {ds:List D} {v:Value} (h:RD M s (.fV f ds) v) : ∃ vs:Array Value,v = .func (.func f) #[] vs∧ds.length=vs.size∧
 ∀ (i:Nat) (d:D) (v:Value),ds[i]? = some d→vs[i]? = some v→RD M s d v:=by
 cases h with|fV _ _ vs h1 h2=>exact⟨vs,rfl,h1,h2⟩
theorem RD.yz {row:List D} {off:Nat} {v:Value} (h:RD M s (.dt row off) v) : ∃ b k,v = .pointer (some ⟨b,k+off,none⟩)∧
 (∀ (i:Nat) (d:D),row[i]? = some d→∃ u,M.G b (k+i)=some u)∧(∀ (i:Nat) (d:D) (u:Value),row[i]? = some d→M.G b (k+i)=some u→RD M s d u):=by
 cases h with|dt _ _ b k h1 h2=>exact⟨b,k,rfl,h1,h2⟩
theorem RD.E4 {ds:List D} {v:Value} (h:RD M s (.agg ds) v) : ∃ vs:Array Value,v = .agg vs∧ds.length=vs.size∧(∀ v∈vs,v.oneCell'=true)∧
 ∀ (i:Nat) (d:D) (v:Value),ds[i]? = some d→vs[i]? = some v→RD M s d v:=by
 cases h with|agg _ vs h1 h2 h3=>exact⟨vs,rfl,h1,h2,h3⟩
theorem RD.F1 {ds:List D} {v:Value} (h:RD M s (.tuple ds) v) : ∃ vs:Array Value,v = .tuple vs∧ds.length=vs.size∧
 ∀ (i:Nat) (d:D) (v:Value),ds[i]? = some d→vs[i]? = some v→RD M s d v:=by
 cases h with|tuple _ vs h1 h2=>exact⟨vs,rfl,h1,h2⟩
theorem RD.undef:RD M s (.tuple []) Go.undef:= .tuple [] #[] rfl (fun i d v h=>by simp at h)
theorem RD.jb {g:Tag} {z:Nat} {rows:List (List D)} {v:Value} (h:RD M s (.slice g z rows) v) :
 (rows = []∧v = .slice none 0 0∧iI M s g z 0 none 0)∨(rows = []∧g = .shared∧∃ a cap,v = .slice (some a) 0 cap)∨
 ∃ b k cap,v = .slice (some ⟨b,k,none⟩) rows.length cap∧rows.length≤cap∧(∀ row∈rows,row.length=z)∧
  (∀ (i:Nat) (row:List D) (j:Nat) (d:D),rows[i]? = some row→row[j]? = some d→∃ u,M.G b (k+(i*z+j))=some u)∧
  (∀ (i:Nat) (row:List D) (j:Nat) (d:D) (u:Value),rows[i]? = some row→row[j]? = some d→M.G b (k+(i*z+j))=some u→RD M s d u)∧
  iI M s g z rows.length (some (b,k)) cap:=by
 cases h with
 |iG _ _ cap hc ht=>subst hc;exact .inl ⟨rfl,rfl,ht⟩
 |lh _ a cap=>exact .inr (.inl ⟨rfl,rfl,a,cap,rfl⟩)
 |slice _ _ _ b k cap hl hs h1 h2 ht=>exact .inr (.inr ⟨b,k,cap,rfl,hl,hs,h1,h2,ht⟩)
theorem RD.row {d:D} {v:Value} (h:RD M s d v) {r:List D} (hr:d.row=some r):v.cells.size=r.length∧(∀ u∈v.cells,u.oneCell'=true)∧
 ∀ (i:Nat) (d':D) (u:Value),r[i]? = some d'→v.cells[i]? = some u→RD M s d' u:=by
 have one : ∀ (x:Value),x.oneCell'=true→x.cells = #[x]:=by intro x hx;cases x<;>first|rfl|(simp[Value.oneCell']at hx)
 have go : ∀ (x:Value),x.oneCell'=true→RD M s d x→d.row=some [d]→x.cells.size=r.length∧(∀ u∈x.cells,u.oneCell'=true)∧
  ∀ (i:Nat) (d':D) (u:Value),r[i]? = some d'→x.cells[i]? = some u→RD M s d' u:=by
  intro x hx hd h1
  rw[h1]at hr;cases hr
  rw[one x hx]
  refine⟨rfl,by simp[hx],fun i d' u e1 e2=>?_⟩
  cases i with
  |zero=>simp at e1 e2;subst e1;subst e2;exact hd
  |succ i=>simp at e1
 cases h with
 |junk v=>cases hr
 |int k n=>exact go _ rfl (.int k n) rfl
 |bool b=>exact go _ rfl (.bool b) rfl
 |str l=>exact go _ rfl (.str l) rfl
 |dO=>exact go _ rfl .dO rfl
 |val v hv=>exact go _ hv (.val v hv) rfl
 |fh T o v h ht hv=>exact go _ (by rcases hv with rfl|rfl<;>rfl) (.fh T o v h ht hv) rfl
 |ptr o off h hm=>exact go _ rfl (.ptr o off h hm) rfl
 |fV f ds vs hl h=>exact go _ rfl (.fV f ds vs hl h) rfl
 |fL o h hm=>exact go _ rfl (.fL o h hm) rfl
 |dt row off b k h1 h2=>exact go _ rfl (.dt row off b k h1 h2) rfl
 |iG g z cap hc ht=>exact go _ rfl (.iG g z cap hc ht) rfl
 |lh z a cap=>exact go _ rfl (.lh z a cap) rfl
 |slice g z rows b k cap hl hs h1 h2 ht=>exact go _ rfl (.slice g z rows b k cap hl hs h1 h2 ht) rfl
 |dZ z o g len b cap A h hm ha hl=>exact go _ rfl (.dZ z o g len b cap A h hm ha hl) rfl
 |fi z o g off b cap A h hm ha=>exact go _ rfl (.fi z o g off b cap A h hm ha) rfl
 |dX z a=>exact go _ rfl (.dX z a) rfl
 |agg cells vs hl h1 h2=>cases hr;exact⟨hl.symm,h1,h2⟩
 |tuple ds vs hl h1=>cases hr
theorem qb {v:Value} {d:D} (h:rP v=some d):RD M s d v∧v.oneCell'=true:=by
 unfold rP at h
 split at h<;>first|(cases h;done)|skip
 ·cases h;exact⟨.int _ _,rfl⟩
 ·cases h;exact⟨.bool _,rfl⟩
 ·cases h;exact⟨.str _,rfl⟩
 ·cases h;exact⟨.dO,rfl⟩
 ·cases h;exact⟨.iG _ _ 0 rfl rfl,rfl⟩
 ·cases h;exact⟨.val _ rfl,rfl⟩
 ·cases h;exact⟨.val _ rfl,rfl⟩
 ·cases h;exact⟨.val _ rfl,rfl⟩
theorem lb : ∀ {vs:List Value} {ds:List D},nJ vs=some ds→ds.length=vs.length∧(∀ v∈vs,v.oneCell'=true)∧
 ∀ (i:Nat) (d:D) (v:Value),ds[i]? = some d→vs[i]? = some v→RD M s d v
 | [],ds,h=>by cases h;exact⟨rfl,by simp,by simp⟩
 | v::r,ds,h=>by
  unfold nJ at h
  split at h
  ·rename_i d nA h1 h2
   cases h
   obtain⟨a,b⟩:=qb (M:=M) (s:=s) h1
   obtain⟨i1,i2,i3⟩:=lb h2
   refine⟨by simp[i1],fun u hu=>?_,fun i d' u e1 e2=>?_⟩
   ·rcases List.mem_cons.1 hu with rfl | hu
    ·exact b
    ·exact i2 u hu
   ·cases i with
    |zero=>simp at e1 e2;subst e1;subst e2;exact a
    |succ i=>simp at e1 e2;exact i3 i d' u e1 e2
  ·cases h
theorem E5 {v:Value} {d:D} (h:CS v=some d):RD M s d v∧v.oneCell'=true:=by
 unfold CS at h
 split at h
 ·cases h;exact⟨.val _ rfl,rfl⟩
 ·exact qb h
theorem vT : ∀ {vs:List Value} {ds:List D},vS vs=some ds→ds.length=vs.length∧(∀ v∈vs,v.oneCell'=true)∧
 ∀ (i:Nat) (d:D) (v:Value),ds[i]? = some d→vs[i]? = some v→RD M s d v
 | [],ds,h=>by cases h;exact⟨rfl,by simp,by simp⟩
 | v::r,ds,h=>by
  unfold vS at h
  split at h
  ·rename_i d nA h1 h2
   cases h
   obtain⟨g1,g2⟩:=E5 (M:=M) (s:=s) h1
   obtain⟨k1,k2,k3⟩:=vT h2
   refine⟨by simp[k1],fun u hu=>?_,fun i d' u e1 e2=>?_⟩
   ·rcases List.mem_cons.1 hu with rfl | hu
    ·exact g2
    ·exact k2 u hu
   ·cases i with
    |zero=>simp at e1 e2;subst e1;subst e2;exact g1
    |succ i=>exact k3 i d' u (by simpa using e1) (by simpa using e2)
  ·cases h
theorem Cr {b:Bool} {vs:List Value} {ds:List D} (h:Me b vs=some ds):ds.length=vs.length∧(∀ v∈vs,v.oneCell'=true)∧
 ∀ (i:Nat) (d:D) (v:Value),ds[i]? = some d→vs[i]? = some v→RD M s d v:=by
 unfold Me at h
 split at h
 ·exact vT h
 ·exact lb h
theorem Mi {v:Value} {d:D} (h:Mb v=some d):RD M s d v:=by
 unfold Mb at h
 split at h
 ·rename_i cs
  cases hc:nJ cs.toList with
  |none=>rw[hc]at h;cases h
  |some ds=>
   rw[hc]at h;cases h
   obtain⟨h1,h2,h3⟩:=lb (M:=M) (s:=s) hc
   exact .agg ds cs (by simpa using h1) (fun v hv=>h2 v (by simpa using hv)) (fun i d v e1 e2=>h3 i d v e1 (by simpa using e2))
 ·cases h;exact .undef
 ·exact(qb h).1
def lT (M:Map) (s:St) (tm:Tm) (tmps:Array Value):Prop:=∀ t,RD M s (tm.get t) (tmps.getD t Go.undef)
theorem lT.mono {M':Map} {s':St} {tm:Tm} {tmps:Array Value} (h:lT M s tm tmps) (le:Le M s M' s'):lT M' s' tm tmps:=fun t=>(h t).mono le
theorem bP {x:Operand} {y:X} (h:cX x=some y) {tm:Tm} {act:Act} (hr:lT M s tm act.tmps):RD M s (y.ev tm) (act.eval x):=by
 unfold cX at h
 split at h
 ·cases h;exact hr _
 ·rename_i v
  cases hv:Mb v with
  |none=>rw[hv]at h;cases h
  |some d=>rw[hv]at h;cases h;exact Mi hv
 ·cases h;exact .fV _ [] #[] rfl (by simp)
 ·cases h
theorem Tm.E6 (tm:Tm) (t:Nat) (d:D) (u:Nat):(tm.set t d).get u=if u=t then d else tm.get u:=by
 induction tm with
 |nil=>
  simp only[Tm.set,Tm.get]
  by_cases h:t=u
  ·simp[h]
  ·rw[if_neg h,if_neg (fun e=>h e.symm)]
 | cons p r ih=>
  obtain⟨k,e⟩:=p
  simp only[Tm.set]
  split
  ·rename_i h
   subst h
   simp only[Tm.get]
   by_cases h:k=u
   ·simp[h]
   ·rw[if_neg h,if_neg (fun e=>h e.symm),if_neg h]
  ·rename_i h
   simp only[Tm.get,ih]
   by_cases h1:k=u
   ·subst h1;simp[h]
   ·simp[h1]
theorem lT.put {tm:Tm} {act:Act} (h:lT M s tm act.tmps) {dst:Option Nat} (hd : ∀ t,dst=some t→t<act.tmps.size) {d:D} {v:Value} (hv:RD M s d v) :
 lT M s (tm.put dst d) (act.put dst v).tmps:=by
 intro u
 cases dst with
 |none=>exact h u
 | some t=>
  simp only[Tm.put,Act.put,Tm.E6]
  have ht:=hd t rfl
  by_cases hu:u=t
  ·subst hu
   simp[ht];exact hv
  ·rw [if_neg hu]
   have:=h u
   simpa[Array.getElem?_setIfInBounds_ne (fun e=>hu e.symm)]using this
theorem fO (P:Program) {t:TypeId} {i:TypeInfo} (h:P.info? t=some i) (w:World):(typeInfo t).run P w = .ok i w:=by
 simp[typeInfo,h]
theorem mg (b o n:Nat):Addr.add ⟨b,o,none⟩ n = ⟨b,o+n,none⟩:=Addr.add_lit b o n
theorem yA (P:Program) {t:TypeId} {i:TypeInfo} {agg:Bool} (hi:P.info? t=some i) (ha:qD P t=some agg) (b k:Nat) (us:List Value)
 (hl:us.length=if agg then i.size else 1) (h : ∀ (j:Nat) (u:Value),us[j]? = some u→w.cell? ⟨b,k+j,none⟩=some u) :
 (loadVar t ⟨b,k,none⟩).run P w = .ok (if agg then .agg us.toArray else us.getD 0 Go.undef) w:=by
 have Ay:(isAgg t).run P w = .ok agg w:=by
  unfold qD at ha
  unfold isAgg
  cases hu:P.underlying t with
  |none=>rw[hu]at ha;cases ha
  |some d=>
   rw[hu]at ha
   simp only[Sem.run_bind,run_underlying hu,Result.andThen_ok]
   cases d<;>simp_all
 cases agg with
 |true=>
  simp only[if_true]at hl ⊢
  have hc:=run_loadCells_list (P:=P) w ⟨b,k,none⟩ us (fun j v e=>by rw[mg];exact h j v e)
  simp[loadVar,Ay,sizeOf,fO P hi, ← hl,hc]
 | false=>
  simp only[Bool.false_eq_true,if_false]at hl ⊢
  match us,hl with
  | [u],_=>
   have:=h 0 u rfl
   simp only[Nat.add_zero]at this
   simp[loadVar,Ay,this]
theorem qu {cs:List D} {off:Nat} {agg:Bool} {size:Nat} {d:D} (h:part cs off agg size=some d) :
 (agg=true∧off+size≤cs.length∧d = .agg ((cs.drop off).take size))∨(agg=false∧cs[off]? = some d):=by
 unfold part at h
 split at h
 ·split at h
  ·cases h;exact .inl ⟨rfl, ‹_›,rfl⟩
  ·cases h
 ·exact .inr ⟨rfl,h⟩
theorem qI {cs:List D} {off size:Nat} {agg:Bool} {d:D} (h:part cs off agg size=some d) (us:List Value) (hl:us.length=if agg then size else 1)
 (gM:agg=true→∀ u∈us,u.oneCell'=true)
 (hr : ∀ (j:Nat) (d:D) (u:Value),cs[off+j]? = some d→us[j]? = some u→RD M s d u):RD M s d (if agg then .agg us.toArray else us.getD 0 Go.undef):=by
 rcases qu h with ⟨rfl,h1,rfl⟩|⟨rfl,h1⟩
 ·simp only [if_true]at hl ⊢
  refine .agg _ _ (by simp[hl];omega) (fun v hv=>gM rfl v (by simpa using hv)) (fun i d v e1 e2=>?_)
  rw[List.getElem?_take]at e1
  split at e1
  ·rw [List.getElem?_drop]at e1
   exact hr i d v e1 (by simpa using e2)
  ·cases e1
 ·simp only [Bool.false_eq_true,if_false]at hl ⊢
  match us,hl with
  | [u],_=>exact hr 0 d u (by simpa using h1) rfl
end
end Go.Abs
namespace Go.Abs
def cG (P:Program) (M:Map) (s:St) (w:World) (x:Sem Next) (d:D) (s':St):Prop:=
 ∃ v w' M',(x.run P w = .ok (.value v) w'∨(x.run P w = .ok .skip w'∧v=Go.undef))∧Rel M' s' w'∧RD M' s' d v∧Ext M s w M' s' w'
section
variable {P:Program} {M:Map} {s:St} {w:World}
theorem cG.pure {x:Sem Next} {d:D} {v:Value} (r:Rel M s w) (h:x.run P w = .ok (.value v) w) (hd:RD M s d v):cG P M s w x d s:=
 ⟨v,w,M, .inl h,r,hd,Ext.refl M s w⟩
theorem Mj (r:Rel M s w) {t:TypeId} {z:List D} (hz:zeroOf P t=some z) :
 cG P M s w (do pure (.value (← Instr.alloc t true (.tuple #[])))) (.ptr s.ah.length 0) {s with ah:=s.ah++ [z]}:=by
 unfold zeroOf at hz
 split at hz
 ·rename_i i hi
  split at hz
  ·rename_i v hv
   split at hz
   ·rename_i dL
    obtain⟨h1,h2,h3⟩:=lb (M:=M) (s:=s) hz
    obtain⟨r',e'⟩:=r.dK z v.cells t (by rw[h1];simp) (fun u hu=>h2 u (by simpa using hu)) (fun i d u e1 e2=>h3 i d u e1 (by simpa using e2))
    refine⟨_,_,_, .inl ?_,r', .ptr _ _ (by simp) (by simp[Map.dK,Map.ob,Ob.plain]),e'⟩
    simp[Instr.alloc,zeroValue,fO P hi,hv,newVar,newRow,Map.dK,Map.mu]
   ·cases hz
  ·cases hz
 ·cases hz
theorem Ki (r:Rel M s w) {t:TypeId} {z:List D} (hz:yx P t=some (.dO::z)) :
 cG P M s w (do pure (.value (← Instr.alloc t true (.tuple #[])))) (.ptr s.ah.length 0) {s with ah:=s.ah++ [.fh t s.ah.length::z]}:=by
 unfold yx at hz
 split at hz
 ·rename_i i hi
  split at hz
  ·rename_i v hv
   split at hz
   ·rename_i dL
    obtain⟨h1,h2,h3⟩:=Cr (M:=M) (s:=s) hz
    obtain⟨r',e'⟩:=r.HW (.fh t s.ah.length::z) v.cells t (.ty t) trivial (fun _ h=>by cases h;rfl) (by simp at h1 ⊢;omega) (fun u hu=>h2 u (by simpa using hu)) (fun i d u e1 e2=>by
     cases i with
     |zero=>
      simp at e1;subst e1
      have:=(h3 0 .dO u rfl (by simpa using e2)).rR
      exact .fh t _ u (by simp) (by simp[Map.dK,Map.ty,Ob.ty?]) (.inl this)
     |succ i=>exact(h3 (i+1) d u (by simpa using e1) (by simpa using e2)).mono (rQ s w.heap.size _ _))
    refine⟨_,_,_, .inl ?_,r', .ptr _ _ (by simp) (by simp[Map.dK,Map.ob,Ob.plain]),e'⟩
    simp[Instr.alloc,zeroValue,fO P hi,hv,newVar,newRow,Map.dK,Map.mu]
   ·cases hz
  ·cases hz
 ·cases hz
theorem SG (r:Rel M s w) {t:TypeId} {d:D} {v:Value} {row:List D} (hd:RD M s d v) (hr:d.row=some row) :
 cG P M s w (do pure (.value (← Instr.box t v))) (.ptr s.ah.length 0) {s with ah:=s.ah++ [row]}:=by
 obtain⟨h1,h2,h3⟩:=hd.row hr
 obtain⟨r',e'⟩:=r.dK row v.cells t h1 h2 h3
 refine⟨_,_,_, .inl ?_,r', .ptr _ _ (by simp) (by simp[Map.dK,Map.ob,Ob.plain]),e'⟩
 simp[Instr.box,newVar,newRow,Map.dK,Map.mu]
theorem PB (r:Rel M s w) {t:TypeId} {d:D} {v:Value} {row:List D} (hd:RD M s d v) (hr:d.row=some (.dO::row)) :
 cG P M s w (do pure (.value (← Instr.box t v))) (.ptr s.ah.length 0) {s with ah:=s.ah++ [.fh t s.ah.length::row]}:=by
 obtain⟨h1,h2,h3⟩:=hd.row hr
 obtain⟨r',e'⟩:=r.HW (.fh t s.ah.length::row) v.cells t (.ty t) trivial (fun _ h=>by cases h;rfl) (by simp at h1 ⊢;omega) h2 (fun i d u e1 e2=>by
  cases i with
  |zero=>
   simp at e1;subst e1
   have:=(h3 0 .dO u rfl e2).rR
   exact .fh t _ u (by simp) (by simp[Map.dK,Map.ty,Ob.ty?]) (.inl this)
  |succ i=>exact(h3 (i+1) d u (by simpa using e1) e2).mono (rQ s w.heap.size _ _))
 refine⟨_,_,_, .inl ?_,r', .ptr _ _ (by simp) (by simp[Map.dK,Map.ob,Ob.plain]),e'⟩
 simp[Instr.box,newVar,newRow,Map.dK,Map.mu]
theorem G8 (r:Rel M s w) {t:TypeId} {i:TypeInfo} {agg:Bool} (hi:P.info? t=some i) (ha:qD P t=some agg) {o off:Nat} {cs:List D} {d:D}
 (ho:s.ah[o]? = some cs) (hk:(M.ob o).plain) (hp:part cs off agg i.size=some d) :
 cG P M s w (do pure (.value (← Instr.loadAt t (.pointer (some ⟨M.mu o,off,none⟩))))) d s:=by
 obtain⟨vs,T,hh,dL,⟨gM,_⟩,jl⟩:=r.obj o cs ho
 replace hh:w.heap[M.mu o]? = some (.cells vs T (0,0)):=hh.cells hk
 let n:=if agg then i.size else 1
 have jf:off+n≤vs.size:=by
  rcases qu hp with ⟨rfl,h1,_⟩|⟨rfl,h1⟩
  ·simp[n];omega
  ·have:=(List.getElem?_eq_some_iff.1 h1).1;simp[n];omega
 have hlen:((vs.toList.drop off).take n).length=n:=by simp;omega
 have hY : ∀ (j:Nat) (u:Value),((vs.toList.drop off).take n)[j]? = some u→vs[off+j]? = some u:=by
  intro j u h
  rw[List.getElem?_take]at h
  split at h
  ·rw[List.getElem?_drop]at h;simpa using h
  ·cases h
 have dB:=yA (w:=w) P hi ha (M.mu o) off ((vs.toList.drop off).take n) hlen (fun j u h=>by rw[iZ hh];exact hY j u h)
 refine cG.pure (v:=if agg then .agg ((vs.toList.drop off).take n).toArray else((vs.toList.drop off).take n).getD 0 Go.undef) r (by simp[Instr.loadAt,Instr.sureAddr,dB]) ?_
 refine qI hp _ hlen (fun _ u hu=>gM u ?_) (fun j d u e1 e2=>jl _ d u e1 (hY j u e2))
 exact Array.mem_toList_iff.1 (List.mem_of_mem_drop (List.mem_of_mem_take hu))
theorem yB {b:Nat} : ∀ (n k:Nat),(∀ j,j<n→∃ u,M.G b (k+j)=some u)→∃ us:List Value,us.length=n∧∀ (j:Nat) (u:Value),us[j]? = some u→M.G b (k+j)=some u
 | 0,_,_=>⟨[],rfl,fun j u h=>by simp at h⟩
 |n+1,k,h=>by
  obtain⟨u0,h0⟩:=h 0 (by omega)
  obtain⟨us,h1,h2⟩:=yB n (k+1) (fun j hj=>by obtain⟨u,hu⟩:=h (j+1) (by omega);exact⟨u,by rw[show k+1+j=k+(j+1) by omega];exact hu⟩)
  refine⟨u0::us,by simp[h1],fun j u hj=>?_⟩
  cases j with
  |zero=>simp at hj;subst hj;exact h0
  |succ j=>simp at hj;have:=h2 j u hj;rw[show k+(j+1)=k+1+j by omega];exact this
theorem G9 (r:Rel M s w) {t:TypeId} {i:TypeInfo} {agg:Bool} (hi:P.info? t=some i) (ha:qD P t=some agg) {row:List D} {off b k:Nat} {d:D}
 (h1 : ∀ (i:Nat) (d:D),row[i]? = some d→∃ u,M.G b (k+i)=some u) (h2 : ∀ (i:Nat) (d:D) (u:Value),row[i]? = some d→M.G b (k+i)=some u→RD M s d u)
 (hp:part row off agg i.size=some d) :
 cG P M s w (do pure (.value (← Instr.loadAt t (.pointer (some ⟨b,k+off,none⟩))))) d s:=by
 let n:=if agg then i.size else 1
 have jf:off+n≤row.length:=by
  rcases qu hp with ⟨rfl,h1,_⟩|⟨rfl,h1⟩
  ·simp[n];omega
  ·have:=(List.getElem?_eq_some_iff.1 h1).1;simp[n];omega
 obtain⟨us,hl,Cq⟩:=yB (M:=M) (b:=b) n (k+off) (fun j hj=>by
  obtain⟨d,hd⟩ : ∃ d,row[off+j]? = some d:=⟨_,List.getElem?_eq_getElem (by omega)⟩
  obtain⟨u,hu⟩:=h1 _ d hd
  exact⟨u,by rw[show k+off+j=k+(off+j) by omega];exact hu⟩)
 have dB:=yA (w:=w) P hi ha b (k+off) us hl (fun j u h=>(r.comm _ _ _ (Cq j u h)).1)
 refine cG.pure (v:=if agg then .agg us.toArray else us.getD 0 Go.undef) r (by simp[Instr.loadAt,Instr.sureAddr,dB]) ?_
 refine qI hp us hl (fun _ u hu=>?_) (fun j d u e1 e2=>h2 _ d u e1 (by rw[show k+(off+j)=k+off+j by omega];exact Cq j u e2))
 obtain⟨j,hj⟩:=List.mem_iff_getElem?.1 hu
 exact(r.comm _ _ _ (Cq j u hj)).2
theorem Mk (r:Rel M s w) {t:TypeId} {i:TypeInfo} (hi:P.info? t=some i) {o off:Nat} {cs row:List D} {d:D} {v:Value} (ho:s.ah[o]? = some cs) (hk:(M.ob o).plain)
 (hd:RD M s d v) (hr:d.row=some row) (hl:row.length=i.size) (jf:off+i.size≤cs.length) :
 cG P M s w (do Instr.storeAt t (.pointer (some ⟨M.mu o,off,none⟩)) v;pure .skip) (.tuple []) {s with ah:=s.ah.set o (ie cs off row)}:=by
 obtain⟨h1,h2,h3⟩:=hd.row hr
 obtain⟨w',dB,r',e'⟩:=r.Mg P ho hk row v.cells.toList (by simpa using h1) (by rw[hl];exact jf) (fun u hu=>h2 u (by simpa using hu)) (fun i d u e1 e2=>h3 i d u e1 (by simpa using e2))
 refine⟨Go.undef,w',M, .inr ⟨?_,rfl⟩,r', .undef,e'⟩
 have dL:v.cells.size=i.size:=by omega
 simp[Instr.storeAt,Instr.sureAddr,storeVar,sizeOf,fO P hi,dL,dB]
theorem yC (r:Rel M s w) {d:D} {a:Addr} (hd:RD M s d (.pointer (some a))) :
 cG P M s w (pure (.value (.pointer (some a)))) d s:=cG.pure r rfl hd
theorem Az {t:TypeId} {f off size:Nat} {agg:Bool} (h:l9 P t f=some (off,size,agg)) (b k:Nat) :
 (Instr.fieldAt t (.pointer (some ⟨b,k,none⟩)) f).run P w = .ok (.pointer (some ⟨b,k+off,none⟩)) w:=by
 unfold l9 at h
 split at h
 ·rename_i fs hu
  split at h
  ·rename_i fd hf
   split at h
   ·rename_i i a hi ha
    split at h
    ·cases h
    ·rename_i eA
     cases h
     simp[Instr.fieldAt,run_underlying hu,hf,Instr.sureAddr,fieldPlace,sizeOf,fO P hi,eA,mg]
   ·cases h
  ·cases h
 ·cases h
theorem PC {t:TypeId} {f off size:Nat} {agg:Bool} (h:l9 P t f=some (off,size,agg)) (vs:Array Value) (us:List Value) (hl:us.length=if agg then size else 1)
 (hg : ∀ j,j<us.length→vs[off+j]? = us[j]?) :
 (Instr.field t (.agg vs) f).run P w = .ok (if agg then .agg us.toArray else us.getD 0 Go.undef) w:=by
 unfold l9 at h
 split at h
 ·rename_i fs hu
  split at h
  ·rename_i fd hf
   split at h
   ·rename_i i a hi ha
    split at h
    ·cases h
    ·rename_i eA
     cases h
     have Ay:(isAgg fd.type).run P w = .ok agg w:=by
      unfold qD at ha
      unfold isAgg
      cases hu:P.underlying fd.type with
      |none=>rw[hu]at ha;cases ha
      |some d=>
       rw[hu]at ha
       simp only[Sem.run_bind,run_underlying hu,Result.andThen_ok]
       cases d<;>simp_all
     cases agg with
     | true=>
      simp only[if_true]at hl ⊢
      have:vs.extract fd.offset (fd.offset+i.size)=us.toArray:=by
       apply Array.ext_getElem?
       intro j
       rw[Array.getElem?_extract]
       by_cases hj:j<us.length
       ·rw [← hl,if_pos (by
         have h1:=hg j hj
         rw[List.getElem?_eq_getElem hj]at h1
         have:=(Array.getElem?_eq_some_iff.1 h1).1
         have h2:=hg (us.length - 1) (by omega)
         rw[List.getElem?_eq_getElem (by omega)]at h2
         have:=(Array.getElem?_eq_some_iff.1 h2).1
         omega),hg j hj]
        simp
       ·have hn:us.toArray[j]? = none:=by simp;omega
        rw[hn,if_neg (by omega)]
      simp[Instr.field,run_underlying hu,hf,asAgg,Go.part,Ay,sizeOf,fO P hi,this]
     | false=>
      simp only[Bool.false_eq_true,if_false]at hl ⊢
      match us,hl with
      | [u],_=>
       have:=hg 0 (by simp)
       simp at this
       simp[Instr.field,run_underlying hu,hf,asAgg,Go.part,Ay,this]
   ·cases h
  ·cases h
 ·cases h
end
end Go.Abs
namespace Go.Abs
section
variable {P:Program} {M:Map} {s:St} {w:World}
theorem Ml {op : BinOp} {t : TypeId} {k : IntKind} {a b : Int} {d : D} (h : fW op k a b = some d) :
   ∃ v, (binOp op t (.int k a) (.int k b)).run P w = .ok v w ∧ RD M s d v := by
 cases op<;>simp only[fW]at h<;>first
   |(cases h; done)
   | (split at h
      · cases h
      · cases h
        exact ⟨_, by simp[binOp, Op.intDiv, *], .int _ _⟩)
   |(cases h; exact ⟨_, by simp[binOp, Op.intArith], .int _ _⟩)
   |(cases h; exact ⟨_, by simp[binOp, Op.intCmp], .bool _⟩)
theorem Mm {op:BinOp} {t:TypeId} {a b:List UInt8} {d:D} (h:n6 op a b=some d) :
 ∃ v,(binOp op t (.string ⟨⟨a⟩⟩) (.string ⟨⟨b⟩⟩)).run P w = .ok v w∧RD M s d v:=by
 have sz : ∀ l:List UInt8,(⟨⟨l⟩⟩:ByteArray).size=l.length:=fun _=>rfl
 cases op<;>simp only[n6]at h<;>first
  |(cases h;done)
  |skip
 case add=>
  split at h
  ·rename_i hl
   cases h
   refine⟨.string ⟨⟨a++b⟩⟩, ?_, .str _⟩
   have h1 : ¬ ((((⟨⟨a⟩⟩:ByteArray).size+(⟨⟨b⟩⟩:ByteArray).size:Nat):Int) > IntKind.i64.max):=by
    rw[sz,sz,IntKind.max_i64];simp only[bJ]at hl;omega
   simp only[binOp,Op.stringOp,h1,if_false]
   simp only[Sem.run_pure]
   congr 2
  ·cases h
 case eql=>cases h;exact⟨_,by simp[binOp,Op.stringOp], .bool _⟩
 case neq=>cases h;exact⟨_,by simp[binOp,Op.stringOp], .bool _⟩
 case lss=>cases h;exact⟨_,by simp[binOp,Op.stringOp,bytesLess], .bool _⟩
theorem jC {op:BinOp} {t:TypeId} {x y:Operand} {a b:Value} (h:(∀ vs,a≠ .agg vs)∧a≠ .nilIface):(eqGuard op t x y a b).run P w = .ok () w:=by
 obtain⟨h1,h2⟩:=h
 cases a<;>first
  |exact(h2 rfl).elim
  |exact(h1 _ rfl).elim
  |(cases op<;>simp[eqGuard])
theorem SH (r:Rel M s w) {op:BinOp} {t:TypeId} {x y:Operand} {dx dy d:D} {a b:Value} (ha:RD M s dx a) (hb:RD M s dy b) (h:wP op dx dy=some d) :
 cG P M s w (do pure (.value (← (do eqGuard op t x y a b;binOp op t a b)))) d s:=by
 unfold wP at h
 split at h
 ·rename_i k n k' m
  split at h
  ·rename_i hk;subst hk
   rw[ha.gV,hb.gV]
   obtain⟨v,hv,hd⟩:=Ml (P:=P) (M:=M) (s:=s) (w:=w) (t:=t) h
   exact cG.pure r (by simp[jC (P:=P) (w:=w) (op:=op) (t:=t) (x:=x) (y:=y) (a:= .int k n) (b:= .int k m) ⟨by simp,by simp⟩,hv]) hd
  ·cases h
 ·rename_i l m
  rw[ha.la,hb.la]
  obtain⟨v,hv,hd⟩:=Mm (P:=P) (M:=M) (s:=s) (w:=w) (t:=t) h
  exact cG.pure r (by simp[jC (P:=P) (w:=w) (op:=op) (t:=t) (x:=x) (y:=y) (a:= .string ⟨⟨l⟩⟩) (b:= .string ⟨⟨m⟩⟩) ⟨by simp,by simp⟩,hv]) hd
 ·cases h
theorem RD.mO {v u:Value} (h:RD M s (.val v) u):u=v:=by cases h;rfl
theorem Mn {k:FloatKind} {x y d:D} (h:lI (.ofInt k) x y=some d) : ∃ j n,x = .int j n∧d = .val (.float k (k.nearest n)):=by
 cases x<;>first|(cases h;done)|(cases h;exact⟨_,_,rfl,rfl⟩)
theorem Mp {k:IntKind} {x y d:D} (h:lI (.toInt k) x y=some d) : ∃ s b n,x = .val (.float s b)∧(s.decode b).toInt .zero=some n∧(k.min≤n∧n≤k.max)∧d = .int k n:=by
 cases x with
 | val v=>
  cases v with
  | float s b=>
   simp only[lI]at h
   split at h
   ·rename_i n hn
    split at h
    ·rename_i hr;cases h;exact⟨_,_,_,rfl,hn,hr,rfl⟩
    ·cases h
   ·cases h
  |_=>cases h
 |_=>cases h
theorem PD {x y d:D} (h:lI .HO x y=some d) : ∃ k a b,x = .val (.float k a)∧y = .val (.float k b)∧d = .val (.complex k a b):=by
 unfold lI at h
 split at h<;>first|(cases h;done)|skip
 all_goals (first|(rename_i heq;cases heq;done)|skip)
 all_goals
  split at h
  ·rename_i hk;subst hk;cases h;first|exact⟨_,_,_,rfl,rfl,rfl⟩|(rename_i heq _ _;cases heq)
  ·cases h
theorem PE {x y d:D} (h:lI .real x y=some d) : ∃ k a b,x = .val (.complex k a b)∧d = .val (.float k a):=by
 cases x with
 |val v=>cases v<;>first|(cases h;done)|(cases h;exact⟨_,_,_,rfl,rfl⟩)
 |_=>cases h
theorem PF {x y d:D} (h:lI .imag x y=some d) : ∃ k a b,x = .val (.complex k a b)∧d = .val (.float k b):=by
 cases x with
 |val v=>cases v<;>first|(cases h;done)|(cases h;exact⟨_,_,_,rfl,rfl⟩)
 |_=>cases h
theorem PG (r:Rel M s w) {op:BinOp} {o:FO} (ho:(o = .eq∧op = .eql)∨(o = .CQ∧op = .add)∨(o = .HP∧op = .eql)) {t:TypeId} {x y:Operand} {dx dy d:D} {a b:Value} (ha:RD M s dx a) (hb:RD M s dy b) (h:lI o dx dy=some d) :
 cG P M s w (do pure (.value (← (do eqGuard op t x y a b;binOp op t a b)))) d s:=by
 unfold lI at h
 split at h<;>(try simp only[reduceCtorEq,false_and,true_and,false_or,or_false]at ho)
 ·rename_i k p k' q
  split at h<;>cases h
  rename_i hk;subst hk;subst ho
  cases ha.mO;cases hb.mO
  exact cG.pure r (by simp[jC (P:=P) (w:=w) (op:= .eql) (t:=t) (x:=x) (y:=y) (a:= .float k p) (b:= .float k q) ⟨by simp,by simp⟩,binOp,Op.floatCmp]) (.bool _)
 ·rename_i k p p' k' q q'
  split at h
  ·rename_i hk;subst hk;subst ho
   cases ha.mO;cases hb.mO
   split at h
   ·rename_i e f h1 h2
    cases h
    simp only[E1]at h1 h2
    exact cG.pure r (by simp[jC (P:=P) (w:=w) (op:= .add) (t:=t) (x:=x) (y:=y) (a:= .complex k p p') (b:= .complex k q q') ⟨by simp,by simp⟩,binOp,Op.complexOp,Op.Complex.arith,Op.floatArith,h1,h2]) (.val _ rfl)
   ·cases h
  ·cases h
 ·rename_i k p p' k' q q'
  split at h<;>cases h
  rename_i hk;subst hk;subst ho
  cases ha.mO;cases hb.mO
  exact cG.pure r (by simp[jC (P:=P) (w:=w) (op:= .eql) (t:=t) (x:=x) (y:=y) (a:= .complex k p p') (b:= .complex k q q') ⟨by simp,by simp⟩,binOp,Op.complexOp,Op.Complex.cmp,Op.floatCmp,asBool]) (.bool _)
 ·cases h
theorem SI (r:Rel M s w) {neg:Bool} {t:TypeId} {x y:Operand} {p q:Bool} (ht:P.underlying t=some .bool) :
 cG P M s w (do pure (.value (← (do eqGuard (if neg then .neq else .eql) t x y (.bool p) (.bool q);binOp (if neg then .neq else .eql) t (.bool p) (.bool q))))) (.bool (if neg then !(p==q)else p==q)) s:=by
 refine cG.pure (v:= .bool (if neg then !(p==q)else p==q)) r ?_ (.bool _)
 have hg:=jC (P:=P) (w:=w) (op:=if neg then .neq else .eql) (t:=t) (x:=x) (y:=y) (a:= .bool p) (b:= .bool q) ⟨by simp,by simp⟩
 have he:(Op.equal t (.bool p) (.bool q)).run P w = .ok (p==q) w:=by
  exact run_equalIn_bool w 9999 t p q ht
 cases neg
 ·simp only [Bool.false_eq_true,if_false]at hg ⊢
  simp[hg,binOp,he]
 ·simp only [if_true]at hg ⊢
  simp[hg,binOp,he]
theorem Kj (n:Nat) {t e:TypeId} {a:Option Addr} (ht:P.underlying t=some (.pointer e)):(Op.equalIn (n+1) t (.pointer a) (.pointer none)).run P w = .ok a.isNone w:=by
 cases a<;>simp[Op.equalIn,run_underlying ht]
theorem CY (r:Rel M s w) {neg:Bool} {t e:TypeId} {x y:Operand} {a:Option Addr} (ht:P.underlying t=some (.pointer e)) :
 cG P M s w (do pure (.value (← (do eqGuard (if neg then .neq else .eql) t x y (.pointer a) (.pointer none);binOp (if neg then .neq else .eql) t (.pointer a) (.pointer none))))) (.bool (if neg then !a.isNone else a.isNone)) s:=by
 refine cG.pure (v:= .bool (if neg then !a.isNone else a.isNone)) r ?_ (.bool _)
 have hg:=jC (P:=P) (w:=w) (op:=if neg then .neq else .eql) (t:=t) (x:=x) (y:=y) (a:= .pointer a) (b:= .pointer none) ⟨by simp,by simp⟩
 have he:(Op.equal t (.pointer a) (.pointer none)).run P w = .ok a.isNone w:=by
  exact Kj 9999 ht
 cases neg
 ·simp only [Bool.false_eq_true,if_false]at hg ⊢
  simp[hg,binOp,he]
 ·simp only [if_true]at hg ⊢
  simp[hg,binOp,he]
theorem Mq (n:Nat) {t:TypeId} {k:Nat} (hk:lk P t=some k) {x y:D} {v u:Value} (rv:RD M s x v) (ru:RD M s y u) {b:Bool} (h:mM k x y=some b) :
 (Op.equalIn (n+1) t v u).run P w = .ok b w:=by
 unfold lk at hk
 split at hk<;>first|(cases hk;done)|skip
 ·rename_i kk hu
  cases hk
  cases x<;>cases y<;>simp[mM]at h
  obtain⟨rfl,rfl⟩:=h
  rw[rv.gV,ru.gV]
  exact run_equalIn_int w n t _ _ _ _ hu
 ·rename_i hu
  cases hk
  cases x<;>cases y<;>simp[mM]at h
  subst h
  rw[rv.nK,ru.nK]
  exact run_equalIn_bool w n t _ _ hu
 ·rename_i hu
  cases hk
  cases x<;>cases y<;>simp[mM]at h
  subst h
  rw[rv.la,ru.la]
  rw[run_equalIn_string w n t _ _ hu]
  simp
theorem AA (n:Nat) : ∀ (fs:List Field) (off:Nat) (ks:List Nat) (xs ys:List D) (vs us:Array Value) (e:Bool),
 BK P off fs=some ks→(∀ (i:Nat) (d:D) (v:Value),xs[i]? = some d→vs[off+i]? = some v→RD M s d v)→(∀ i,i<xs.length→(vs[off+i]?).isSome)→
 (∀ (i:Nat) (d:D) (v:Value),ys[i]? = some d→us[off+i]? = some v→RD M s d v)→(∀ i,i<ys.length→(us[off+i]?).isSome)→
 k8 ks xs ys=some e→(Op.eqFields (n+1) vs us fs).run P w = .ok e w
 | [],off,ks,xs,ys,vs,us,e,hk,_,_,_,_,h=>by
  cases hk
  cases xs<;>cases ys<;>simp[k8]at h
  subst h;rfl
 | f::fs,off,ks,xs,ys,vs,us,e,hk,h1,h2,h3,h4,h=>by
  unfold BK at hk
  split at hk
  ·rename_i hf
   obtain⟨ho,ael⟩:=hf
   split at hk
   ·rename_i k ks' vU cj
    cases hk
    match xs,ys with
    | [],[]=>cases h
    | [],_::_=>cases h
    |_::_,[]=>cases h
    | x::xs,y::ys=>
     obtain⟨v,hv⟩:=Option.isSome_iff_exists.1 (h2 0 (by simp))
     obtain⟨u,hu⟩:=Option.isSome_iff_exists.1 (h4 0 (by simp))
     simp only[Nat.add_zero]at hv hu
     have rv:=h1 0 x v rfl hv
     have ru:=h3 0 y u rfl hu
     have Ay:(isAgg f.type).run P w = .ok false w:=by
      unfold isAgg
      unfold lk at vU
      cases hu:P.underlying f.type with
      |none=>rw[hu]at vU;simp at vU
      |some d=>simp only[Sem.run_bind,run_underlying hu,Result.andThen_ok];rw[hu]at vU;cases d<;>simp_all
     have pv:(Go.part f.type vs f.offset).run P w = .ok v w:=by simp[Go.part,Ay,ho,hv]
     have pu:(Go.part f.type us f.offset).run P w = .ok u w:=by simp[Go.part,Ay,ho,hu]
     cases hc:mM k x y with
     |none=>simp[k8,hc]at h
     | some b=>
      have hb:=Mq (w:=w) n vU rv ru hc
      simp only[k8,hc]at h
      simp only[Op.eqFields,if_pos ael,Sem.run_bind,pv,pu,hb,Result.andThen_ok,Sem.run_ite,Sem.run_pure]
      cases b with
      |false=>cases h;rfl
      | true=>
       have:=AA n fs (off+1) ks' xs ys vs us e cj
        (fun i d v e1 e2=>h1 (i+1) d v (by simpa using e1) (by rw[show off+(i+1)=off+1+i by omega];exact e2))
        (fun i hi=>by have:=h2 (i+1) (by simpa using hi);rwa [show off+(i+1)=off+1+i by omega]at this)
        (fun i d v e1 e2=>h3 (i+1) d v (by simpa using e1) (by rw[show off+(i+1)=off+1+i by omega];exact e2))
        (fun i hi=>by have:=h4 (i+1) (by simpa using hi);rwa [show off+(i+1)=off+1+i by omega]at this) h
       simp[this]
   ·cases hk
  ·cases hk
theorem SK (r:Rel M s w) {neg:Bool} {t:TypeId} {x y:Operand} {ks:List Nat} {xs ys:List D} {a b:Value} {e:Bool} (ht:pS P t=some ks) (ha:RD M s (.agg xs) a) (hb:RD M s (.agg ys) b) (he:k8 ks xs ys=some e) :
 cG P M s w (do pure (.value (← (do eqGuard (if neg then .neq else .eql) t x y a b;binOp (if neg then .neq else .eql) t a b)))) (.bool (if neg then !e else e)) s:=by
 obtain⟨vs,rfl,hl,_,h1⟩:=ha.E4
 obtain⟨us,rfl,lU,_,h2⟩:=hb.E4
 unfold pS at ht
 split at ht
 ·rename_i fs hu
  split at ht
  ·rename_i hg
   obtain⟨xG,Cs⟩:=hg
   have hf:P.fieldsOf t=fs:=by simp[Program.fieldsOf,hu]
   have dB:(Op.equalIn 10000 t (.agg vs) (.agg us)).run P w = .ok e w:=by
    rw[run_equalIn_struct w 9999 t vs us (by rw[hf];exact hu) Cs,hf]
    exact AA 9998 fs.toList 0 ks xs ys vs us e ht (fun i d v e1 e2=>h1 i d v e1 (by simpa using e2)) (fun i hi=>by simp;omega)
     (fun i d v e1 e2=>h2 i d v e1 (by simpa using e2)) (fun i hi=>by simp;omega) he
   have F2:=run_eqGuard_agg (P:=P) w (if neg then .neq else .eql) t x y vs us xG
   refine cG.pure (v:= .bool (if neg then !e else e)) r ?_ (.bool _)
   cases neg
   ·simp only [Bool.false_eq_true,if_false]at F2 ⊢
    simp only[Sem.run_bind,F2,Result.andThen_ok,run_eql_struct,dB,Sem.run_pure]
   ·simp only [if_true]at F2 ⊢
    simp only[Sem.run_bind,F2,Result.andThen_ok,run_neq_struct,dB,Sem.run_pure]
  ·cases ht
 ·cases ht
end
end Go.Abs
namespace Go.Abs
section
variable {P:Program} {M:Map} {s:St} {w:World}
theorem BL (l:List UInt8):(⟨⟨l⟩⟩:ByteArray).size=l.length:=rfl
theorem extract_mk (l:List UInt8) (a b:Nat):(⟨⟨l⟩⟩:ByteArray).extract a b = ⟨⟨(l.take b).drop a⟩⟩:=by
 apply ByteArray.ext
 rw[ByteArray.data_extract]
 apply Array.ext'
 simp[List.drop_take]
theorem getElem?_mk (l:List UInt8) (n:Nat):(⟨⟨l⟩⟩:ByteArray)[n]? = l[n]? :=by
 by_cases h:n<l.length
 ·rw[getElem?_pos (⟨⟨l⟩⟩:ByteArray) n h,List.getElem?_eq_getElem h];rfl
 ·rw [List.getElem?_eq_none (by omega)]
  rw[getElem?_neg (c:=(⟨⟨l⟩⟩:ByteArray)) (i:=n)]
  show ¬ n<(⟨⟨l⟩⟩:ByteArray).size
  rw[BL];omega
theorem PI (r:Rel M s w) {t:TypeId} {l:List UInt8} {k:IntKind} {n:Int} {c:UInt8} (ht:P.underlying t=some .string) (h0:0≤n) (hc:l[n.toNat]? = some c) :
 cG P M s w (do pure (.value (← Instr.index t (.string ⟨⟨l⟩⟩) (.int k n)))) (.int .u8 c.toNat) s:=by
 refine cG.pure (v:= .int .u8 c.toNat) r ?_ (.int _ _)
 simp[Instr.index,asIntOf,run_underlying ht,h0,getElem?_mk,hc]
theorem HY (r:Rel M s w) {t ty:TypeId} {l:List UInt8} (ht:P.underlying t=some .string) :
 cG P M s w (do pure (.value (← Builtin.len_ #[t] ty #[.string ⟨⟨l⟩⟩]))) (.int .i64 l.length) s:=by
 refine cG.pure (v:= .int .i64 l.length) r ?_ (.int _ _)
 simp[Builtin.len_,run_underlying ht,goInt,BL]
theorem mP (r:Rel M s w) {t ty e:TypeId} {a:Option Addr} {n c:Nat} (ht:P.underlying t=some (.slice e)) :
 cG P M s w (do pure (.value (← Builtin.len_ #[t] ty #[.slice a n c]))) (.int .i64 n) s:=by
 refine cG.pure (v:= .int .i64 n) r ?_ (.int _ _)
 simp[Builtin.len_,run_underlying ht,goInt]
theorem Mr (r:Rel M s w) {t e:TypeId} {i:TypeInfo} {g:Tag} {rows:List (List D)} {row:List D} {v:Value} {k:IntKind} {n:Int} (ht:P.underlying t=some (.slice e)) (hi:P.info? e=some i)
 (hd:RD M s (.slice g i.size rows) v) (h0:0≤n) (hr:rows[n.toNat]? = some row) :
 cG P M s w (do pure (.value (← Instr.indexAt t v (.int k n)))) (.dt row 0) s:=by
 have hD:=(List.getElem?_eq_some_iff.1 hr).1
 rcases hd.jb with ⟨rfl,_,_⟩|⟨rfl,_,_⟩|⟨b,q,cap,rfl,hl,hs,h1,h2,_⟩
 ·simp at hr
 ·simp at hr
 ·refine cG.pure (v:= .pointer (some ⟨b,q+n.toNat*i.size+0,none⟩)) r ?_ ?_
  ·have:n<(rows.length:Int):=by omega
   simp[Instr.indexAt,asIntOf,run_underlying ht,h0,this,sizeOf,fO P hi,mg]
  ·refine .dt row 0 b (q+n.toNat*i.size) (fun j d hj=> ?_) (fun j d u hj hu=> ?_)
   ·obtain⟨u,hu⟩:=h1 n.toNat row j d hr hj
    exact⟨u,by rw[Nat.add_assoc];exact hu⟩
   ·exact h2 n.toNat row j d u hr hj (by rw[← Nat.add_assoc];exact hu)
def PJ (lv:Option Value) (l:Int):Prop:=(lv=none∧l=0)∨∃ k,lv=some (.int k l)
def PK (hv:Option Value) (len:Nat) (h:Int):Prop:=(hv=none∧h=len)∨∃ k,hv=some (.int k h)
theorem pj {isSlice:Bool} {lv hv:Option Value} {len cap:Nat} {l h:Int} (h1:PJ lv l) (h2:PK hv len h) (a:0≤l) (b:l≤h) (c:h≤len) (d:len≤cap) :
 (Instr.sliceBounds isSlice len cap lv hv none).run P w = .ok (l.toNat,h.toNat,cap) w:=by
 have h0:0≤h:=by omega
 have hc:h≤cap:=by omega
 rcases h1 with ⟨rfl,rfl⟩|⟨k,rfl⟩<;>rcases h2 with ⟨rfl,rfl⟩|⟨k',rfl⟩
 ·simp[Instr.sliceBounds]
 ·simp[Instr.sliceBounds,run_sliceBound w _ _ _ _ h0 hc]
 ·simp[Instr.sliceBounds,run_sliceBound w _ _ _ _ a b]
 ·have e:(h.toNat:Int)=h:=Int.toNat_of_nonneg h0
  simp[Instr.sliceBounds,run_sliceBound w _ _ _ _ h0 hc,run_sliceBound w _ _ _ _ a (show l≤(h.toNat:Int) by omega)]
theorem PN (r:Rel M s w) {t:TypeId} {lv hv:Option Value} {x:List UInt8} {l h:Int} (ht:P.underlying t=some .string) (h1:PJ lv l) (h2:PK hv x.length h) (a:0≤l) (b:l≤h) (c:h≤x.length) :
 cG P M s w (do pure (.value (← Instr.sliceAt t (.string ⟨⟨x⟩⟩) lv hv none))) (.str ((x.take h.toNat).drop l.toNat)) s:=by
 have hb:=pj (P:=P) (w:=w) (isSlice:=false) (cap:=x.length) h1 h2 a b c (Nat.le_refl _)
 refine cG.pure (v:= .string ⟨⟨(x.take h.toNat).drop l.toNat⟩⟩) r ?_ (.str _)
 simp[Instr.sliceAt,run_underlying ht,Instr.slice,BL,hb,extract_mk]
theorem iI.cut {g:Tag} {z len SL cap:Nat} {base:Option (Nat×Nat)} (h:iI M s g z len base cap) (hl:SL≤len) (whole:Bool) (hw:whole=true→SL=len):iI M s (g.cut whole) z SL base cap:=by
 cases g with
 |full=>
  cases whole with
  |true=>rw[hw rfl];exact h
  |false=>trivial
 |shared=>trivial
 |tok t y=>
  obtain⟨x1,x2⟩:=h
  refine⟨x1,fun n hn=>⟨Nat.le_trans hl (x2 n hn).1,fun e=>?_⟩⟩
  have:len=n:=by have:=(x2 n hn).1;omega
  exact(x2 n hn).2 this
theorem SM (r:Rel M s w) {t e:TypeId} {i:TypeInfo} {g:Tag} {z:Nat} {lv hv:Option Value} {rows:List (List D)} {v:Value} {l h:Int} (ht:P.underlying t=some (.slice e)) (DQ:P.info? e=some i) (hz:rows = []∨z=i.size)
 (hd:RD M s (.slice g z rows) v) (h1:PJ lv l) (h2:PK hv rows.length h) (a:0≤l) (b:l≤h) (c:h≤rows.length) :
 cG P M s w (do pure (.value (← Instr.sliceAt t v lv hv none))) (.slice (if l=0 then g.cut (h=rows.length)else .shared) z ((rows.take h.toNat).drop l.toNat)) s:=by
 have hlen:((rows.take h.toNat).drop l.toNat).length=h.toNat - l.toNat:=by simp;omega
 have tag : ∀ base cap,iI M s g z rows.length base cap→iI M s (if l=0 then g.cut (h=rows.length)else .shared) z ((rows.take h.toNat).drop l.toNat).length base cap:=by
  intro base cap oq
  split
  ·exact oq.cut (by omega) _ (fun hh=>by simp at hh;omega)
  ·trivial
 rcases hd.jb with ⟨rfl,rfl,oq⟩|⟨rfl,rfl,a',cap,rfl⟩|⟨b',q,cap,rfl,hl,hs,g1,g2,oq⟩
 ·have hb:=pj (P:=P) (w:=w) (isSlice:=true) (cap:=0) h1 h2 a b c (Nat.le_refl _)
  have qv:l=0:=by simp at c;omega
  have ZW:h=0:=by simp at c;omega
  subst qv;subst ZW
  refine cG.pure (v:= .slice none 0 0) r ?_ ?_
  ·simp at hb
   simp[Instr.sliceAt,run_underlying ht,Instr.slice,hb,sizeOf,fO P DQ]
  ·have:=tag _ _ oq
   simp only[Int.toNat_zero,List.take_nil,List.drop_nil,List.length_nil]at this ⊢
   exact .iG _ _ 0 rfl this
 ·have hb:=pj (P:=P) (w:=w) (isSlice:=true) (cap:=cap) h1 h2 a b c (Nat.zero_le _)
  have qv:l=0:=by simp at c;omega
  have ZW:h=0:=by simp at c;omega
  subst qv;subst ZW
  simp only[List.length_nil]at hb
  have dB : ∃ a2:Addr,(Instr.sliceAt t (.slice (some a') 0 cap) lv hv none).run P w = .ok (.slice (some a2) 0 cap) w:=by
   refine⟨if cap=(0:Int).toNat then a' else a'.add ((0:Int).toNat*i.size), ?_⟩
   simp only[Instr.sliceAt,Sem.run_bind,run_underlying ht,Result.andThen_ok,Instr.slice,hb,sizeOf,fO P DQ,Sem.run_pure]
   split<;>simp
  obtain⟨a2,dB⟩:=dB
  refine cG.pure (v:= .slice (some a2) 0 cap) r (by simp[dB]) ?_
  simp only[↓reduceIte,Int.toNat_zero,List.take_nil,List.drop_nil]
  have:Tag.cut .shared (decide ((0:Int)=(([] : List (List D)).length:Int))) = .shared:=rfl
  rw[this]
  exact .lh _ a2 cap
 ·have hb:=pj (P:=P) (w:=w) (isSlice:=true) (cap:=cap) h1 h2 a b c hl
  have dB:(Instr.sliceAt t (.slice (some ⟨b',q,none⟩) rows.length cap) lv hv none).run P w = .ok (.slice (some (if cap=l.toNat then⟨b',q,none⟩else⟨b',q+l.toNat*i.size,none⟩)) (h.toNat - l.toNat) (cap - l.toNat)) w:=by
   simp only[Instr.sliceAt,Sem.run_bind,run_underlying ht,Result.andThen_ok,Instr.slice,hb,sizeOf,fO P DQ,Sem.run_pure]
   split<;>simp[mg]
  by_cases qv:l=0
  ·subst qv
   have e:(if cap=(0:Int).toNat then(⟨b',q,none⟩:Addr)else⟨b',q+(0:Int).toNat*i.size,none⟩) = ⟨b',q,none⟩:=by simp
   rw[e]at dB
   refine cG.pure (v:= .slice (some ⟨b',q,none⟩) ((rows.take h.toNat).drop (0:Int).toNat).length cap) r (by simp[dB];omega) ?_
   refine .slice _ z _ b' q cap (by omega) (fun row hr=>hs row ?_) (fun i row j d e1 e2=>?_) (fun i row j d u e1 e2 eu=>?_) (tag _ _ oq)
   ·simp at hr;exact List.mem_of_mem_take hr
   ·simp[List.getElem?_take]at e1;exact g1 i row j d e1.2 e2
   ·simp[List.getElem?_take]at e1;exact g2 i row j d u e1.2 e2 eu
  ·rw [if_neg qv]
   by_cases tA:cap=l.toNat
   ·have:(rows.take h.toNat).drop l.toNat = []:=List.eq_nil_of_length_eq_zero (by omega)
    rw[this]
    rw[if_pos tA]at dB
    refine cG.pure (v:= .slice (some ⟨b',q,none⟩) ([] : List (List D)).length (cap - l.toNat)) r (by simp[dB];omega) ?_
    exact .slice _ z [] b' q _ (by simp) (by simp) (by simp) (by simp) trivial
   ·rw [if_neg tA]at dB
    refine cG.pure (v:= .slice (some ⟨b',q+l.toNat*i.size,none⟩) ((rows.take h.toNat).drop l.toNat).length (cap - l.toNat)) r (by simp[dB];omega) ?_
    have dT : ∀ (k:Nat) (row:List D),((rows.take h.toNat).drop l.toNat)[k]? = some row→rows[l.toNat+k]? = some row:=by
     intro k row e
     rw[List.getElem?_drop,List.getElem?_take]at e
     split at e
     ·exact e
     ·cases e
    have hzz : ∀ (k:Nat) (row:List D),((rows.take h.toNat).drop l.toNat)[k]? = some row→z=i.size:=by
     intro k row e
     rcases hz with rfl|hz
     ·simp at e
     ·exact hz
    refine .slice _ z _ b' _ _ (by omega) (fun row hr=>hs row (List.mem_of_mem_take (List.mem_of_mem_drop hr))) (fun k row j d e1 e2=>?_) (fun k row j d u e1 e2 eu=>?_) trivial
    ·obtain⟨u,hu⟩:=g1 _ row j d (dT k row e1) e2
     refine⟨u, ?_⟩
     rw[← hu, ← hzz k row e1]
     congr 1
     rw[Nat.add_mul];omega
    ·refine g2 _ row j d u (dT k row e1) e2 ?_
     rw[← eu, ← hzz k row e1]
     congr 1
     rw[Nat.add_mul];omega
theorem vV (off:Nat) : ∀ (l:List Value) (k:Nat) (cells:Array Value) (i:Nat),
 ((l.zipIdx k).foldl (fun cs p=>cs.setIfInBounds (off+p.2) p.1) cells).size=cells.size∧
 (off+k+l.length≤cells.size→((l.zipIdx k).foldl (fun cs p=>cs.setIfInBounds (off+p.2) p.1) cells)[i]? = if off+k≤i∧i<off+k+l.length then l[i - (off+k)]? else cells[i]?)
 | [],k,cells,i=>by simp;intro _ h1 h2;omega
 | v::l,k,cells,i=>by
  obtain⟨h1,h2⟩:=vV off l (k+1) (cells.setIfInBounds (off+k) v) i
  simp only[List.zipIdx_cons,List.foldl_cons]
  refine⟨by rw[h1];simp,fun jf=>?_⟩
  simp only[List.length_cons]at jf
  rw[h2 (by simp;omega)]
  rw[Array.getElem?_setIfInBounds]
  by_cases hi:off+k=i
  ·subst hi
   rw[if_neg (by omega),if_pos rfl,if_pos (by omega),if_pos (by simp)]
   simp
  ·rw [if_neg hi]
   by_cases hr:off+(k+1)≤i∧i<off+(k+1)+l.length
   ·rw [if_pos hr,if_pos (by simp;omega)]
    rw[show i - (off+k)=(i - (off+(k+1)))+1 by omega]
    simp
   ·rw[if_neg hr,if_neg (by simp;omega)]
def sP (M:Map) (s:St) (ds:List D) (vs:Array Value):Prop:=vs.size=ds.length∧(∀ v∈vs,v.oneCell'=true)∧∀ (i:Nat) (d:D) (v:Value),ds[i]? = some d→vs[i]? = some v→RD M s d v
theorem sP.ie {ds:List D} {vs:Array Value} (h:sP M s ds vs) {d:D} {v:Value} {row:List D} (hd:RD M s d v) (hr:d.row=some row) {off:Nat} (jf:off+row.length≤ds.length) :
 sP M s (ie ds off row) (v.cells.zipIdx.foldl (fun cs (p:Value×Nat)=>cs.setIfInBounds (off+p.2) p.1) vs):=by
 obtain⟨h1,h2,h3⟩:=hd.row hr
 obtain⟨g1,g2,g3⟩:=h
 have e:v.cells.zipIdx.foldl (fun cs (p:Value×Nat)=>cs.setIfInBounds (off+p.2) p.1) vs=(v.cells.toList.zipIdx 0).foldl (fun cs p=>cs.setIfInBounds (off+p.2) p.1) vs:=by
  rw[← Array.foldl_toList];simp
 rw[e]
 have hl:v.cells.toList.length=row.length:=by simpa using h1
 have fs:=fun i=>vV off v.cells.toList 0 vs i
 have get : ∀ i,((v.cells.toList.zipIdx 0).foldl (fun cs p=>cs.setIfInBounds (off+p.2) p.1) vs)[i]? = if off≤i∧i<off+row.length then v.cells.toList[i - off]? else vs[i]? :=by
  intro i
  have:=(fs i).2 (by omega)
  rw[hl]at this
  simpa using this
 refine⟨by rw[(fs 0).1,g1,tx ds off row jf],fun u hu=>?_,fun i d' u e1 e2=>?_⟩
 ·obtain⟨i,hi⟩:=Array.mem_iff_getElem?.1 hu
  rw[get]at hi
  split at hi
  ·exact h2 u (Array.mem_toList_iff.1 (List.mem_of_getElem? hi))
  ·exact g2 u (Array.mem_of_getElem? hi)
 ·rw [qF ds off row jf]at e1
  rw[get]at e2
  by_cases h5:off≤i
  ·by_cases h6:i<off+row.length
   ·rw [if_pos ⟨h5,h6⟩]at e2
    rw[if_neg (by omega),if_pos h6]at e1
    exact h3 _ d' u e1 (by simpa using e2)
   ·rw [if_neg (fun h=>h6 h.2)]at e2
    rw[if_neg (by omega),if_neg h6]at e1
    exact g3 i d' u e1 e2
  ·rw [if_neg (fun h=>h5 h.1)]at e2
   rw[if_pos (by omega)]at e1
   exact g3 i d' u e1 e2
theorem HZ {place:Nat→Option (Nat×Nat)} : ∀ (vp:List (Nat×Value)) (dp:List (Nat×Nat×D)) (ds:List D) (vs:Array Value) (nA:List D),sP M s ds vs→
 dp.length=vp.length→(∀ (j:Nat) (i:Nat) (v:Value) (off size:Nat) (d:D),vp[j]? = some (i,v)→dp[j]? = some (off,size,d)→place i=some (off,size)∧RD M s d v)→
 qC ds dp=some nA→∃ fy,Instr.fill place vs vp=some fy∧sP M s nA fy
 | [],[],ds,vs,nA,h,_,_,e=>by cases e;exact⟨vs,rfl,h⟩
 | [],_::_,_,_,_,_,hl,_,_=>by simp at hl
 |_::_,[],_,_,_,_,hl,_,_=>by simp at hl
 | (i,v)::vp,(off,size,d)::dp,ds,vs,nA,h,hl,hp,e=>by
  obtain⟨h1,h2⟩:=hp 0 i v off size d rfl rfl
  unfold qC at e
  split at e
  ·cases e
  ·rename_i row hr
   split at e
   ·rename_i hc
    obtain⟨c1,c2⟩:=hc
    have dL:=(h2.row hr).1
    obtain⟨fy,f1,f2⟩:=HZ vp dp (ie ds off row) _ nA (h.ie h2 hr (by omega)) (by simpa using hl)
     (fun j i v off size d e1 e2=>hp (j+1) i v off size d (by simpa using e1) (by simpa using e2)) e
    refine⟨fy, ?_,f2⟩
    unfold Instr.fill
    simp only[h1]
    rw[if_neg]
    ·exact f1
    ·simp;exact⟨by omega,by have:=h.1;omega⟩
   ·cases e
end
end Go.Abs
namespace Go.Abs
section
variable {P:Program} {M:Map} {s:St} {w:World}
def lW (M:Map) (s:St) (size:Nat) (rows:List (List D)) (vs:Array Value):Prop:=
 rows.length*size≤vs.size∧(∀ row∈rows,row.length=size)∧(∀ v∈vs,v.oneCell'=true)∧
 ∀ (i:Nat) (row:List D) (j:Nat) (d:D) (v:Value),rows[i]? = some row→row[j]? = some d→vs[i*size+j]? = some v→RD M s d v
theorem AB {size:Nat} {rows:List (List D)} (hs : ∀ row∈rows,row.length=size) {i:Nat} {row:List D} {j:Nat} {d:D} (h1:rows[i]? = some row) (h2:row[j]? = some d):i*size+j<rows.length*size:=by
 have hi:=(List.getElem?_eq_some_iff.1 h1).1
 have hj:=(List.getElem?_eq_some_iff.1 h2).1
 have:=hs row (List.mem_of_getElem? h1)
 have:i*size+size≤rows.length*size:=by rw[← Nat.succ_mul];exact Nat.mul_le_mul_right _ hi
 omega
theorem lW.fixed {size:Nat} {rows:List (List D)} {vs:Array Value} (h:lW M s size rows vs) {M':Map} {s':St} (le:Le M s M' s') {b:Nat}
 (hG : ∀ o,o<rows.length*size→M'.G b o=vs[o]?) :
 (∀ (i:Nat) (row:List D) (j:Nat) (d:D),rows[i]? = some row→row[j]? = some d→∃ u,M'.G b (0+(i*size+j))=some u)∧
 (∀ (i:Nat) (row:List D) (j:Nat) (d:D) (u:Value),rows[i]? = some row→row[j]? = some d→M'.G b (0+(i*size+j))=some u→RD M' s' d u):=by
 obtain⟨h1,h2,h3,h4⟩:=h
 refine⟨fun i row j d e1 e2=>?_,fun i row j d u e1 e2 eu=>?_⟩
 ·have hD:=AB h2 e1 e2
  rw[Nat.zero_add,hG _ hD]
  exact⟨_,Array.getElem?_eq_getElem (by omega)⟩
 ·have hD:=AB h2 e1 e2
  rw[Nat.zero_add,hG _ hD]at eu
  exact(h4 i row j d u e1 e2 eu).mono le
theorem lX (z:List D) : ∀ n,(fN z n).length=n
 | 0=>rfl
 |n+1=>by simp[fN,lX z n]
theorem oP (z:List D) : ∀ n,∀ row∈fN z n,row=z
 | 0,_,h=>by cases h
 |n+1,row,h=>by
  rcases List.mem_cons.1 h with rfl|h
  ·rfl
  ·exact oP z n row h
theorem lW.zero {z:List D} {zs:Array Value} (h:sP M s z zs) (hp:0<z.length) (n:Nat):lW M s z.length (fN z n) ((Array.range (n*z.length)).map (zs[· % zs.size]!)):=by
 obtain⟨h1,h2,h3⟩:=h
 have get : ∀ q,q<n*z.length→((Array.range (n*z.length)).map (zs[· % zs.size]!))[q]? = zs[q % z.length]? :=by
  intro q hq
  have:q % z.length<zs.size:=by rw[h1];exact Nat.mod_lt _ hp
  simp only[Array.getElem?_map,Array.getElem?_range,hq,if_true,Option.map_some]
  rw[h1,getElem!_pos zs (q % z.length) this,Array.getElem?_eq_getElem this]
 refine⟨by simp[lX],fun row hr=>by rw[oP z n row hr],fun v hv=>?_,fun i row j d v e1 e2 e3=>?_⟩
 ·obtain⟨q,hq⟩:=Array.mem_iff_getElem?.1 hv
  have hD:q<n*z.length:=by have:=(Array.getElem?_eq_some_iff.1 hq).1;simpa using this
  rw[get q hD]at hq
  exact h2 v (Array.mem_of_getElem? hq)
 ·have dT:=oP z n row (List.mem_of_getElem? e1)
  subst dT
  have hD:=AB (size:=row.length) (fun r hr=>by rw[oP row n r hr]) e1 e2
  rw[lX]at hD
  rw[get _ hD]at e3
  have hj:=(List.getElem?_eq_some_iff.1 e2).1
  rw[Nat.mul_comm,Nat.mul_add_mod,Nat.mod_eq_of_lt hj]at e3
  exact h3 j d v e2 e3
theorem lW.set {size:Nat} {rows:List (List D)} {vs:Array Value} (h:lW M s size rows vs) {d:D} {v:Value} {row:List D} (hd:RD M s d v) (hr:d.row=some row) (hl:row.length=size) {i:Nat} (hi:i<rows.length) :
 lW M s size (rows.set i row) (v.cells.zipIdx.foldl (fun cs (p:Value×Nat)=>cs.setIfInBounds (i*size+p.2) p.1) vs):=by
 obtain⟨h1,h2,h3⟩:=hd.row hr
 obtain⟨g1,g2,g3,g4⟩:=h
 have e:v.cells.zipIdx.foldl (fun cs (p:Value×Nat)=>cs.setIfInBounds (i*size+p.2) p.1) vs=(v.cells.toList.zipIdx 0).foldl (fun cs p=>cs.setIfInBounds (i*size+p.2) p.1) vs:=by
  rw[← Array.foldl_toList];simp
 rw[e]
 have kT:v.cells.toList.length=size:=by simp[h1,hl]
 have jf:i*size+size≤vs.size:=by
  have:(i+1)*size≤rows.length*size:=Nat.mul_le_mul_right _ hi
  rw[Nat.succ_mul]at this;omega
 have fs:=fun q=>vV (i*size) v.cells.toList 0 vs q
 have get : ∀ q,((v.cells.toList.zipIdx 0).foldl (fun cs p=>cs.setIfInBounds (i*size+p.2) p.1) vs)[q]? = if i*size≤q∧q<i*size+size then v.cells.toList[q - i*size]? else vs[q]? :=by
  intro q
  have:=(fs q).2 (by omega)
  rw[kT]at this
  simpa using this
 refine⟨by rw[(fs 0).1];simpa using g1,fun r PO=>?_,fun u hu=>?_,fun i' kg j d' u e1 e2 e3=>?_⟩
 ·rcases List.mem_or_eq_of_mem_set PO with h | rfl
  ·exact g2 r h
  ·exact hl
 ·obtain⟨q,hq⟩:=Array.mem_iff_getElem?.1 hu
  rw[get]at hq
  split at hq
  ·exact h2 u (Array.mem_toList_iff.1 (List.mem_of_getElem? hq))
  ·exact g3 u (Array.mem_of_getElem? hq)
 ·rw [List.getElem?_set]at e1
  rw[get]at e3
  split at e1
  ·rename_i heq;subst heq
   simp at e1
   obtain⟨_,rfl⟩:=e1
   have hj:=(List.getElem?_eq_some_iff.1 e2).1
   rw[if_pos (by omega)]at e3
   rw[show i*size+j - i*size=j by omega]at e3
   exact h3 j d' u e2 (by simpa using e3)
  ·rename_i eA
   have hj:=(List.getElem?_eq_some_iff.1 e2).1
   have AE:=g2 kg (List.mem_of_getElem? e1)
   rw[if_neg]at e3
   ·exact g4 i' kg j d' u e1 e2 e3
   ·rintro⟨a,b⟩
    rcases Nat.lt_or_gt_of_ne eA with h|h
    ·have:(i+1)*size≤i'*size:=Nat.mul_le_mul_right _ h
     rw[Nat.succ_mul]at this;omega
    ·have:(i'+1)*size≤i*size:=Nat.mul_le_mul_right _ h
     rw[Nat.succ_mul]at this;omega
theorem AG {size:Nat} : ∀ (vp:List (Nat×Value)) (dp:List (Nat×D)) (rows:List (List D)) (vs:Array Value) (oD:List (List D)),lW M s size rows vs→
 dp.length=vp.length→(∀ (j:Nat) (i:Nat) (v:Value) (i':Nat) (d:D),vp[j]? = some (i,v)→dp[j]? = some (i',d)→i'=i∧RD M s d v)→
 jQ size rows dp=some oD→∃ fy,Instr.fill (fun i=>some (i*size,size)) vs vp=some fy∧lW M s size oD fy∧oD.length=rows.length∧fy.size=vs.size
 | [],[],rows,vs,oD,h,_,_,e=>by cases e;exact⟨vs,rfl,h,rfl,rfl⟩
 | [],_::_,_,_,_,_,hl,_,_=>by simp at hl
 |_::_,[],_,_,_,_,hl,_,_=>by simp at hl
 | (i,v)::vp,(i',d)::dp,rows,vs,oD,h,hl,hp,e=>by
  obtain⟨h1,h2⟩:=hp 0 i v i' d rfl rfl
  subst h1
  unfold jQ at e
  split at e
  ·cases e
  ·rename_i row hr
   split at e
   ·rename_i hc
    obtain⟨c1,c2⟩:=hc
    have dL:=(h2.row hr).1
    have aem:=h.set h2 hr c1 c2
    obtain⟨fy,f1,f2,f3,f4⟩:=AG vp dp (rows.set i' row) _ oD aem (by simpa using hl)
     (fun j i v i' d e1 e2=>hp (j+1) i v i' d (by simpa using e1) (by simpa using e2)) e
    have jf:i'*size+size≤vs.size:=by
     have:(i'+1)*size≤rows.length*size:=Nat.mul_le_mul_right _ c2
     have:=h.1
     rw[Nat.succ_mul]at *;omega
    refine⟨fy, ?_,f2,by rw[f3];simp, ?_⟩
    ·unfold Instr.fill
     simp only
     rw[if_neg]
     ·exact f1
     ·simp;exact⟨by omega,by omega⟩
    ·rw [f4]
     have:=(vV (i'*size) v.cells.toList 0 vs 0).1
     rw[← this, ← Array.foldl_toList];simp
   ·cases e
theorem Ms (r:Rel M s w) {size:Nat} {rows:List (List D)} {vs:Array Value} (T:TypeId) (h:lW M s size rows vs) :
 RD (M.fB w.heap.size vs.size vs) s (.slice .full size rows) (.slice (some ⟨w.heap.size,0,none⟩) rows.length rows.length)∧
 Rel (M.fB w.heap.size vs.size vs) s (w.alloc (.cells vs T))∧Ext M s w (M.fB w.heap.size vs.size vs) s (w.alloc (.cells vs T)):=by
 obtain⟨r',e'⟩:=r.fB vs.size vs T (0,0) h.2.2.1
 obtain⟨g1,g2⟩:=h.fixed e'.le (b:=w.heap.size) (fun o ho=>by
  have:o<vs.size:=Nat.lt_of_lt_of_le ho h.1
  simp[Map.fB,this])
 exact⟨.slice .full size rows w.heap.size 0 rows.length (Nat.le_refl _) h.2.1 g1 g2 rfl,r',e'⟩
theorem ll {t u ty e:TypeId} {i:TypeInfo} (ht:P.underlying t=some (.slice e)) (hi:P.info? e=some i) {base:Option Addr} {len cap:Nat} {y:Value} (hs:Src P i.size u y 0 [] w) (hc:len≤cap) :
 (Builtin.append_ #[t,u] ty #[.slice base len cap,y]).run P w = .ok (.slice base len cap) w:=by
 have lY:=hs.cells
 rcases hs.kind with ⟨e',hk⟩|hk<;>cases base<;>simp[Builtin.append_,run_underlying ht,run_underlying hk,sizeOf,typeInfo,hi,hs.len,hc,lY,storeCells]
theorem F3 (r:Rel M s w) {u e':TypeId} (hu:P.underlying u=some (.slice e')) {g:Tag} {size:Nat} {rows:List (List D)} {y:Value} (hy:RD M s (.slice g size rows) y) :
 ∃ news:List Value,Src P size u y rows.length news w∧
  (∀ (i:Nat) (row:List D) (j:Nat) (d:D) (v:Value),rows[i]? = some row→row[j]? = some d→news[i*size+j]? = some v→RD M s d v)∧
  ∀ (b q n c:Nat),y = .slice (some ⟨b,q,none⟩) n c→∀ o,o<rows.length*size→M.G b (q+o)=news[o]? :=by
 rcases hy.jb with ⟨rfl,rfl,_⟩|⟨rfl,_,a,cap,rfl⟩|⟨b,q,cap,rfl,hl,hs,g1,g2,_⟩
 ·exact⟨[],Src.ofNil w hu 0,by simp,by simp⟩
 ·exact⟨[],Src.ofSlice w hu a 0 cap [] (by simp) (by simp) (by simp),by simp,by simp⟩
 ·obtain⟨us,hlen,Cq⟩:=yB (M:=M) (b:=b) (rows.length*size) q (fun k hk=>by
   have hz:0<size:=by
    rcases Nat.eq_zero_or_pos size with h|h
    ·subst h;simp at hk
    ·exact h
   have hi:k / size<rows.length:=by rw[Nat.div_lt_iff_lt_mul hz];exact hk
   obtain⟨row,dT⟩ : ∃ row,rows[k / size]? = some row:=⟨_,List.getElem?_eq_getElem hi⟩
   have AE:=hs row (List.mem_of_getElem? dT)
   have hj:k % size<row.length:=by rw[AE];exact Nat.mod_lt _ hz
   obtain⟨u,hu⟩:=g1 _ row _ _ dT (List.getElem?_eq_getElem hj)
   refine⟨u, ?_⟩
   rw[← hu,Nat.mul_comm (k / size) size,Nat.div_add_mod])
  refine⟨us,Src.ofSlice w hu ⟨b,q,none⟩ rows.length cap us hlen (fun j u h=>by rw[mg];exact(r.comm _ _ _ (Cq j u h)).1) (fun u hu=>?_),fun i row j d v e1 e2 e3=>g2 i row j d v e1 e2 (Cq _ v e3),
   fun b' q' n c heq o ho=>by
    cases heq
    rw[Cq o _ (List.getElem?_eq_getElem (by omega)),List.getElem?_eq_getElem (by omega)]⟩
  obtain⟨j,hj⟩:=List.mem_iff_getElem?.1 hu
  exact(r.comm _ _ _ (Cq j u hj)).2
theorem DR {size:Nat} {rows new:List (List D)} {pH news:List Value} (uV : ∀ row∈rows,row.length=size) (zO : ∀ row∈new,row.length=size)
 (l1:pH.length=rows.length*size) (l2:news.length=new.length*size) (o1 : ∀ u∈pH,u.oneCell'=true) (o2 : ∀ u∈news,u.oneCell'=true)
 (h1 : ∀ (i:Nat) (row:List D) (j:Nat) (d:D) (v:Value),rows[i]? = some row→row[j]? = some d→pH[i*size+j]? = some v→RD M s d v)
 (h2 : ∀ (i:Nat) (row:List D) (j:Nat) (d:D) (v:Value),new[i]? = some row→row[j]? = some d→news[i*size+j]? = some v→RD M s d v)
 (z:Array Value) (hz : ∀ v∈z,v.oneCell'=true):lW M s size (rows++new) ((pH++news).toArray++z):=by
 have hs : ∀ row∈rows++new,row.length=size:=fun row h=>(List.mem_append.1 h).elim (uV row) (zO row)
 refine⟨by simp[l1,l2,Nat.add_mul],hs,fun v hv=>?_,fun i row j d v e1 e2 e3=>?_⟩
 ·simp at hv
  rcases hv with (h|h)|h
  ·exact o1 v h
  ·exact o2 v h
  ·exact hz v h
 ·have hD:=AB hs e1 e2
  rw[List.length_append,Nat.add_mul]at hD
  rw[Array.getElem?_append_left (by simp[l1,l2];omega),List.getElem?_toArray]at e3
  by_cases hi:i<rows.length
  ·rw [List.getElem?_append_left hi]at e1
   have:=AB uV e1 e2
   rw[List.getElem?_append_left (by omega)]at e3
   exact h1 i row j d v e1 e2 e3
  ·rw [List.getElem?_append_right (by omega)]at e1
   have uh:rows.length*size≤i*size:=Nat.mul_le_mul_right _ (by omega)
   rw[List.getElem?_append_right (by omega),l1]at e3
   refine h2 (i - rows.length) row j d v e1 e2 ?_
   rw[← e3]
   congr 1
   rw[Nat.sub_mul];omega
theorem tB {z:Array Value} (h : ∀ v∈z,v.oneCell'=true) (n:Nat) : ∀ v∈Builtin.zeroCells z n,v.oneCell'=true:=by
 intro v hv
 unfold Builtin.zeroCells at hv
 obtain⟨q,hq,rfl⟩:=Array.mem_map.1 hv
 have hD:q<n*z.size:=by simpa using hq
 have hz:0<z.size:=by
  rcases Nat.eq_zero_or_pos z.size with h|h
  ·rw[h]at hD;simp at hD
  ·exact h
 have:=Nat.mod_lt q hz
 rw[getElem!_pos z (q % z.size) this]
 exact h _ (Array.getElem_mem this)
def E7 (eb:Bool) (size bytes:Nat) (x y:D) (s:St):Option (D×St):=
 match x,y with
 | .slice g z rows, .slice _ z' new=>
  if(rows = []∨z=size)∧(new = []∨z'=size)∧(rows.length+new.length)*(bytes+1)≤bJ then
   match new with
   | []=>some (.slice g z rows,s)
   |_::_=>
    match g with
    | .full=>some (.slice (.tok s.au.length eb) size (rows++new),{s with au:=s.au++ [some (rows.length+new.length)]})
    | .shared=>none
    | .tok t y=>if(y=true→eb=true)∧z=size∧s.au[t]? = some (some rows.length)then some (.slice (.tok t y) size (rows++new),{s with au:=s.au.set t (some (rows.length+new.length))})else none
  else none
 |_,_=>none
theorem ZX {size bytes:Nat} {x y d:D} {s s':St} (h:ig size bytes x y s=some (d,s')):E7 false size bytes x y s=some (d,s'):=by
 unfold ig at h
 unfold E7
 split at h
 ·split at h
  ·rename_i hc
   simp only[hc,and_self,if_true]
   split at h
   ·exact h
   ·split at h
    ·exact h
    ·exact h
    ·cases h
    ·split at h
     ·rename_i hq
      simp only[hq,and_self,Bool.false_eq_true,false_imp_iff,if_true]
      exact h
     ·cases h
  ·cases h
 ·cases h
theorem PQ {x y d:D} {s s':St} (h:Aq x y s=some (d,s')):E7 true 1 1 x y s=some (d,s'):=by
 unfold Aq at h
 unfold E7
 split at h
 ·split at h
  ·rename_i hc
   simp only[hc,and_self,if_true]
   split at h
   ·exact h
   ·split at h
    ·exact h
    ·exact h
    ·split at h
     ·rename_i hq
      simp only[hq,and_self,imp_true_iff,if_true]
      exact h
     ·cases h
  ·cases h
 ·cases h
theorem VF {b:Bool} {n:Nat} (h:b=true→n=1) (hn:0<n):zs (bz b n)=n:=by
 cases b
 ·show(if n=0 then 1 else n)=n
  rw[if_neg (by omega)]
 ·simp[zs,bz,h rfl]
theorem CZ (eb:Bool) (r:Rel M s w) {t u ty e:TypeId} {i:TypeInfo} {z:Value} (ht:P.underlying t=some (.slice e)) (hi:P.info? e=some i) (hz:i.zero=some z)
 (xH:z.cells.size=i.size) (Ct : ∀ v∈z.cells,v.oneCell'=true) {dx dy d:D} {x y:Value} {s':St} (hx:RD M s dx x) (VG:eb=true→e=ph∧i.size=1) (rU:0<i.size) (he:E7 eb i.size i.bytes dx dy s=some (d,s'))
 (src : ∀ (g:Tag) (size:Nat) (rows:List (List D)),dy = .slice g size rows→(rows = []→Src P i.size u y 0 [] w)∧(rows≠ []→size=i.size→(∀ row∈rows,row.length=i.size)∧∃ news:List Value,Src P i.size u y rows.length news w∧
  (∀ (k:Nat) (row:List D) (j:Nat) (d:D) (v:Value),rows[k]? = some row→row[j]? = some d→news[k*i.size+j]? = some v→RD M s d v))) :
 ∃ v w' M',(Builtin.append_ #[t,u] ty #[x,y]).run P w = .ok v w'∧Rel M' s' w'∧RD M' s' d v∧Ext M s w M' s' w':=by
 unfold E7 at he
 split at he
 case h_2=>cases he
 rename_i g zx rows g' zy new
 split at he
 case isFalse=>cases he
 rename_i hc
 obtain⟨pB,H2,vW⟩:=hc
 cases new with
 | nil=>
  simp only at he
  cases he
  have uW:Src P i.size u y 0 [] w:=(src _ _ _ rfl).1 rfl
  rcases hx.jb with ⟨_,hv,_⟩|⟨_,_,a,cap,hv⟩|⟨b,q,cap,hv,hl,_⟩
  ·refine⟨x,w,M, ?_,r,hx,Ext.refl M s w⟩
   rw[hv]
   exact ll ht hi uW (Nat.le_refl _)
  ·refine⟨x,w,M, ?_,r,hx,Ext.refl M s w⟩
   rw[hv]
   exact ll ht hi uW (Nat.zero_le _)
  ·refine⟨x,w,M, ?_,r,hx,Ext.refl M s w⟩
   rw[hv]
   exact ll ht hi uW hl
 | cons n0 new=>
  have eA:(n0::new)≠ []:=by simp
  generalize da:n0::new=dQ at *
  have PR:zy=i.size:=H2.resolve_left eA
  subst PR
  obtain⟨F4,news,hs,BM⟩:=(src _ _ _ rfl).2 eA rfl
  have hm:0<dQ.length:=List.length_pos_iff.2 eA
  have sR:(rows.length+dQ.length)*i.bytes≤140737488355328:=by rw[Nat.mul_succ]at vW;simp only[bJ]at vW;omega
  have PS:rows.length+dQ.length≤1099511627776:=by rw[Nat.mul_succ]at vW;simp only[bJ]at vW;omega
  -- what the first argument reads as
  obtain⟨base,cap,pH,hxv,hle,jh,hod,VH,ZZ,hsx,hoG,oq⟩ : ∃ (base:Option Addr) (cap:Nat) (pH:List Value),x = .slice base rows.length cap∧rows.length≤cap∧pH.length=rows.length*i.size∧
   (Builtin.firstCells i.size rows.length (.slice base rows.length cap)).run P w.drew = .ok pH.toArray w.drew∧(∀ u∈pH,u.oneCell'=true)∧
   (∀ (k:Nat) (row:List D) (j:Nat) (d:D) (v:Value),rows[k]? = some row→row[j]? = some d→pH[k*i.size+j]? = some v→RD M s d v)∧(∀ row∈rows,row.length=i.size)∧
   (∀ b q,base=some ⟨b,q,none⟩→∀ o,o<rows.length*i.size→M.G b (q+o)=pH[o]?)∧
   ((base=none∧rows = []∧iI M s g zx 0 none cap)∨∃ b q,base=some ⟨b,q,none⟩∧iI M s g zx rows.length (some (b,q)) cap):=by
   rcases pB with h0|h0
   ·subst h0
    rcases hx.jb with ⟨_,hv,oq⟩|⟨_,rfl,_⟩|⟨b,q,cap,hv,hl,_,_,_,oq⟩
    ·exact⟨none,0,[],hv,Nat.le_refl _,by simp,by simp[Builtin.firstCells],by simp,by simp,by simp,by simp, .inl ⟨rfl,rfl,oq⟩⟩
    ·exfalso;simp only[← da]at he;cases he
    ·exact⟨some ⟨b,q,none⟩,cap,[],hv,hl,by simp,by simp[Builtin.firstCells,loadCells,loadCellsFrom],by simp,by simp,by simp,by simp, .inr ⟨b,q,rfl,oq⟩⟩
   ·subst h0
    obtain⟨pH,AJ,ho2,ho3⟩:=F3 r ht hx
    rcases hx.jb with ⟨h0,hv,oq⟩|⟨_,rfl,_⟩|⟨b,q,cap,hv,hl,mQ,_,_,oq⟩
    ·subst h0
     refine⟨none,0,pH,hv,Nat.le_refl _,AJ.newsLen, ?_,AJ.one,ho2,by simp,by simp, .inl ⟨rfl,rfl,oq⟩⟩
     have:=AJ.cellsD;rw[hv]at this;exact this
    ·exfalso;simp only[← da]at he;cases he
    ·refine⟨some ⟨b,q,none⟩,cap,pH,hv,hl,AJ.newsLen, ?_,AJ.one,ho2,mQ,fun b' q' heq o ho=> ?_, .inr ⟨b,q,rfl,oq⟩⟩
     ·have:=AJ.cellsD;rw[hv]at this;exact this
     ·cases heq;exact ho3 b q _ cap hv o ho
  subst hxv
  -- the way that makes a new row
  have grow : ∀ (hg:cap<rows.length+dQ.length),∃ (w':World) (M1:Map) (vs:Array Value) (oQ:Nat),
   (Builtin.append_ #[t,u] ty #[.slice base rows.length cap,y]).run P w = .ok (.slice (some ⟨w.heap.size,0,none⟩) (rows.length+dQ.length) oQ) w'∧
   w'.heap[w.heap.size]? = some (.cells vs e (0,0))∧vs.size=oQ*i.size∧rows.length+dQ.length≤oQ∧M1=M.fB w.heap.size ((rows.length+dQ.length)*i.size) vs∧
   lW M s i.size (rows++dQ) vs∧Rel M1 s w'∧Ext M s w M1 s w':=by
   intro hg
   have uh:=grownCap_ge w (rows.length+dQ.length) cap e
   have dB:=run_append_grow_src (P:=P) w t u ty e i z ht hi hz base rows.length cap pH hod y dQ.length news hs hg (by omega) (growslice_fits hg sR)
   have dT:=DR (M:=M) (s:=s) hsx F4 jh hs.newsLen VH hs.one ZZ BM (Builtin.zeroCells z.cells (grownCap w (rows.length+dQ.length) cap e - (rows.length+dQ.length))) (tB Ct _)
   obtain⟨r1,e1⟩:=(r.of_heap (w':=w.drew) rfl).fB ((rows.length+dQ.length)*i.size) _ e (0,0) dT.2.2.1
   refine⟨_,_,_,_,dB,heap_alloc_new w.drew _, ?_,uh,rfl,dT,r1,(Ext.of_heap (M:=M) (s:=s) (w:=w) (w':=w.drew) rfl rfl rfl rfl).trans e1⟩
   simp only[Array.size_append,List.size_toArray,List.length_append,size_zeroCells,xH,jh,hs.newsLen, ← Nat.add_mul]
   congr 1;omega
  have hlen:(rows++dQ).length=rows.length+dQ.length:=by simp
  cases g with
  |shared=>simp only[← da]at he;cases he
  | full=>
   have tA:cap=rows.length:=by
    rcases oq with ⟨_,h0,h1⟩|⟨_,_,_,h1⟩
    ·subst h0;exact h1
    ·exact h1
   obtain⟨w',M1,vs,oQ,dB,hh,dL,hn,DS,dT,r1,e1⟩:=grow (by omega)
   simp only[← da]at he
   simp only[da]at he
   cases he
   have H3:zs (bz eb i.size)=i.size:=VF (fun h=>(VG h).2) rU
   have VI:bz eb i.size=0→e=ph:=fun h0=>by
    cases eb with
    |true=>exact(VG rfl).1
    |false=>simp[bz]at h0;omega
   obtain⟨r2,l2⟩:=r1.VE (rows.length+dQ.length) w.heap.size oQ (bz eb i.size) vs e hh (by rw[H3];exact dL) hn VI
    (fun off ho=>by rw[H3]at ho;rw[DS];simp[Map.fB];omega)
    (fun o ho=>by have:=r.qa ho;rw [DS];show M.mu o≠_;omega) (fun q c z' hl heq=>by
     have:M.be q=some (w.heap.size,c,z'):=by rw[DS]at heq;exact heq
     have:=r.sn hl this;omega)
   refine⟨_,w',_,dB,r2, ?_, ?_⟩
   ·obtain⟨f1,f2⟩:=dT.fixed (e1.le.trans l2) (b:=w.heap.size) (fun o ho=>by
     rw[DS,hlen]at *
     simp[Map.eK,Map.fB,ho])
    have key:=RD.slice (M:=M1.eK s.au.length (some (w.heap.size,oQ,bz eb i.size))) (s:= {s with au:=s.au++ [some (rows.length+dQ.length)]}) (.tok s.au.length eb) i.size (rows++dQ) w.heap.size 0 oQ (by rw[hlen];exact hn) dT.2.1 f1 f2
     ⟨by simp,fun n qJ=>by
      simp at qJ
      subst qJ
      exact⟨by rw[hlen];exact Nat.le_refl _,fun _=> .inr ⟨_,rfl,by simp[Map.eK]⟩⟩⟩
    rw[hlen]at key
    exact key
   ·refine⟨e1.le.trans l2,e1.kept,e1.tw,fun q b c z' hl heq=> ?_,e1.rO,e1.size,e1.os,e1.tape,e1.output⟩
    obtain⟨k,hk⟩:=hl
    rcases Nat.lt_or_ge q s.au.length with h|h
    ·have H4:M1.be q=some (b,c,z'):=by
      have:(M1.eK s.au.length (some (w.heap.size,oQ,bz eb i.size))).be q=M1.be q:=by simp[Map.eK];omega
      rw[this]at heq;exact heq
     simp only[List.getElem?_append_left h]at hk
     exact e1.qh q b c z' ⟨k,hk⟩ H4
    ·have:=(List.getElem?_eq_some_iff.1 hk).1
     simp at this
     have:q=s.au.length:=by omega
     subst this
     have:(M1.eK s.au.length (some (w.heap.size,oQ,bz eb i.size))).be s.au.length=some (w.heap.size,oQ,bz eb i.size):=by simp[Map.eK]
     rw[this]at heq;cases heq
     exact .inr (Nat.le_refl _)
  | tok q yb=>
   simp only[← da]at he
   simp only[da]at he
   split at he
   case isFalse=>cases he
   rename_i hq
   obtain⟨VI,hzx,hq⟩:=hq
   cases he
   have H3:zs (bz yb i.size)=i.size:=VF (fun h=>(VG (VI h)).2) rU
   have aiB:bz yb i.size=0→e=ph:=fun h0=>by
    cases yb with
    |true=>exact(VG (VI rfl)).1
    |false=>simp[bz]at h0;omega
   have Mt : ∀ (hg:cap<rows.length+dQ.length),∃ v w' M',(Builtin.append_ #[t,u] ty #[.slice base rows.length cap,y]).run P w = .ok v w'∧Rel M' {s with au:=s.au.set q (some (rows.length+dQ.length))} w'∧
    RD M' {s with au:=s.au.set q (some (rows.length+dQ.length))} (.slice (.tok q yb) i.size (rows++dQ)) v∧Ext M s w M' {s with au:=s.au.set q (some (rows.length+dQ.length))} w':=by
    intro hg
    obtain⟨w',M1,vs,oQ,dB,hh,dL,hn,DS,dT,r1,e1⟩:=grow hg
    have H5:q<s.au.length:=(List.getElem?_eq_some_iff.1 hq).1
    obtain⟨r2,l2⟩:=r1.aei q rows.length (rows.length+dQ.length) w.heap.size oQ (bz yb i.size) vs e hq (by omega) hh (by rw[H3];exact dL) hn aiB
     (fun off ho=>by rw[H3]at ho;rw[DS];simp[Map.fB];omega)
     (fun o ho=>by have:=r.qa ho;rw [DS];show M.mu o≠_;omega) (fun q c z' hl heq=>by
      have:M.be q=some (w.heap.size,c,z'):=by rw[DS]at heq;exact heq
      have:=r.sn hl this;omega)
    refine⟨_,w',_,dB,r2, ?_, ?_⟩
    ·obtain⟨f1,f2⟩:=dT.fixed (e1.le.trans l2) (b:=w.heap.size) (fun o ho=>by
      rw[DS,hlen]at *
      simp[Map.eK,Map.fB,ho])
     have key:=RD.slice (M:=M1.eK q (some (w.heap.size,oQ,bz yb i.size))) (s:= {s with au:=s.au.set q (some (rows.length+dQ.length))}) (.tok q yb) i.size (rows++dQ) w.heap.size 0 oQ (by rw[hlen];exact hn) dT.2.1 f1 f2
      ⟨by simp [H5],fun n qJ=>by
       simp[H5]at qJ
       subst qJ
       exact⟨by rw[hlen];exact Nat.le_refl _,fun _=> .inr ⟨_,rfl,by simp[Map.eK]⟩⟩⟩
     rw[hlen]at key
     exact key
    ·refine⟨e1.le.trans l2,e1.kept,e1.tw,fun q' b c z' hl heq=> ?_,e1.rO,e1.size,e1.os,e1.tape,e1.output⟩
     obtain⟨k,hk⟩:=hl
     by_cases h:q'=q
     ·subst h
      have:(M1.eK q' (some (w.heap.size,oQ,bz yb i.size))).be q'=some (w.heap.size,oQ,bz yb i.size):=by simp[Map.eK]
      rw[this]at heq;cases heq
      exact .inr (Nat.le_refl _)
     ·have H4:M1.be q'=some (b,c,z'):=by
       have:(M1.eK q (some (w.heap.size,oQ,bz yb i.size))).be q'=M1.be q':=by simp[Map.eK,h]
       rw[this]at heq;exact heq
      simp only[List.getElem?_set_ne (Ne.symm h)]at hk
      exact e1.qh q' b c z' ⟨k,hk⟩ H4
   rcases oq with ⟨rfl,rfl,h1⟩|⟨b,k,rfl,h1⟩
   ·obtain⟨_,h2⟩:=h1
    obtain⟨_,h3⟩:=h2 _ hq
    rcases h3 rfl with ⟨_,h4⟩|⟨b,h4,_⟩
    ·exact Mt (by simp;omega)
    ·cases h4
   ·obtain⟨_,h2⟩:=h1
    obtain⟨_,h3⟩:=h2 _ hq
    rcases h3 rfl with ⟨_,h4⟩|⟨b2,h4,kB⟩
    ·exact Mt (by omega)
    cases h4
    subst hzx
    by_cases qH:rows.length+dQ.length≤cap
    ·rcases r.tok q rows.length hq with ⟨h4,_⟩ | ⟨b',qj,yy,vs,T,h4,h5,h6,h7,h8⟩
     ·rw[kB]at h4;cases h4
     ·rw [kB]at h4;cases h4
      rw[H3]at h6
      obtain⟨r2,e2⟩:=r.aej q rows.length dQ.length b cap (bz yb i.size) i.size news H3 hq kB hs.newsLen qH hm hs.one vs T h5 h6 h8.2
      have jf:rows.length*i.size+news.length≤vs.size:=by rw[hs.newsLen,h6, ← Nat.add_mul];exact Nat.mul_le_mul_right _ qH
      have ja:=run_storeCells_at P b (rows.length*i.size) T news 0 vs w h5 (by simpa using jf) hs.one
      simp only[Nat.add_zero]at ja
      have dB:(Builtin.append_ #[t,u] ty #[.slice (some ⟨b,0,none⟩) rows.length cap,y]).run P w = .ok (.slice (some ⟨b,0,none⟩) (rows.length+dQ.length) cap) (w.setRow b (vs.toList.take (rows.length*i.size)++news++vs.toList.drop (rows.length*i.size+news.length)).toArray):=by
       rcases hs.kind with ⟨La,hk⟩|hk<;>simp[Builtin.append_,run_underlying ht,run_underlying hk,sizeOf,typeInfo,hi,hs.len,qH,hs.cells,Addr.add_lit,ja]
      refine⟨_,_,_,dB,r2, ?_,e2⟩
      have hG : ∀ o,o<(rows++dQ).length*i.size→(M.fix b (rows.length*i.size) news).G b o=(pH++news).toArray[o]? :=by
       intro o ho
       rw[hlen,Nat.add_mul]at ho
       rw[List.getElem?_toArray]
       by_cases h9:o<rows.length*i.size
       ·rw [List.getElem?_append_left (by omega)]
        have:(M.fix b (rows.length*i.size) news).G b o=M.G b o:=by simp[Map.fix];omega
        rw[this]
        have:=hoG b 0 rfl o h9
        rwa [Nat.zero_add]at this
       ·rw [List.getElem?_append_right (by omega),jh]
        have:(M.fix b (rows.length*i.size) news).G b o=news[o - rows.length*i.size]? :=by
         simp only[Map.fix];rw[if_pos ⟨trivial,by omega,by rw[hs.newsLen];omega⟩]
        rw[this]
      have dT:=DR (M:=M) (s:=s) hsx F4 jh hs.newsLen VH hs.one ZZ BM #[] (by simp)
      rw[Array.append_empty]at dT
      obtain⟨f1,f2⟩:=dT.fixed e2.le (b:=b) hG
      have H5:q<s.au.length:=(List.getElem?_eq_some_iff.1 hq).1
      have key:=RD.slice (M:=M.fix b (rows.length*i.size) news) (s:= {s with au:=s.au.set q (some (rows.length+dQ.length))}) (.tok q yb) i.size (rows++dQ) b 0 cap (by rw[hlen];exact qH) dT.2.1 f1 f2
       ⟨by simp [H5],fun n qJ=>by
        simp[H5]at qJ
        subst qJ
        exact⟨by rw[hlen];exact Nat.le_refl _,fun _=> .inr ⟨_,rfl,kB⟩⟩⟩
      rw[hlen]at key
      exact key
    ·exact Mt (by omega)
theorem E8 (r:Rel M s w) {u e':TypeId} {i:TypeInfo} (hu:P.underlying u=some (.slice e')) {y:Value} {dy:D} (hy:RD M s dy y) (g:Tag) (size:Nat) (rows:List (List D)) (Z0:dy = .slice g size rows) :
 (rows = []→Src P i.size u y 0 [] w)∧(rows≠ []→size=i.size→(∀ row∈rows,row.length=i.size)∧∃ news:List Value,Src P i.size u y rows.length news w∧
  (∀ (k:Nat) (row:List D) (j:Nat) (d:D) (v:Value),rows[k]? = some row→row[j]? = some d→news[k*i.size+j]? = some v→RD M s d v)):=by
 subst Z0
 refine⟨fun h0=>?_,fun eA dL=>?_⟩
 ·subst h0
  rcases hy.jb with ⟨_,rfl,_⟩|⟨_,_,a,cap,rfl⟩|⟨b,q,cap,rfl,_⟩
  ·exact Src.ofNil w hu 0
  ·exact Src.ofSlice w hu a 0 cap [] (by simp) (by simp) (by simp)
  ·exact Src.ofSlice w hu ⟨b,q,none⟩ 0 cap [] (by simp) (by simp) (by simp)
 ·subst dL
  obtain⟨news,h1,h2,_⟩:=F3 r hu hy
  refine⟨?_,news,h1,h2⟩
  rcases hy.jb with ⟨h0,_⟩|⟨h0,_⟩|⟨_,_,_,_,_,h,_⟩
  ·exact(eA h0).elim
  ·exact(eA h0).elim
  ·exact h
theorem PT (r:Rel M s w) {t u ty e e':TypeId} {i:TypeInfo} {z:Value} (ht:P.underlying t=some (.slice e)) (hu:P.underlying u=some (.slice e')) (hi:P.info? e=some i) (hz:i.zero=some z)
 (xH:z.cells.size=i.size) (Ct : ∀ v∈z.cells,v.oneCell'=true) {dx dy d:D} {x y:Value} {s':St} (hx:RD M s dx x) (hy:RD M s dy y) (rU:0<i.size) (he:ig i.size i.bytes dx dy s=some (d,s')) :
 ∃ v w' M',(Builtin.append_ #[t,u] ty #[x,y]).run P w = .ok v w'∧Rel M' s' w'∧RD M' s' d v∧Ext M s w M' s' w':=
 CZ false r ht hi hz xH Ct hx (fun h=>by cases h) rU (ZX he) (E8 r hu hy)
theorem Mu (r:Rel M s w) {t u ty e':TypeId} {i:TypeInfo} {z:Value} (ht:P.underlying t=some (.slice ph)) (hu:P.underlying u=some (.slice e')) (hi:P.info? ph=some i) (hz:i.zero=some z) (h1:i.size=1) (h2:i.bytes=1)
 (xH:z.cells.size=i.size) (Ct : ∀ v∈z.cells,v.oneCell'=true) {dx dy d:D} {x y:Value} {s':St} (hx:RD M s dx x) (hy:RD M s dy y) (he:Aq dx dy s=some (d,s')) :
 ∃ v w' M',(Builtin.append_ #[t,u] ty #[x,y]).run P w = .ok v w'∧Rel M' s' w'∧RD M' s' d v∧Ext M s w M' s' w':=
 CZ true r ht hi hz xH Ct hx (fun _=>⟨rfl,h1⟩) (by omega) (by rw[h1,h2];exact PQ he) (E8 r hu hy)
theorem Mv (r:Rel M s w) {t u ty:TypeId} {i:TypeInfo} {z:Value} (ht:P.underlying t=some (.slice ph)) (hu:P.underlying u=some .string) (hi:P.info? ph=some i) (hz:i.zero=some z) (h1:i.size=1) (h2:i.bytes=1)
 (xH:z.cells.size=i.size) (Ct : ∀ v∈z.cells,v.oneCell'=true) {dx d:D} {x:Value} {l:List UInt8} {s':St} (hx:RD M s dx x) (he:Aq dx (.slice .shared 1 (l.map fun c=> [.int .u8 c.toNat])) s=some (d,s')) :
 ∃ v w' M',(Builtin.append_ #[t,u] ty #[x, .string ⟨⟨l⟩⟩]).run P w = .ok v w'∧Rel M' s' w'∧RD M' s' d v∧Ext M s w M' s' w':=by
 have hs:Src P i.size u (.string ⟨⟨l⟩⟩) l.length (l.map fun c=> .int .u8 c.toNat) w:=by
  rw[h1]
  exact Src.ofString w hu ⟨⟨l⟩⟩
 refine CZ true r ht hi hz xH Ct hx (fun _=>⟨rfl,h1⟩) (by omega) (by rw[h1,h2];exact PQ he) fun g size rows Z0=>?_
 cases Z0
 refine⟨fun h0=>?_,fun eA dL=>?_⟩
 ·have:l = []:=by simpa using h0
  subst this
  exact hs
 ·refine⟨fun row hr=> ?_,_,by simpa using hs,fun k row j d v e1 e2 e3=> ?_⟩
  ·obtain⟨c,_,rfl⟩:=List.mem_map.1 hr
   rw[h1];rfl
  ·rw [List.getElem?_map,Option.map_eq_some_iff]at e1
   obtain⟨c,e1,rfl⟩:=e1
   cases j with
   |zero=>
    simp at e2
    subst e2
    simp[h1,e1]at e3
    subst e3
    exact .int _ _
   |succ j=>simp at e2
end
end Go.Abs
namespace Go.Abs
section
variable {P:Program} {M:Map} {s:St} {w:World}
theorem map_some {α β:Type} {f:α→β} {x:Option α} {y:β} (h:x.map f=some y) : ∃ a,x=some a∧y=f a:=by
 cases x with
 |none=>cases h
 |some a=>cases h;exact⟨a,rfl,rfl⟩
theorem sq {t:TypeId} {z:List D} (h:zeroOf P t=some z) : ∃ i v,P.info? t=some i∧i.zero=some v∧v.cells.size=i.size∧nJ v.cells.toList=some z:=by
 unfold zeroOf at h
 split at h
 ·rename_i i hi
  split at h
  ·rename_i v hv
   split at h
   ·exact⟨i,v,hi,hv, ‹_›,h⟩
   ·cases h
  ·cases h
 ·cases h
theorem qK {z:List D} {v:Value} (h:nJ v.cells.toList=some z):sP M s z v.cells:=by
 obtain⟨h1,h2,h3⟩:=lb (M:=M) (s:=s) h
 exact⟨by simpa using h1.symm,fun u hu=>h2 u (by simpa using hu),fun i d u e1 e2=>h3 i d u e1 (by simpa using e2)⟩
theorem Mw {t:TypeId} {z:List D} (h:yx P t=some z) : ∃ i v,P.info? t=some i∧i.zero=some v∧v.cells.size=i.size∧sP M s z v.cells:=by
 unfold yx at h
 split at h
 ·rename_i i hi
  split at h
  ·rename_i v hv
   split at h
   ·refine⟨i,v,hi,hv, ‹_›, ?_⟩
    obtain⟨h1,h2,h3⟩:=Cr (M:=M) (s:=s) h
    exact⟨by simpa using h1.symm,fun u hu=>h2 u (by simpa using hu),fun i d u e1 e2=>h3 i d u e1 (by simpa using e2)⟩
   ·cases h
  ·cases h
 ·cases h
theorem AL {t:TypeId} {tm:Tm} {act:Act} (hr:lT M s tm act.tmps) : ∀ {l:List (Nat×Operand)} {ps:List (Nat×Nat×X)},Av P t l=some ps→
 (ps.map fun p=>(p.1,p.2.1,p.2.2.ev tm)).length=(l.map fun p=>(p.1,act.eval p.2)).length∧
 ∀ (j:Nat) (i:Nat) (v:Value) (off size:Nat) (d:D),(l.map fun p=>(p.1,act.eval p.2))[j]? = some (i,v)→(ps.map fun p=>(p.1,p.2.1,p.2.2.ev tm))[j]? = some (off,size,d)→
  (∃ a,l9 P t i=some (off,size,a))∧RD M s d v
 | [],ps,h=>by cases h;exact⟨rfl,by simp⟩
 | (i0,x)::l,ps,h=>by
  unfold Av at h
  split at h
  ·rename_i off size a x' r' h1 h2 h3
   cases h
   obtain⟨g1,g2⟩:=AL hr h3
   refine⟨by simpa using g1,fun j i v wS yy d e1 e2=>?_⟩
   cases j with
   |zero=>
    simp at e1 e2
    obtain⟨rfl,rfl⟩:=e1
    obtain⟨rfl,rfl,rfl⟩:=e2
    exact⟨⟨a,h1⟩,bP h2 hr⟩
   |succ j=>exact g2 j i v wS yy d (by simpa using e1) (by simpa using e2)
  ·cases h
theorem DT {tm:Tm} {act:Act} (hr:lT M s tm act.tmps) : ∀ {l:List (Nat×Operand)} {ps:List (Nat×X)},HU l=some ps→
 (ps.map fun p=>(p.1,p.2.ev tm)).length=(l.map fun p=>(p.1,act.eval p.2)).length∧
 ∀ (j:Nat) (i:Nat) (v:Value) (i':Nat) (d:D),(l.map fun p=>(p.1,act.eval p.2))[j]? = some (i,v)→(ps.map fun p=>(p.1,p.2.ev tm))[j]? = some (i',d)→i'=i∧RD M s d v
 | [],ps,h=>by cases h;exact⟨rfl,by simp⟩
 | (i0,x)::l,ps,h=>by
  unfold HU at h
  split at h
  ·rename_i x' r' h1 h2
   cases h
   obtain⟨g1,g2⟩:=DT hr h2
   refine⟨by simpa using g1,fun j i v i' d e1 e2=>?_⟩
   cases j with
   |zero=>
    simp at e1 e2
    obtain⟨rfl,rfl⟩:=e1
    obtain⟨rfl,rfl⟩:=e2
    exact⟨rfl,bP h1 hr⟩
   |succ j=>exact g2 j i v i' d (by simpa using e1) (by simpa using e2)
  ·cases h
theorem DU : ∀ (l:List Field),(∀ f∈l,(P.info? f.type).isSome)→
 ∃ ps:List (Nat×Nat),(l.mapM fun f=>do pure (f.offset, ← sizeOf f.type):Sem (List (Nat×Nat))).run P w = .ok ps w∧
  ∀ (j:Nat) (f:Field) (i:TypeInfo),l[j]? = some f→P.info? f.type=some i→ps[j]? = some (f.offset,i.size)
 | [],_=>⟨[],rfl,by simp⟩
 | f::l,h=>by
  obtain⟨i,hi⟩:=Option.isSome_iff_exists.1 (h f (by simp))
  obtain⟨ps,h1,h2⟩:=DU l (fun g hg=>h g (by simp[hg]))
  refine⟨(f.offset,i.size)::ps, ?_,fun j g i' e1 e2=>?_⟩
  ·rw [List.mapM_cons]
   simp only[Sem.run_bind,sizeOf,fO P hi,Result.andThen_ok,Sem.run_pure]at h1 ⊢
   simp only[h1,Result.andThen_ok]
  ·cases j with
   |zero=>simp at e1;subst e1;rw[hi]at e2;cases e2;rfl
   |succ j=>exact h2 j g i' (by simpa using e1) e2
theorem Mx (r:Rel M s w) {t:TypeId} {fs:Array Field} {z:List D} {l:List (Nat×Operand)} {ps:List (Nat×Nat×X)} {tm:Tm} {act:Act} {cs:List D} (hr:lT M s tm act.tmps)
 (ht:P.underlying t=some (.struct fs)) (DV:(fs.toList.all fun f=>(P.info? f.type).isSome)=true) (hz:yx P t=some z) (hp:Av P t l=some ps) (hf:qC z (ps.map fun p=>(p.1,p.2.1,p.2.2.ev tm))=some cs) :
 cG P M s w (do pure (.value (← Instr.build t (l.toArray.map fun(i,x)=>(i,act.eval x))))) (.agg cs) s:=by
 obtain⟨i,v,h1,h2,h3,hc⟩:=Mw (M:=M) (s:=s) hz
 obtain⟨g1,g2⟩:=AL hr hp
 obtain⟨pl,p1,p2⟩:=DU (P:=P) (w:=w) fs.toList (fun f hf'=>by simpa using List.all_eq_true.1 DV f hf')
 have XD:(fs.mapM fun f=>do pure (f.offset, ← sizeOf f.type):Sem (Array (Nat×Nat))).run P w = .ok pl.toArray w:=by
  rw[Array.mapM_eq_mapM_toList,Sem.run_map,p1];rfl
 obtain⟨vs,f1,f2⟩:=HZ (place:=(pl.toArray[·]?)) (l.map fun p=>(p.1,act.eval p.2)) _ z v.cells cs hc g1 (fun j i v off size d e1 e2=>by
  obtain⟨⟨a,ha⟩,hd⟩:=g2 j i v off size d e1 e2
  refine⟨?_,hd⟩
  unfold l9 at ha
  rw[ht]at ha
  simp only at ha
  split at ha
  ·rename_i fd hfd
   split at ha
   ·rename_i i' a' gN _
    split at ha
    ·cases ha
    ·cases ha
     simpa using p2 i fd i' (by simpa using hfd) gN
   ·cases ha
  ·cases ha) hf
 refine cG.pure (v:= .agg vs) r ?_ (.agg _ _ f2.1.symm f2.2.1 f2.2.2)
 have rI:(l.toArray.map fun(i,x)=>(i,act.eval x)).toList=l.map fun p=>(p.1,act.eval p.2):=by simp
 unfold Instr.build
 simp only[Sem.run_bind,zeroValue,fO P h1,h2,Result.andThen_ok,Sem.run_pure,run_underlying ht,XD,rI,f1]
theorem Cu (r:Rel M s w) {t e:TypeId} {i:TypeInfo} {z:List D} {n:Nat} {l:List (Nat×Operand)} {ps:List (Nat×X)} {tm:Tm} {act:Act} {rows:List (List D)} (hr:lT M s tm act.tmps)
 (ht:P.underlying t=some (.slice e)) (hi:P.info? e=some i) (hz:zeroOf P e=some z) (rU:0<i.size) (hn:n*i.size≤65536) (hp:HU l=some ps)
 (hf:jQ i.size (fN z n) (ps.map fun p=>(p.1,p.2.ev tm))=some rows) :
 ∃ (vs:Array Value) (T:TypeId),lW M s i.size rows vs∧rows.length=n∧vs.size=n*i.size∧
  (Instr.buildSlice t n (l.toArray.map fun(i,x)=>(i,act.eval x))).run P w = .ok (.slice (some ⟨w.heap.size,0,none⟩) n n) (w.alloc (.cells vs T)):=by
 obtain⟨i',v,h1,h2,h3,h4⟩:=sq hz
 rw[hi]at h1;cases h1
 have hc:=qK (M:=M) (s:=s) h4
 have VJ:z.length=i.size:=by rw[← hc.1,h3]
 have F5:=lW.zero hc (by omega) n
 rw[VJ]at F5
 obtain⟨g1,g2⟩:=DT hr hp
 obtain⟨vs,f1,f2,f3,f4⟩:=AG (l.map fun p=>(p.1,act.eval p.2)) _ _ _ rows F5 g1 g2 hf
 have hzr:=lX z n
 refine⟨vs,e,f2,by rw[f3,hzr],by rw[f4];simp, ?_⟩
 have sR : ¬ (n*i.size > 2 ^ 24):=by omega
 have rI:(l.toArray.map fun(i,x)=>(i,act.eval x)).toList=l.map fun p=>(p.1,act.eval p.2):=by simp
 by_cases h0:n*i.size=0
 ·have lY:(Array.range (n*i.size)).map ((#[] : Array Value)[· % (#[] : Array Value).size]!)=(Array.range (n*i.size)).map (v.cells[· % v.cells.size]!):=by rw [h0];simp
  unfold Instr.buildSlice
  simp only[Sem.run_bind,run_underlying ht,Result.andThen_ok,sizeOf,fO P hi,Sem.run_pure,if_neg sR,if_pos h0,lY,rI,f1,newRow,run_newObj]
  rfl
 ·unfold Instr.buildSlice
  simp only[Sem.run_bind,run_underlying ht,Result.andThen_ok,sizeOf,fO P hi,Sem.run_pure,if_neg sR,if_neg h0,zeroValue,h2,rI,f1,newRow,run_newObj]
  rfl
end
end Go.Abs
namespace Go.Abs
section
variable {P:Program} {M:Map} {s:St} {w:World}
theorem foldl_push (ns:List Int) : ∀ r:ByteArray,ns.foldl (fun r n=>r.push (UInt8.ofNat n.toNat)) r = ⟨r.data++(ns.map fun n=>UInt8.ofNat n.toNat).toArray⟩:=by
 induction ns with
 |nil=>intro r;simp
 |cons n ns ih=>intro r;simp only[List.foldl_cons];rw[ih];simp[ByteArray.push]
theorem uX : ∀ {rows:List (List D)} {l:List UInt8},og rows=some l→∃ ns:List Int,rows=ns.map (fun n=> [.int .u8 n])∧l=ns.map fun n=>UInt8.ofNat n.toNat
 | [],l,h=>by cases h;exact⟨[],rfl,rfl⟩
 | r::rs,l,h=>by
  unfold og at h
  split at h
  ·rename_i b bs h1 h2
   cases h
   obtain⟨ns,g1,g2⟩:=uX h2
   unfold F0 at h1
   split at h1
   ·rename_i n
    cases h1
    exact⟨n::ns,by rw[g1];rfl,by rw[g2];rfl⟩
   ·cases h1
  ·cases h
theorem My (r:Rel M s w) {src dst e:TypeId} {g:Tag} {z:Nat} {rows:List (List D)} {v:Value} {l:List UInt8} (hs:P.underlying src=some (.slice e)) (he:P.underlying e=some (.int .u8)) (hd:P.underlying dst=some .string)
 (hv:RD M s (.slice g z rows) v) (hb:og rows=some l):cG P M s w (do pure (.value (← convert src dst v))) (.str l) s:=by
 obtain⟨ns,rfl,rfl⟩:=uX hb
 refine cG.pure (v:= .string ⟨⟨ns.map fun n=>UInt8.ofNat n.toNat⟩⟩) r ?_ (.str _)
 rcases hv.jb with ⟨h0,rfl,_⟩|⟨h0,_,a,cap,rfl⟩|⟨b,q,cap,rfl,hl,dL,g1,g2,_⟩
 ·have:ns = []:=by simpa using h0
  subst this
  have:=run_convert_bytes_string w src dst e none 0 0 hs he hd
  simp only[Sem.run_bind,this,Conv.bytesToString,Sem.run_pure,Result.andThen_ok]
  rfl
 ·have:ns = []:=by simpa using h0
  subst this
  have h2:=run_convert_bytes_string w src dst e (some a) 0 cap hs he hd
  simp only[Sem.run_bind,h2,Conv.bytesToString,Sem.run_pure,Result.andThen_ok]
  rfl
 ·have lY:=run_loadCells_list (P:=P) w ⟨b,q,none⟩ (ns.map (Value.int .u8)) (fun j v hj=>by
   rw[mg]
   simp only[List.getElem?_map,Option.map_eq_some_iff]at hj
   obtain⟨n,hn,rfl⟩:=hj
   have dT:(ns.map (fun n=> [D.int .u8 n]))[j]? = some [.int .u8 n]:=by simp[hn]
   have hz:z=1:=by have:=dL [.int .u8 n] (List.mem_of_getElem? dT);simpa using this.symm
   subst hz
   obtain⟨u,hu⟩:=g1 j _ 0 _ dT rfl
   have:=g2 j _ 0 _ u dT rfl hu
   rw[this.gV]at hu
   have:=(r.comm _ _ _ hu).1
   simpa using this)
  simp only[List.length_map]at lY ⊢
  have h1:=run_bytesToString (P:=P) w ⟨b,q,none⟩ ns.length cap ns lY
  have h2:=run_convert_bytes_string w src dst e (some ⟨b,q,none⟩) ns.length cap hs he hd
  simp only[Sem.run_bind,h2,h1,Sem.run_pure,Result.andThen_ok,foldl_push]
  congr 3
  simp[ByteArray.empty,ByteArray.emptyWithCapacity]
  rfl
theorem H6 (r:Rel M s w) {src dst e:TypeId} {l:List UInt8} (hs:P.underlying src=some .string) (hd:P.underlying dst=some (.slice e)) (he:P.underlying e=some (.int .u8)) :
 cG P M s w (do pure (.value (← convert src dst (.string ⟨⟨l⟩⟩)))) (.slice .shared 1 (l.map fun c=> [.int .u8 c.toNat])) s:=by
 have dB:=run_bytes_of_string (P:=P) w src dst e ⟨⟨l⟩⟩ hs hd he
 generalize tA:grownCap w (ByteArray.size ⟨⟨l⟩⟩) 0 e=cap at dB
 have uh:l.length≤cap:=by rw[← tA];exact grownCap_ge w l.length 0 e
 have dT : ∀ j,j<l.length→(bytesRow ⟨⟨l⟩⟩ cap)[j]? = some (.int .u8 ((l[j]?.getD 0).toNat:Int)):=by
  intro j hj
  unfold bytesRow
  rw[Array.getElem?_append_left (by simpa using hj)]
  simp[hj]
 have dL:(bytesRow ⟨⟨l⟩⟩ cap).size=cap:=by simp[bytesRow,BL];omega
 have gM : ∀ v∈bytesRow ⟨⟨l⟩⟩ cap,v.oneCell'=true:=by
  intro v hv
  unfold bytesRow at hv
  simp at hv
  rcases hv with ⟨a,_,rfl⟩|⟨_,rfl⟩<;>rfl
 have hR:lW M s 1 (l.map fun c=> [D.int .u8 c.toNat]) (bytesRow ⟨⟨l⟩⟩ cap):=by
  refine⟨by simp[dL];omega,by simp,gM,fun i row j d v e1 e2 e3=>?_⟩
  simp only[List.getElem?_map,Option.map_eq_some_iff]at e1
  obtain⟨c,hc,rfl⟩:=e1
  cases j with
  |zero=>
   simp at e2;subst e2
   have hi:=(List.getElem?_eq_some_iff.1 hc).1
   rw[show i*1+0=i by omega,dT i hi,hc]at e3
   cases e3
   exact .int _ _
  |succ j=>simp at e2
 obtain⟨r1,e1⟩:=(r.of_heap (w':=w.drew) rfl).fB l.length (bytesRow ⟨⟨l⟩⟩ cap) e ((bytesRow ⟨⟨l⟩⟩ cap).size,(bytesRow ⟨⟨l⟩⟩ cap).size+1) gM
 obtain⟨f1,f2⟩:=hR.fixed e1.le (b:=w.heap.size) (fun o ho=>by simp at ho;simp[Map.fB,ho])
 refine⟨.slice (some ⟨w.heap.size,0,none⟩) l.length cap,_,_, .inl (by simp only[Sem.run_bind,dB,Result.andThen_ok,Sem.run_pure];rfl),r1, ?_,(Ext.of_heap (M:=M) (s:=s) (w:=w) (w':=w.drew) rfl rfl rfl rfl).trans e1⟩
 have key:=RD.slice (M:=M.fB w.heap.size l.length (bytesRow ⟨⟨l⟩⟩ cap)) (s:=s) .shared 1 (l.map fun c=> [D.int .u8 c.toNat]) w.heap.size 0 cap (by simpa using uh) hR.2.1 f1 f2 trivial
 simp only[List.length_map]at key
 exact key
theorem SO (r:Rel M s w) {t e:TypeId} {q z:Nat} {yb:Bool} {rows:List (List D)} {v:Value} (ht:P.underlying t=some (.slice e)) (he:P.underlying e=some (.int .u8)) (hv:RD M s (.slice (.tok q yb) z rows) v) (eA:rows≠ []) (hq:s.au[q]? = some (some rows.length)) :
 cG P M s w (do pure (.value (← convert t t v))) (.slice .shared z rows) {s with au:=s.au.set q none}:=by
 rcases hv.jb with ⟨h0,_,_⟩|⟨h0,_,_⟩|⟨b,k,cap,rfl,hl,dL,g1,g2,oq⟩
 ·exact(eA h0).elim
 ·exact(eA h0).elim
 ·obtain⟨_,h2⟩:=oq
  obtain⟨_,h3⟩:=h2 _ hq
  rcases h3 rfl with ⟨_,h4,_⟩|⟨b2,h4,kB⟩
  ·subst h4
   exact(eA (List.eq_nil_of_length_eq_zero (Nat.le_zero.1 hl))).elim
  cases h4
  obtain⟨r1,l1⟩:=r.aek q
  rcases r.tok q rows.length hq with ⟨h4,_⟩|⟨b',qj,yy,vs,T,h4,h5,h6,h7,h8⟩
  ·rw[kB]at h4;cases h4
  ·rw [kB]at h4;cases h4
   have ix : ∀ p,St.live {s with au:=s.au.set q none} p→p≠q∧s.live p:=by
    rintro p ⟨n,hn⟩
    rw[List.getElem?_set]at hn
    split at hn
    ·simp at hn
    ·rename_i eA;exact⟨fun h=>eA h.symm,n,hn⟩
   obtain⟨r2,hh,mQ,ho,DW,SP⟩:=r1.freeze (b:=b) vs.size 1 (fun o ho=>r.fa q b cap _ o ⟨_,hq⟩ kB ho)
    (fun p c y hp heq=>(ix p hp).1 (r.fM p q b c y cap _ (ix p hp).2 ⟨_,hq⟩ heq kB))
   have Z1:w.shape? b=some (T,vs.size):=by simp[World.shape?,h5]
   refine⟨.slice (some ⟨b,0,none⟩) rows.length cap,_,M, .inl ?_,r2, ?_, ?_⟩
   ·simp[convert,run_underlying ht,run_underlying he,markStringish,Z1]
   ·have h9:=(RD.slice (M:=M) (s:=s) .shared z rows b 0 cap hl dL g1 g2 trivial).mono l1
    exact h9
   ·refine⟨l1,fun p _ _ h4=>hh p (fun e=>h4 q cap (bz yb z) ⟨_,hq⟩ (by rw [kB,e])),fun o h3 h4=> ?_,fun p b' c y hp heq=> .inl ⟨(ix p hp).2,c,y,heq⟩,fun _ _ h=>(h rfl).elim,by rw [mQ];exact Nat.le_refl _,ho,DW,SP⟩
    simp at h4;omega
theorem PU (r:Rel M s w) {size:Nat} {rows:List (List D)} {vs:Array Value} (T:TypeId) (h:lW M s size rows vs) (dL:vs.size=rows.length*size) (rU:0<size) :
 ∃ M',RD M' {s with au:=s.au++ [some rows.length]} (.slice (.tok s.au.length) size rows) (.slice (some ⟨w.heap.size,0,none⟩) rows.length rows.length)∧
 Rel M' {s with au:=s.au++ [some rows.length]} (w.alloc (.cells vs T))∧Ext M s w M' {s with au:=s.au++ [some rows.length]} (w.alloc (.cells vs T)):=by
 obtain⟨r1,e1⟩:=r.fB vs.size vs T (0,0) h.2.2.1
 have xH:zs size=size:=by show(if size=0 then 1 else size)=size;rw[if_neg (by omega)]
 obtain⟨r2,l2⟩:=r1.VE rows.length w.heap.size rows.length size vs T (heap_alloc_new w _) (by rw[xH];exact dL) (Nat.le_refl _) (fun h=>by omega)
  (fun off ho=>by rw[xH]at ho;simp[Map.fB];omega) (fun o ho=>by have:=r.qa ho;show M.mu o≠_;omega)
  (fun q c z' hl heq=>by have:=r.sn hl (show M.be q=some (w.heap.size,c,z')from heq);omega)
 obtain⟨f1,f2⟩:=h.fixed (e1.le.trans l2) (b:=w.heap.size) (fun o ho=>by
  have:o<vs.size:=Nat.lt_of_lt_of_le ho h.1
  simp[Map.eK,Map.fB,this])
 refine⟨_, ?_,r2, ?_⟩
 ·exact .slice _ size rows w.heap.size 0 rows.length (Nat.le_refl _) h.2.1 f1 f2 ⟨by simp,fun n hn=>by
   simp at hn;subst hn
   exact⟨Nat.le_refl _,fun _=> .inr ⟨_,rfl,by simp[Map.eK,bz]⟩⟩⟩
 ·refine⟨e1.le.trans l2,e1.kept,e1.tw,fun q b c z' hl heq=> ?_,e1.rO,e1.size,e1.os,e1.tape,e1.output⟩
  obtain⟨k,hk⟩:=hl
  rcases Nat.lt_or_ge q s.au.length with h'|h'
  ·have H4:M.be q=some (b,c,z'):=by
    have:((M.fB w.heap.size vs.size vs).eK s.au.length (some (w.heap.size,rows.length,size))).be q=M.be q:=by simp[Map.eK,Map.fB];omega
    rw[this]at heq;exact heq
   simp only[List.getElem?_append_left h']at hk
   exact .inl ⟨⟨k,hk⟩,c,z',H4⟩
  ·have:=(List.getElem?_eq_some_iff.1 hk).1
   simp at this
   have:q=s.au.length:=by omega
   subst this
   have:((M.fB w.heap.size vs.size vs).eK s.au.length (some (w.heap.size,rows.length,size))).be s.au.length=some (w.heap.size,rows.length,size):=by simp[Map.eK]
   rw[this]at heq;cases heq
   exact .inr (Nat.le_refl _)
end
end Go.Abs
namespace Go.Abs
open Go.MapKept
section
variable {P:Program} {M:Map} {s:St} {w:World}
theorem vX : ∀ (a b:List MapEntry),gx (a++b)=gx a++gx b
 | [],b=>rfl
 |e::a,b=>by simp only[List.cons_append,gx,vX a b]
theorem F6 : ∀ (a:List MapEntry) (j:Nat) (e:MapEntry) (k v:Value),a[j]? = some e→e.key=k→gx (a.set j {e with key:=k,val:=v})=(gx a).set (2*j+1) v
 | [],j,e,k,v,h,_=>by simp at h
 |x::a,0,e,k,v,h,hk=>by
  simp at h;subst h;subst hk
  simp[gx]
 |x::a,j+1,e,k,v,h,hk=>by
  have:=F6 a j e k v (by simpa using h) hk
  simp only[List.set_cons_succ,gx,this]
  rw[show 2*(j+1)=(2*j+1)+1 by omega,List.set_cons_succ]
theorem SQ (a b:List UInt8):((⟨⟨a⟩⟩:ByteArray) == ⟨⟨b⟩⟩)=(a==b):=by
 show((⟨a⟩:Array UInt8) == ⟨b⟩)=(a==b)
 simp
theorem find_spec {key:List UInt8} : ∀ (es:List MapEntry) (cs:List D) (i:Nat),(gx es).length=cs.length→(∀ (i:Nat) (d:D) (v:Value),cs[i]? = some d→(gx es)[i]? = some v→RD M s d v)→
 (∀ z d,yv key z cs=some d→(Instr.findNow .string (.string ⟨⟨key⟩⟩) es i=some none∧d=z)∨∃ (j:Nat) (e:MapEntry),Instr.findNow .string (.string ⟨⟨key⟩⟩) es i=some (some (i+j,e.val))∧RD M s d e.val)∧
 (∀ d jB,wQ key d cs=some jB→(Instr.findNow .string (.string ⟨⟨key⟩⟩) es i=some none∧jB=cs++ [.str key,d])∨
  ∃ (j:Nat) (e:MapEntry),Instr.findNow .string (.string ⟨⟨key⟩⟩) es i=some (some (i+j,e.val))∧es[j]? = some e∧e.key = .string ⟨⟨key⟩⟩∧jB=cs.set (2*j+1) d)
 | [],cs,i,hl,hr=>by
  have:cs = []:=by cases cs<;>simp[gx]at hl;rfl
  subst this
  refine⟨fun z d h=> .inl ⟨rfl,by simp[yv]at h;exact h.symm⟩,fun d jB h=> .inl ⟨rfl,by simp[wQ]at h;simp[← h]⟩⟩
 | x::es,cs,i,hl,hr=>by
  match cs,hl with
  | [],hl=>simp[gx]at hl
  | [_],hl=>simp[gx]at hl
  | c0::c1::r,hl=>
   simp only[gx,List.length_cons]at hl hr
   have h0:=hr 0 c0 x.key rfl rfl
   have h1:=hr 1 c1 x.val rfl rfl
   obtain⟨ih1,ih2⟩:=find_spec es r (i+1) (by omega) (fun j d v e1 e2=>hr (j+2) d v (by simpa using e1) (by simpa using e2))
   have hky : ∀ k,c0 = .str k→x.key = .string ⟨⟨k⟩⟩∧Instr.findNow .string (.string ⟨⟨key⟩⟩) (x::es) i=if key==k then some (some (i,x.val))else Instr.findNow .string (.string ⟨⟨key⟩⟩) es (i+1):=by
    intro k hk
    subst hk
    have hx:=h0.la
    refine⟨hx, ?_⟩
    simp only[Instr.findNow,hx,Instr.sameNow,SQ]
    cases hb:key==k<;>simp
   refine⟨fun z d h=>?_,fun d jB h=>?_⟩
   ·cases c0 <;> simp only [yv]at h <;> try (cases h;done)
    rename_i k
    obtain⟨k1,k2⟩:=hky k rfl
    rw[k2]
    by_cases zP:k=key
    ·subst zP
     simp at h
     subst h
     exact .inr ⟨0,x,by simp,h1⟩
    ·have e1:(k==key)=false:=by simpa using zP
     have e2:(key==k)=false:=by simpa using fun e:key=k=>zP (Eq.symm e)
     rw[e1]at h
     rw[e2]
     simp only[Bool.false_eq_true,↓reduceIte]at h ⊢
     rcases ih1 z d h with h2|⟨j,e,h2,h3⟩
     ·exact .inl h2
     ·exact .inr ⟨j+1,e,by rw[h2];congr 3;omega,h3⟩
   ·cases c0 <;> simp only [wQ]at h <;> try (cases h;done)
    rename_i k
    obtain⟨k1,k2⟩:=hky k rfl
    rw[k2]
    by_cases zP:k=key
    ·subst zP
     simp at h
     subst h
     exact .inr ⟨0,x,by simp,rfl,k1,by simp⟩
    ·have e1:(k==key)=false:=by simpa using zP
     have e2:(key==k)=false:=by simpa using fun e:key=k=>zP (Eq.symm e)
     rw[e1]at h
     rw[e2]
     simp only[Bool.false_eq_true,↓reduceIte]at h ⊢
     split at h
     ·rename_i r' PO
      cases h
      rcases ih2 d r' PO with ⟨h2,h3⟩|⟨j,e,h2,h3,h4,h5⟩
      ·exact .inl ⟨h2,by rw[h3];rfl⟩
      ·refine .inr ⟨j+1,e,by rw [h2];congr 3;omega,by simpa using h3,h4, ?_⟩
       rw[h5,show 2*(j+1)+1=(2*j+1)+1+1 by omega]
       simp only[List.set_cons_succ]
     ·cases h
theorem Rel.tF (r:Rel M s w) {o:Nat} {cs jB:List D} (he:s.ah[o]? = some cs) (hk:M.ob o = .map) (AN:Array MapEntry) (ck:Nat) (hl:(gx AN.toList).length=jB.length)
 (h1 : ∀ v∈gx AN.toList,v.oneCell'=true) (h2 : ∀ (i:Nat) (d:D) (v:Value),jB[i]? = some d→(gx AN.toList)[i]? = some v→RD M s d v) :
 Rel M {s with ah:=s.ah.set o jB} {w with heap:=w.heap.setIfInBounds (M.mu o) (.map AN ck)}∧Ext M s w M {s with ah:=s.ah.set o jB} {w with heap:=w.heap.setIfInBounds (M.mu o) (.map AN ck)}:=by
 obtain⟨vs,T,hh,hs,⟨gM,VD⟩,jl⟩:=r.obj o cs he
 obtain⟨es,ck0,(hh:w.heap[M.mu o]? = _),sS⟩:=hh.L9 hk
 have ho:o<s.ah.length:=(List.getElem?_eq_some_iff.1 he).1
 obtain⟨uA,lS⟩:=heap_set (w:=w) (o':= .map AN ck) hh
 have le:Le M s M {s with ah:=s.ah.set o jB}:=
  ⟨fun _ _ _ h=>h,by simp,fun _ _=> .refl _,Nat.le_refl _,fun t n _ h=>⟨n,h,Nat.le_refl _,fun _=>rfl⟩⟩
 refine⟨⟨fun b q v e=>?_,fun o' ds e=>?_,fun q hq wS=>r.jD q (by simpa using hq) wS,fun q q' hq mz e=>r.inj q q' (by simpa using hq) (by simpa using mz) e,fun t n e=>?_,
  fun t b c z q hl e hq=>r.fa t b c z q hl e (by simpa using hq),fun t t' b c z c' z' h h' e e'=>r.fM t t' b c z c' z' h h' e e'⟩, ?_⟩
 ·obtain⟨h3,h4⟩:=r.comm b q v e
  refine⟨?_,h4⟩
  have hb:b≠M.mu o:=fun eq=>by subst eq;rw[r.jD o ho q]at e;cases e
  rw[← h3]
  simp[World.cell?,lS b hb]
 ·rw [List.getElem?_set]at e
  split at e
  ·rename_i heq
   subst heq
   simp at e
   obtain⟨_,rfl⟩:=e
   refine⟨⟨gx AN.toList⟩,0, ?_,by simpa using hl,⟨fun v hv=>h1 v (by simpa using hv),fun T' h=>?_⟩,fun i d v e1 e2=>(h2 i d v e1 (by simpa using e2)).mono le⟩
   ·exact iw.ofMap hk ⟨AN,ck,uA,rfl⟩
   ·have:M.ty o=none:=by
     have:(M.loc o).2 = .map:=hk
     simp[Map.ty,this,Ob.ty?]
    rw[this]at h;cases h
  ·rename_i eA
   obtain⟨fy,T',h3,h4,h5,h6⟩:=r.obj o' ds e
   have nB:o'<s.ah.length:=(List.getElem?_eq_some_iff.1 e).1
   refine⟨fy,T', ?_,h4,h5,fun i d v e1 e2=>(h6 i d v e1 e2).mono le⟩
   exact h3.keep (lS _ (fun eq=>eA (r.inj o o' ho nB eq.symm)))
 ·rcases r.tok t n e with h3 | ⟨b,cap,size,fy,T',h3,h4,h5⟩
  ·exact .inl h3
  ·refine .inr ⟨b,cap,size,fy,T',h3, ?_,h5⟩
   show(w.heap.setIfInBounds (M.mu o) (.map AN ck))[b]? = _
   rw[lS b (fun eq=>r.fa t b cap size o ⟨n,e⟩ h3 ho eq.symm)];exact h4
 ·refine⟨le,fun b hb h3 _=>lS b (fun eq=>h3 o ho eq.symm),fun q h3 h4=> ?_,fun t b c z h e=> .inl ⟨h,c,z,e⟩,fun _ _ h=>(h rfl).elim,by simp,rfl,rfl,rfl⟩
  simp at h4;rcases h3 with h3|h3;omega;exact(h3 rfl).elim
theorem sT (l:List UInt8):IsKey .string (.string ⟨⟨l⟩⟩):=by simp[IsKey]
theorem Mz (r:Rel M s w) {t kt e:TypeId} (ht:P.underlying t=some (.map kt e)):cG P M s w (do pure (.value (← Instr.makeMap t none))) (.fL s.ah.length) {s with ah:=s.ah++ [[]]}:=by
 obtain⟨r',e'⟩:=r.HV [] (.map #[] 0) #[] 0 .map (fun hp e=>⟨#[],0,e,rfl⟩) (fun _ h=>by cases h) rfl (by simp) (by simp)
 have hm:(M.dK s.ah.length w.heap.size .map).mu s.ah.length=w.heap.size:=by simp[Map.dK,Map.mu]
 have hv:=RD.fL (M:=M.dK s.ah.length w.heap.size .map) (s:= {s with ah:=s.ah++ [[]]}) s.ah.length (by simp) (by simp[Map.dK,Map.ob])
 rw[hm]at hv
 refine⟨_,_,_, .inl ?_,r',hv,e'⟩
 simp only[Instr.makeMap,newObj,Sem.run_bind,Sem.run_pure,Sem.run,Result.andThen_ok]
 rfl
theorem MA (r:Rel M s w) {t kt e:TypeId} {i:TypeInfo} {z:Value} {zd:D} (ht:P.underlying t=some (.map kt e)) (hk:P.underlying kt=some .string) (hi:P.info? e=some i) (hz:i.zero=some z) (Z2:rP z=some zd)
 {o:Nat} {key:List UInt8} {cs:List D} {d:D} (xB:M.ob o = .map) (ho:s.ah[o]? = some cs) (hg:yv key zd cs=some d) :
 cG P M s w (do pure (.value (← Instr.lookup t (.map (some (M.mu o))) (.string ⟨⟨key⟩⟩) false))) d s:=by
 obtain⟨vs,T,hh,hs,⟨gM,VD⟩,jl⟩:=r.obj o cs ho
 obtain⟨es,ck,(hh:w.heap[M.mu o]? = _),sS⟩:=hh.L9 xB
 have C1 : ∀ (i:Nat) (d:D) (v:Value),cs[i]? = some d→(gx es.toList)[i]? = some v→RD M s d v:=fun i d v e1 e2=>jl i d v e1 (by rw[← sS]at e2;simpa using e2)
 have hzv:(zeroValue e).run P w = .ok z w:=by simp[zeroValue,fO P hi,hz]
 rcases(find_spec es.toList cs 0 (by rw[← sS];simpa using hs) C1).1 zd d hg with ⟨h1,rfl⟩|⟨j,en,h1,h2⟩
 ·refine cG.pure (v:=z) r ?_ (qb Z2).1
  simp[Instr.lookup,run_underlying ht,MapKept.run_getObj_map hh,run_checkKey hk (sT key),run_findKey hk h1,hzv]
 ·refine cG.pure (v:=en.val) r ?_ h2
  simp[Instr.lookup,run_underlying ht,MapKept.run_getObj_map hh,run_checkKey hk (sT key),run_findKey hk h1]
theorem PV (r:Rel M s w) {t kt e:TypeId} (ht:P.underlying t=some (.map kt e)) (hk:P.underlying kt=some .string)
 {o:Nat} {key:List UInt8} {cs jB:List D} {d:D} {v:Value} (xB:M.ob o = .map) (ho:s.ah[o]? = some cs) (hv:RD M s d v) (xI:v.oneCell'=true) (hg:wQ key d cs=some jB) :
 cG P M s w (do Instr.mapUpdate t (.map (some (M.mu o))) (.string ⟨⟨key⟩⟩) v;pure .skip) (.tuple []) {s with ah:=s.ah.set o jB}:=by
 obtain⟨vs,T,hh,hs,⟨gM,VD⟩,jl⟩:=r.obj o cs ho
 obtain⟨es,ck,(hh:w.heap[M.mu o]? = _),sS⟩:=hh.L9 xB
 have C1 : ∀ (i:Nat) (d:D) (v:Value),cs[i]? = some d→(gx es.toList)[i]? = some v→RD M s d v:=fun i d v e1 e2=>jl i d v e1 (by rw[← sS]at e2;simpa using e2)
 have hl:(gx es.toList).length=cs.length:=by rw[← sS];simpa using hs
 have VK : ∀ v∈gx es.toList,v.oneCell'=true:=fun v hv=>gM v (by rw[← sS]at hv;simpa using hv)
 rcases(find_spec es.toList cs 0 hl C1).2 d jB hg with ⟨h1,rfl⟩|⟨j,en,h1,h2,h3,rfl⟩
 ·obtain⟨r',e'⟩:=r.tF (jB:=cs++ [.str key,d]) ho xB (es.push {key:= .string ⟨⟨key⟩⟩,val:=v,born:=ck}) (ck+1) (by simp [vX,gx,hl]) (fun u hu=>by
   simp only[Array.toList_push,vX,gx,List.mem_append,List.mem_cons,List.not_mem_nil,or_false]at hu
   rcases hu with hu|rfl|rfl
   ·exact VK u hu
   ·rfl
   ·exact xI) (fun i d' u e1 e2=>by
   simp only[Array.toList_push,vX,gx]at e2
   rcases Nat.lt_or_ge i cs.length with hi|hi
   ·rw [List.getElem?_append_left hi]at e1
    rw[List.getElem?_append_left (by omega)]at e2
    exact C1 i d' u e1 e2
   ·rw [List.getElem?_append_right hi]at e1
    rw[List.getElem?_append_right (by omega),hl]at e2
    match i - cs.length,e1,e2 with
    | 0,e1,e2=>simp at e1 e2;subst e1 e2;exact .str _
    | 1,e1,e2=>simp at e1 e2;subst e1 e2;exact hv
    |k+2,e1,e2=>simp at e1)
  refine⟨Go.undef,_,M, .inr ⟨?_,rfl⟩,r', .undef,e'⟩
  simp[Instr.mapUpdate,run_underlying ht,MapKept.run_getObj_map hh,run_checkKey hk (sT key),run_findKey hk h1,MapKept.run_setObj_map _ hh]
 ·simp only [Nat.zero_add]at h1
  have hj:es[j]? = some en:=by simpa using h2
  have SR:(es.modify j fun e=> {e with key:= .string ⟨⟨key⟩⟩,val:=v}).toList=es.toList.set j {en with key:= .string ⟨⟨key⟩⟩,val:=v}:=by
   apply List.ext_getElem?
   intro i
   rw[Array.getElem?_toList,Array.getElem?_modify,List.getElem?_set]
   by_cases VL:j=i
   ·subst VL
    have:j<es.size:=by have:=(List.getElem?_eq_some_iff.1 h2).1;simpa using this
    simp[hj,this]
    have:=(Array.getElem?_eq_some_iff.1 hj).2
    rw[this]
   ·simp[VL]
  have iz:=F6 es.toList j en (.string ⟨⟨key⟩⟩) v h2 h3
  obtain⟨r',e'⟩:=r.tF (jB:=cs.set (2*j+1) d) ho xB (es.modify j fun e=> {e with key:= .string ⟨⟨key⟩⟩,val:=v}) ck (by rw[SR,iz];simp[hl]) (fun u hu=>by
   rw[SR,iz]at hu
   rcases List.mem_or_eq_of_mem_set hu with hu|rfl
   ·exact VK u hu
   ·exact xI) (fun i d' u e1 e2=>by
   rw[SR,iz,List.getElem?_set]at e2
   rw[List.getElem?_set]at e1
   by_cases hi:2*j+1=i
   ·rw [if_pos hi]at e1 e2
    split at e1
    ·split at e2
     ·cases e1;cases e2;exact hv
     ·cases e2
    ·cases e1
   ·rw [if_neg hi]at e1 e2
    exact C1 i d' u e1 e2)
  refine⟨Go.undef,_,M, .inr ⟨?_,rfl⟩,r', .undef,e'⟩
  simp[Instr.mapUpdate,run_underlying ht,MapKept.run_getObj_map hh,run_checkKey hk (sT key),run_findKey hk h1,hj,h3,run_keyThatStays (sT key),MapKept.run_setObj_map _ hh]
end
end Go.Abs
namespace Go.Abs
section
variable {M:Map} {s:St} {w:World}
theorem DX {o g:Nat} {cells:List D} (h:nI s o g=some cells):s.ah[o]? = some (.int .i64 g::cells):=by
 unfold nI at h
 split at h
 ·rename_i n cs e
  split at h
  ·rename_i hn;cases h;rw[e,hn]
  ·cases h
 ·cases h
theorem Rel.H7 (r:Rel M s w) {o z g:Nat} {A:Nat→Option (Nat×Nat)} {cells:List D} (hm:M.ob o = .arr z A) (ha:nI s o g=some cells) :
 ∃ (us:Array Value) (T:TypeId) (cap:Nat),w.heap[M.mu o]? = some (.cells us T (0,0))∧A g=some (M.mu o,cap)∧(∀ g',g<g'→A g'=none)∧us.size=cap*z∧cells.length≤us.size∧
  (∀ u∈us,u.oneCell'=true)∧∀ (i:Nat) (d:D) (u:Value),cells[i]? = some d→us[i]? = some u→RD M s d u:=by
 obtain⟨vs,T,hh,hs,_,jl⟩:=r.obj o _ (DX ha)
 obtain⟨us,g0,n,cap,h1,h2,h3,h4,h5,h6,h7⟩ : ∃ (us:Array Value) (g n cap:Nat),w.heap[(M.loc o).1]? = some (.cells us T (0,0))∧A g=some ((M.loc o).1,cap)∧(∀ g',g<g'→A g'=none)∧us.size=cap*z∧n≤us.size∧
  vs.toList = .int .i64 g::us.toList.take n∧∀ u∈us,u.oneCell'=true:=by
  unfold iw at hh
  rw[show(M.loc o).2 = .arr z A from hm]at hh
  exact hh
 have hY : ∀ i,vs[i]? = (Value.int .i64 g0::us.toList.take n)[i]? :=fun i=>by rw[← h6,Array.getElem?_toList]
 have hg:g0=g:=by
  have:=(jl 0 (.int .i64 g) (.int .i64 g0) rfl (by rw[hY];rfl))
  cases this
  rfl
 subst hg
 have hn:n=cells.length:=by
  have:vs.toList.length=(Value.int .i64 g0::us.toList.take n).length:=by rw[h6]
  simp at this hs
  omega
 subst hn
 refine⟨us,T,cap,h1,h2,h3,h4,h5,h7,fun i d u e1 e2=>jl (i+1) d u (by simpa using e1) ?_⟩
 rw[hY,List.getElem?_cons_succ,List.getElem?_take,if_pos (List.getElem?_eq_some_iff.1 e1).1]
 simpa using e2
def Map.qL (M:Map) (o:Nat) (l:Nat×Ob):Map:= {M with loc:=fun q=>if q=o then l else M.loc q}
theorem Rel.SS (r:Rel M s w) {o z g:Nat} {A:Nat→Option (Nat×Nat)} {cells:List D} (hm:M.ob o = .arr z A) (ha:nI s o g=some cells) (b' g' qj:Nat) (A':Nat→Option (Nat×Nat))
 (hA : ∀ g x,A g=some x→A' g=some x) (xG:A' g'=some (b',qj)) (Cs : ∀ Lc,g'<Lc→A' Lc=none) (w':World) (us:Array Value) (T:TypeId) (hh:w'.heap[b']? = some (.cells us T (0,0))) (dL:us.size=qj*z)
 (uY:List D) (hl:uY.length≤us.size) (gM : ∀ u∈us,u.oneCell'=true) (jl : ∀ (i:Nat) (d:D) (u:Value),uY[i]? = some d→us[i]? = some u→RD M s d u)
 (hb:b'=M.mu o∨w.heap.size≤b') (Hy : ∀ b,b<w.heap.size→b≠M.mu o→w'.heap[b]? = w.heap[b]?) (sr:w.heap.size≤w'.heap.size) (h1:w'.os=w.os) (h2:w'.tape=w.tape) (h3:w'.output=w.output) :
 Rel (M.qL o (b', .arr z A')) {s with ah:=s.ah.set o (.int .i64 g'::uY)} w'∧Ext M s w (M.qL o (b', .arr z A')) {s with ah:=s.ah.set o (.int .i64 g'::uY)} w':=by
 have ho:o<s.ah.length:=(List.getElem?_eq_some_iff.1 (DX ha)).1
 have zN:(M.loc o).2 = .arr z A:=hm
 have uA:(M.qL o (b', .arr z A')).loc o=(b', .arr z A'):=by simp[Map.qL]
 have MB : ∀ q,q≠o→(M.qL o (b', .arr z A')).loc q=M.loc q:=fun q hq=>by simp[Map.qL,hq]
 have mN:(M.qL o (b', .arr z A')).mu o=b':=congrArg Prod.fst uA
 have C2 : ∀ q,q≠o→(M.qL o (b', .arr z A')).mu q=M.mu q:=fun q hq=>congrArg Prod.fst (MB q hq)
 have le:Le M s (M.qL o (b', .arr z A')) {s with ah:=s.ah.set o (.int .i64 g'::uY)}:=by
  refine⟨fun _ _ _ h=>h,by simp,fun q _=>?_,Nat.le_refl _,fun t n _ h=>⟨n,h,Nat.le_refl _,fun _=>rfl⟩⟩
  by_cases hq:q=o
  ·subst hq
   rw[uA,show M.loc q=((M.loc q).1, .arr z A) by rw[← zN]]
   exact .arr _ _ z A A' hA
  ·rw[MB q hq];exact .refl _
 have eA : ∀ q,q<s.ah.length→q≠o→M.mu q≠b':=fun q hq uZ e=>by
  rcases hb with hb|hb
  ·exact uZ (r.inj q o hq ho (e.trans hb))
  ·have:=r.qa hq;omega
 have hG : ∀ off,M.G b' off=none:=fun off=>by
  rcases hb with hb|hb
  ·rw[hb];exact r.jD o ho off
  ·exact r.Mf hb off
 refine⟨⟨fun b q v e=>?_,fun q ds e=>?_,fun q hq off=>?_,fun q q' hq mz e=>?_,fun t n e=>?_,fun t b c z' q hl e hq=>?_,fun t t' b c z c' z' h h' e e'=>r.fM t t' b c z c' z' h h' e e'⟩, ?_⟩
 ·obtain⟨h4,h5⟩:=r.comm b q v e
  refine⟨?_,h5⟩
  have hbo:b≠M.mu o:=fun eq=>by subst eq;have e0:M.G (M.mu o) q=some v:=e;rw[r.jD o ho q]at e0;cases e0
  rw[← h4]
  simp[World.cell?,Hy b (r.Aw e) hbo]
 ·simp only [List.getElem?_set]at e
  split at e
  ·rename_i hq
   subst hq
   cases e
   refine⟨⟨.int .i64 g'::us.toList.take uY.length⟩,T, ?_,by simp;omega,⟨fun v hv=>?_,fun T' hT=>?_⟩,fun i d v e1 e2=>?_⟩
   ·unfold iw
    rw[uA]
    exact⟨us,g',uY.length,qj,hh,xG,Cs,dL,hl,rfl,gM⟩
   ·simp at hv
    rcases hv with rfl|hv
    ·rfl
    ·exact gM v (Array.mem_toList_iff.1 (List.mem_of_mem_take hv))
   ·have:(M.qL o (b', .arr z A')).ty o=none:=by unfold Map.ty;rw [uA];rfl
    rw[this]at hT;cases hT
   ·cases i with
    |zero=>simp at e1 e2;subst e1 e2;exact .int _ _
    |succ i=>
     simp at e1 e2
     rw[List.getElem?_take]at e2
     split at e2
     ·exact(jl i d v e1 (by simpa using e2)).mono le
     ·cases e2
  ·rename_i hq
   have hq:q≠o:=fun e=>hq e.symm
   obtain⟨fy,T',h4,h5,h6,h7⟩:=r.obj q ds e
   have H5:q<s.ah.length:=(List.getElem?_eq_some_iff.1 e).1
   refine⟨fy,T', ?_,h5,⟨h6.1,by unfold Map.ty;rw[MB q hq];exact h6.2⟩,fun i d v e1 e2=>(h7 i d v e1 e2).mono le⟩
   rw[MB q hq]
   exact h4.keep (Hy _ h4.lt fun e=>hq (r.inj q o H5 ho e))
 ·simp at hq
  by_cases uZ:q=o
  ·subst uZ;rw[mN];exact hG off
  ·rw[C2 q uZ];exact r.jD q hq off
 ·simp at hq mz
  by_cases h4:q=o<;>by_cases h5:q'=o
  ·omega
  ·subst h4;rw[mN,C2 q' h5]at e;exact(eA q' mz h5 e.symm).elim
  ·subst h5;rw[mN,C2 q h4]at e;exact(eA q hq h4 e).elim
  ·rw[C2 q h4,C2 q' h5]at e;exact r.inj q q' hq mz e
 ·rcases r.tok t n e with h4 | ⟨b,cap,size,fy,T',h4,h5,h6⟩
  ·exact .inl h4
  ·refine .inr ⟨b,cap,size,fy,T',h4, ?_,h6⟩
   rw[Hy b (jX h5) (fun eq=>r.fa t b cap size o ⟨n,e⟩ h4 ho eq.symm)];exact h5
 ·simp at hq
  by_cases uZ:q=o
  ·subst uZ;rw [mN]
   rcases hb with hb|hb
   ·rw[hb];exact r.fa t b c z' q hl e hq
   ·have:=r.sn hl e;omega
  ·rw[C2 q uZ];exact r.fa t b c z' q hl e hq
 ·refine⟨le,fun b rJ h4 _=>Hy b rJ (fun e=>h4 o ho e.symm),fun q h4 h5=> ?_,fun t b c z h e=> .inl ⟨h,c,z,e⟩,fun _ _ h=>(h rfl).elim,sr,h1,h2,h3⟩
  simp at h5
  by_cases uZ:q=o
  ·subst uZ
   rw[mN]at h4 ⊢
   rcases hb with hb|hb
   ·rcases h4 with h4 | h4
    ·omega
    ·exact(h4 hb).elim
   ·exact hb
  ·rw [C2 q uZ]at h4
   rcases h4 with h4|h4
   ·omega
   ·exact(h4 rfl).elim
theorem Rel.Z3 (r:Rel M s w) (z cap:Nat) (us:Array Value) (T:TypeId) (dL:us.size=cap*z) (cells:List D) (hl:cells.length≤us.size) (gM : ∀ u∈us,u.oneCell'=true)
 (jl : ∀ (i:Nat) (d:D) (u:Value),cells[i]? = some d→us[i]? = some u→RD M s d u) :
 ∃ M',Rel M' {s with ah:=s.ah++ [.int .i64 ((0:Nat):Int)::cells]} (w.alloc (.cells us T))∧Ext M s w M' {s with ah:=s.ah++ [.int .i64 ((0:Nat):Int)::cells]} (w.alloc (.cells us T))∧
  ∀ len,len≤cap→RD M' {s with ah:=s.ah++ [.int .i64 ((0:Nat):Int)::cells]} (.dZ z s.ah.length 0 len) (.slice (some ⟨w.heap.size,0,none⟩) len cap):=by
 obtain⟨r',e'⟩:=r.HV (.int .i64 ((0:Nat):Int)::cells) (.cells us T) ⟨.int .i64 ((0:Nat):Int)::us.toList.take cells.length⟩ T (.arr z fun g=>if g=0 then some (w.heap.size,cap)else none)
  (fun hp e=>⟨us,0,cells.length,cap,e,rfl,fun g' h=>if_neg (by omega),dL,hl,rfl,gM⟩) (fun _ h=>by cases h) (by simp;omega) (fun v hv=>by
   simp at hv
   rcases hv with rfl|hv
   ·rfl
   ·exact gM v (Array.mem_toList_iff.1 (List.mem_of_mem_take hv))) (fun i d v e1 e2=>by
   cases i with
   |zero=>simp at e1 e2;subst e1 e2;exact .int _ _
   |succ i=>
    simp at e1 e2
    rw[List.getElem?_take]at e2
    split at e2
    ·exact(jl i d v e1 (by simpa using e2)).mono (rQ s w.heap.size _ _)
    ·cases e2)
 exact⟨_,r',e',fun len h=> .dZ z _ 0 len w.heap.size cap _ (by simp) (by simp[Map.dK,Map.ob];rfl) (if_pos rfl) h⟩
end
end Go.Abs
namespace Go.Abs
section
variable {P:Program} {M:Map} {s:St} {w:World}
theorem Ld (r:Rel M s w) {o g off:Nat} {v:Value} {cells:List D} (hx:RD M s (.fi o g off) v) (ha:nI s o g=some cells) :
 ∃ z A,M.ob o = .arr z A∧v = .pointer (some ⟨M.mu o,off,none⟩):=by
 obtain⟨z,b,cap,A,hv,ho,hm,hg⟩:=hx.CW
 obtain⟨us,T,qj,h1,h2,_⟩:=r.H7 hm ha
 rw[hg]at h2;cases h2
 exact⟨z,A,hm,hv⟩
theorem Kk (r:Rel M s w) {t:TypeId} {i:TypeInfo} {agg:Bool} (hi:P.info? t=some i) (hag:qD P t=some agg) {x d:D} {v:Value} {s':St} (hx:RD M s x v) (h:yw x agg i.size s=some (d,s')) :
 cG P M s w (do pure (.value (← Instr.loadAt t v))) d s':=by
 unfold yw at h
 split at h
 case h_2=>cases h
 rename_i o g off
 split at h
 case h_2=>cases h
 rename_i cells ha
 split at h
 case h_2=>cases h
 rename_i d' hp
 cases h
 obtain⟨z,A,hm,rfl⟩:=Ld r hx ha
 obtain⟨us,T,cap,hh,_,_,_,hl,gM,jl⟩:=r.H7 hm ha
 let n:=if agg then i.size else 1
 have jf:off+n≤us.size:=by
  rcases qu hp with ⟨rfl,h1,_⟩|⟨rfl,h1⟩
  ·simp[n];omega
  ·have:=(List.getElem?_eq_some_iff.1 h1).1;simp[n];omega
 have hlen:((us.toList.drop off).take n).length=n:=by simp;omega
 have hY : ∀ (j:Nat) (u:Value),((us.toList.drop off).take n)[j]? = some u→us[off+j]? = some u:=by
  intro j u h
  rw[List.getElem?_take]at h
  split at h
  ·rw[List.getElem?_drop]at h;simpa using h
  ·cases h
 have dB:=yA (w:=w) P hi hag (M.mu o) off ((us.toList.drop off).take n) hlen (fun j u h=>by rw[iZ hh];exact hY j u h)
 refine cG.pure (v:=if agg then .agg ((us.toList.drop off).take n).toArray else((us.toList.drop off).take n).getD 0 Go.undef) r (by simp[Instr.loadAt,Instr.sureAddr,dB]) ?_
 refine qI hp _ hlen (fun _ u hu=>gM u ?_) (fun j d u e1 e2=>jl _ d u e1 (hY j u e2))
 exact Array.mem_toList_iff.1 (List.mem_of_mem_drop (List.mem_of_mem_take hu))
theorem xJ {vs:Array Value} {off:Nat} {us:List Value} {n:Nat} (hu:us.length=n) (h:off+n≤vs.size) (i:Nat) :
 (vs.toList.take off++us++vs.toList.drop (off+us.length)).toArray[i]? = if i<off then vs[i]? else if i<off+n then us[i - off]? else vs[i]? :=by
 subst hu
 simp only[List.getElem?_toArray]
 have hl:(vs.toList.take off).length=off:=by simp;omega
 split
 ·rename_i h3
  rw[List.append_assoc,List.getElem?_append_left (by omega),List.getElem?_take_of_lt h3];simp
 ·rename_i h3
  rw[List.append_assoc,List.getElem?_append_right (by omega),hl]
  split
  ·rename_i h4
   rw[List.getElem?_append_left (by omega)]
  ·rename_i h4
   rw[List.getElem?_append_right (by omega),List.getElem?_drop]
   rw[show off+us.length+(i - off - us.length)=i by omega];simp
theorem xK {vs:Array Value} {off k:Nat} {us:List Value} (h1 : ∀ v∈vs,v.oneCell'=true) (h2 : ∀ u∈us,u.oneCell'=true) : ∀ v∈(vs.toList.take off++us++vs.toList.drop k).toArray,v.oneCell'=true:=by
 intro v hv
 simp at hv
 rcases hv with hv|hv|hv
 ·exact h1 v (Array.mem_toList_iff.1 (List.mem_of_mem_take hv))
 ·exact h2 v hv
 ·exact h1 v (Array.mem_toList_iff.1 (List.mem_of_mem_drop hv))
theorem H8 (r:Rel M s w) {t:TypeId} {i:TypeInfo} (hi:P.info? t=some i) {x y d:D} {v u:Value} {s':St} (hx:RD M s x v) (hy:RD M s y u) (h:As x y.row i.size s=some (d,s')) :
 cG P M s w (do Instr.storeAt t v u;pure .skip) d s':=by
 unfold As at h
 split at h
 case h_2=>cases h
 rename_i o g off row hr
 split at h
 case h_2=>cases h
 rename_i cells ha
 split at h
 case isFalse=>cases h
 rename_i hc
 obtain⟨hl,jf⟩:=hc
 cases h
 obtain⟨z,A,hm,rfl⟩:=Ld r hx ha
 obtain⟨us,T,cap,hh,xG,Cs,dL,hle,gM,jl⟩:=r.H7 hm ha
 obtain⟨h1,h2,h3⟩:=hy.row hr
 have hu:u.cells.toList.length=row.length:=by simpa using h1
 have ja:=run_storeCells_at P (M.mu o) off T u.cells.toList 0 us w hh (by omega) (fun u hu=>h2 u (by simpa using hu))
 simp only[Nat.add_zero]at ja
 generalize da:(us.toList.take off++u.cells.toList++us.toList.drop (off+u.cells.toList.length)).toArray=iO at ja
 have qG:iO.size=us.size:=by rw[← da];simp;omega
 have hY : ∀ i,iO[i]? = if i<off then us[i]? else if i<off+row.length then u.cells.toList[i - off]? else us[i]? :=fun i=>by rw[← da];exact xJ hu (by omega) i
 have hlc:(ie cells off row).length=cells.length:=tx cells off row (by omega)
 obtain⟨r',e'⟩:=r.SS hm ha (M.mu o) g cap A (fun _ _ h=>h) xG Cs (w.setRow (M.mu o) iO) iO T (setRow_heap w (M.mu o) us iO T (0,0) hh) (by rw[qG,dL]) (ie cells off row) (by omega)
  (by rw [← da];exact xK gM (fun u hu=>h2 u (by simpa using hu))) (fun i d v e1 e2=>by
   rw[qF cells off row (by omega)]at e1
   rw[hY]at e2
   split at e1
   ·rename_i h4;simp only[h4,if_true]at e2;exact jl i d v e1 e2
   ·rename_i h4
    simp only[h4,if_false]at e2
    split at e1
    ·rename_i h5;simp only[h5,if_true]at e2;exact h3 _ d v e1 (by simpa using e2)
    ·rename_i h5;simp only[h5,if_false]at e2;exact jl i d v e1 e2) (.inl rfl) (fun b _ hb=>setRow_other w (M.mu o) b _ hb) (by simp) rfl rfl rfl
 refine⟨Go.undef,_,_, .inr ⟨?_,rfl⟩,r', .undef,e'⟩
 have aiC:u.cells.size=i.size:=by omega
 simp[Instr.storeAt,Instr.sureAddr,storeVar,sizeOf,fO P hi,aiC,ja]
theorem H9 (r:Rel M s w) {t e:TypeId} {i:TypeInfo} (ht:P.underlying t=some (.slice e)) (hi:P.info? e=some i) {x y d:D} {v u:Value} (hx:RD M s x v) (hy:RD M s y u) (h:xy x y i.size=some d) :
 cG P M s w (do pure (.value (← Instr.indexAt t v u))) d s:=by
 unfold xy at h
 split at h
 case h_2=>cases h
 rename_i z o g len k n
 split at h
 case isFalse=>cases h
 rename_i hc
 obtain⟨h0,h1,rfl⟩:=hc
 cases h
 obtain⟨b,cap,A,rfl,ho,hm,hg,hl⟩:=hx.xD
 rw[hy.gV]
 refine cG.pure (v:= .pointer (some ⟨b,n.toNat*i.size,none⟩)) r ?_ (.fi _ _ _ _ b cap A ho hm hg)
 simp[Instr.indexAt,asIntOf,run_underlying ht,h0,h1,sizeOf,fO P hi,mg]
theorem MC (r:Rel M s w) {t e:TypeId} {i:TypeInfo} {lv hv:Option Value} {lo hi:Option D} (ht:P.underlying t=some (.slice e)) (DQ:P.info? e=some i) {x d:D} {v:Value} (hx:RD M s x v)
 (h1 : ∀ l,sL lo=some l→PJ lv l) (h2 : ∀ len l,sM hi len=some l→PK hv len l) (h:wR x lo hi=some d) :
 cG P M s w (do pure (.value (← Instr.sliceAt t v lv hv none))) d s:=by
 unfold wR at h
 split at h
 ·rename_i z o g len
  split at h
  case h_2=>cases h
  rename_i l hh el eh
  split at h
  case isFalse=>cases h
  rename_i hc
  obtain⟨rfl,h0,hle⟩:=hc
  cases h
  obtain⟨b,cap,A,rfl,ho,hm,hg,hl⟩:=hx.xD
  have hb:=pj (P:=P) (w:=w) (isSlice:=true) (cap:=cap) (h1 _ el) (h2 _ _ eh) (Int.le_refl 0) h0 hle hl
  refine cG.pure (v:= .slice (some ⟨b,0,none⟩) hh.toNat cap) r ?_ (.dZ z o g _ b cap A ho hm hg (by omega))
  simp[Instr.sliceAt,run_underlying ht,Instr.slice,hb,sizeOf,fO P DQ,mg]
 ·rename_i z
  split at h
  case h_2=>cases h
  rename_i l hh el eh
  split at h
  case isFalse=>cases h
  rename_i hc
  obtain⟨rfl,rfl⟩:=hc
  cases h
  obtain⟨a,rfl⟩:=hx.CX
  have hb:=pj (P:=P) (w:=w) (isSlice:=true) (len:=0) (cap:=0) (h1 _ el) (h2 _ _ eh) (Int.le_refl 0) (Int.le_refl 0) (Int.le_refl 0) (Nat.le_refl 0)
  refine cG.pure (v:= .slice a 0 0) r ?_ (.dX z a)
  cases a<;>simp[Instr.sliceAt,run_underlying ht,Instr.slice,hb,sizeOf,fO P DQ,mg]
 ·cases h
theorem MD (r:Rel M s w) {t ty e:TypeId} (ht:P.underlying t=some (.slice e)) {x d:D} {v:Value} (hx:RD M s x v) (h:E0 x=some d) :
 cG P M s w (do pure (.value (← Builtin.len_ #[t] ty #[v]))) d s:=by
 unfold E0 at h
 split at h
 ·cases h
  obtain⟨b,cap,A,rfl,_⟩:=hx.xD
  exact mP r ht
 ·cases h
  obtain⟨a,rfl⟩:=hx.CX
  exact mP r ht
 ·cases h
theorem yF {size:Nat} : ∀ {rows:List (List D)},(∀ row∈rows,row.length=size)→rows.flatten.length=rows.length*size∧
 ∀ (k:Nat) (d:D),rows.flatten[k]? = some d→∃ (i:Nat) (row:List D) (j:Nat),rows[i]? = some row∧row[j]? = some d∧k=i*size+j
 | [],_=>by simp
 | row::rows,h=>by
  have hr:=h row (List.mem_cons_self ..)
  obtain⟨h1,h2⟩:=yF fun q hq=>h q (List.mem_cons_of_mem _ hq)
  refine⟨by simp only[List.flatten_cons,List.length_append,h1,hr,List.length_cons,Nat.add_mul];omega,fun k d e=>?_⟩
  rw[List.flatten_cons]at e
  rcases Nat.lt_or_ge k row.length with hk|hk
  ·rw [List.getElem?_append_left hk]at e
   exact⟨0,row,k,rfl,e,by omega⟩
  ·rw [List.getElem?_append_right hk]at e
   obtain⟨i,kg,j,g1,g2,g3⟩:=h2 _ d e
   exact⟨i+1,kg,j,by simpa using g1,g2,by rw[Nat.add_mul];omega⟩
theorem ME (r:Rel M s w) {t u ty e e':TypeId} {i:TypeInfo} {z:Value} (ht:P.underlying t=some (.slice e)) (hu:P.underlying u=some (.slice e')) (hi:P.info? e=some i) (hz:i.zero=some z)
 (xH:z.cells.size=i.size) (Ct : ∀ v∈z.cells,v.oneCell'=true) {dx dy d:D} {x y:Value} {s':St} (hx:RD M s dx x) (hy:RD M s dy y) (rU:0<i.size) (he:Au i.size i.bytes dx dy s=some (d,s')) :
 ∃ v w' M',(Builtin.append_ #[t,u] ty #[x,y]).run P w = .ok v w'∧Rel M' s' w'∧RD M' s' d v∧Ext M s w M' s' w':=by
 have src:=E8 (i:=i) r hu hy
 unfold Au at he
 split at he
 ·-- behind an array
  rename_i z0 o g len g' zy new
  split at he
  case isFalse=>cases he
  rename_i hc
  obtain⟨rfl,H2,vW⟩:=hc
  obtain⟨b,cap,A,rfl,ho,hm,hg,hlc⟩:=hx.xD
  cases new with
  |nil=>
   simp only at he
   cases he
   exact⟨_,w,M,ll ht hi ((src _ _ _ rfl).1 rfl) hlc,r,hx,Ext.refl M s w⟩
  |cons n0 new=>
  have eA:(n0::new)≠ []:=by simp
  generalize da:n0::new=dQ at *
  have PR:zy=i.size:=H2.resolve_left eA
  subst PR
  obtain⟨F4,news,hs,BM⟩:=(src _ _ _ rfl).2 eA rfl
  have zN:0<dQ.length:=List.length_pos_iff.2 eA
  simp only[← da]at he
  simp only[da]at he
  split at he
  case h_2=>cases he
  rename_i cells ha
  split at he
  case isFalse=>cases he
  rename_i oE
  cases he
  obtain⟨us,T,qj,hh,xG,Cs,dL,hle,gM,jl⟩:=r.H7 hm ha
  rw[hg]at xG
  simp only[Option.some.injEq,Prod.mk.injEq]at xG
  obtain⟨rfl,rfl⟩:=xG
  obtain⟨iz,PW⟩:=yF F4
  have Ia:(cells.take (len*i.size)).length=len*i.size:=by simp;omega
  have hA : ∀ (b' c':Nat) (g0:Nat) (x:Nat×Nat),A g0=some x→(if g0=g+1 then some (b',c')else A g0)=some x:=fun b' c' g0 x h=>by
   rw[if_neg]
   ·exact h
   ·rintro rfl
    rw[Cs (g+1) (by omega)]at h;cases h
  have sR:(len+dQ.length)*i.bytes≤140737488355328:=by rw[Nat.mul_succ]at vW;simp only[bJ]at vW;omega
  have PS:len+dQ.length≤1099511627776:=by rw[Nat.mul_succ]at vW;simp only[bJ]at vW;omega
  have PX:=hs.newsLen
  -- what is laid there
  have VM : ∀ (vs:Array Value),(∀ k,k<len*i.size→vs[k]? = us[k]?)→(∀ k,k<news.length→vs[len*i.size+k]? = news[k]?)→∀ (k:Nat) (d:D) (v:Value),
   (cells.take (len*i.size)++dQ.flatten)[k]? = some d→vs[k]? = some v→RD M s d v:=fun vs g1 g2 k d v e1 e2=>by
   rcases Nat.lt_or_ge k (len*i.size)with hk|hk
   ·rw [List.getElem?_append_left (by omega),List.getElem?_take_of_lt hk]at e1
    rw[g1 k hk]at e2
    exact jl k d v e1 e2
   ·rw [List.getElem?_append_right (by omega),Ia]at e1
    have cj:=(List.getElem?_eq_some_iff.1 e1).1
    have:=g2 (k - len*i.size) (by omega)
    rw[show len*i.size+(k - len*i.size)=k by omega]at this
    rw[this]at e2
    obtain⟨a,row,j,f1,f2,f3⟩:=PW _ d e1
    rw[f3]at e2
    exact BM a row j d v f1 f2 e2
  by_cases qH:len+dQ.length≤cap
  ·have jf:len*i.size+news.length≤us.size:=by rw [PX,dL, ← Nat.add_mul];exact Nat.mul_le_mul_right _ qH
   have ja:=run_storeCells_at P (M.mu o) (len*i.size) T news 0 us w hh (by simpa using jf) hs.one
   simp only[Nat.add_zero]at ja
   have dB:(Builtin.append_ #[t,u] ty #[.slice (some ⟨M.mu o,0,none⟩) len cap,y]).run P w = .ok (.slice (some ⟨M.mu o,0,none⟩) (len+dQ.length) cap) (w.setRow (M.mu o) (us.toList.take (len*i.size)++news++us.toList.drop (len*i.size+news.length)).toArray):=by
    rcases hs.kind with ⟨La,hk⟩|hk<;>simp[Builtin.append_,run_underlying ht,run_underlying hk,sizeOf,typeInfo,hi,hs.len,qH,hs.cells,Addr.add_lit,ja]
   have hY:=xJ (vs:=us) (off:=len*i.size) (us:=news) rfl jf
   generalize qM:(us.toList.take (len*i.size)++news++us.toList.drop (len*i.size+news.length)).toArray=iO at dB hY
   have qG:iO.size=us.size:=by rw[← qM];simp;omega
   obtain⟨r',e'⟩:=r.SS hm ha (M.mu o) (g+1) cap (fun g0=>if g0=g+1 then some (M.mu o,cap)else A g0) (hA _ _) (if_pos rfl) (fun Lc h=>by rw[if_neg (by omega)];exact Cs Lc (by omega))
    (w.setRow (M.mu o) iO) iO T (setRow_heap w (M.mu o) us iO T (0,0) hh) (by rw[qG,dL]) (cells.take (len*i.size)++dQ.flatten) (by rw[List.length_append,Ia,iz,qG];omega)
    (by rw[← qM];exact xK gM hs.one) (VM iO (fun k hk=>by rw[hY,if_pos hk]) (fun k hk=>by rw[hY,if_neg (by omega),if_pos (by omega)];congr 1;omega)) (.inl rfl) (fun b _ hb=>setRow_other w (M.mu o) b _ hb) (by simp) rfl rfl rfl
   refine⟨_,_,_,dB,r', ?_,e'⟩
   exact .dZ i.size o (g+1) _ (M.mu o) cap _ (by simpa using ho) (by simp[Map.ob,Map.qL];rfl) (if_pos rfl) qH
  ·have Cv:cap<len+dQ.length:=by omega
   have uh:=grownCap_ge w (len+dQ.length) cap e
   have Lf:(Builtin.firstCells i.size len (.slice (some ⟨M.mu o,0,none⟩) len cap)).run P w.drew = .ok (us.toList.take (len*i.size)).toArray w.drew:=
    (Src.ofSlice w ht ⟨M.mu o,0,none⟩ len cap (us.toList.take (len*i.size)) (by simp;omega) (fun j v hj=>by
     rw[mg,Nat.zero_add,iZ hh]
     rw[List.getElem?_take]at hj
     split at hj
     ·simpa using hj
     ·cases hj) (fun v hv=>gM v (Array.mem_toList_iff.1 (List.mem_of_mem_take hv)))).cellsD
   have dB:=run_append_grow_src (P:=P) w t u ty e i z ht hi hz (some ⟨M.mu o,0,none⟩) len cap (us.toList.take (len*i.size)) Lf y dQ.length news hs Cv (by omega) (growslice_fits Cv sR)
   generalize qM:(us.toList.take (len*i.size)++news).toArray++Builtin.zeroCells z.cells (grownCap w (len+dQ.length) cap e - (len+dQ.length))=iO at dB
   have ug:(us.toList.take (len*i.size)).length=len*i.size:=by simp;omega
   have qG:iO.size=grownCap w (len+dQ.length) cap e*i.size:=by
    rw[← qM]
    simp only[Array.size_append,List.size_toArray,List.length_append,size_zeroCells,xH,ug,PX, ← Nat.add_mul]
    congr 1;omega
   have MF : ∀ v∈iO,v.oneCell'=true:=fun v hv=>by
    rw[← qM,Array.mem_append]at hv
    rcases hv with hv|hv
    ·simp at hv
     rcases hv with hv|hv
     ·exact gM v (Array.mem_toList_iff.1 (List.mem_of_mem_take hv))
     ·exact hs.one v hv
    ·exact tB Ct _ v hv
   have aep : ∀ k,k<len*i.size→iO[k]? = us[k]? :=fun k hk=>by
    rw[← qM,Array.getElem?_append_left (by simp;omega),List.getElem?_toArray,List.getElem?_append_left (by omega),List.getElem?_take_of_lt hk];simp
   have vY : ∀ k,k<news.length→iO[len*i.size+k]? = news[k]? :=fun k hk=>by
    rw[← qM,Array.getElem?_append_left (by simp;omega),List.getElem?_toArray,List.getElem?_append_right (by omega),ug]
    congr 1;omega
   have E9:(len+dQ.length)*i.size≤iO.size:=by rw[qG];exact Nat.mul_le_mul_right _ uh
   have SU:w.heap.size≤(w.drew.alloc (.cells iO e)).heap.size:=by
    have e1:w.drew.heap.size=w.heap.size:=rfl
    have e2:(w.drew.alloc (.cells iO e)).heap.size=w.drew.heap.size+1:=by simp
    omega
   obtain⟨r',e'⟩:=r.SS hm ha w.heap.size (g+1) (grownCap w (len+dQ.length) cap e) (fun g0=>if g0=g+1 then some (w.heap.size,grownCap w (len+dQ.length) cap e)else A g0) (hA _ _) (if_pos rfl) (fun Lc h=>by rw[if_neg (by omega)];exact Cs Lc (by omega))
    (w.drew.alloc (.cells iO e)) iO e (heap_alloc_new w.drew _) qG (cells.take (len*i.size)++dQ.flatten) (by rw[List.length_append,Ia,iz];rw[Nat.add_mul]at E9;omega)
    MF (VM iO aep vY) (.inr (Nat.le_refl _)) (fun b hb _=>heap_alloc_old w.drew _ b hb) SU rfl rfl rfl
   refine⟨_,_,_,dB,r', ?_,e'⟩
   exact .dZ i.size o (g+1) _ w.heap.size _ _ (by simpa using ho) (by simp[Map.ob,Map.qL];rfl) (if_pos rfl) uh
 ·-- the first array
  rename_i z0 g' zy new
  split at he
  case isFalse=>cases he
  rename_i hc
  obtain⟨rfl,H2,vW⟩:=hc
  obtain⟨a,rfl⟩:=hx.CX
  cases new with
  |nil=>
   simp only at he
   cases he
   exact⟨_,w,M,ll ht hi ((src _ _ _ rfl).1 rfl) (Nat.le_refl 0),r,hx,Ext.refl M s w⟩
  |cons n0 new=>
  have eA:(n0::new)≠ []:=by simp
  generalize da:n0::new=dQ at *
  have PR:zy=i.size:=H2.resolve_left eA
  subst PR
  obtain⟨F4,news,hs,BM⟩:=(src _ _ _ rfl).2 eA rfl
  have zN:0<dQ.length:=List.length_pos_iff.2 eA
  simp only[← da]at he
  simp only[da]at he
  cases he
  obtain⟨iz,PW⟩:=yF F4
  have PX:=hs.newsLen
  have sR:(0+dQ.length)*i.bytes≤140737488355328:=by rw[Nat.mul_succ]at vW;simp only[bJ]at vW;rw[Nat.zero_add];omega
  have PS:dQ.length≤1099511627776:=by rw[Nat.mul_succ]at vW;simp only[bJ]at vW;omega
  have Cv:0<0+dQ.length:=by omega
  have uh:=grownCap_ge w (0+dQ.length) 0 e
  have Lf:(Builtin.firstCells i.size 0 (.slice a 0 0)).run P w.drew = .ok ([] : List Value).toArray w.drew:=by
   cases a with
   |none=>simp[Builtin.firstCells]
   |some a=>simp[Builtin.firstCells,loadCells,loadCellsFrom]
  have dB:=run_append_grow_src (P:=P) w t u ty e i z ht hi hz a 0 0 [] Lf y dQ.length news hs Cv (by omega) (growslice_fits Cv sR)
  generalize qM:(([] : List Value)++news).toArray++Builtin.zeroCells z.cells (grownCap w (0+dQ.length) 0 e - (0+dQ.length))=iO at dB
  have qG:iO.size=grownCap w (0+dQ.length) 0 e*i.size:=by
   rw[← qM]
   simp only[Array.size_append,List.size_toArray,List.nil_append,size_zeroCells,xH,PX, ← Nat.add_mul]
   congr 1;omega
  have MF : ∀ v∈iO,v.oneCell'=true:=fun v hv=>by
   rw[← qM,Array.mem_append]at hv
   rcases hv with hv|hv
   ·exact hs.one v (by simpa using hv)
   ·exact tB Ct _ v hv
  have vY : ∀ k,k<news.length→iO[k]? = news[k]? :=fun k hk=>by
   rw[← qM,Array.getElem?_append_left (by simpa using hk)];simp
  have E9:dQ.length*i.size≤iO.size:=by rw[qG];exact Nat.mul_le_mul_right _ (by omega)
  have rd:Rel M s w.drew:=r.of_heap rfl
  obtain⟨M',r',e',f'⟩:=rd.Z3 i.size (grownCap w (0+dQ.length) 0 e) iO e qG dQ.flatten (by omega) MF (fun k d v e1 e2=>by
   have hk:=(List.getElem?_eq_some_iff.1 e1).1
   rw[vY k (by omega)]at e2
   obtain⟨a,row,j,f1,f2,f3⟩:=PW _ d e1
   rw[f3]at e2
   exact BM a row j d v f1 f2 e2)
  refine⟨_,_,M',dB,r', ?_,(Ext.of_heap (M:=M) (s:=s) (w:=w) (w':=w.drew) rfl rfl rfl rfl).trans e'⟩
  have:=f' dQ.length (by omega)
  simpa using this
 ·cases he
theorem MG (r:Rel M s w) {t e:TypeId} {i:TypeInfo} {z:List D} (ht:P.underlying t=some (.slice e)) (hi:P.info? e=some i) (hz:zeroOf P e=some z) (rU:0<i.size) {n:Int} (h0:0≤n) (h1:n*((i.bytes:Int)+1)≤bJ) :
 cG P M s w (do pure (.value (← Instr.makeSlice t (.int .i64 n) (.int .i64 n)))) (.dZ i.size s.ah.length 0 n.toNat) {s with ah:=s.ah++ [.int .i64 ((0:Nat):Int)::(fN z n.toNat).flatten]}:=by
 obtain⟨i',v,g1,g2,g3,g4⟩:=sq hz
 rw[hi]at g1;cases g1
 have F7:=qK (M:=M) (s:=s) g4
 have hmul:n*((i.bytes:Int)+1)=(i.bytes:Int)*n+n:=by rw[Int.mul_add,Int.mul_one,Int.mul_comm]
 have hnb:0≤(i.bytes:Int)*n:=Int.mul_nonneg (by omega) h0
 have hmx:(bJ:Int)=1099511627776:=rfl
 have dB:=run_make (P:=P) w t e i v ht hi g2 .i64 .i64 n n h0 (Int.le_refl _) (by omega) (by omega)
 have VJ:z.length=i.size:=by have:=F7.1;omega
 obtain⟨q1,q2,q3,q4⟩:=lW.zero F7 (by omega) n.toNat
 obtain⟨iz,PW⟩:=yF (rows:=fN z n.toNat) (size:=z.length) (fun row hr=>by rw[oP z _ row hr])
 rw[lX]at iz
 have F8:madeCells v.cells (n.toNat*i.size)=(Array.range (n.toNat*z.length)).map (v.cells[· % v.cells.size]!):=by rw[VJ];rfl
 obtain⟨M',r',e',f'⟩:=r.Z3 i.size n.toNat (madeCells v.cells (n.toNat*i.size)) e (by rw[F8];simp[VJ]) (fN z n.toNat).flatten (by rw[iz,F8];simp) (by rw[F8];exact q3) (fun k d u e1 e2=>by
  obtain⟨a,row,j,f1,f2,f3⟩:=PW k d e1
  rw[F8,f3]at e2
  exact q4 a row j d u f1 f2 e2)
 refine⟨_,_,M', .inl ?_,r',f' n.toNat (Nat.le_refl _),e'⟩
 simp only[Sem.run_bind,dB,Result.andThen_ok,Sem.run_pure]
end
end Go.Abs
namespace Go.Abs
section
variable {P:Program} {M:Map} {s:St} {w:World}
theorem Lg {tm:Tm} {act:Act} (hr:lT M s tm act.tmps) : ∀ {l:List Operand} {xs:List X},xA l=some xs→
 xs.length=l.length∧∀ (i:Nat) (d:D) (v:Value),(xs.map (·.ev tm))[i]? = some d→(l.map act.eval)[i]? = some v→RD M s d v
 | [],xs,h=>by cases h;exact⟨rfl,by simp⟩
 | x::l,xs,h=>by
  unfold xA at h
  split at h
  ·rename_i x' r' h1 h2
   cases h
   obtain⟨g1,g2⟩:=Lg hr h2
   refine⟨by simp[g1],fun i d v e1 e2=>?_⟩
   cases i with
   |zero=>simp at e1 e2;subst e1;subst e2;exact bP h1 hr
   |succ i=>exact g2 i d v (by simpa using e1) (by simpa using e2)
  ·cases h
theorem Ib {lo:Option Operand} {F9:Option X} {tm:Tm} {act:Act} (hr:lT M s tm act.tmps) (h:VA lo=some F9) {l:Int} (hl:sL (F9.map (·.ev tm))=some l):PJ (lo.map act.eval) l:=by
 cases lo with
 |none=>cases h;simp only[Option.map_none,sL,Option.some.injEq]at hl;exact .inl ⟨rfl,hl.symm⟩
 |some x=>
  obtain⟨y,hy,rfl⟩:=map_some (f:=some) h
  have:=bP hy hr
  simp only[Option.map_some]at hl ⊢
  cases hd:y.ev tm<;>rw[hd]at hl this<;>simp only[sL]at hl<;>try (cases hl;done)
  cases hl
  rw[this.gV]
  exact .inr ⟨_,rfl⟩
theorem Ic {hi:Option Operand} {gN:Option X} {tm:Tm} {act:Act} (hr:lT M s tm act.tmps) (h:VA hi=some gN) {len:Nat} {l:Int} (hl:sM (gN.map (·.ev tm)) len=some l):PK (hi.map act.eval) len l:=by
 cases hi with
 |none=>cases h;simp only[Option.map_none,sM,Option.some.injEq]at hl;exact .inl ⟨rfl,hl.symm⟩
 |some x=>
  obtain⟨y,hy,rfl⟩:=map_some (f:=some) h
  have:=bP hy hr
  simp only[Option.map_some]at hl ⊢
  cases hd:y.ev tm<;>rw[hd]at hl this<;>simp only[sM]at hl<;>try (cases hl;done)
  cases hl
  rw[this.gV]
  exact .inr ⟨_,rfl⟩
theorem MH {t:TypeId} {f off size:Nat} {agg:Bool} (h:l9 P t f=some (off,size,agg)) {cs:List D} {vs:Array Value} (hl:cs.length=vs.size) (h1 : ∀ v∈vs,v.oneCell'=true)
 (h2 : ∀ (i:Nat) (d:D) (v:Value),cs[i]? = some d→vs[i]? = some v→RD M s d v) {d:D} (hp:part cs off agg size=some d) (r:Rel M s w) :
 cG P M s w (do pure (.value (← Instr.field t (.agg vs) f))) d s:=by
 let n:=if agg then size else 1
 have jf:off+n≤vs.size:=by
  rcases qu hp with ⟨rfl,h1,_⟩|⟨rfl,h1⟩
  ·simp[n];omega
  ·have:=(List.getElem?_eq_some_iff.1 h1).1;simp[n];omega
 have hlen:((vs.toList.drop off).take n).length=n:=by simp;omega
 have hY : ∀ (j:Nat),j<((vs.toList.drop off).take n).length→vs[off+j]? = ((vs.toList.drop off).take n)[j]? :=by
  intro j h
  rw[hlen]at h
  rw[List.getElem?_take,if_pos h,List.getElem?_drop];simp
 refine cG.pure (v:=if agg then .agg ((vs.toList.drop off).take n).toArray else((vs.toList.drop off).take n).getD 0 Go.undef) r (by simp only[Sem.run_bind,PC h vs _ hlen hY,Result.andThen_ok,Sem.run_pure]) ?_
 refine qI hp _ hlen (fun _ u hu=>h1 u (Array.mem_toList_iff.1 (List.mem_of_mem_drop (List.mem_of_mem_take hu)))) (fun j d u e1 e2=>h2 _ d u e1 ?_)
 rw[hY j (List.getElem?_eq_some_iff.1 e2).1];exact e2
theorem su {o:Oper} {ao:AO} {tm:Tm} {act:Act} {d:D} {s':St} (hc:DN P o=some ao) (r:Rel M s w) (hr:lT M s tm act.tmps) (he:aI ao tm s=some (d,s')) :
 cG P M s w (execOp act.eval o) d s':=by
 obtain⟨dst,op,type,pos,after,guard⟩:=o
 unfold DN at hc
 simp only at hc
 cases op with
 |move x=>
  obtain⟨y,hy,rfl⟩:=map_some hc
  cases he
  exact cG.pure r rfl (bP hy hr)
 |assign x=>
  obtain⟨y,hy,rfl⟩:=map_some hc
  cases he
  exact cG.pure r rfl (bP hy hr)
 | pick c a b=>
  simp only at hc
  split at hc
  ·rename_i c' a' b' h1 h2 h3
   cases hc
   simp only[aI]at he
   split at he
   ·rename_i t ht
    cases he
    have hcb:=bP h1 hr
    rw[ht]at hcb
    have:=hcb.nK
    refine cG.pure (v:=if t then act.eval a else act.eval b) r ?_ ?_
    ·simp only [execOp,this,asBool]
     simp
    ·cases t
     ·exact bP h3 hr
     ·exact bP h2 hr
   ·cases he
  ·cases hc
 | alloc t=>
  simp only at hc
  split at hc
  ·obtain⟨z,hz,rfl⟩:=map_some hc
   simp only[aI]at he
   split at he
   ·cases he;exact Ki r hz
   ·cases he
  ·obtain⟨z,hz,rfl⟩:=map_some hc
   cases he
   exact Mj r hz
 | box t x=>
  simp only at hc
  split at hc
  ·obtain⟨y,hy,rfl⟩:=map_some hc
   simp only[aI]at he
   split at he
   ·rename_i row dT
    cases he
    exact PB r (bP hy hr) dT
   ·cases he
  ·obtain⟨y,hy,rfl⟩:=map_some hc
   simp only[aI]at he
   split at he
   ·rename_i row dT
    cases he
    exact SG r (bP hy hr) dT
   ·cases he
 | build t parts=>
  simp only at hc
  split at hc
  ·rename_i fs z ps h1 h2 h3
   split at hc
   ·rename_i DV
    cases hc
    simp only[aI]at he
    split at he
    ·rename_i cs nC
     cases he
     have:=Mx r hr h1 DV h2 h3 nC
     simpa[execOp]using this
    ·cases he
   ·cases hc
  ·cases hc
 | buildSlice t n parts=>
  simp only at hc
  split at hc
  ·rename_i e hu
   split at hc
   ·rename_i i z ps h1 h2 h3
    split at hc
    ·rename_i ln
     cases hc
     simp only[aI]at he
     split at he
     ·rename_i rows jZ
      cases he
      obtain⟨vs,T,g1,g2,g3,g4⟩:=Cu r hr hu h1 h2 ln.1 ln.2 h3 jZ
      obtain⟨f1,f2,f3⟩:=Ms r T g1
      refine⟨_,_,_, .inl ?_,f2,f1,f3⟩
      simp only[Array.toArray_toList]at g4
      simp only[execOp,Sem.run_bind,g4,Result.andThen_ok,Sem.run_pure]
      rw[g2]
     ·cases he
    ·cases hc
   ·cases hc
  ·cases hc
 | load t x=>
  simp only at hc
  split at hc
  ·rename_i y a i h1 h2 h3
   cases hc
   have hx:=bP h1 hr
   simp only[aI]at he
   split at he
   ·rename_i o off ho
    rw[ho]at hx
    have Ie:=hx.Ax
    obtain⟨hv,_⟩:=hx.rS
    split at he
    ·rename_i cs nC
     split at he
     ·rename_i d' kU
      cases he
      have:=G8 r h3 h2 nC Ie kU
      simp only[execOp,hv]
      exact this
     ·cases he
    ·cases he
   ·rename_i row off ho
    rw[ho]at hx
    obtain⟨b,k,hv,g1,g2⟩:=hx.yz
    split at he
    ·rename_i d' kU
     cases he
     have:=G9 r h3 h2 g1 g2 kU
     simp only[execOp,hv]
     exact this
    ·cases he
   ·exact Kk r h3 h2 hx he
  ·cases hc
 | store t a x=>
  simp only at hc
  split at hc
  ·rename_i a' x' i h1 h2 h3
   cases hc
   have ha:=bP h1 hr
   have hx:=bP h2 hr
   simp only[aI]at he
   split at he
   ·rename_i o off row ho dT
    rw[ho]at ha
    have Ie:=ha.Ax
    obtain⟨hv,_⟩:=ha.rS
    split at he
    ·rename_i cs nC
     split at he
     ·rename_i jf
      cases he
      have:=Mk r h3 nC Ie hx dT jf.1 jf.2
      simp only[execOp,hv]
      exact this
     ·cases he
    ·cases he
   ·exact H8 r h3 ha hx he
  ·cases hc
 | nilCheck x=>
  obtain⟨y,hy,rfl⟩:=map_some hc
  have hx:=bP hy hr
  simp only[aI]at he
  split at he
  ·rename_i o off ho
   cases he
   rw[ho]at hx
   have hv:=hx.rS.1
   rw[hv]at hx
   simp only[execOp,hv]
   exact yC r hx
  ·rename_i row off ho
   cases he
   rw[ho]at hx
   obtain⟨b,k,hv,_⟩:=hx.yz
   rw[hv]at hx
   simp only[execOp,hv]
   exact yC r hx
  ·split at he
   case h_2=>cases he
   rename_i d' sV
   cases he
   unfold Ma at sV
   split at sV
   ·rename_i o g off hq
    cases sV
    rw[hq]at hx
    obtain⟨z,b,cap,A,hv,_⟩:=hx.CW
    rw[hv]at hx
    simp only[execOp,hv]
    exact yC r hx
   ·cases sV
 | binOp op t x y yt=>
  simp only at hc
  split at hc
  ·rename_i x' y' h1 h2
   have hx:=bP h1 hr
   have hy:=bP h2 hr
   have fin : ∀ d',wP op (x'.ev tm) (y'.ev tm)=some d'→(d',s)=(d,s')→cG P M s w (execOp act.eval ⟨dst, .binOp op t x y yt,type,pos,after,guard⟩) d s':=by
    intro d' kU heq
    cases heq
    exact SH r hx hy kU
   have Z5:(match wP op (x'.ev tm) (y'.ev tm)with|some d=>some (d,s)|none=>none)=some (d,s')→cG P M s w (execOp act.eval ⟨dst, .binOp op t x y yt,type,pos,after,guard⟩) d s':=by
    intro h
    split at h
    ·rename_i d' kU
     exact fin d' kU (by cases h;rfl)
    ·cases h
   have SV : ∀ o:FO,((o = .eq∧op = .eql)∨(o = .CQ∧op = .add)∨(o = .HP∧op = .eql))→aI (.nY o x' y') tm s=some (d,s')→cG P M s w (execOp act.eval ⟨dst, .binOp op t x y yt,type,pos,after,guard⟩) d s':=by
    intro o ho h
    simp only[aI]at h
    split at h
    ·rename_i d' kU
     cases h
     exact PG r ho hx hy kU
    ·cases h
   have Z6 : ∀ neg,op=(if neg then .neq else .eql)→P.underlying t=some .bool→aI (.FY neg x' y') tm s=some (d,s')→cG P M s w (execOp act.eval ⟨dst, .binOp op t x y yt,type,pos,after,guard⟩) d s':=by
    intro neg mA ht h
    simp only[aI]at h
    split at h
    ·rename_i p q hp hq
     cases h
     rw[hp]at hx;rw[hq]at hy
     simp only[execOp,hx.nK,hy.nK,mA]
     exact SI r ht
    ·cases h
   have Z7 : ∀ neg e,op=(if neg then .neq else .eql)→P.underlying t=some (.pointer e)→aI (.FZ neg x' y') tm s=some (d,s')→cG P M s w (execOp act.eval ⟨dst, .binOp op t x y yt,type,pos,after,guard⟩) d s':=by
    intro neg e mA ht h
    simp only[aI]at h
    split at h
    ·rename_i hp hq
     cases h
     rw[hp]at hx;rw[hq]at hy
     simp only[execOp,hx.rR,hy.rR,mA]
     have:=CY r (neg:=neg) (x:=x) (y:=y) (a:=none) ht
     cases neg<;>simpa using this
    ·rename_i o off hp hq
     cases h
     rw[hp]at hx;rw[hq]at hy
     simp only[execOp,hx.rS.1,hy.rR,mA]
     have:=CY r (neg:=neg) (x:=x) (y:=y) (a:=some ⟨M.mu o,off,none⟩) ht
     cases neg<;>simpa using this
    ·rename_i row off hp hq
     cases h
     rw[hp]at hx;rw[hq]at hy
     obtain⟨b,k,hv,_⟩:=hx.yz
     simp only[execOp,hv,hy.rR,mA]
     have:=CY r (neg:=neg) (x:=x) (y:=y) (a:=some ⟨b,k+off,none⟩) ht
     cases neg<;>simpa using this
    ·cases h
   have Z8 : ∀ neg ks,op=(if neg then .neq else .eql)→pS P t=some ks→aI (.eqs neg ks x' y') tm s=some (d,s')→cG P M s w (execOp act.eval ⟨dst, .binOp op t x y yt,type,pos,after,guard⟩) d s':=by
    intro neg ks mA ht h
    simp only[aI]at h
    split at h
    ·rename_i p q hp hq
     split at h
     ·rename_i e' sV
      cases h
      rw[hp]at hx;rw[hq]at hy
      simp only[execOp,mA]
      exact SK r ht hx hy sV
     ·cases h
    ·cases h
   split at hc
   ·cases hc;exact Z5 he
   ·cases hc;exact Z5 he
   ·rename_i hu;cases hc;exact Z6 false rfl hu he
   ·rename_i hu;cases hc;exact Z6 true rfl hu he
   ·rename_i hu;cases hc;exact Z7 false _ rfl hu he
   ·rename_i hu;cases hc;exact Z7 true _ rfl hu he
   ·obtain⟨ks,hk,rfl⟩:=map_some hc;exact Z8 false ks rfl hk he
   ·obtain⟨ks,hk,rfl⟩:=map_some hc;exact Z8 true ks rfl hk he
   ·cases hc;exact SV .eq (.inl ⟨rfl,rfl⟩) he
   ·cases hc;exact SV .CQ (.inr (.inl ⟨rfl,rfl⟩)) he
   ·cases hc;exact SV .HP (.inr (.inr ⟨rfl,rfl⟩)) he
   ·cases hc
  ·cases hc
 | unOp op t x=>
  obtain⟨y,hy,rfl⟩:=map_some hc
  have hx:=bP hy hr
  simp only[aI]at he
  split at he
  ·rename_i d' kU
   cases he
   unfold HT at kU
   split at kU
   ·rename_i k n hk
    cases kU
    rw[hk]at hx
    exact cG.pure (v:= .int k (k.wrap (0 - n))) r (by simp[execOp,hx.gV,Op.unary,Op.intArith]) (.int _ _)
   ·rename_i b hb
    cases kU
    rw[hb]at hx
    exact cG.pure (v:= .bool (!b)) r (by simp[execOp,hx.nK,Op.unary]) (.bool _)
   ·cases kU
  ·cases he
 | convert src auJ x=>
  simp only at hc
  split at hc
  ·rename_i y k1 k h1 h2 h3
   cases hc
   have hx:=bP h1 hr
   simp only[aI]at he
   split at he
   ·rename_i k2 n hn
    cases he
    rw[hn]at hx
    refine cG.pure (v:= .int k (k.wrap n)) r ?_ (.int _ _)
    simp[execOp,hx.gV,convert,run_underlying h2,run_underlying h3,Conv.intToInt]
   ·cases he
  ·rename_i y e h1 h2 h3
   split at hc
   ·rename_i h4
    cases hc
    have hx:=bP h1 hr
    simp only[aI]at he
    split at he
    ·rename_i g z rows jZ
     split at he
     ·rename_i b hb
      cases he
      rw[jZ]at hx
      exact My r h2 h4 h3 hx hb
     ·cases he
    ·cases he
   ·cases hc
  ·rename_i y e e2 h1 h2 h3
   split at hc
   ·rename_i h4
    split at hc
    ·rename_i rK
     cases hc
     subst rK
     have hx:=bP h1 hr
     simp only[aI]at he
     split at he
     ·rename_i t z rows jZ
      split at he
      ·rename_i ln
       cases he
       rw[jZ]at hx
       exact SO r h2 h4 hx ln.1 ln.2
      ·cases he
     ·cases he
    ·cases hc
   ·cases hc
  ·rename_i y e h1 h2 h3
   split at hc
   ·rename_i i h4 h5
    split at hc
    ·cases hc
     have hx:=bP h1 hr
     simp only[aI]at he
     split at he
     ·rename_i l hl
      cases he
      rw[hl]at hx
      simp only[execOp,hx.la]
      exact H6 r h2 h3 h4
     ·cases he
    ·cases hc
   ·cases hc
  ·rename_i y k0 k h1 h2 h3
   cases hc
   have hx:=bP h1 hr
   simp only[aI]at he
   split at he
   ·rename_i d' kU
    cases he
    obtain⟨j,n,hn,rfl⟩:=Mn kU
    rw[hn]at hx
    refine cG.pure (v:= .float k (k.nearest n)) r ?_ (.val _ rfl)
    simp[execOp,hx.gV,convert,run_underlying h2,run_underlying h3,Conv.intToFloat]
   ·cases he
  ·rename_i y k0 k h1 h2 h3
   cases hc
   have hx:=bP h1 hr
   simp only[aI]at he
   split at he
   ·rename_i d' kU
    cases he
    obtain⟨f,b,n,hn,h4,h5,rfl⟩:=Mp kU
    rw[hn]at hx
    refine cG.pure (v:= .int k n) r ?_ (.int _ _)
    simp[execOp,hx.mO,convert,run_underlying h2,run_underlying h3,Conv.floatToInt,h4,h5]
   ·cases he
  ·cases hc
 | slice t x lo hi mx=>
  cases mx with
  |some m=>cases hc
  | none=>
   simp only at hc
   split at hc
   ·rename_i y F9 gN h1 h2 h3 h4
    cases hc
    have hx:=bP h1 hr
    simp only[aI]at he
    split at he
    ·rename_i u hu
     rw[hu]at hx
     split at he
     ·rename_i l h hl hh
      split at he
      ·rename_i ln
       cases he
       have:=PN r h4 (Ib hr h2 hl) (Ic hr h3 hh) ln.1 ln.2.1 ln.2.2
       simp only[execOp,hx.la,Option.map_none]
       exact this
      ·cases he
     ·cases he
    ·cases he
   ·rename_i y F9 gN e h1 h2 h3 h4
    split at hc
    ·rename_i i DQ
     cases hc
     have hx:=bP h1 hr
     simp only[aI]at he
     split at he
     ·rename_i g z rows jZ
      rw[jZ]at hx
      split at he
      ·rename_i l h hl hh
       split at he
       ·rename_i ln
        cases he
        have:=SM r h4 DQ ln.1 hx (Ib hr h2 hl) (Ic hr h3 hh) ln.2.1 ln.2.2.1 ln.2.2.2
        simp only[execOp,Option.map_none]
        exact this
       ·cases he
      ·cases he
     ·split at he
      case h_2=>cases he
      rename_i d' sV
      cases he
      have:=MC r h4 DQ hx (fun l e=>Ib hr h2 e) (fun len l e=>Ic hr h3 e) sV
      simp only[execOp,Option.map_none]
      exact this
    ·cases hc
   ·cases hc
 | fieldAddr t x f=>
  simp only at hc
  split at hc
  ·rename_i y off size a h1 h2
   cases hc
   have hx:=bP h1 hr
   simp only[aI]at he
   split at he
   ·rename_i o k ho
    cases he
    rw[ho]at hx
    have Ie:=hx.Ax
    obtain⟨hv,hD⟩:=hx.rS
    refine cG.pure (v:= .pointer (some ⟨M.mu o,k+off,none⟩)) r ?_ (.ptr _ _ hD Ie)
    simp only[execOp,hv,Sem.run_bind,Az h2,Result.andThen_ok,Sem.run_pure]
   ·rename_i row k ho
    cases he
    rw[ho]at hx
    obtain⟨b,q,hv,g1,g2⟩:=hx.yz
    refine cG.pure (v:= .pointer (some ⟨b,q+(k+off),none⟩)) r ?_ (.dt _ _ _ _ g1 g2)
    simp only[execOp,hv,Sem.run_bind,Az h2,Result.andThen_ok,Sem.run_pure,Nat.add_assoc]
   ·split at he
    case h_2=>cases he
    rename_i d' sV
    cases he
    unfold DM at sV
    split at sV
    ·rename_i o g k hq
     cases sV
     rw[hq]at hx
     obtain⟨z,b,cap,A,hv,ho,hm,hg⟩:=hx.CW
     refine cG.pure (v:= .pointer (some ⟨b,k+off,none⟩)) r ?_ (.fi _ _ _ _ b cap A ho hm hg)
     simp only[execOp,hv,Sem.run_bind,Az h2,Result.andThen_ok,Sem.run_pure]
    ·cases sV
  ·cases hc
 | field t x f=>
  simp only at hc
  split at hc
  ·rename_i y off size a h1 h2
   cases hc
   have hx:=bP h1 hr
   simp only[aI]at he
   split at he
   ·rename_i cs nC
    split at he
    ·rename_i d' kU
     cases he
     rw[nC]at hx
     obtain⟨vs,hv,g1,g2,g3⟩:=hx.E4
     simp only[execOp,hv]
     exact MH h2 g1 g2 g3 kU r
    ·cases he
   ·cases he
  ·cases hc
 | indexAddr t x i=>
  simp only at hc
  split at hc
  ·rename_i y j e h1 h2 h3
   split at hc
   ·rename_i inf MJ
    split at hc
    ·cases hc
     have hx:=bP h1 hr
     have hj:=bP h2 hr
     simp only[aI]at he
     split at he
     ·rename_i g z rows k n jZ hn
      split at he
      ·rename_i ln
       obtain⟨Ig,hz⟩:=ln
       subst hz
       split at he
       ·rename_i row dT
        cases he
        rw[jZ]at hx;rw[hn]at hj
        simp only[execOp,hj.gV]
        exact Mr r h3 MJ hx Ig dT
       ·cases he
      ·cases he
     ·split at he
      case h_2=>cases he
      rename_i d' sV
      cases he
      exact H9 r h3 MJ hx hj sV
    ·cases hc
   ·cases hc
  ·cases hc
 | index t x i=>
  simp only at hc
  split at hc
  ·rename_i y j h1 h2 h3
   cases hc
   have hx:=bP h1 hr
   have hj:=bP h2 hr
   simp only[aI]at he
   split at he
   ·rename_i l k n hl hn
    split at he
    ·rename_i Ig
     split at he
     ·rename_i c Z9
      cases he
      rw[hl]at hx;rw[hn]at hj
      simp only[execOp,hj.gV,hx.la]
      exact PI r h3 Ig Z9
     ·cases he
    ·cases he
   ·cases he
  ·cases hc
 | extract x i=>
  obtain⟨y,hy,rfl⟩:=map_some hc
  have hx:=bP hy hr
  simp only[aI]at he
  split at he
  ·rename_i ds AP
   split at he
   ·rename_i d' kU
    cases he
    rw[AP]at hx
    obtain⟨vs,hv,g1,g2⟩:=hx.F1
    have hD:=(List.getElem?_eq_some_iff.1 kU).1
    have Ih:vs[i]? = some vs[i]:=Array.getElem?_eq_getElem (by omega)
    refine cG.pure (v:=vs[i]) r ?_ (g2 i _ _ kU Ih)
    simp[execOp,hv,Instr.extract,Ih]
   ·cases he
  ·cases he
 | call c=>
  obtain⟨callee,args,mB⟩:=c
  cases callee with
  |value f=>cases hc
  |invoke f m=>cases hc
  | builtin bi=>
   have two : ∀ {x y:Operand} {x' y':X} {isMax:Bool},cX x=some x'→cX y=some y'→bi=(if isMax then .max else .min)→args.toList = [x,y]→aI (.mm isMax x' y') tm s=some (d,s')→
    cG P M s w (execOp act.eval ⟨dst, .call ⟨.builtin bi,args,mB⟩,type,pos,after,guard⟩) d s':=by
    intro x y x' y' isMax h1 h2 hb ha h
    have gP:args = #[x,y]:=by rw[← Array.toArray_toList (xs:=args),ha]
    subst gP
    have hx:=bP h1 hr
    have hy:=bP h2 hr
    simp only[aI]at h
    split at h
    ·rename_i k a k' b PY Ie
     split at h
     ·rename_i zP
      subst zP
      cases h
      rw[PY]at hx;rw[Ie]at hy
      refine cG.pure (v:= .int k (if isMax then(if b > a then b else a)else(if b<a then b else a))) r ?_ (.int _ _)
      subst hb
      cases isMax
      ·simp[execOp,resolve,invoke,builtin,Builtin.min_,Builtin.min2,hx.gV,hy.gV]
      ·simp[execOp,resolve,invoke,builtin,Builtin.max_,Builtin.max2,hx.gV,hy.gV]
     ·cases h
    ·cases h
   cases bi<;>simp only at hc<;>try (cases hc;done)
   case append=>
    split at hc
    ·rename_i x y t u ha qN
     split at hc
     ·rename_i e e' x' y' h1 h2 h3 h4
      split at hc
      ·rename_i i z hi hz
       split at hc
       ·rename_i rU
        cases hc
        have gP:args = #[x,y]:=by rw[← Array.toArray_toList (xs:=args),ha]
        have Ii:mB = #[t,u]:=by rw[← Array.toArray_toList (xs:=mB),qN]
        subst gP;subst Ii
        obtain⟨i',v,g1,g2,g3,g4⟩:=sq hz
        rw[hi]at g1;cases g1
        have F7:=qK (M:=M) (s:=s) g4
        split at he
        ·rename_i hb
         obtain⟨rfl,Ij,hb2⟩:=hb
         obtain⟨v',w',M',f1,f2,f3,f4⟩:=Mu (ty:=type) r h1 h2 hi g2 Ij hb2 g3 F7.2.1 (bP h3 hr) (bP h4 hr) he
         refine⟨v',w',M', .inl ?_,f2,f3,f4⟩
         simp[execOp,resolve,invoke,builtin,f1]
        ·have hxx:=bP h3 hr
         simp only[aI]at he
         split at he
         ·rename_i gq zq rq hq
          rw[hq]at hxx
          obtain⟨v',w',M',f1,f2,f3,f4⟩:=PT (ty:=type) r h1 h2 hi g2 g3 F7.2.1 hxx (bP h4 hr) rU he
          refine⟨v',w',M', .inl ?_,f2,f3,f4⟩
          simp[execOp,resolve,invoke,builtin,f1]
         ·obtain⟨v',w',M',f1,f2,f3,f4⟩:=ME (ty:=type) r h1 h2 hi g2 g3 F7.2.1 hxx (bP h4 hr) rU he
          refine⟨v',w',M', .inl ?_,f2,f3,f4⟩
          simp[execOp,resolve,invoke,builtin,f1]
       ·cases hc
      ·cases hc
     ·rename_i e x' y' h1 h2 h3 h4
      split at hc
      ·rename_i i z hi hz
       split at hc
       ·rename_i hb
        cases hc
        obtain⟨rfl,Ij,hb2⟩:=hb
        have gP:args = #[x,y]:=by rw[← Array.toArray_toList (xs:=args),ha]
        have Ii:mB = #[t,u]:=by rw[← Array.toArray_toList (xs:=mB),qN]
        subst gP;subst Ii
        obtain⟨i',v,g1,g2,g3,g4⟩:=sq hz
        rw[hi]at g1;cases g1
        have F7:=qK (M:=M) (s:=s) g4
        have hy:=bP h4 hr
        simp only[aI]at he
        split at he
        ·rename_i l hl
         rw[hl]at hy
         obtain⟨v',w',M',f1,f2,f3,f4⟩:=Mv (ty:=type) r h1 h2 hi g2 Ij hb2 g3 F7.2.1 (bP h3 hr) he
         refine⟨v',w',M', .inl ?_,f2,f3,f4⟩
         simp[execOp,resolve,invoke,builtin,hy.la,f1]
        ·cases he
       ·cases hc
      ·cases hc
     ·cases hc
    ·cases hc
   case len=>
    split at hc
    ·rename_i x t ha qN
     have gP:args = #[x]:=by rw[← Array.toArray_toList (xs:=args),ha]
     have Ii:mB = #[t]:=by rw[← Array.toArray_toList (xs:=mB),qN]
     subst gP;subst Ii
     have hex:execOp act.eval ⟨dst, .call ⟨.builtin .len, #[x], #[t]⟩,type,pos,after,guard⟩=(do pure (.value (← Builtin.len_ #[t] type #[act.eval x]))):=by
      simp[execOp,resolve,invoke,builtin]
     rw[hex]
     split at hc
     ·rename_i ht
      obtain⟨y,hy,rfl⟩:=map_some hc
      have hx:=bP hy hr
      simp only[aI]at he
      split at he
      ·rename_i l hl
       cases he
       rw[hl]at hx
       rw[hx.la]
       exact HY r ht
      ·cases he
     ·rename_i e ht
      obtain⟨y,hy,rfl⟩:=map_some hc
      have hx:=bP hy hr
      simp only[aI]at he
      split at he
      ·rename_i g z rows jZ
       cases he
       rw[jZ]at hx
       rcases hx.jb with ⟨h0,hv,_⟩|⟨h0,_,a,cap,hv⟩|⟨b,q,cap,hv,_⟩
       ·rw[hv,h0];exact mP r ht
       ·rw[hv,h0];exact mP r ht
       ·rw[hv];exact mP r ht
      ·split at he
       case h_2=>cases he
       rename_i d' sV
       cases he
       exact MD r ht hx sV
     ·cases hc
    ·cases hc
   case max=>
    split at hc
    ·rename_i x y ha
     split at hc
     ·rename_i x' y' h1 h2
      cases hc
      exact two (isMax:=true) h1 h2 rfl ha he
     ·cases hc
    ·cases hc
   case min=>
    split at hc
    ·rename_i x y ha
     split at hc
     ·rename_i x' y' h1 h2
      cases hc
      exact two (isMax:=false) h1 h2 rfl ha he
     ·cases hc
    ·cases hc
   case complex=>
    split at hc
    ·rename_i x y ha
     split at hc
     ·rename_i x' y' h1 h2
      cases hc
      have gP:args = #[x,y]:=by rw[← Array.toArray_toList (xs:=args),ha]
      subst gP
      have hx:=bP h1 hr
      have hy:=bP h2 hr
      simp only[aI]at he
      split at he
      ·rename_i d' kU
       cases he
       obtain⟨k,a,b,vZ,rJ,rfl⟩:=PD kU
       rw[vZ]at hx;rw[rJ]at hy
       refine cG.pure (v:= .complex k a b) r ?_ (.val _ rfl)
       have hb:Builtin.complex_ mB type #[.float k a, .float k b] = pure (.complex k a b):=if_pos rfl
       simp[execOp,resolve,invoke,builtin,hb,hx.mO,hy.mO]
      ·cases he
     ·cases hc
    ·cases hc
   case real=>
    split at hc
    ·rename_i x ha
     obtain⟨x',h1,rfl⟩:=map_some hc
     have gP:args = #[x]:=by rw[← Array.toArray_toList (xs:=args),ha]
     subst gP
     have hx:=bP h1 hr
     simp only[aI]at he
     split at he
     ·rename_i d' kU
      cases he
      obtain⟨k,a,b,vZ,rfl⟩:=PE kU
      rw[vZ]at hx
      refine cG.pure (v:= .float k a) r ?_ (.val _ rfl)
      have hb:Builtin.real_ mB type #[.complex k a b] = pure (.float k a):=rfl
      simp[execOp,resolve,invoke,builtin,hb,hx.mO]
     ·cases he
    ·cases hc
   case imag=>
    split at hc
    ·rename_i x ha
     obtain⟨x',h1,rfl⟩:=map_some hc
     have gP:args = #[x]:=by rw[← Array.toArray_toList (xs:=args),ha]
     subst gP
     have hx:=bP h1 hr
     simp only[aI]at he
     split at he
     ·rename_i d' kU
      cases he
      obtain⟨k,a,b,vZ,rfl⟩:=PF kU
      rw[vZ]at hx
      refine cG.pure (v:= .float k b) r ?_ (.val _ rfl)
      have hb:Builtin.imag_ mB type #[.complex k a b] = pure (.float k b):=rfl
      simp[execOp,resolve,invoke,builtin,hb,hx.mO]
     ·cases he
    ·cases hc
 | makeFunc fn first captured=>
  cases fn<;>simp only at hc<;>try (cases hc;done)
  split at hc
  ·rename_i f h0
   obtain⟨xs,oG,rfl⟩:=map_some hc
   simp only[aI,Option.some.injEq,Prod.mk.injEq]at he
   obtain⟨rfl,rfl⟩:=he
   obtain⟨c1,c2⟩:=Lg hr oG
   have hf:first = #[]:=Array.eq_empty_of_size_eq_zero h0
   subst hf
   refine cG.pure (v:= .func (.func f) #[] (captured.map act.eval)) r ?_ (.fV _ _ _ (by simp[c1]) (fun i d v e1 e2=>c2 i d v e1 (by simpa using e2)))
   simp[execOp,Instr.makeFunc]
  ·cases hc
 | makeMap t rv=>
  cases rv with
  | none=>
   simp only at hc
   split at hc
   ·rename_i ht
    cases hc
    simp only[aI,Option.some.injEq,Prod.mk.injEq]at he
    obtain⟨rfl,rfl⟩:=he
    simp only[execOp,Option.map_none]
    exact Mz r ht
   ·cases hc
  |some x=>cases hc
 | makeSlice t l c=>
  simp only at hc
  split at hc
  ·rename_i l' c' e h1 h2 ht
   split at hc
   ·rename_i i z hi hz
    split at hc
    ·rename_i rU
     cases hc
     have hl:=bP h1 hr
     have hcx:=bP h2 hr
     simp only[aI]at he
     split at he
     ·rename_i n m hn hm
      split at he
      ·rename_i ln
       obtain⟨rfl,h0,hmx⟩:=ln
       cases he
       rw[hn]at hl;rw[hm]at hcx
       simp only[execOp,hl.gV,hcx.gV]
       exact MG r ht hi hz rU h0 hmx
      ·cases he
     ·cases he
    ·cases hc
   ·cases hc
  ·cases hc
 | mapUpdate t m k v=>
  simp only at hc
  split at hc
  ·rename_i kt et m' k' v' ht h1 h2 h3
   split at hc
   ·rename_i hkt
    cases hc
    have hm:=bP h1 hr
    have hk:=bP h2 hr
    have hv:=bP h3 hr
    simp only[aI]at he
    split at he
    ·rename_i o key g z rows ho SW jZ
     rw[ho]at hm;rw[SW]at hk;rw[jZ]at hv
     obtain⟨hmv,hD,xB⟩:=hm.HX
     split at he
     ·rename_i cs nC
      split at he
      ·rename_i jB aiF
       cases he
       have xI:(act.eval v).oneCell'=true:=by
        rcases hv.jb with ⟨_,h,_⟩|⟨_,_,a,cap,h⟩|⟨b,q,cap,h,_⟩<;>rw[h]<;>rfl
       simp only[execOp,hmv,hk.la]
       exact PV r ht hkt xB nC hv xI aiF
      ·cases he
     ·cases he
    ·cases he
   ·cases hc
  ·cases hc
 | lookup t m k ok=>
  cases ok<;>simp only at hc<;>try (cases hc;done)
  split at hc
  ·rename_i kt et m' k' ht h1 h2
   split at hc
   ·rename_i i hkt hi
    split at hc
    ·rename_i z hz
     obtain⟨zd,Z2,rfl⟩:=map_some hc
     have hm:=bP h1 hr
     have hk:=bP h2 hr
     simp only[aI]at he
     split at he
     ·rename_i o key ho SW
      rw[ho]at hm;rw[SW]at hk
      obtain⟨hmv,hD,xB⟩:=hm.HX
      split at he
      ·rename_i cs nC
       split at he
       ·rename_i d' kU
        cases he
        simp only[execOp,hmv,hk.la]
        exact MA r ht hkt hi hz Z2 xB nC kU
       ·cases he
      ·cases he
     ·cases he
    ·cases hc
   ·cases hc
  ·cases hc
 |_=>cases hc
theorem yG {o:Oper} {z:List D} {k n:Nat} {ps:List (Nat×X)} {tm:Tm} {act:Act} {d:D} {s':St} (hc:DN P o=some (.dv z k n ps)) (r:Rel M s w) (hr:lT M s tm act.tmps) (he:aI (.uQ z k n ps) tm s=some (d,s')) :
 cG P M s w (execOp act.eval o) d s':=by
 obtain⟨dst,op,type,pos,after,guard⟩:=o
 unfold DN at hc
 simp only at hc
 cases op with
 | buildSlice t n' parts=>
  simp only at hc
  split at hc
  ·rename_i e hu
   split at hc
   ·rename_i i z ps h1 h2 h3
    split at hc
    ·rename_i ln
     cases hc
     simp only[aI]at he
     split at he
     ·rename_i rows jZ
      cases he
      obtain⟨vs,T,g1,g2,g3,g4⟩:=Cu r hr hu h1 h2 ln.1 ln.2 h3 jZ
      obtain⟨M',f1,f2,f3⟩:=PU r T g1 (by rw[g3,g2]) ln.1
      refine⟨_,_,_, .inl ?_,f2,f1,f3⟩
      simp only[Array.toArray_toList]at g4
      simp only[execOp,Sem.run_bind,g4,Result.andThen_ok,Sem.run_pure]
      rw[g2]
     ·cases he
    ·cases hc
   ·cases hc
  ·cases hc
 |_=>
  exfalso
  revert hc
  try simp only
  repeat' split
  all_goals (first|(intro h;cases h;done)|(intro h;obtain⟨_,_,h⟩:=map_some h;cases h;done)|contradiction|(simp;done)|(intro h;simp_all;done))
end
end Go.Abs
namespace Go.Abs
structure fP where
 M:Map
 s:St
 w:World
 laid:Laid M s w
 Cw : ∀ b o v,M.G b o=some v→b<w.heap.size
def Holds (B:fP) (nt:Nat) (tm:Tm) (s:St) (act:Act) (w:World):Prop:=
 ∃ M,Ext B.M B.s B.w M s w∧Rel M s w∧lT M s tm act.tmps∧act.tmps.size=nt∧act.defers = []
def pI (B:fP) (nt:Nat) (Q:Exit→Tm→St→Prop):Exit→Act→World→Prop:=fun e act w=>∃ tm s,Q e tm s∧Holds B nt tm s act w
def bG (P:Program) (f:FuncId) (args:List D) (s:St) (Q:D→St→Prop):Prop:=
 ∀ (M:Map) (w:World) (fC:Array Value),Rel M s w→Laid M s w→fC.size=args.length→(∀ (i:Nat) (d:D) (v:Value),args[i]? = some d→fC[i]? = some v→RD M s d v)→
  Calls P f fC w fun e w'=>∃ M' d v s',e = .returned v∧Q d s'∧Ext M s w M' s' w'∧Rel M' s' w'∧RD M' s' d v
theorem bG.mono {P:Program} {f:FuncId} {args:List D} {s:St} {Q Q':D→St→Prop} (h:bG P f args s Q) (hq : ∀ d s',Q d s'→Q' d s'):bG P f args s Q':=
 fun M w fC r hd hl ha=>(h M w fC r hd hl ha).mono fun _ _ ⟨M',d,v,s',h1,h2,h3⟩=>⟨M',d,v,s',h1,hq _ _ h2,h3⟩
def guarded (g:Option (Nat×Bool)) (tm:Tm) (A B:Prop):Prop:=
 match g with
 |none=>A
 |some (t,want)=>
  match tm.get t with
  | .bool b=>(b=want→A)∧(b=(!want)→B)
  | .tuple _=>B
  |_=>False
def iP (P:Program):List AI→(Tm→St→Prop)→Tm→St→Prop
 | [],K,tm,s=>K tm s
 | .op dst g o::r,K,tm,s=>
  guarded g tm (match aI o tm s with|some (d,s')=>iP P r K (tm.put dst d) s'|none=>False) (iP P r K (tm.put dst (.tuple [])) s)
 | .call dst g f xs::r,K,tm,s=>
  guarded g tm (bG P f (xs.map (·.ev tm)) s fun d s'=>iP P r K (tm.put dst d) s') (iP P r K (tm.put dst (.tuple [])) s)
 | .nil dst g neg x::r,K,tm,s=>
  guarded g tm (match x.ev tm with
   | .slice _ _ rows=>∀ b:Bool,(rows≠ []→b=false)→iP P r K (tm.put dst (.bool (if neg then !b else b))) s
   |_=>False) (iP P r K (tm.put dst (.tuple [])) s)
 | .jj dst g t xs::r,K,tm,s=>
  guarded g tm (match tm.get t with
   | .fV f nH=>enters P f=true∧bG P f (xs.map (·.ev tm)++nH) s fun d s'=>iP P r K (tm.put dst d) s'
   |_=>False) (iP P r K (tm.put dst (.tuple [])) s)
section
variable {P:Program}
theorem AQ {f:FuncId} (h:enters P f=true) (args:Array Value) (w:World):(callFunc f args).run P w = .ok (.enter f args) w:=by
 unfold enters at h
 split at h
 ·rename_i fn hf
  simp only[Bool.and_eq_true,Bool.not_eq_true']at h
  obtain⟨h1,h2⟩:=h
  have h3:fn.body.isNone=false:=by cases hb:fn.body<;>simp_all
  simp only[callFunc,Sem.run_bind,run_program,Result.andThen_ok,hf,h2,h3]
  simp
 ·cases h
theorem wU (ρ:Operand→Value) (dst:Option Tmp) (f:FuncId) (args:Array Operand) (mB:Array TypeId) (ty:TypeId) (pos:String) (after:Array Edge) (g:Option (Nat×Bool))
 (hρ:ρ (.func f) = .func (.func f) #[] #[]) (h:enters P f=true) (w:World) :
 (execOp ρ ⟨dst, .call ⟨.value (.func f),args,mB⟩,ty,pos,after,g⟩).run P w = .ok (.enter f (args.map ρ)) w:=by
 simp[execOp,resolve,hρ,Deferred.ofValue,invoke,AQ h]
theorem AR (ρ:Operand→Value) (dst:Option Tmp) (x:Operand) (f:FuncId) (nH:Array Value) (args:Array Operand) (mB:Array TypeId) (ty:TypeId) (pos:String) (after:Array Edge) (g:Option (Nat×Bool))
 (hρ:ρ x = .func (.func f) #[] nH) (h:enters P f=true) (w:World) :
 (execOp ρ ⟨dst, .call ⟨.value x,args,mB⟩,ty,pos,after,g⟩).run P w = .ok (.enter f (args.map ρ++nH)) w:=by
 simp[execOp,resolve,hρ,Deferred.ofValue,invoke,AQ h]
theorem v7 {M:Map} {s:St} {tm:Tm} {act:Act} (hr:lT M s tm act.tmps) : ∀ {l:List Operand} {xs:List X},xA l=some xs→
 xs.length=l.length∧∀ (i:Nat) (d:D) (v:Value),(xs.map (·.ev tm))[i]? = some d→(l.map act.eval)[i]? = some v→RD M s d v
 | [],xs,h=>by cases h;exact⟨rfl,by simp⟩
 | x::l,xs,h=>by
  unfold xA at h
  split at h
  ·rename_i x' r' h1 h2
   cases h
   obtain⟨g1,g2⟩:=v7 hr h2
   refine⟨by simp[g1],fun i d v e1 e2=>?_⟩
   cases i with
   |zero=>simp at e1 e2;subst e1;subst e2;exact bP h1 hr
   |succ i=>exact g2 i d v (by simpa using e1) (by simpa using e2)
  ·cases h
theorem Ga {M:Map} {s:St} {tm:Tm} {act:Act} {args:Array Operand} {xs:List X} {nH:List D} {vs:Array Value} (oG:xA args.toList=some xs) (ht:lT M s tm act.tmps) (hlen:nH.length=vs.size)
 (DY : ∀ (i:Nat) (d:D) (v:Value),nH[i]? = some d→vs[i]? = some v→RD M s d v) :
 (args.map act.eval++vs).size=(xs.map (·.ev tm)++nH).length∧∀ (i:Nat) (d:D) (v:Value),(xs.map (·.ev tm)++nH)[i]? = some d→(args.map act.eval++vs)[i]? = some v→RD M s d v:=by
 obtain⟨c1,c2⟩:=v7 ht oG
 refine⟨by simp[c1,hlen],fun i d v e1 e2=>?_⟩
 rcases Nat.lt_or_ge i args.size with nD|nD
 ·rw [List.getElem?_append_left (by simp [c1];exact nD)]at e1
  rw[Array.getElem?_append_left (by simp;exact nD)]at e2
  exact c2 i d v e1 (by simpa using e2)
 ·rw [List.getElem?_append_right (by simp [c1];exact nD)]at e1
  rw[Array.getElem?_append_right (by simp;exact nD)]at e2
  simp only[List.length_map,c1,Array.size_map,Array.length_toList]at e1 e2
  exact DY _ d v e1 e2
theorem zQ {M:Map} {s:St} {w:World} {o:Oper} {neg:Bool} {x:X} {tm:Tm} {act:Act} (hc:E3 P o=some (neg,x)) (hr:lT M s tm act.tmps) {g:Tag} {z:Nat} {rows:List (List D)} (hx:x.ev tm = .slice g z rows) :
 ∃ b:Bool,(rows≠ []→b=false)∧(execOp act.eval o).run P w = .ok (.value (.bool (if neg then !b else b))) w:=by
 obtain⟨dst,op,type,pos,after,guard⟩:=o
 unfold E3 at hc
 split at hc
 ·rename_i op t y yt heq
  simp only at heq
  subst heq
  have fin : ∀ e,P.underlying t=some (.slice e)→cX y=some x→op=(if neg then .neq else .eql)→∃ b:Bool,(rows≠ []→b=false)∧
   (execOp act.eval ⟨dst, .binOp op t y (.const (.slice none 0 0)) yt,type,pos,after,guard⟩).run P w = .ok (.value (.bool (if neg then !b else b))) w:=by
   intro e ht hy mA
   have hv:=bP hy hr
   rw[hx]at hv
   have key : ∀ (a:Option Addr) (n c:Nat),act.eval y = .slice a n c→(execOp act.eval ⟨dst, .binOp op t y (.const (.slice none 0 0)) yt,type,pos,after,guard⟩).run P w = .ok (.value (.bool (if neg then !a.isNone else a.isNone))) w:=by
    intro a n c pJ
    have hg:=jC (P:=P) (w:=w) (op:=op) (t:=t) (x:=y) (y:= .const (.slice none 0 0)) (a:= .slice a n c) (b:= .slice none 0 0) ⟨by simp,by simp⟩
    have he:(Op.equal t (.slice a n c) (.slice none 0 0)).run P w = .ok a.isNone w:=by
     have : ∀ d,(Op.equalIn (d+1) t (.slice a n c) (.slice none 0 0)).run P w = .ok a.isNone w:=by
      intro d
      cases a<;>simp[Op.equalIn,run_underlying ht]
     exact this 9999
    have aiH:act.eval (.const (.slice none 0 0)) = .slice none 0 0:=rfl
    simp only[execOp,pJ,aiH]
    rw[mA]at hg ⊢
    cases neg
    ·simp only [Bool.false_eq_true,if_false]at hg ⊢
     simp[hg,binOp,he]
    ·simp only [if_true]at hg ⊢
     simp[hg,binOp,he]
   rcases hv.jb with ⟨h0,pJ,_⟩|⟨_,_,a,cap,pJ⟩|⟨b,q,cap,pJ,_⟩
   ·exact⟨true,fun h=>(h h0).elim,key none 0 0 pJ⟩
   ·exact⟨false,fun _=>rfl,key _ _ _ pJ⟩
   ·exact⟨false,fun _=>rfl,key _ _ _ pJ⟩
  split at hc
  ·cases hc
   exact fin _ ‹_› ‹_› rfl
  ·cases hc
   exact fin _ ‹_› ‹_› rfl
  ·cases hc
 ·cases hc
variable {B:fP} {nt:Nat}
theorem Holds.put {tm:Tm} {s:St} {act:Act} {w:World} {M':Map} {s':St} {w':World} {M:Map} (e:Ext B.M B.s B.w M s w) (ht:lT M s tm act.tmps) (hn:act.tmps.size=nt) (hd:act.defers = [])
 {dst:Option Nat} (ql : ∀ t,dst=some t→t<nt) {d:D} {v:Value} (e':Ext M s w M' s' w') (r':Rel M' s' w') (hv:RD M' s' d v):Holds B nt (tm.put dst d) s' (act.put dst v) w':=by
 refine⟨M',e.trans e',r',(ht.mono e'.le).put (fun t h=>by rw[hn];exact ql t h) hv, ?_, ?_⟩
 ·cases dst<;>simp[Act.put,hn]
 ·cases dst<;>simp[Act.put,hd]
theorem xL {ops:Array Oper} {o:Oper} {ai:AI} (h:cI P nt ops o=some ai) : ∀ t,o.dst=some t→t<nt:=by
 intro t ht
 unfold cI at h
 split at h
 ·cases h
 ·split at h
  ·rename_i hD;rw[ht]at hD;simpa[VB]using hD
  ·cases h
theorem j7 {ops:Array Oper} {o:Oper} {g:Option (Nat×Bool)} (hg:uT ops o.guard=some g) {M:Map} {s:St} {tm:Tm} {act:Act} (hr:lT M s tm act.tmps) {A C:Prop} (h:guarded g tm A C) :
 (Region.wanted o (yielded ops act.tmps)=true∧A)∨(Region.wanted o (yielded ops act.tmps)=false∧C):=by
 unfold uT at hg
 split at hg
 ·rename_i hn
  cases hg
  exact .inl ⟨by simp[Region.wanted,hn],h⟩
 ·rename_i j want hn
  split at hg
  ·rename_i t ht
   cases hg
   have VN:=hr t
   unfold guarded at h
   simp only at h
   split at h
   ·rename_i b hb
    rw[hb]at VN
    have hv:=VN.nK
    have aeq:act.tmps[t]? = some (.bool b):=by
     cases hc:act.tmps[t]? with
     |none=>simp[Array.getD_eq_getD_getElem?,hc,Go.undef]at hv
     |some v=>simp[Array.getD_eq_getD_getElem?,hc]at hv;rw[hv]
    have hy:yielded ops act.tmps j=some b:=by simp[yielded,ht,aeq]
    have hw:Region.wanted o (yielded ops act.tmps)=(some b==some want):=by simp[Region.wanted,hn,hy]
    by_cases hbw:b=want
    ·exact .inl ⟨by rw[hw,hbw];simp,h.1 hbw⟩
    ·refine .inr ⟨by rw [hw];simp [hbw],h.2 ?_⟩
     cases b<;>cases want<;>simp_all
   ·rename_i ds AP
    rw[AP]at VN
    obtain⟨vs,hv,_⟩:=VN.F1
    refine .inr ⟨?_,h⟩
    have hy:yielded ops act.tmps j=none:=by
     unfold yielded
     rw[ht]
     cases hc:act.tmps[t]? with
     |none=>simp[hc]
     |some v=>simp[Array.getD_eq_getD_getElem?,hc]at hv;simp[hc,hv]
    simp[Region.wanted,hn,hy]
   ·exact h.elim
  ·cases hg
theorem AS {ops:Array Oper} {Q:Exit→Tm→St→Prop} : ∀ (l:List Nat) (ol:List Oper) (is:List AI),l.map (ops[·]?)=ol.map some→qE P nt ops ol=some is→
 ∀ (tm:Tm) (s:St) (act:Act) (w:World),iP P is (Q .normal) tm s→Holds B nt tm s act w→wpOps P ops (pI B nt Q) l act w
 | [],[],is,_,hc,tm,s,act,w,h,hh=>by cases hc;exact⟨tm,s,h,hh⟩
 | [],_::_,_,hl,_,_,_,_,_,_,_=>by simp at hl
 |_::_,[],_,hl,_,_,_,_,_,_,_=>by simp at hl
 | i::l,o::ol,is,hl,hc,tm,s,act,w,h,hh=>by
  simp only[List.map_cons,List.cons.injEq]at hl
  obtain⟨hi,hl⟩:=hl
  unfold qE at hc
  split at hc
  ·rename_i ai P0 h1 h2
   cases hc
   obtain⟨M,e,r,ht,hn,hd⟩:=hh
   have ql:=xL h1
   have ih:=fun tm s act w=>AS (Q:=Q) l ol P0 hl h2 tm s act w
   have skip : ∀ (x:Prop),iP P P0 (Q .normal) (tm.put o.dst (.tuple [])) s→wpOps P ops (pI B nt Q) l (act.put o.dst Go.undef) w:=fun _ hk=>
    ih _ _ _ _ hk (Holds.put e ht hn hd ql (Ext.refl M s w) r .undef)
   simp only[wpOps,hi]
   unfold cI at h1
   split at h1
   ·cases h1
   ·rename_i g hg
    split at h1
    ·unfold sm at h1
     split at h1
     ·-- a call
      rename_i f args mB mA
      split at h1
      ·rename_i yH
       obtain⟨xs,oG,rfl⟩:=map_some h1
       unfold iP at h
       rcases j7 hg ht h with ⟨hw,hA⟩|⟨hw,hB⟩
       ·simp only [hw,if_true]
        left
        have hex:(execOp act.eval o).run P w = .ok (.enter f (args.map act.eval)) w:=by
         obtain⟨dst,op,type,pos,after,guard⟩:=o
         simp only at mA
         subst mA
         exact wU act.eval dst f args mB type pos after guard rfl yH w
        obtain⟨c1,c2⟩:=v7 ht oG
        unfold Oper.wp
        rw[hex,Oper.upon_enter]
        refine(hA M w (args.map act.eval) r (B.laid.ext e) (by simp[c1]) (fun i d v e1 e2=>c2 i d v e1 (by simpa using e2))).mono ?_
        rintro en w' ⟨M',d,v,s',rfl,hk,e',r',hv⟩
        exact ih _ _ _ _ hk (Holds.put e ht hn hd ql e' r' hv)
       ·simp only [hw]
        exact skip True hB
      ·cases h1
     ·-- what a slot holds is called
      rename_i t args mB mA
      obtain⟨xs,oG,rfl⟩:=map_some h1
      unfold iP at h
      rcases j7 hg ht h with ⟨hw,hA⟩|⟨hw,hB⟩
      ·simp only [hw,if_true]
       left
       split at hA
       ·rename_i f nH oE
        obtain⟨yH,hA⟩:=hA
        have P2:=ht t
        rw[oE]at P2
        obtain⟨vs,sS,hlen,DY⟩:=P2.Lb
        have hex:(execOp act.eval o).run P w = .ok (.enter f (args.map act.eval++vs)) w:=by
         obtain⟨dst,op,type,pos,after,guard⟩:=o
         simp only at mA
         subst mA
         exact AR act.eval dst (.tmp t) f vs args mB type pos after guard sS yH w
        unfold Oper.wp
        rw[hex,Oper.upon_enter]
        have cc:=Ga oG ht hlen DY
        refine(hA M w (args.map act.eval++vs) r (B.laid.ext e) cc.1 cc.2).mono ?_
        rintro en w' ⟨M',d,v,s',rfl,hk,e',r',hv⟩
        exact ih _ _ _ _ hk (Holds.put e ht hn hd ql e' r' hv)
       ·exact hA.elim
      ·simp only [hw]
       exact skip True hB
     ·split at h1
      ·-- a slice held against nil
       rename_i neg x C3
       cases h1
       unfold iP at h
       rcases j7 hg ht h with ⟨hw,hA⟩|⟨hw,hB⟩
       ·simp only [hw,if_true]
        left
        split at hA
        ·rename_i g' z rows hx
         obtain⟨b,hb,hex⟩:=zQ (w:=w) C3 ht hx
         unfold Oper.wp
         rw[hex,Oper.upon_value]
         exact ih _ _ _ _ (hA b hb) (Holds.put e ht hn hd ql (Ext.refl M s w) r (.bool _))
        ·exact hA.elim
       ·simp only [hw]
        exact skip True hB
      ·-- any other operation
       have fin : ∀ ao,ai = .op o.dst g ao→(∀ d s',aI ao tm s=some (d,s')→cG P M s w (execOp act.eval o) d s')→
        (if Region.wanted o (yielded ops act.tmps)=true then o.wp P act w (wpOps P ops (pI B nt Q) l) (pI B nt Q)∨(o.asks P act w∧LetsOut (pI B nt Q))else wpOps P ops (pI B nt Q) l (act.put o.dst Go.undef) w):=by
        intro ao v8 hdo
        subst v8
        unfold iP at h
        rcases j7 hg ht h with ⟨hw,hA⟩|⟨hw,hB⟩
        ·simp only [hw,if_true]
         left
         split at hA
         ·rename_i d s' qw
          obtain⟨v,w',M',dB,r',hv,e'⟩:=hdo d s' qw
          unfold Oper.wp
          rcases dB with dB|⟨dB,rfl⟩
          ·rw [dB,Oper.upon_value]
           exact ih _ _ _ _ hA (Holds.put e ht hn hd ql e' r' hv)
          ·rw [dB,Oper.upon_skip]
           exact ih _ _ _ _ hA (Holds.put e ht hn hd ql e' r' hv)
         ·exact hA.elim
        ·simp only [hw]
         exact skip True hB
       split at h1
       ·rename_i z k n ps n7
        cases h1
        refine fin _ rfl (fun d s' qw=>?_)
        split at qw
        ·exact yG n7 r ht qw
        ·exact su n7 r ht qw
       ·rename_i ao n7
        cases h1
        exact fin _ rfl (fun d s' qw=>su n7 r ht qw)
       ·cases h1
    ·cases h1
  ·cases hc
end
end Go.Abs
namespace Go.Abs
def Turned (P:Program) (nt:Nat):AC→Code→Prop
 | .skip,c=>c = .skip
 | .run is,c=>∃ id ops,c = .region id ops false∧qE P nt ops ops.toList=some is
 | .par is lH,c=>∃ id ops,c = .region id ops true∧qE P nt ops ops.toList=some is∧P.follows .mixedOrders=true∧∃ pt,HR is (ops.toList.map mL) pt lH=true
 | .seq a b,c=>∃ x y,c = .seq x y∧cC P nt x=some a∧cC P nt y=some b
 | .cond x a b,c=>∃ o p q,c = .cond o p q∧cX o=some x∧cC P nt p=some a∧cC P nt q=some b
 | .block id a,c=>∃ x,c = .block id x∧cC P nt x=some a
 | .loop a,c=>∃ x,c = .loop x∧cC P nt x=some a
 | .exit id,c=>c = .exit id
 | .scope a,c=>∃ x,c = .scope x∧cC P nt x=some a
 | .label l,c=>c = .label l
 | .goto l,c=>c = .goto l
 | .ret,c=>c = .ret
theorem lq {P:Program} {nt:Nat} {c:Code} {ac:AC} (h:cC P nt c=some ac):Turned P nt ac c:=by
 cases c with
 |skip=>cases h;rfl
 | region id ops draw=>
  cases draw
  ·obtain⟨is,h1,rfl⟩:=map_some (x:=qE P nt ops ops.toList) (f:=AC.run) (by simpa [cC]using h)
   exact⟨id,ops,rfl,h1⟩
  ·simp only [cC]at h
   split at h
   ·rename_i hm
    obtain⟨is,h1,h2⟩:=Option.bind_eq_some_iff.1 h
    unfold VC at h2
    split at h2
    ·rename_i hp
     cases h2
     exact⟨id,ops,rfl,h1,hm,_,hp⟩
    ·cases h2
   ·cases h
 |seq a b=>
  simp only[cC]at h
  split at h
  ·rename_i a' b' h1 h2;cases h;exact⟨a,b,rfl,h1,h2⟩
  ·cases h
 |cond x a b=>
  simp only[cC]at h
  split at h
  ·rename_i x' a' b' h1 h2 h3;cases h;exact⟨x,a,b,rfl,h1,h2,h3⟩
  ·cases h
 |block id a=>
  obtain⟨a',h1,rfl⟩:=map_some (x:=cC P nt a) (f:=AC.block id) (by simpa[cC]using h)
  exact⟨a,rfl,h1⟩
 |loop a=>
  obtain⟨a',h1,rfl⟩:=map_some (x:=cC P nt a) (f:=AC.loop) (by simpa[cC]using h)
  exact⟨a,rfl,h1⟩
 |rangeFunc f p a b=>simp[cC]at h
 |exit id=>cases h;rfl
 |scope a=>
  obtain⟨a',h1,rfl⟩:=map_some (x:=cC P nt a) (f:=AC.scope) (by simpa[cC]using h)
  exact⟨a,rfl,h1⟩
 |label l=>cases h;rfl
 |goto l=>cases h;rfl
 |ret=>cases h;rfl
 |refuse w=>simp[cC]at h
def Sem (P:Program) (B:fP) (nt:Nat) (ac:AC) (Q:Exit→Tm→St→Prop) (tm:Tm) (s:St):Prop:=
 ∀ c,cC P nt c=some ac→∀ act w,Holds B nt tm s act w→c.wp P (pI B nt Q) act w
def nL (next:Tm→St→Prop) (Q:Exit→Tm→St→Prop):Exit→Tm→St→Prop
 | .normal,tm,s=>next tm s
 |e,tm,s=>Q e tm s
def ku (id:Nat) (Q:Exit→Tm→St→Prop):Exit→Tm→St→Prop
 | .exit i,tm,s=>if i=id then Q .normal tm s else Q (.exit i) tm s
 |e,tm,s=>Q e tm s
section
variable {P:Program} {B:fP} {nt:Nat} {Q:Exit→Tm→St→Prop} {tm:Tm} {s:St}
theorem Sem.mono {ac:AC} {Q':Exit→Tm→St→Prop} (h:Sem P B nt ac Q tm s) (hq : ∀ e tm s,Q e tm s→Q' e tm s):Sem P B nt ac Q' tm s:=
 fun c hc act w hh=>wp_mono (h c hc act w hh) fun _ _ _ ⟨tm,s,h1,h2⟩=>⟨tm,s,hq _ _ _ h1,h2⟩
theorem Sem.skip (h:Q .normal tm s):Sem P B nt .skip Q tm s:=by
 intro c hc act w hh
 cases lq hc
 exact wp_skip ⟨tm,s,h,hh⟩
theorem Sem.label {l:Nat} (h:Q .normal tm s):Sem P B nt (.label l) Q tm s:=by
 intro c hc act w hh
 cases lq hc
 exact wp_label ⟨tm,s,h,hh⟩
theorem Sem.exit {id:Nat} (h:Q (.exit id) tm s):Sem P B nt (.exit id) Q tm s:=by
 intro c hc act w hh
 cases lq hc
 exact wp_exit ⟨tm,s,h,hh⟩
theorem Sem.goto {l:Nat} (h:Q (.goto l) tm s):Sem P B nt (.goto l) Q tm s:=by
 intro c hc act w hh
 cases lq hc
 exact wp_goto ⟨tm,s,h,hh⟩
theorem Sem.ret (h:Q .ret tm s):Sem P B nt .ret Q tm s:=by
 intro c hc act w hh
 cases lq hc
 exact wp_ret ⟨tm,s,h,hh⟩
theorem AT (ops:Array Oper):(List.range ops.size).map (ops[·]?)=ops.toList.map some:=by
 apply List.ext_getElem?
 intro i
 by_cases h:i<ops.size
 ·simp[h]
 ·simp[h]
theorem Sem.run {is:List AI} (h:iP P is (Q .normal) tm s):Sem P B nt (.run is) Q tm s:=by
 intro c hc act w hh
 obtain⟨id,ops,rfl,hi⟩:=lq hc
 exact wp_region (AS (Q:=Q) (List.range ops.size) ops.toList is (AT ops) hi tm s act w h hh)
theorem Sem.seq {a b:AC} (h:Sem P B nt a (nL (Sem P B nt b Q) Q) tm s):Sem P B nt (.seq a b) Q tm s:=by
 intro c hc act w hh
 obtain⟨x,y,rfl,h1,h2⟩:=lq hc
 refine wp_seq (wp_mono (h x h1 act w hh) fun e act w hp=>?_)
 obtain⟨bn,s',hq,jV⟩:=hp
 cases e with
 |normal=>exact hq y h2 act w jV
 |exit id=>exact⟨bn,s',hq,jV⟩
 |goto l=>exact⟨bn,s',hq,jV⟩
 |ret=>exact⟨bn,s',hq,jV⟩
 |panic ch=>exact⟨bn,s',hq,jV⟩
 |outgrown=>exact⟨bn,s',hq,jV⟩
theorem Sem.cond {x:X} {a b:AC} {t:Bool} (hx:x.ev tm = .bool t) (h1:t=true→Sem P B nt a Q tm s) (h2:t=false→Sem P B nt b Q tm s):Sem P B nt (.cond x a b) Q tm s:=by
 intro c hc act w hh
 obtain⟨o,p,q,rfl,g1,g2,g3⟩:=lq hc
 have jV:=hh
 obtain⟨M,e,r,ht,hn,hd⟩:=hh
 have hv:=bP g1 ht
 rw[hx]at hv
 exact wp_cond_split hv.nK (fun h=>h1 h p g2 act w jV) (fun h=>h2 h q g3 act w jV)
theorem Sem.block {id:Nat} {a:AC} (h:Sem P B nt a (ku id Q) tm s):Sem P B nt (.block id a) Q tm s:=by
 intro c hc act w hh
 obtain⟨x,rfl,h1⟩:=lq hc
 refine wp_block (wp_mono (h x h1 act w hh) fun e act w hp=>?_)
 obtain⟨bn,s',hq,jV⟩:=hp
 cases e with
 |exit i=>
  simp only[ku]at hq
  simp only[Exit.inBlock]
  split at hq
  ·rename_i h;rw[if_pos h];exact⟨bn,s',hq,jV⟩
  ·rename_i h;rw[if_neg h];exact⟨bn,s',hq,jV⟩
 |normal=>exact⟨bn,s',hq,jV⟩
 |goto l=>exact⟨bn,s',hq,jV⟩
 |ret=>exact⟨bn,s',hq,jV⟩
 |panic ch=>exact⟨bn,s',hq,jV⟩
 |outgrown=>exact⟨bn,s',hq,jV⟩
def yI (P:Program) (c:Code) (Q:Exit→Act→World→Prop) (a:Act) (w:World):Prop:=
 ∀ (b:Frame) (k:List Item) (cs:List Frame),∃ e a' w',Q e a' w'∧Arrives P (lone (b.at a (.code c:: .inLoop c::k)) cs w) b k cs e a' w'
theorem yI.wp {c:Code} {Q:Exit→Act→World→Prop} {a:Act} {w:World} (h:yI P c Q a w):(Code.loop c).wp P Q a w:=fun b k cs=>
 let ⟨e,a',w',hq,gP⟩:=h b k cs
 ⟨e,a',w',hq, .of_steps (.one step_loop) gP⟩
theorem yI.once {c:Code} {Q:Exit→Act→World→Prop} {a:Act} {w:World} (h:c.wp P (Exit.then (yI P c Q) Q) a w):yI P c Q a w:=by
 intro b k cs
 obtain⟨e,a₁,w₁,hq,gP⟩:=h b (.inLoop c::k) cs
 cases e with
 |normal=>
  obtain⟨e₂,a₂,w₂,hq₂,MK⟩:=hq b k cs
  exact⟨e₂,a₂,w₂,hq₂, .of_steps (Steps.trans gP (.one step_inLoop)) MK⟩
 |exit id=>exact⟨_,a₁,w₁,hq, .pass (x:= .inLoop c) rfl (fun _ _=> .inl (by simp)) gP⟩
 |goto l=>exact⟨_,a₁,w₁,hq, .pass (x:= .inLoop c) rfl (fun _ _=> .inl (by simp)) gP⟩
 |ret=>exact⟨_,a₁,w₁,hq, .pass (x:= .inLoop c) rfl (fun _ _=> .inl (by simp)) gP⟩
 |panic ch=>exact⟨_,a₁,w₁,hq, .pass (x:= .inLoop c) rfl (fun _ _=> .inl (by simp)) gP⟩
 |outgrown=>exact⟨_,a₁,w₁,hq, .pass (x:= .inLoop c) rfl (fun _ _=> .inl (by simp)) gP⟩
def br (P:Program) (B:fP) (nt:Nat) (ac:AC) (Q:Exit→Tm→St→Prop) (tm:Tm) (s:St):Prop:=
 ∀ c,cC P nt c=some ac→∀ act w,Holds B nt tm s act w→yI P c (pI B nt Q) act w
theorem Sem.loop {a:AC} (h:br P B nt a Q tm s):Sem P B nt (.loop a) Q tm s:=by
 intro c hc act w hh
 obtain⟨x,rfl,h1⟩:=lq hc
 exact(h x h1 act w hh).wp
theorem br.once {a:AC} (h:Sem P B nt a (nL (br P B nt a Q) Q) tm s):br P B nt a Q tm s:=by
 intro c hc act w hh
 refine yI.once (wp_mono (h c hc act w hh) fun e act w hp=>?_)
 obtain⟨bn,s',hq,jV⟩:=hp
 cases e with
 |normal=>exact hq c hc act w jV
 |exit id=>exact⟨bn,s',hq,jV⟩
 |goto l=>exact⟨bn,s',hq,jV⟩
 |ret=>exact⟨bn,s',hq,jV⟩
 |panic ch=>exact⟨bn,s',hq,jV⟩
 |outgrown=>exact⟨bn,s',hq,jV⟩
def u5 (P:Program) (c r:Code) (Q:Exit→Act→World→Prop) (a:Act) (w:World):Prop:=
 ∀ (b:Frame) (k:List Item) (cs:List Frame),∃ e a' w',Q e a' w'∧Arrives P (lone (b.at a (.code r:: .inScope c::k)) cs w) b k cs e a' w'
def aer (P:Program) (c:Code) (Q:Exit→Act→World→Prop):Exit→Act→World→Prop
 | .goto l,a,w=>∃ rest,findLabel c l=some rest∧u5 P c rest Q a w
 |e,a,w=>Q e a w
theorem u5.wp {c:Code} {Q:Exit→Act→World→Prop} {a:Act} {w:World} (h:u5 P c c Q a w):(Code.scope c).wp P Q a w:=fun b k cs=>
 let ⟨e,a',w',hq,gP⟩:=h b k cs
 ⟨e,a',w',hq, .of_steps (.one step_scope) gP⟩
theorem u5.once {c r:Code} {Q:Exit→Act→World→Prop} {a:Act} {w:World} (h:r.wp P (aer P c Q) a w):u5 P c r Q a w:=by
 intro b k cs
 obtain⟨e,a₁,w₁,hq,gP⟩:=h b (.inScope c::k) cs
 cases e with
 |normal=>exact⟨.normal,a₁,w₁,hq,Steps.trans gP (.one step_inScope)⟩
 |exit id=>exact⟨.exit id,a₁,w₁,hq,fun k' hk=>gP k' (by simp[exitTo,hk])⟩
 |goto l=>
  obtain⟨rest,hf,hs⟩:=hq
  obtain⟨e₂,a₂,w₂,hq₂,MK⟩:=hs b k cs
  exact⟨e₂,a₂,w₂,hq₂, .of_steps (gP _ (by simp[gotoIn,hf])) MK⟩
 |ret=>exact⟨_,a₁,w₁,hq,gP⟩
 |panic ch=>exact⟨_,a₁,w₁,hq,gP⟩
 |outgrown=>exact⟨_,a₁,w₁,hq,gP⟩
def uB:AC→Nat→Option AC
 | .seq a b,l=>
  match uB a l with
  |some r=>some (.seq r b)
  |none=>uB b l
 | .label l',l=>if l'==l then some .skip else none
 |_,_=>none
theorem Kn : ∀ {c:Code} {ac:AC},cC P nt c=some ac→∀ l,(uB ac l=none→findLabel c l=none)∧∀ r,uB ac l=some r→∃ rest,findLabel c l=some rest∧cC P nt rest=some r:=by
 intro c
 induction c with
 | seq a b P4 P5=>
  intro ac h l
  simp only[cC]at h
  split at h
  ·rename_i a' b' h1 h2
   cases h
   obtain⟨n1,s1⟩:=P4 h1 l
   obtain⟨n2,s2⟩:=P5 h2 l
   simp only[uB,findLabel]
   cases hf:uB a' l with
   |none=>
    rw[n1 hf]
    exact⟨n2,s2⟩
   |some r=>
    obtain⟨rest,g1,g2⟩:=s1 r hf
    rw[g1]
    refine⟨(by intro h;cases h),fun r' h=>?_⟩
    cases h
    exact⟨_,rfl,by simp[cC,g2,h2]⟩
  ·cases h
 |label l'=>
  intro ac h l
  cases h
  simp only[uB,findLabel]
  split
  ·exact⟨(by intro h;cases h),(by intro r h;cases h;exact⟨_,rfl,rfl⟩)⟩
  ·exact⟨fun _=>rfl,(by intro r h;cases h)⟩
 | _=>
  intro ac h l
  have:=lq h
  cases ac<;>simp only[Turned]at this<;>first
   |(exfalso;obtain⟨_,_,this⟩:=this;cases this.1;done)
   |exact⟨fun _=>rfl,(by intro r h;cases h)⟩
   |(exfalso;cases this;done)
   |(exfalso;obtain⟨_,this⟩:=this;cases this.1;done)
   |(exfalso;obtain⟨_,_,_,_,this⟩:=this;cases this.1;done)
def lr (P:Program) (B:fP) (nt:Nat) (ac r:AC) (Q:Exit→Tm→St→Prop) (tm:Tm) (s:St):Prop:=
 ∀ c rest,cC P nt c=some ac→cC P nt rest=some r→∀ act w,Holds B nt tm s act w→u5 P c rest (pI B nt Q) act w
def yJ (P:Program) (B:fP) (nt:Nat) (ac:AC) (Q:Exit→Tm→St→Prop):Exit→Tm→St→Prop
 | .goto l,tm,s=>∃ r,uB ac l=some r∧lr P B nt ac r Q tm s
 |e,tm,s=>Q e tm s
theorem Sem.scope {a:AC} (h:lr P B nt a a Q tm s):Sem P B nt (.scope a) Q tm s:=by
 intro c hc act w hh
 obtain⟨x,rfl,h1⟩:=lq hc
 exact(h x x h1 h1 act w hh).wp
theorem lr.once {a r:AC} (h:Sem P B nt r (yJ P B nt a Q) tm s):lr P B nt a r Q tm s:=by
 intro c rest hc Hz act w hh
 refine u5.once (wp_mono (h rest Hz act w hh) fun e act w hp=>?_)
 obtain⟨bn,s',hq,jV⟩:=hp
 cases e with
 |normal=>exact⟨bn,s',hq,jV⟩
 |exit id=>exact⟨bn,s',hq,jV⟩
 |goto l=>
  obtain⟨r',hf,hs⟩:=hq
  obtain⟨BN,g1,g2⟩:=(Kn hc l).2 r' hf
  exact⟨BN,g1,hs c BN hc g2 act w jV⟩
 |ret=>exact⟨bn,s',hq,jV⟩
 |panic ch=>exact⟨bn,s',hq,jV⟩
 |outgrown=>exact⟨bn,s',hq,jV⟩
def Tag.fg (m:Nat):Tag→Tag
 | .tok t y=>if t<m then .tok t y else .shared
 |g=>g
mutual
def D.fg (n m:Nat):D→D
 | .ptr o off=>if o<n then .ptr o off else .junk
 | .dt row off=> .dt (D.gh n m row) off
 | .slice g z rows=> .slice (g.fg m) z (D.kn n m rows)
 | .agg cs=> .agg (D.gh n m cs)
 | .tuple ds=> .tuple (D.gh n m ds)
 | .junk=> .junk
 | .int k x=> .int k x
 | .bool b=> .bool b
 | .str l=> .str l
 | .dO=> .dO
 | .val v=> .val v
 | .fh T o=>if o<n then .fh T o else .junk
 | .fV f cs=> .fV f (D.gh n m cs)
 | .fL o=>if o<n then .fL o else .junk
 | .dZ z o g len=>if o<n then .dZ z o g len else .junk
 | .fi o g off=>if o<n then .fi o g off else .junk
 | .dX z=> .dX z
def D.gh (n m:Nat):List D→List D
 | []=> []
 |d::r=>D.fg n m d::D.gh n m r
def D.kn (n m:Nat):List (List D)→List (List D)
 | []=> []
 |d::r=>D.gh n m d::D.kn n m r
end
theorem mR (n m:Nat) : ∀ l,D.gh n m l=l.map (D.fg n m)
 | []=>by simp[D.gh]
 |d::r=>by simp[D.gh,mR n m r]
theorem P6 (n m:Nat) : ∀ l,D.kn n m l=l.map (D.gh n m)
 | []=>by simp[D.kn]
 |d::r=>by simp[D.kn,P6 n m r]
def St.cut (s:St) (n m:Nat):St:=⟨(s.ah.take n).map (D.gh n m),s.au.take m⟩
def Tm.fg (n m:Nat) (tm:Tm):Tm:=tm.map fun p=>(p.1,p.2.fg n m)
def Tm.keep (ks:List Nat) (tm:Tm):Tm:=tm.filter fun p=>ks.contains p.1
theorem nM (s:St) (n m:Nat):(s.cut n m).ah.length=min n s.ah.length:=by simp[St.cut]
theorem iI.fg {M:Map} {g:Tag} {z len cap:Nat} {base:Option (Nat×Nat)} (n m:Nat) (h:iI M s g z len base cap):iI M (s.cut n m) (g.fg m) z len base cap:=by
 cases g with
 |full=>exact h
 |shared=>exact h
 | tok t y=>
  simp only[Tag.fg]
  split
  ·rename_i ht
   obtain⟨h1,h2⟩:=h
   refine⟨by simp[St.cut];omega,fun k hk=>h2 k ?_⟩
   simpa[St.cut,List.getElem?_take_of_lt ht]using hk
  ·trivial
theorem RD.fg {M:Map} {d:D} {v:Value} (n m:Nat) (h:RD M s d v):RD M (s.cut n m) (d.fg n m) v:=by
 induction h with
 |junk v=>simp only[D.fg];exact .junk v
 |int k x=>simp only[D.fg];exact .int k x
 |bool b=>simp only[D.fg];exact .bool b
 |str l=>simp only[D.fg];exact .str l
 |dO=>simp only[D.fg];exact .dO
 |val v hv=>simp only[D.fg];exact .val v hv
 |fh T o v h ht hv=>
  simp only[D.fg]
  split
  ·exact .fh T o v (by rw[nM];omega) ht hv
  ·exact .junk _
 |fL o h hm=>
  simp only[D.fg]
  split
  ·exact .fL o (by rw[nM];omega) hm
  ·exact .junk _
 |dX z a=>simp only[D.fg];exact .dX z a
 |dZ z o g len b cap A h hm ha hl=>
  simp only[D.fg]
  split
  ·exact .dZ z o g len b cap A (by rw[nM];omega) hm ha hl
  ·exact .junk _
 |fi z o g off b cap A h hm ha=>
  simp only[D.fg]
  split
  ·exact .fi z o g off b cap A (by rw[nM];omega) hm ha
  ·exact .junk _
 |fV f ds vs hl _ ih=>
  simp only[D.fg,mR]
  refine .fV f _ vs (by simpa using hl) (fun i d v e1 e2=>?_)
  simp only[List.getElem?_map,Option.map_eq_some_iff]at e1
  obtain⟨d',e1,rfl⟩:=e1
  exact ih i d' v e1 e2
 |ptr o off h hm=>
  simp only[D.fg]
  split
  ·exact .ptr o off (by rw[nM];omega) hm
  ·exact .junk _
 | dt row off b k h1 h2 ih=>
  simp only[D.fg,mR]
  refine .dt _ off b k (fun i d e=>?_) (fun i d u e eu=>?_)
  ·simp only [List.getElem?_map,Option.map_eq_some_iff]at e
   obtain⟨d',e,rfl⟩:=e
   exact h1 i d' e
  ·simp only [List.getElem?_map,Option.map_eq_some_iff]at e
   obtain⟨d',e,rfl⟩:=e
   exact ih i d' u e eu
 |iG g z cap hc ht=>simp only[D.fg,D.kn];exact .iG _ z cap hc (ht.fg n m)
 |lh z a cap=>simp only[D.fg,D.kn,Tag.fg];exact .lh z a cap
 | slice g z rows b k cap hl hs h1 h2 ht ih=>
  simp only[D.fg,P6]
  have hlen:(rows.map (D.gh n m)).length=rows.length:=by simp
  have key:=RD.slice (M:=M) (s:=s.cut n m) (g.fg m) z (rows.map (D.gh n m)) b k cap (by rw[hlen];exact hl) (fun row hr=>by
   obtain⟨kg,h',rfl⟩:=List.mem_map.1 hr
   rw[mR,List.length_map];exact hs kg h')
   (fun i row j d e1 e2=>by
    simp only[List.getElem?_map,Option.map_eq_some_iff]at e1
    obtain⟨kg,e1,rfl⟩:=e1
    rw[mR]at e2
    simp only[List.getElem?_map,Option.map_eq_some_iff]at e2
    obtain⟨d',e2,rfl⟩:=e2
    exact h1 i kg j d' e1 e2)
   (fun i row j d u e1 e2 eu=>by
    simp only[List.getElem?_map,Option.map_eq_some_iff]at e1
    obtain⟨kg,e1,rfl⟩:=e1
    rw[mR]at e2
    simp only[List.getElem?_map,Option.map_eq_some_iff]at e2
    obtain⟨d',e2,rfl⟩:=e2
    exact ih i kg j d' u e1 e2 eu)
   (by rw[hlen];exact ht.fg n m)
  rw[hlen]at key
  exact key
 |agg cells vs hl h1 _ ih=>
  simp only[D.fg,mR]
  refine .agg _ vs (by simpa using hl) h1 (fun i d v e1 e2=>?_)
  simp only[List.getElem?_map,Option.map_eq_some_iff]at e1
  obtain⟨d',e1,rfl⟩:=e1
  exact ih i d' v e1 e2
 |tuple ds vs hl _ ih=>
  simp only[D.fg,mR]
  refine .tuple _ vs (by simpa using hl) (fun i d v e1 e2=>?_)
  simp only[List.getElem?_map,Option.map_eq_some_iff]at e1
  obtain⟨d',e1,rfl⟩:=e1
  exact ih i d' v e1 e2
theorem Fa {t k n m:Nat} (h:(s.cut n m).au[t]? = some (some k)):s.au[t]? = some (some k):=by
 simp only[St.cut,List.getElem?_take]at h
 split at h
 ·exact h
 ·cases h
theorem u6 {t n m:Nat} (h:(s.cut n m).live t):s.live t:=by
 obtain⟨k,hk⟩:=h
 exact⟨k,Fa hk⟩
theorem Rel.cut {M:Map} {w:World} (n m:Nat) (r:Rel M s w):Rel M (s.cut n m) w:=by
 have hD : ∀ o,o<(s.cut n m).ah.length→o<s.ah.length:=fun o h=>by rw[nM]at h;omega
 refine⟨r.comm,fun o ds e=>?_,fun o ho=>r.jD o (hD o ho),fun o o' h h'=>r.inj o o' (hD o h) (hD o' h'),fun t k e=>r.tok t k (Fa e),
  fun t b c z o hl e ho=>r.fa t b c z o (u6 hl) e (hD o ho),fun t t' b c z c' z' h h' e e'=>r.fM t t' b c z c' z' (u6 h) (u6 h') e e'⟩
 simp only[St.cut,List.getElem?_map,Option.map_eq_some_iff,List.getElem?_take]at e
 obtain⟨nA,e,rfl⟩:=e
 split at e
 ·obtain⟨vs,T,h1,h2,h3,h4⟩:=r.obj o nA e
  refine⟨vs,T,h1,by rw[mR];simpa using h2,h3,fun i d v e1 e2=>?_⟩
  rw[mR]at e1
  simp only[List.getElem?_map,Option.map_eq_some_iff]at e1
  obtain⟨d',e1,rfl⟩:=e1
  exact(h4 i d' v e1 e2).fg n m
 ·cases e
theorem Ext.cut {M0 M:Map} {s0:St} {w0 w:World} {n m:Nat} (e:Ext M0 s0 w0 M s w) (hn:s0.ah.length≤n) (hm:s0.au.length≤m):Ext M0 s0 w0 M (s.cut n m) w:=by
 have hD : ∀ o,o<(s.cut n m).ah.length→o<s.ah.length:=fun o h=>by rw[nM]at h;omega
 refine⟨⟨e.le.G,by rw[nM];have:=e.le.n;omega,e.le.loc,by simp[St.cut];have:=e.le.t;omega,fun t k h1 h2=>e.le.tk t k h1 (Fa h2)⟩,e.kept,fun o h1 h2=>e.tw o h1 (hD o h2),fun t b c z h=>e.qh t b c z (u6 h),e.rO,e.size,e.os,e.tape,e.output⟩
end
end Go.Abs
namespace Go.Abs
def mI:Nat→List D→Tm
 |_,[]=> []
 |n,d::r=>(n,d)::mI (n+1) r
def aV:List (Nat×Option (Bool×Nat))→Tm→St→Option (List D)
 | [],_,_=>some []
 |(t,none)::r,tm,s=>match aV r tm s with|some l=>some (tm.get t::l)|none=>none
 | (t,some (agg,size))::r,tm,s=>
  match tm.get t with
  | .ptr o off=>
   match s.ah[o]? with
   |some cs=>match part cs off agg size,aV r tm s with|some d,some l=>some (d::l)|_,_=>none
   |none=>none
  |_=>none
def aY:List D→D
 | [d]=>d
 |l=> .tuple l
def aiL (B:fP) (res:List (Nat×Option (Bool×Nat))) (Q:D→St→Prop):Exit→Tm→St→Prop
 | .normal,tm,s| .ret,tm,s=>∃ l,aV res tm s=some l∧∃ n m,B.s.ah.length≤n∧B.s.au.length≤m∧Q ((aY l).fg n m) (s.cut n m)
 |_,_,_=>False
section
variable {P:Program} {M:Map} {s:St} {w:World}
theorem Gb : ∀ (l:List D) (n t:Nat),(mI n l).get t=if n≤t then(l[t - n]?).getD .junk else .junk
 | [],n,t=>by simp[mI,Tm.get]
 | d::r,n,t=>by
  simp only[mI,Tm.get,Gb r (n+1) t]
  by_cases h:n=t
  ·subst h;simp
  ·rw [if_neg h]
   by_cases h2:n+1≤t
   ·rw[if_pos h2,if_pos (by omega),show t - n=(t - (n+1))+1 by omega];simp
   ·rw[if_neg h2,if_neg (by omega)]
def AU (tmps:Array Value):ResultVar→Go.Sem Value
 | .tmp t=>pure (tmps.getD t Go.undef)
 | .cell a t=>do loadVar t (← asAddr (tmps.getD a Go.undef))
theorem C4 (r:Rel M s w) {tm:Tm} {tmps:Array Value} (ht:lT M s tm tmps) : ∀ {rs:List ResultVar} {res:List (Nat×Option (Bool×Nat))} {l:List D},CT P rs=some res→aV res tm s=some l→
 ∃ vs:List Value,(rs.mapM (AU tmps)).run P w = .ok vs w∧vs.length=l.length∧
  ∀ (i:Nat) (d:D) (v:Value),l[i]? = some d→vs[i]? = some v→RD M s d v
 | [],res,l,hc,hl=>by cases hc;cases hl;exact⟨[],rfl,rfl,by simp⟩
 | .tmp t::rs,res,l,hc,hl=>by
  obtain⟨aiM,h1,rfl⟩:=map_some (by simpa[CT]using hc)
  simp only[aV]at hl
  split at hl
  ·rename_i l' lU
   cases hl
   obtain⟨vs,g1,g2,g3⟩:=C4 r ht h1 lU
   refine⟨tmps.getD t Go.undef::vs, ?_,by simp[g2],fun i d v e1 e2=>?_⟩
   ·rw [List.mapM_cons]
    simp only[AU,Go.Sem.run_bind,Go.Sem.run_pure,Result.andThen_ok,g1]
   ·cases i with
    |zero=>simp only[List.getElem?_cons_zero,Option.some.injEq]at e1 e2;subst e1;subst e2;exact ht t
    |succ i=>exact g3 i d v (by simpa using e1) (by simpa using e2)
  ·cases hl
 | .cell a t::rs,res,l,hc,hl=>by
  simp only[CT]at hc
  split at hc
  ·rename_i g i aiM h1 h2 h3
   cases hc
   simp only[aV]at hl
   split at hl
   ·rename_i o off ho
    split at hl
    ·rename_i cs nC
     split at hl
     ·rename_i d l' hd lU
      cases hl
      obtain⟨vs,g1,g2,g3⟩:=C4 r ht h3 lU
      have hv:=ht a
      rw[ho]at hv
      have hk:=hv.Ax
      obtain⟨hv,_⟩:=hv.rS
      have aes : ∃ v,(loadVar t ⟨M.mu o,off,none⟩).run P w = .ok v w∧RD M s d v:=by
       obtain⟨fy,T,hh,dL,⟨gM,_⟩,C1⟩:=r.obj o cs nC
       replace hh:w.heap[M.mu o]? = some (.cells fy T (0,0)):=hh.cells hk
       let n:=if g then i.size else 1
       have jf:off+n≤fy.size:=by
        rcases qu hd with ⟨rfl,hq,_⟩|⟨rfl,hq⟩
        ·simp[n];omega
        ·have:=(List.getElem?_eq_some_iff.1 hq).1;simp[n];omega
       have hlen:((fy.toList.drop off).take n).length=n:=by simp;omega
       have hY : ∀ (j:Nat) (u:Value),((fy.toList.drop off).take n)[j]? = some u→fy[off+j]? = some u:=by
        intro j u h
        rw[List.getElem?_take]at h
        split at h
        ·rw[List.getElem?_drop]at h;simpa using h
        ·cases h
       refine⟨_,yA (w:=w) P h2 h1 (M.mu o) off ((fy.toList.drop off).take n) hlen (fun j u h=>by rw[iZ hh];exact hY j u h), ?_⟩
       exact qI hd _ hlen (fun _ u hu=>gM u (Array.mem_toList_iff.1 (List.mem_of_mem_drop (List.mem_of_mem_take hu)))) (fun j d u e1 e2=>C1 _ d u e1 (hY j u e2))
      obtain⟨v,hlv,hvd⟩:=aes
      refine⟨v::vs, ?_,by simp[g2],fun i d' v' e1 e2=>?_⟩
      ·rw [List.mapM_cons]
       have gM:(AU tmps (.cell a t)).run P w = .ok v w:=by
        simp only[AU,Go.Sem.run_bind,hv,asAddr,Go.Sem.run_pure,Result.andThen_ok,hlv]
       simp only[Go.Sem.run_bind,gM,Result.andThen_ok,g1,Go.Sem.run_pure]
      ·cases i with
       |zero=>simp only[List.getElem?_cons_zero,Option.some.injEq]at e1 e2;subst e1;subst e2;exact hvd
       |succ i=>exact g3 i d' v' (by simpa using e1) (by simpa using e2)
     ·cases hl
    ·cases hl
   ·cases hl
  ·cases hc
theorem Hc (r:Rel M s w) {tm:Tm} {tmps:Array Value} (ht:lT M s tm tmps) {fn:Func} {res:List (Nat×Option (Bool×Nat))} {l:List D} (hc:CT P fn.results.toList=some res) (hl:aV res tm s=some l) :
 ∃ v,(results fn tmps).run P w = .ok v w∧RD M s (aY l) v:=by
 obtain⟨vs,g1,g2,g3⟩:=C4 (P:=P) r ht hc hl
 have dB:(results fn tmps).run P w = .ok (if h:vs.toArray.size=1 then vs.toArray[0]else .tuple vs.toArray) w:=by
  have e:results fn tmps=(do let vs ← fn.results.mapM (AU tmps);pure (if h:vs.size=1 then vs[0]else .tuple vs)):=by
   unfold results
   rfl
  rw[e,Array.mapM_eq_mapM_toList]
  simp only[Go.Sem.run_bind,Go.Sem.run_map,g1,Result.andThen_ok,Go.Sem.run_pure]
 refine⟨_,dB, ?_⟩
 clear dB g1 hl
 match l,vs,g2,g3 with
 | [],[],_,_=>exact .tuple [] #[] rfl (by simp)
 | [d],[v],_,g3=>exact g3 0 d v rfl rfl
 |d::d'::l,v::v'::vs,h,g3=>
  have : ¬ ((v::v'::vs).toArray.size=1):=by simp
  rw[dif_neg this]
  exact .tuple _ _ (by simpa using h.symm) (fun i d v e1 e2=>g3 i d v e1 (by simpa using e2))
def SX (res:List (Nat×Option (Bool×Nat))) (Q:D→St→Prop):Exit→Tm→St→Prop
 | .normal,tm,s| .ret,tm,s=>∃ l,aV res tm s=some l∧Q (aY l) s
 |_,_,_=>False
theorem bG.P8 {f:FuncId} {fn:Func} {af:AF} {args:List D} {Q:D→St→Prop} (hf:P.funcs[f]? = some fn) (hc:cF P fn=some af) (hl:args.length≤af.ntmps)
 (h : ∀ B:fP,B.s=s→Sem P B af.ntmps af.body (SX af.results Q) (mI 0 args) s):bG P f args s Q:=by
 intro M w fC r ko dL ha
 unfold cF at hc
 split at hc
 ·rename_i c BO
  split at hc
  ·rename_i b res h1 h2
   cases hc
   simp only at h hl
   refine calls_of_wp hf BO ?_
   have hs:=h ⟨M,s,w,ko,fun b o v e=>r.Aw e⟩ rfl c h1 {tmps:=fC++Array.replicate (fn.ntmps - fC.size) Go.undef,defers:= []} w
    ⟨M,Ext.refl M s w,r,fun t=>by
     rw[Gb]
     simp only[Nat.zero_le,if_true,Nat.sub_zero]
     cases hd:args[t]? with
     |none=>exact .junk _
     | some d=>
      have hD:=(List.getElem?_eq_some_iff.1 hd).1
      have hv:fC[t]? = some fC[t]:=Array.getElem?_eq_getElem (by omega)
      have:(fC++Array.replicate (fn.ntmps - fC.size) Go.undef).getD t Go.undef=fC[t]:=by
       rw[Array.getD_eq_getD_getElem?,Array.getElem?_append_left (by omega),hv];rfl
      rw[this]
      exact ha t d _ hd hv,by simp;omega,rfl⟩
   refine wp_mono hs fun e act w' hp=>?_
   obtain⟨tm,s',hq,M',aiN,r',ht,_,hdf⟩:=hp
   have fin:(∃ l,aV res tm s'=some l∧Q (aY l) s')→act.defers = []∧∃ v,(results fn act.tmps).run P w' = .ok v w'∧
    ∃ M' d v' s',Ending.returned v = .returned v'∧Q d s'∧Ext M s w M' s' w'∧Rel M' s' w'∧RD M' s' d v':=by
    rintro⟨l,hl,hQ⟩
    obtain⟨v,dB,jl⟩:=Hc (P:=P) r' ht h2 hl
    exact⟨hdf,v,dB,M',_,v,_,rfl,hQ,aiN,r',jl⟩
   cases e with
   |normal=>exact fin hq
   |ret=>exact fin hq
   |exit id=>exact hq.elim
   |goto l=>exact hq.elim
   |panic ch=>exact hq.elim
   |outgrown=>exact hq.elim
  ·cases hc
 ·cases hc
theorem bG.intro {f:FuncId} {fn:Func} {af:AF} {args:List D} {Q:D→St→Prop} (hf:P.funcs[f]? = some fn) (hc:cF P fn=some af) (hl:args.length≤af.ntmps)
 (h : ∀ B:fP,B.s=s→Sem P B af.ntmps af.body (aiL B af.results Q) (mI 0 args) s):bG P f args s Q:=by
 intro M w fC r ko dL ha
 refine(bG.P8 (Q:=fun d s'=>∃ n m,s.ah.length≤n∧s.au.length≤m∧Q (d.fg n m) (s'.cut n m)) hf hc hl (fun B hB=>(h B hB).mono fun e tm s' hq=>?_) M w fC r ko dL ha).mono ?_
 ·subst hB
  cases e<;>exact hq
 ·rintro e w' ⟨M',d,v,s',h1,⟨n,m,hn,hm,hQ⟩,h3,h4,h5⟩
  exact⟨M',_,v,_,h1,hQ,h3.cut hn hm,h4.cut n m,h5.fg n m⟩
end
end Go.Abs
