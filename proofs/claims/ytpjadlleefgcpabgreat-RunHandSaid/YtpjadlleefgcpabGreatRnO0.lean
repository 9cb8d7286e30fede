/-
  What is proved here: part 0 of the road to the claim (Globs, Abs, Lang, Rel, Sound, Sound2, Sound3, Sound4, Sound5, Sound6, Sound7, SoundM, RelA, SoundA, Sound8, Code, Flow, Call).
  No conditions.
-/
import GoSem.Core.Value
import Derived.Orders
import Derived.Calls
import Derived.Below
import Derived.Laws.AppendOwn
import Derived.Deep.AppendSrc
import Derived.Laws.StructEq
import Derived.Laws.Slices
import Derived.Laws.Strings
import Derived.Laws.IdiomStrings
import Derived.Laws.BytesString
import Derived.MapKept
import Derived.Laws.MakeOwn
import Derived.Scope

set_option linter.unusedSimpArgs false
set_option linter.unusedVariables false
namespace Go.Abs
def acv:Nat→Option (Array Value):=fun _=>none
def pH:TypeId:=1000000
inductive Tag where
 |full
 |shared
 |tok (t:Nat) (byte:Bool:=false) -- 'byte': its row's block bears the bytes' type
inductive D where
 |junk
 |int (k:IntKind) (n:Int)
 |bool (b:Bool)
 |str (s:List UInt8)
 |ew
 |ptr (o off:Nat)
 |dO (row:List D) (off:Nat)
 |slice (g:Tag) (size:Nat) (rows:List (List D))
 |agg (cells:List D)
 |tuple (vs:List D)
 |val (v:Value)
 |fu (T:TypeId) (o:Nat)
 |gn (f:Nat) (nQ:List D) -- a function value with what it captured
 |fW (o:Nat) -- a map, kept as an object: keys and values by turns
 |eJ (z o g len:Nat) -- a slice from an array's beginning: the object, its generation
 |fv (o g off:Nat) -- a pointer into an array
 |eH (z:Nat) -- an empty slice without room: what is laid behind it becomes an array
instance:Inhabited D:=⟨.junk⟩
inductive Ob where
 |any
 |ty (T:TypeId)
 |map
 |arr (z:Nat) (A:Nat→Option (Nat×Nat))
def Ob.plain:Ob→Prop
 | .any=>True
 | .ty _=>True
 |_=>False
inductive uP:Nat×Ob→Nat×Ob→Prop where
 |refl (x:Nat×Ob):uP x x
 |arr (b b' z:Nat) (A A':Nat→Option (Nat×Nat)) (h : ∀ g x,A g=some x→A' g=some x):uP (b, .arr z A) (b', .arr z A')
theorem uP.trans {x y z:Nat×Ob} (h:uP x y) (k:uP y z):uP x z:=by
 cases h with
 |refl=>exact k
 |arr b b' z A A' h=>
  cases k with
  |refl=>exact .arr b b' z A A' h
  |arr _ b'' _ _ A'' h'=>exact .arr b b'' z A A'' fun g x e=>h' g x (h g x e)
structure Map where
 G:Nat→Nat→Option Value
 loc:Nat→Nat×Ob
 be:Nat→Option (Nat×Nat×Nat)
def Map.mu (M:Map) (o:Nat):Nat:=(M.loc o).1
def Ob.ty? : Ob→Option TypeId
 | .ty T=>some T
 |_=>none
def Map.ob (M:Map) (o:Nat):Ob:=(M.loc o).2
def Map.ty (M:Map) (o:Nat):Option TypeId:=(M.loc o).2.ty?
structure St where
 ah:List (List D)
 aw:List (Option Nat)
def zs (z:Nat):Nat:=if z=0 then 1 else z
def bz (byte:Bool) (size:Nat):Nat:=match byte with|true=>0|false=>size
def iU (M:Map) (s:St) (g:Tag) (size len:Nat) (base:Option (Nat×Nat)) (cap:Nat):Prop:=
 match g with
 | .full=>cap=len
 | .shared=>True
 | .tok t y=>t<s.aw.length∧∀ n,s.aw[t]? = some (some n)→len≤n∧
  (len=n→(M.be t=none∧cap=0∧(y=true→base=none))∨∃ b,base=some (b,0)∧M.be t=some (b,cap,bz y size))
inductive RD (M:Map) (s:St):D→Value→Prop where
 |junk (v:Value):RD M s .junk v
 |int (k:IntKind) (n:Int):RD M s (.int k n) (.int k n)
 |bool (b:Bool):RD M s (.bool b) (.bool b)
 |str (l:List UInt8):RD M s (.str l) (.string ⟨⟨l⟩⟩)
 |ew:RD M s .ew (.pointer none)
 |ptr (o off:Nat) (h:o<s.ah.length) (hm:(M.ob o).plain):RD M s (.ptr o off) (.pointer (some ⟨M.mu o,off,none⟩))
 |dO (row:List D) (off b k:Nat) (h1 : ∀ (i:Nat) (d:D),row[i]? = some d→∃ u,M.G b (k+i)=some u)
  (h2 : ∀ (i:Nat) (d:D) (u:Value),row[i]? = some d→M.G b (k+i)=some u→RD M s d u) :
  RD M s (.dO row off) (.pointer (some ⟨b,k+off,none⟩))
 |jv (g:Tag) (size cap:Nat) (hc:cap=0) (ht:iU M s g size 0 none cap):RD M s (.slice g size []) (.slice none 0 cap)
 |mr (size:Nat) (a:Addr) (cap:Nat):RD M s (.slice .shared size []) (.slice (some a) 0 cap)
 |slice (g:Tag) (size:Nat) (rows:List (List D)) (b k cap:Nat) (hl:rows.length≤cap)
  (hs : ∀ row∈rows,row.length=size)
  (h1 : ∀ (i:Nat) (row:List D) (j:Nat) (d:D),rows[i]? = some row→row[j]? = some d→∃ u,M.G b (k+(i*size+j))=some u)
  (h2 : ∀ (i:Nat) (row:List D) (j:Nat) (d:D) (u:Value),rows[i]? = some row→row[j]? = some d→M.G b (k+(i*size+j))=some u→RD M s d u)
  (ht:iU M s g size rows.length (some (b,k)) cap) :
  RD M s (.slice g size rows) (.slice (some ⟨b,k,none⟩) rows.length cap)
 |agg (cells:List D) (vs:Array Value) (hl:cells.length=vs.size) (h1 : ∀ v∈vs,v.oneCell'=true)
  (h : ∀ (i:Nat) (d:D) (v:Value),cells[i]? = some d→vs[i]? = some v→RD M s d v):RD M s (.agg cells) (.agg vs)
 |tuple (ds:List D) (vs:Array Value) (hl:ds.length=vs.size)
  (h : ∀ (i:Nat) (d:D) (v:Value),ds[i]? = some d→vs[i]? = some v→RD M s d v):RD M s (.tuple ds) (.tuple vs)
 |val (v:Value) (h:v.oneCell'=true):RD M s (.val v) v
 |fu (T:TypeId) (o:Nat) (v:Value) (h:o<s.ah.length) (ht:M.ty o=some T) (hv:v = .pointer none∨v = .pointer (some ⟨M.mu o,0,none⟩)):RD M s (.fu T o) v
 |gn (f:Nat) (ds:List D) (vs:Array Value) (hl:ds.length=vs.size)
  (h : ∀ (i:Nat) (d:D) (v:Value),ds[i]? = some d→vs[i]? = some v→RD M s d v):RD M s (.gn f ds) (.func (.func f) #[] vs)
 |fW (o:Nat) (h:o<s.ah.length) (hm:M.ob o = .map):RD M s (.fW o) (.map (some (M.mu o)))
 |eJ (z o g len b cap:Nat) (A:Nat→Option (Nat×Nat)) (h:o<s.ah.length) (hm:M.ob o = .arr z A) (ha:A g=some (b,cap)) (hl:len≤cap):RD M s (.eJ z o g len) (.slice (some ⟨b,0,none⟩) len cap)
 |fv (z o g off b cap:Nat) (A:Nat→Option (Nat×Nat)) (h:o<s.ah.length) (hm:M.ob o = .arr z A) (ha:A g=some (b,cap)):RD M s (.fv o g off) (.pointer (some ⟨b,off,none⟩))
 |eH (z:Nat) (a:Option Addr):RD M s (.eH z) (.slice a 0 0)
structure Le (M:Map) (s:St) (M':Map) (s':St):Prop where
 G : ∀ b o v,M.G b o=some v→M'.G b o=some v
 n:s.ah.length≤s'.ah.length
 loc : ∀ o,o<s.ah.length→uP (M.loc o) (M'.loc o)
 t:s.aw.length≤s'.aw.length
 tk : ∀ t n',t<s.aw.length→s'.aw[t]? = some (some n')→∃ n,s.aw[t]? = some (some n)∧n≤n'∧(n'=n→M'.be t=M.be t)
theorem Le.same {M:Map} {s:St} {M':Map} {s':St} (h:Le M s M' s') {o:Nat} (ho:o<s.ah.length) (hk : ∀ z A,M.ob o≠ .arr z A):M'.loc o=M.loc o:=by
 have:=h.loc o ho
 have uB : ∀ z A,(M.loc o).2≠ .arr z A:=hk
 generalize M.loc o=x at *
 generalize M'.loc o=y at *
 cases this with
 |refl=>rfl
 |arr b b' z A A' h=>exact(uB z A rfl).elim
theorem Ob.Hd {x:Ob} (h:x.plain) : ∀ z A,x≠ .arr z A:=fun z A e=>by subst e;exact h
theorem Le.mu {M:Map} {s:St} {M':Map} {s':St} (h:Le M s M' s') {o:Nat} (ho:o<s.ah.length) (hk : ∀ z A,M.ob o≠ .arr z A):M'.mu o=M.mu o:=congrArg Prod.fst (h.same ho hk)
theorem Le.ob {M:Map} {s:St} {M':Map} {s':St} (h:Le M s M' s') {o:Nat} (ho:o<s.ah.length) (hk : ∀ z A,M.ob o≠ .arr z A):M'.ob o=M.ob o:=congrArg Prod.snd (h.same ho hk)
theorem uP.ty {x y:Nat×Ob} (h:uP x y):y.2.ty? = x.2.ty? :=by cases h<;>rfl
theorem Le.ty {M:Map} {s:St} {M':Map} {s':St} (h:Le M s M' s') : ∀ o,o<s.ah.length→M'.ty o=M.ty o:=fun o ho=>(h.loc o ho).ty
theorem Le.arr {M:Map} {s:St} {M':Map} {s':St} (h:Le M s M' s') {o z:Nat} {A:Nat→Option (Nat×Nat)} (ho:o<s.ah.length) (hm:M.ob o = .arr z A) : ∃ A',M'.ob o = .arr z A'∧∀ g x,A g=some x→A' g=some x:=by
 have:=h.loc o ho
 have Ah:(M.loc o).2 = .arr z A:=hm
 show ∃ A',(M'.loc o).2=_∧_
 generalize M.loc o=x at *
 generalize M'.loc o=y at *
 cases this with
 |refl=>exact⟨A,Ah,fun _ _ h=>h⟩
 |arr b b' z A A' h=>cases Ah;exact⟨A',rfl,h⟩
theorem Le.refl (M:Map) (s:St):Le M s M s:=⟨fun _ _ _ h=>h,Nat.le_refl _,fun _ _=> .refl _,Nat.le_refl _,fun _ n _ h=>⟨n,h,Nat.le_refl _,fun _=>rfl⟩⟩
theorem Le.trans {M M' MZ:Map} {s s' RJ:St} (h:Le M s M' s') (k:Le M' s' MZ RJ):Le M s MZ RJ:=
 ⟨fun b o v e=>k.G b o v (h.G b o v e),Nat.le_trans h.n k.n,fun o ho=>(h.loc o ho).trans (k.loc o (Nat.lt_of_lt_of_le ho h.n)),Nat.le_trans h.t k.t,
  fun t n'' ht e=>by
   obtain⟨n',e',l,b⟩:=k.tk t n'' (Nat.lt_of_lt_of_le ht h.t) e
   obtain⟨n,M3,l',b'⟩:=h.tk t n' ht e'
   refine⟨n,M3,Nat.le_trans l' l,fun eq=>?_⟩
   have h1:n'=n:=by omega
   have h2:n''=n':=by omega
   rw[b h2,b' h1]⟩
theorem iU.mono {M M':Map} {s s':St} (h:Le M s M' s') {g:Tag} {size len cap:Nat} {base:Option (Nat×Nat)} (ht:iU M s g size len base cap) :
 iU M' s' g size len base cap:=by
 cases g with
 |full=>exact ht
 |shared=>trivial
 |tok t y=>
  obtain⟨hC,ht⟩:=ht
  refine⟨Nat.lt_of_lt_of_le hC h.t,fun n' e'=>?_⟩
  obtain⟨n,e,l,b⟩:=h.tk t n' hC e'
  obtain⟨l',b'⟩:=ht n e
  refine⟨Nat.le_trans l' l,fun eq=>?_⟩
  have h1:n'=n:=by omega
  have h2:len=n:=by omega
  rw[b h1]
  exact b' h2
theorem RD.mono {M M':Map} {s s':St} (h:Le M s M' s') {d:D} {v:Value} (r:RD M s d v):RD M' s' d v:=by
 induction r with
 |junk v=>exact .junk v
 |int k n=>exact .int k n
 |bool b=>exact .bool b
 |str l=>exact .str l
 |ew=>exact .ew
 |ptr o off ho hm=>rw[← h.mu ho (Ob.Hd hm)];exact .ptr o off (Nat.lt_of_lt_of_le ho h.n) (by rw[h.ob ho (Ob.Hd hm)];exact hm)
 | dO row off b k h1 h2 ih=>
  refine .dO row off b k (fun i d e=>?_) (fun i d u e eu=>?_)
  ·obtain⟨u,hu⟩:=h1 i d e;exact⟨u,h.G _ _ _ hu⟩
  ·obtain⟨u',hu⟩:=h1 i d e
   have:=h.G _ _ _ hu
   rw[eu]at this
   cases this
   exact ih i d u e hu
 |jv g size cap hc ht=>exact .jv g size cap hc (ht.mono h)
 |mr size a cap=>exact .mr size a cap
 | slice g size rows b k cap hl hs h1 h2 ht ih=>
  refine .slice g size rows b k cap hl hs (fun i row j d e e2=>?_) (fun i row j d u e e2 eu=>?_) (ht.mono h)
  ·obtain⟨u,hu⟩:=h1 i row j d e e2;exact⟨u,h.G _ _ _ hu⟩
  ·obtain⟨u',hu⟩:=h1 i row j d e e2
   have:=h.G _ _ _ hu
   rw[eu]at this
   cases this
   exact ih i row j d u e e2 hu
 |agg cells vs hl h1 _ ih=>exact .agg cells vs hl h1 ih
 |tuple ds vs hl _ ih=>exact .tuple ds vs hl ih
 |val v hv=>exact .val v hv
 |fu T o v ho ht hv=>exact .fu T o v (Nat.lt_of_lt_of_le ho h.n) (by rw[h.ty o ho];exact ht) (by rw[h.mu ho (fun z A e=>by rw[Map.ty,show(M.loc o).2=_ from e]at ht;cases ht)];exact hv)
 |gn f ds vs hl _ ih=>exact .gn f ds vs hl ih
 |fW o ho hm=>
  have hk : ∀ z A,M.ob o≠ .arr z A:=fun z A e=>by rw[hm]at e;cases e
  rw[← h.mu ho hk];exact .fW o (Nat.lt_of_lt_of_le ho h.n) (by rw[h.ob ho hk];exact hm)
 |eJ z o g len b cap A ho hm ha hl=>
  obtain⟨A',h1,h2⟩:=h.arr ho hm
  exact .eJ z o g len b cap A' (Nat.lt_of_lt_of_le ho h.n) h1 (h2 g _ ha) hl
 |fv z o g off b cap A ho hm ha=>
  obtain⟨A',h1,h2⟩:=h.arr ho hm
  exact .fv z o g off b cap A' (Nat.lt_of_lt_of_le ho h.n) h1 (h2 g _ ha)
 |eH z a=>exact .eH z a
def St.live (s:St) (t:Nat):Prop:=∃ n,s.aw[t]? = some (some n)
def gM:List MapEntry→List Value
 | []=> []
 |e::l=>e.key::e.val::gM l
def iM (hp:Array Obj) (l:Nat×Ob) (vs:Array Value) (T:TypeId):Prop:=
 match l.2 with
 | .map=>∃ es ck,hp[l.1]? = some (.map es ck)∧vs.toList=gM es.toList
 | .arr z A=>∃ (us:Array Value) (g n cap:Nat),hp[l.1]? = some (.cells us T (0,0))∧A g=some (l.1,cap)∧(∀ g',g<g'→A g'=none)∧us.size=cap*z∧n≤us.size∧
  vs.toList = .int .i64 g::us.toList.take n∧∀ u∈us,u.oneCell'=true
 |_=>hp[l.1]? = some (.cells vs T (0,0))
theorem iM.cells {hp:Array Obj} {l:Nat×Ob} {vs:Array Value} {T:TypeId} (h:iM hp l vs T) (hk:l.2.plain):hp[l.1]? = some (.cells vs T (0,0)):=by
 obtain⟨b,k⟩:=l
 cases k with
 |map=>exact hk.elim
 |arr _ _=>exact hk.elim
 |any=>exact h
 |ty _=>exact h
theorem iM.of {hp:Array Obj} {l:Nat×Ob} {vs:Array Value} {T:TypeId} (h:hp[l.1]? = some (.cells vs T (0,0))) (hk:l.2.plain):iM hp l vs T:=by
 obtain⟨b,k⟩:=l
 cases k with
 |map=>exact hk.elim
 |arr _ _=>exact hk.elim
 |any=>exact h
 |ty _=>exact h
theorem iM.N5 {hp:Array Obj} {l:Nat×Ob} {vs:Array Value} {T:TypeId} (h:iM hp l vs T) (hk:l.2 = .map) : ∃ es ck,hp[l.1]? = some (.map es ck)∧vs.toList=gM es.toList:=by
 unfold iM at h
 rw[hk]at h
 exact h
theorem iM.ofMap {hp:Array Obj} {l:Nat×Ob} {vs:Array Value} {T:TypeId} (hk:l.2 = .map) (h : ∃ es ck,hp[l.1]? = some (.map es ck)∧vs.toList=gM es.toList):iM hp l vs T:=by
 unfold iM
 rw[hk]
 exact h
theorem iM.some {hp:Array Obj} {l:Nat×Ob} {vs:Array Value} {T:TypeId} (h:iM hp l vs T) : ∃ o,hp[l.1]? = some o:=by
 obtain⟨b,k⟩:=l
 cases k with
 |map=>obtain⟨es,ck,h,_⟩:=h;exact⟨_,h⟩
 |arr _ _=>obtain⟨us,g,n,cap,h,_⟩:=h;exact⟨_,h⟩
 |any=>exact⟨_,h⟩
 |ty _=>exact⟨_,h⟩
theorem iM.lt {hp:Array Obj} {l:Nat×Ob} {vs:Array Value} {T:TypeId} (h:iM hp l vs T):l.1<hp.size:=by
 obtain⟨o,h⟩:=h.some
 exact(Array.getElem?_eq_some_iff.1 h).1
theorem iM.keep {hp mU:Array Obj} {l:Nat×Ob} {vs:Array Value} {T:TypeId} (h:iM hp l vs T) (e:mU[l.1]? = hp[l.1]?):iM mU l vs T:=by
 unfold iM at h ⊢
 rw[e];exact h
structure Rel (M:Map) (s:St) (w:World):Prop where
 comm : ∀ b o v,M.G b o=some v→w.cell? ⟨b,o,none⟩=some v∧v.oneCell'=true
 obj : ∀ (o:Nat) (ds:List D),s.ah[o]? = some ds→∃ (vs:Array Value) (T:TypeId),iM w.heap (M.loc o) vs T∧vs.size=ds.length∧
  ((∀ v∈vs,v.oneCell'=true)∧∀ T',M.ty o=some T'→T'=T)∧∀ (i:Nat) (d:D) (v:Value),ds[i]? = some d→vs[i]? = some v→RD M s d v
 jZ : ∀ o,o<s.ah.length→∀ off,M.G (M.mu o) off=none
 inj : ∀ o o',o<s.ah.length→o'<s.ah.length→M.mu o=M.mu o'→o=o'
 tok : ∀ t n,s.aw[t]? = some (some n)→(M.be t=none∧n=0)∨∃ (b cap z:Nat) (vs:Array Value) (T:TypeId),M.be t=some (b,cap,z)∧
  w.heap[b]? = some (.cells vs T (0,0))∧vs.size=cap*zs z∧n≤cap∧(∀ off,n*zs z≤off→M.G b off=none)∧(z=0→T=pH)
 fh : ∀ t b c z o,s.live t→M.be t=some (b,c,z)→o<s.ah.length→M.mu o≠b
 fX : ∀ t t' b c z c' z',s.live t→s.live t'→M.be t=some (b,c,z)→M.be t'=some (b,c',z')→t=t'
structure Ext (M:Map) (s:St) (w:World) (M':Map) (s':St) (w':World):Prop where
 le:Le M s M' s'
 kept : ∀ b,b<w.heap.size→(∀ o,o<s.ah.length→M.mu o≠b)→(∀ t c z,s.live t→M.be t≠some (b,c,z))→w'.heap[b]? = w.heap[b]?
 tU : ∀ o,(s.ah.length≤o∨M'.mu o≠M.mu o)→o<s'.ah.length→w.heap.size≤M'.mu o
 qG : ∀ t b c z,s'.live t→M'.be t=some (b,c,z)→(s.live t∧∃ c' z',M.be t=some (b,c',z'))∨w.heap.size≤b
 sj : ∀ b o,M'.G b o≠M.G b o→w.heap.size≤b∨∃ t c z,s.live t∧M.be t=some (b,c,z)
 size:w.heap.size≤w'.heap.size
 os:w'.os=w.os
 tape:w'.tape=w.tape
 output:w'.output=w.output
theorem Ext.refl (M:Map) (s:St) (w:World):Ext M s w M s w:=
 ⟨Le.refl M s,fun _ _ _ _=>rfl,fun o h h'=>by rcases h with h|h;omega;exact(h rfl).elim,fun t b c z h e=> .inl ⟨h,c,z,e⟩,fun _ _ h=>(h rfl).elim,Nat.le_refl _,rfl,rfl,rfl⟩
theorem Ext.mo {M M':Map} {s s':St} {w w':World} (h:Ext M s w M' s' w') {o:Nat} (ho:o<s'.ah.length):(o<s.ah.length∧M'.mu o=M.mu o)∨w.heap.size≤M'.mu o:=by
 by_cases h1:s.ah.length≤o
 ·exact .inr (h.tU o (.inl h1) ho)
 ·by_cases h2:M'.mu o=M.mu o
  ·exact .inl ⟨by omega,h2⟩
  ·exact .inr (h.tU o (.inr h2) ho)
theorem Ext.trans {M M' MZ:Map} {s s' RJ:St} {w w' w'':World} (h:Ext M s w M' s' w') (k:Ext M' s' w' MZ RJ w''):Ext M s w MZ RJ w'':=by
 refine⟨h.le.trans k.le,fun b hb ho ht=>?_,fun o h1 h2=>?_,fun t b c z h1 e=>?_,fun b o fl=>?_,Nat.le_trans h.size k.size,
  k.os.trans h.os,k.tape.trans h.tape,k.output.trans h.output⟩
 ·rw [k.kept b (Nat.lt_of_lt_of_le hb h.size) (fun o hC e=> ?_) (fun t c z hC e=> ?_),h.kept b hb ho ht]
  ·rcases h.mo hC with ⟨h1,h2⟩ | h1
   ·exact ho o h1 (h2.symm.trans e)
   ·omega
  ·rcases h.qG t b c z hC e with ⟨h1,c',z',e'⟩ | h1
   ·exact ht t c' z' h1 e'
   ·omega
 ·rcases k.mo h2 with ⟨h3,h4⟩ | h3
  ·rw [h4]
   refine h.tU o ?_ h3
   rcases h1 with h1|h1
   ·exact .inl h1
   ·exact .inr (by rw[h4]at h1;exact h1)
  ·exact Nat.le_trans h.size h3
 ·rcases k.qG t b c z h1 e with ⟨h2,c',z',e'⟩ | h2
  ·exact h.qG t b c' z' h2 e'
  ·exact .inr (Nat.le_trans h.size h2)
 ·by_cases e:M'.G b o=M.G b o
  ·have:MZ.G b o≠M'.G b o:=fun e'=>fl (e'.trans e)
   rcases k.sj b o this with h1|⟨t,c,z,h1,h2⟩
   ·exact .inl (Nat.le_trans h.size h1)
   ·rcases h.qG t b c z h1 h2 with ⟨h3,c',z',e'⟩ | h3
    ·exact .inr ⟨t,c',z',h3,e'⟩
    ·exact .inl h3
  ·exact h.sj b o e
def Laid (M:Map) (s:St) (w:World):Prop:=∀ g cs,acv g=some cs→
 (∃ T fr,w.heap[g]? = some (.cells cs T fr))∧(∀ o,o<s.ah.length→M.mu o≠g)∧∀ t c z,s.live t→M.be t≠some (g,c,z)
theorem Laid.ext {M M':Map} {s s':St} {w w':World} (h:Laid M s w) (e:Ext M s w M' s' w'):Laid M' s' w':=by
 intro g cs hg
 obtain⟨⟨T,fr,h1⟩,h2,h3⟩:=h g cs hg
 have hC:g<w.heap.size:=(Array.getElem?_eq_some_iff.1 h1).1
 refine⟨⟨T,fr,by rw[e.kept g hC h2 h3];exact h1⟩,fun o ho=>?_,fun t c z hl hb=>?_⟩
 ·rcases e.mo ho with ⟨h4,h5⟩ | h4
  ·rw[h5];exact h2 o h4
  ·omega
 ·rcases e.qG t g c z hl hb with ⟨h4,c',z',h5⟩ | h4
  ·exact h3 t c' z' h4 h5
  ·omega
abbrev Tm:=List (Nat×D)
def Tm.get:Tm→Nat→D
 | [],_=> .junk
 |(k,d)::r,t=>if k=t then d else Tm.get r t
def Tm.set:Tm→Nat→D→Tm
 | [],t,d=> [(t,d)]
 |(k,e)::r,t,d=>if k=t then(k,d)::r else(k,e)::Tm.set r t d
def Tm.put (tm:Tm) (dst:Option Nat) (d:D):Tm:=
 match dst with
 |some t=>tm.set t d
 |none=>tm
inductive X where
 |s (t:Nat)
 |k (d:D)
def X.ev (tm:Tm):X→D
 | .s t=>tm.get t
 | .k d=>d
inductive FO where
 |ofInt (k:FloatKind)
 |toInt (k:IntKind)
 |Js
 |real
 |imag
 |eq
 |Jt
 |RK
inductive AO where
 |mv (x:X)
 |pick (c a b:X)
 |alloc (zero:List D)
 |box (x:X)
 |build (zero:List D) (parts:List (Nat×Nat×X))
 |cf (zero:List D) (size n:Nat) (parts:List (Nat×X))
 |vi (zero:List D) (size n:Nat) (parts:List (Nat×X))
 |AW (x:X)
 |load (x:X) (agg:Bool) (size:Nat)
 |store (p x:X) (size:Nat)
 |br (x:X)
 |bin (op:BinOp) (x y:X)
 |Dg (neg:Bool) (x y:X)
 |eqs (neg:Bool) (ks:List Nat) (x y:X) -- the fields' kinds: 0 an integer, 1 a bool, 2 a text
 |He (neg:Bool) (x y:X)
 |un (op:UnOp) (x:X)
 |conv (k:IntKind) (x:X)
 |Em (x:X)
 |xX (x:X)
 |En (size:Nat) (x:X) (lo hi:Option X)
 |y8 (x:X) (lo hi:Option X)
 |aj (x:X) (off:Nat)
 |uC (x:X) (off:Nat) (agg:Bool) (size:Nat)
 |cr (x i:X) (size:Nat)
 |oY (x i:X)
 |ext (x:X) (i:Nat)
 |len (x:X)
 |nR (x:X)
 |app (size bytes:Nat) (x y:X)
 |mm (isMax:Bool) (x y:X)
 |td (zero:List D) (T:TypeId) -- a new object whose first cell is to hold its own address
 |AX (x:X) (T:TypeId)
 |AY (x y:X) -- bytes behind others
 |apps (x y:X) -- a text's bytes behind others
 |uQ (f:Nat) (xs:List X) -- a function value
 |uR
 |y9 (m k v:X) -- a text's slice in a map
 |wz (m k:X) (zero:D)
 |AZ (size bytes:Nat) (zero:List D) (l c:X) -- a new array of zeros
 |rf (o:FO) (x y:X)
inductive AI where
 |jA (dst:Option Nat) (g:Option (Nat×Bool)) (t:Nat) (xs:List X) -- what a slot holds is called
 |nil (dst:Option Nat) (g:Option (Nat×Bool)) (neg:Bool) (x:X) -- is a slice nil? (of an empty one nothing is known)
 |op (dst:Option Nat) (g:Option (Nat×Bool)) (o:AO)
 |call (dst:Option Nat) (g:Option (Nat×Bool)) (f:Nat) (xs:List X)
inductive AC where
 |skip
 |run (is:List AI)
 |par (is:List AI) (lR:List (Nat×Nat))
 |seq (a b:AC)
 |cond (x:X) (a b:AC)
 |block (id:Nat) (a:AC)
 |loop (a:AC)
 |exit (id:Nat)
 |scope (a:AC)
 |label (l:Nat)
 |goto (l:Nat)
 |ret
structure AF where
 ntmps:Nat
 results:List (Nat×Option (Bool×Nat)) -- a slot; or a slot that holds the address, whether an aggregate, how many cells
 body:AC
inductive AK where
 |pure
 |load
 |alloc
 |core
 deriving DecidableEq
def AO.kind:AO→AK
 | .alloc _=> .core
 | .box _=> .core
 | .vi .. => .core
 | .AW _=> .core
 | .store .. => .core
 | .app .. => .core
 | .td .. => .core
 | .AX .. => .core
 | .AY .. => .core
 | .apps .. => .core
 | .uR=> .core
 | .y9 .. => .core
 | .AZ .. => .core
 | .wz .. => .load
 | .load .. => .load
 |_=> .pure
def AI.kind:AI→AK
 | .op (some _) none (.alloc _)=> .alloc
 | .op _ _ o=>o.kind
 |_=> .core
def AI.dst:AI→Option Nat
 | .op d _ _=>d
 | .call d _ _ _=>d
 | .nil d _ _ _=>d
 | .jA d _ _ _=>d
def X.reads:X→List Nat
 | .s t=> [t]
 | .k _=> []
def oh:List X→List Nat
 | []=> []
 |x::r=>x.reads++oh r
def A0:Option X→List Nat
 |none=> []
 |some x=>x.reads
def AO.reads:AO→List Nat
 | .mv x=>x.reads
 | .pick c a b=>c.reads++(a.reads++b.reads)
 | .alloc _=> []
 | .box x=>x.reads
 | .build _ ps=>oh (ps.map (·.2.2))
 | .cf _ _ _ ps=>oh (ps.map (·.2))
 | .vi _ _ _ ps=>oh (ps.map (·.2))
 | .AW x=>x.reads
 | .load x _ _=>x.reads
 | .store p x _=>p.reads++x.reads
 | .br x=>x.reads
 | .bin _ x y=>x.reads++y.reads
 | .Dg _ x y=>x.reads++y.reads
 | .eqs _ _ x y=>x.reads++y.reads
 | .He _ x y=>x.reads++y.reads
 | .un _ x=>x.reads
 | .conv _ x=>x.reads
 | .Em x=>x.reads
 | .xX x=>x.reads
 | .En _ x lo hi=>x.reads++(A0 lo++A0 hi)
 | .y8 x lo hi=>x.reads++(A0 lo++A0 hi)
 | .aj x _=>x.reads
 | .uC x _ _ _=>x.reads
 | .cr x i _=>x.reads++i.reads
 | .oY x i=>x.reads++i.reads
 | .ext x _=>x.reads
 | .len x=>x.reads
 | .nR x=>x.reads
 | .app _ _ x y=>x.reads++y.reads
 | .mm _ x y=>x.reads++y.reads
 | .td _ _=> []
 | .AX x _=>x.reads
 | .AY x y=>x.reads++y.reads
 | .apps x y=>x.reads++y.reads
 | .uQ _ xs=>oh xs
 | .uR=> []
 | .y9 m k v=>m.reads++(k.reads++v.reads)
 | .wz m k _=>m.reads++k.reads
 | .AZ _ _ _ l c=>l.reads++c.reads
 | .rf _ x y=>x.reads++y.reads
def vj:Option (Nat×Bool)→List Nat
 |none=> []
 |some (t,_)=> [t]
def AI.reads:AI→List Nat
 | .op _ g o=>vj g++o.reads
 | .call _ g _ xs=>vj g++oh xs
 | .nil _ g _ x=>vj g++x.reads
 | .jA _ g t xs=>vj g++(t::oh xs)
def Ep (d:Option Nat) (l:List Nat):Bool:=
 match d with
 |none=>true
 |some t=> !l.contains t
def AI.apart (a q:AI):Bool:=
 Ep a.dst q.reads && Ep q.dst a.reads && (match a.dst,q.dst with|some x,some y=>x != y|_,_=>true)
def ib (l:List (List Nat)) (i:Nat):List Nat:=l.getD i []
def jB (is:List AI) (i:Nat):AK:=
 match is[i]? with
 |some a=>a.kind
 |none=> .core
def lr (is:List AI) (i j:Nat):Bool:=
 match is[i]?,is[j]? with
 |some a,some b=>a.apart b
 |_,_=>false
def gN:AK→Bool
 | .core=>true
 | .alloc=>true
 |_=>false
def jU (is:List AI) (l:List Nat):Nat:=(l.filter fun i=>gN (jB is i)).length
def lg (is:List AI) (pq:List Nat):List Nat→Bool
 | []=>true
 |a::r=>(!(jB is a == .alloc && pq.contains a) ||r.all pq.contains) && lg is pq r
def oZ (is:List AI) (pt:List (List Nat)) (pre:List Nat) (q b:Nat):Bool:=
 match jB is q with
 | .core=>pre.all (ib pt q).contains
 | .alloc=>pre.all fun a=>lr is a q
 | .pure=>(pre.all fun a=>(ib pt q).contains a ||lr is a q) && lg is (ib pt q) pre
 | .load=>(pre.all fun a=>(ib pt q).contains a ||lr is a q) && lg is (ib pt q) pre &&
  decide (jU is (pre.filter fun a=> !(ib pt q).contains a)≤b)
def uD (is:List AI) (af pt:List (List Nat)):List Nat→List (Nat×Nat)→Bool
 |_,[]=>true
 |pre,(q,b)::r=>oZ is pt pre q b && !pre.contains q && ((ib af q).all fun j=>j != q && !(r.map (·.1)).contains j) && uD is af pt (q::pre) r
def xY (af pt:List (List Nat)):Nat→Bool
 | 0=>true
 |i+1=>((ib pt i).all fun j=>(ib af i).contains j ||(ib af i).any fun k=>(ib pt k).contains j) && xY af pt i
def Ju (is:List AI) (af pt:List (List Nat)) (lR:List (Nat×Nat)):Bool:=
 xY af pt is.length && uD is af pt [] lR && (List.range is.length).all (lR.map (·.1)).contains && lR.all (fun p=>decide (p.1<is.length)) &&
  (List.range is.length).all fun i=>(ib af i).all fun j=>decide (j<is.length)
def mV (o:Oper):List Nat:=(o.after.toList.filter (Region.binds .any)).map (·.on)
def Jv:List (List Nat)→List (List Nat)→List (List Nat)
 |done,[]=>done
 |done,es::r=>Jv (done++ [(es.flatMap fun k=>ib done k).foldl (fun l j=>if l.contains j then l else l++ [j]) es]) r
def Yc (is:List AI) (pt:List (List Nat)):List Nat→List Nat→List Nat→List Nat
 | [],rest,out=>out++((rest.filter fun j=>jB is j == .alloc)++rest.filter fun j=> !(jB is j == .alloc))
 |c::cs,rest,out=>
  let U3:=rest.filter fun j=>(ib pt c).contains j
  Yc is pt cs (rest.filter fun j=> !(U3.contains j) && j != c) (out++((U3.filter fun j=>jB is j == .alloc)++(U3.filter fun j=> !(jB is j == .alloc))++ [c]))
def Yd (is:List AI) (pt:List (List Nat)):List Nat→List Nat→List (Nat×Nat)
 |_,[]=> []
 |pre,q::r=>(q,if jB is q == .load then jU is (pre.filter fun a=> !(ib pt q).contains a)else 0)::Yd is pt (q::pre) r
def RM (is:List AI) (af:List (List Nat)):List (Nat×Nat):=
 let pt:=Jv [] af
 let all:=List.range is.length
 Yd is pt [] (Yc is pt (all.filter fun i=>jB is i == .core) all [])
def D.row:D→Option (List D)
 | .agg cs=>some cs
 | .junk=>none
 | .tuple _=>none
 |d=>some [d]
def part (cs:List D) (off:Nat) (agg:Bool) (size:Nat):Option D:=
 match agg with
 |true=>if off+size≤cs.length then some (.agg ((cs.drop off).take size))else none
 |false=>cs[off]?
def iG (cs:List D) (off:Nat) (r:List D):List D:=cs.take off++r++cs.drop (off+r.length)
def rh (cells:List D):List (Nat×Nat×D)→Option (List D)
 | []=>some cells
 |(off,size,d)::rest=>
  match d.row with
  |none=>none
  |some r=>if r.length=size∧off+size≤cells.length then rh (iG cells off r) rest else none
def fY (zero:List D):Nat→List (List D)
 | 0=> []
 |n+1=>zero::fY zero n
def km (size:Nat) (rows:List (List D)):List (Nat×D)→Option (List (List D))
 | []=>some rows
 |(i,d)::rest=>
  match d.row with
  |none=>none
  |some r=>if r.length=size∧i<rows.length then km size (rows.set i r) rest else none
def bytesLess:List UInt8→List UInt8→Bool:=Op.bytesLess
def bA:Nat:=1099511627776
def gp (op:BinOp) (k:IntKind) (a b:Int):Option D:=
 match op with
 | .add=>some (.int k (k.wrap (a+b)))
 | .sub=>some (.int k (k.wrap (a - b)))
 | .mul=>some (.int k (k.wrap (a*b)))
 | .quo=>if b=0 then none else some (.int k (k.wrap (a.tdiv b)))
 | .rem=>if b=0 then none else some (.int k (a.tmod b))
 | .eql=>some (.bool (a==b))
 | .neq=>some (.bool (a != b))
 | .lss=>some (.bool (decide (a<b)))
 | .leq=>some (.bool (decide (a≤b)))
 | .gtr=>some (.bool (decide (a > b)))
 | .geq=>some (.bool (decide (a≥b)))
 |_=>none
def oi (op:BinOp) (a b:List UInt8):Option D:=
 match op with
 | .add=>if a.length+b.length≤bA then some (.str (a++b))else none
 | .eql=>some (.bool (a==b))
 | .neq=>some (.bool (!(a==b)))
 | .lss=>some (.bool (bytesLess a b))
 |_=>none
def xi (op:BinOp) (x y:D):Option D:=
 match x,y with
 | .int k a, .int k' b=>if k=k' then gp op k a b else none
 | .str a, .str b=>oi op a b
 |_,_=>none
def mW:Nat→D→D→Option Bool
 | 0, .int k a, .int k' b=>if k=k' then some (a==b)else none
 | 1, .bool a, .bool b=>some (a==b)
 | 2, .str a, .str b=>some (a==b)
 |_,_,_=>none
def lu:List Nat→List D→List D→Option Bool
 | [],[],[]=>some true
 |k::ks,x::xs,y::ys=>
  match mW k x y with
  |none=>none
  |some true=>lu ks xs ys
  |some false=>some false
 |_,_,_=>none
def Jw (op:UnOp) (x:D):Option D:=
 match op,x with
 | .neg, .int k n=>some (.int k (k.wrap (0 - n)))
 | .not, .bool b=>some (.bool (!b))
 |_,_=>none
def Hf:List D→Option UInt8
 | [.int .u8 n]=>some (UInt8.ofNat n.toNat)
 |_=>none
def oy:List (List D)→Option (List UInt8)
 | []=>some []
 |r::rs=>
  match Hf r,oy rs with
  |some b,some bs=>some (b::bs)
  |_,_=>none
def Tag.cut (g:Tag) (whole:Bool):Tag:=
 match g with
 | .full=>if whole then .full else .shared
 |g=>g
def tf (lo:Option D):Option Int:=
 match lo with
 |none=>some 0
 |some (.int _ n)=>some n
 |_=>none
def ti (hi:Option D) (len:Nat):Option Int:=
 match hi with
 |none=>some len
 |some (.int _ n)=>some n
 |_=>none
def gw (size bytes:Nat) (x y:D) (s:St):Option (D×St):=
 match x,y with
 | .slice g z rows, .slice _ z' new=>
  if(rows = []∨z=size)∧(new = []∨z'=size)∧(rows.length+new.length)*(bytes+1)≤bA then
   match new with
   | []=>some (.slice g z rows,s)
   |_::_=>
    match g with
    | .full=>some (.slice (.tok s.aw.length) size (rows++new),{s with aw:=s.aw++ [some (rows.length+new.length)]})
    | .shared=>none
    | .tok _ true=>none
    | .tok t false=>if z=size∧s.aw[t]? = some (some rows.length)then some (.slice (.tok t) size (rows++new),{s with aw:=s.aw.set t (some (rows.length+new.length))})else none
  else none
 |_,_=>none
def A1 (x y:D) (s:St):Option (D×St):=
 match x,y with
 | .slice g z rows, .slice _ z' new=>
  if(rows = []∨z=1)∧(new = []∨z'=1)∧(rows.length+new.length)*2≤bA then
   match new with
   | []=>some (.slice g z rows,s)
   |_::_=>
    match g with
    | .full=>some (.slice (.tok s.aw.length true) 1 (rows++new),{s with aw:=s.aw++ [some (rows.length+new.length)]})
    | .shared=>none
    | .tok t y=>if z=1∧s.aw[t]? = some (some rows.length)then some (.slice (.tok t y) 1 (rows++new),{s with aw:=s.aw.set t (some (rows.length+new.length))})else none
  else none
 |_,_=>none
def za (key:List UInt8) (zero:D):List D→Option D
 | []=>some zero
 | .str k::d::r=>if k==key then some d else za key zero r
 |_=>none
def xj (key:List UInt8) (v:D):List D→Option (List D)
 | []=>some [.str key,v]
 | .str k::d::r=>if k==key then some (.str k::v::r)else match xj key v r with|some r'=>some (.str k::d::r')|none=>none
 |_=>none
def nS (s:St) (o g:Nat):Option (List D):=
 match s.ah[o]? with
 |some (.int .i64 n::cells)=>if n=(g:Int)then some cells else none
 |_=>none
def zb (d:D) (agg:Bool) (size:Nat) (s:St):Option (D×St):=
 match d with
 | .fv o g off=>
  match nS s o g with
  |some cells=>(match part cells off agg size with|some d=>some (d,s)|none=>none)
  |none=>none
 |_=>none
def A2 (d:D) (r:Option (List D)) (size:Nat) (s:St):Option (D×St):=
 match d,r with
 | .fv o g off,some r=>match nS s o g with
  |some cells=>if r.length=size∧off+size≤cells.length then some (.tuple [],{s with ah:=s.ah.set o (.int .i64 g::iG cells off r)})else none
  |none=>none
 |_,_=>none
def N6 (d:D):Option D:=
 match d with
 | .fv o g off=>some (.fv o g off)
 |_=>none
def Er (d:D) (off:Nat):Option D:=
 match d with
 | .fv o g k=>some (.fv o g (k+off))
 |_=>none
def xZ (d e:D) (size:Nat):Option D:=
 match d,e with
 | .eJ z o g len, .int _ n=>if 0≤n∧n<len∧z=size then some (.fv o g (n.toNat*z))else none
 |_,_=>none
def xk (d:D) (lo hi:Option D):Option D:=
 match d with
 | .eJ z o g len=>
  match tf lo,ti hi len with
  |some l,some h=>if l=0∧0≤h∧h≤len then some (.eJ z o g h.toNat)else none
  |_,_=>none
 | .eH z=>
  match tf lo,ti hi 0 with
  |some l,some h=>if l=0∧h=0 then some (.eH z)else none
  |_,_=>none
 |_=>none
def F7 (d:D):Option D:=
 match d with
 | .eJ _ _ _ len=>some (.int .i64 len)
 | .eH _=>some (.int .i64 0)
 |_=>none
def A3 (size bytes:Nat) (x y:D) (s:St):Option (D×St):=
 match x,y with
 | .eJ z o g len, .slice _ z' new=>
  if z=size∧(new = []∨z'=size)∧(len+new.length)*(bytes+1)≤bA then
   match new with
   | []=>some (.eJ z o g len,s)
   |_::_=>match nS s o g with
    |some cells=>if len*z≤cells.length then some (.eJ z o (g+1) (len+new.length),{s with ah:=s.ah.set o (.int .i64 ((g+1:Nat):Int)::(cells.take (len*z)++new.flatten))})else none
    |none=>none
  else none
 | .eH z, .slice _ z' new=>
  if z=size∧(new = []∨z'=size)∧new.length*(bytes+1)≤bA then
   match new with
   | []=>some (.eH z,s)
   |_::_=>some (.eJ z s.ah.length 0 new.length,{s with ah:=s.ah++ [.int .i64 ((0:Nat):Int)::new.flatten]})
  else none
 |_,_=>none
def U4 (k:FloatKind) (a b:Nat):Option Nat:=k.format.add a b
def qH (o:FO) (x y:D):Option D:=
 match o,x,y with
 | .ofInt k, .int _ n,_=>some (.val (.float k (k.nearest n)))
 | .toInt k, .val (.float s b),_=>match (s.decode b).toInt .zero with|some n=>if k.min≤n∧n≤k.max then some (.int k n)else none|none=>none
 | .Js, .val (.float k a), .val (.float k' b)=>if k=k' then some (.val (.complex k a b))else none
 | .real, .val (.complex k a _),_=>some (.val (.float k a))
 | .imag, .val (.complex k _ b),_=>some (.val (.float k b))
 | .eq, .val (.float k a), .val (.float k' b)=>if k=k' then some (.bool (k.format.order a b==some .eq))else none
 | .Jt, .val (.complex k a b), .val (.complex k' c d)=>if k=k' then(match U4 k a c,U4 k b d with|some e,some f=>some (.val (.complex k e f))|_,_=>none)else none
 | .RK, .val (.complex k a b), .val (.complex k' c d)=>if k=k' then some (.bool (k.format.order a c==some .eq && k.format.order b d==some .eq))else none
 |_,_,_=>none
def aO (o:AO) (tm:Tm) (s:St):Option (D×St):=
 match o with
 | .mv x=>some (x.ev tm,s)
 | .pick c a b=>
  match c.ev tm with
  | .bool t=>some (if t then a.ev tm else b.ev tm,s)
  |_=>none
 | .alloc zero=>some (.ptr s.ah.length 0,{s with ah:=s.ah++ [zero]})
 | .box x=>
  match (x.ev tm).row with
  |some r=>some (.ptr s.ah.length 0,{s with ah:=s.ah++ [r]})
  |none=>none
 | .build zero parts=>
  match rh zero (parts.map fun p=>(p.1,p.2.1,p.2.2.ev tm))with
  |some cs=>some (.agg cs,s)
  |none=>none
 | .cf zero size n parts=>
  match km size (fY zero n) (parts.map fun p=>(p.1,p.2.ev tm))with
  |some rows=>some (.slice .full size rows,s)
  |none=>none
 | .vi zero size n parts=>
  match km size (fY zero n) (parts.map fun p=>(p.1,p.2.ev tm))with
  |some rows=>some (.slice (.tok s.aw.length) size rows,{s with aw:=s.aw++ [some rows.length]})
  |none=>none
 | .AW x=>
  match x.ev tm with
  | .slice (.tok t _) z rows=>if rows≠ []∧s.aw[t]? = some (some rows.length)then some (.slice .shared z rows,{s with aw:=s.aw.set t none})else none
  |_=>none
 | .load x agg size=>
  match x.ev tm with
  | .ptr o off=>
   match s.ah[o]? with
   |some cs=>match part cs off agg size with|some d=>some (d,s)|none=>none
   |none=>none
  | .dO row off=>match part row off agg size with|some d=>some (d,s)|none=>none
  |d=>zb d agg size s
 | .store p x size=>
  match p.ev tm,(x.ev tm).row with
  | .ptr o off,some r=>
   match s.ah[o]? with
   |some cs=>if r.length=size∧off+size≤cs.length then some (.tuple [],{s with ah:=s.ah.set o (iG cs off r)})else none
   |none=>none
  |d,r=>A2 d r size s
 | .br x=>
  match x.ev tm with
  | .ptr o off=>some (.ptr o off,s)
  | .dO row off=>some (.dO row off,s)
  |d=>match N6 d with|some d=>some (d,s)|none=>none
 | .bin op x y=>match xi op (x.ev tm) (y.ev tm)with|some d=>some (d,s)|none=>none
 | .Dg neg x y=>
  match x.ev tm,y.ev tm with
  | .bool a, .bool b=>some (.bool (if neg then !(a==b)else a==b),s)
  |_,_=>none
 | .eqs neg ks x y=>
  match x.ev tm,y.ev tm with
  | .agg a, .agg b=>match lu ks a b with|some e=>some (.bool (if neg then !e else e),s)|none=>none
  |_,_=>none
 | .He neg x y=>
  match x.ev tm,y.ev tm with
  | .ew, .ew=>some (.bool (!neg),s)
  | .ptr _ _, .ew=>some (.bool neg,s)
  | .dO _ _, .ew=>some (.bool neg,s)
  |_,_=>none
 | .un op x=>match Jw op (x.ev tm)with|some d=>some (d,s)|none=>none
 | .conv k x=>match x.ev tm with| .int _ n=>some (.int k (k.wrap n),s)|_=>none
 | .Em x=>
  match x.ev tm with
  | .slice _ _ rows=>match oy rows with|some b=>some (.str b,s)|none=>none
  |_=>none
 | .xX x=>
  match x.ev tm with
  | .str l=>some (.slice .shared 1 (l.map fun c=> [.int .u8 c.toNat]),s)
  |_=>none
 | .En size x lo hi=>
  match x.ev tm with
  | .slice g z rows=>
   match tf (lo.map (·.ev tm)),ti (hi.map (·.ev tm)) rows.length with
   | some l,some h=>
    if(rows = []∨z=size)∧0≤l∧l≤h∧h≤rows.length then
     some (.slice (if l=0 then g.cut (h=rows.length)else .shared) z ((rows.take h.toNat).drop l.toNat),s)else none
   |_,_=>none
  |d=>match xk d (lo.map (·.ev tm)) (hi.map (·.ev tm))with|some d=>some (d,s)|none=>none
 | .y8 x lo hi=>
  match x.ev tm with
  | .str t=>
   match tf (lo.map (·.ev tm)),ti (hi.map (·.ev tm)) t.length with
   |some l,some h=>if 0≤l∧l≤h∧h≤t.length then some (.str ((t.take h.toNat).drop l.toNat),s)else none
   |_,_=>none
  |_=>none
 | .aj x off=>
  match x.ev tm with
  | .ptr o k=>some (.ptr o (k+off),s)
  | .dO row k=>some (.dO row (k+off),s)
  |d=>match Er d off with|some d=>some (d,s)|none=>none
 | .uC x off agg size=>
  match x.ev tm with
  | .agg cs=>match part cs off agg size with|some d=>some (d,s)|none=>none
  |_=>none
 | .cr x i size=>
  match x.ev tm,i.ev tm with
  | .slice _ z rows, .int _ n=>
   if 0≤n∧z=size then
    match rows[n.toNat]? with
    |some row=>some (.dO row 0,s)
    |none=>none
   else none
  |d,e=>match xZ d e size with|some d=>some (d,s)|none=>none
 | .oY x i=>
  match x.ev tm,i.ev tm with
  | .str t, .int _ n=>
   if 0≤n then
    match t[n.toNat]? with
    |some c=>some (.int .u8 c.toNat,s)
    |none=>none
   else none
  |_,_=>none
 | .ext x i=>
  match x.ev tm with
  | .tuple ds=>match ds[i]? with|some d=>some (d,s)|none=>none
  |_=>none
 | .nR x=>
  match x.ev tm with
  | .str t=>some (.int .i64 t.length,s)
  |_=>none
 | .len x=>
  match x.ev tm with
  | .slice _ _ rows=>some (.int .i64 rows.length,s)
  |d=>match F7 d with|some d=>some (d,s)|none=>none
 | .app size bytes x y=>
  match x.ev tm with
  | .slice g z rows=>gw size bytes (.slice g z rows) (y.ev tm) s
  |d=>A3 size bytes d (y.ev tm) s
 | .mm isMax x y=>
  match x.ev tm,y.ev tm with
  | .int k a, .int k' b=>if k=k' then some (.int k (if isMax then(if b > a then b else a)else(if b<a then b else a)),s)else none
  |_,_=>none
 | .td zero T=>
  match zero with
  | .ew::r=>some (.ptr s.ah.length 0,{s with ah:=s.ah++ [.fu T s.ah.length::r]})
  |_=>none
 | .AX x T=>
  match (x.ev tm).row with
  |some (.ew::r)=>some (.ptr s.ah.length 0,{s with ah:=s.ah++ [.fu T s.ah.length::r]})
  |_=>none
 | .AY x y=>A1 (x.ev tm) (y.ev tm) s
 | .apps x y=>
  match y.ev tm with
  | .str l=>A1 (x.ev tm) (.slice .shared 1 (l.map fun c=> [.int .u8 c.toNat])) s
  |_=>none
 | .uQ f xs=>some (.gn f (xs.map (·.ev tm)),s)
 | .uR=>some (.fW s.ah.length,{s with ah:=s.ah++ [[]]})
 | .y9 m k v=>
  match m.ev tm,k.ev tm,v.ev tm with
  | .fW o, .str key, .slice g z rows=>
   match s.ah[o]? with
   |some cs=>match xj key (.slice g z rows) cs with|some pT=>some (.tuple [],{s with ah:=s.ah.set o pT})|none=>none
   |none=>none
  |_,_,_=>none
 | .wz m k zero=>
  match m.ev tm,k.ev tm with
  | .fW o, .str key=>
   match s.ah[o]? with
   |some cs=>match za key zero cs with|some d=>some (d,s)|none=>none
   |none=>none
  |_,_=>none
 | .AZ size bytes zero l c=>
  match l.ev tm,c.ev tm with
  | .int .i64 n, .int .i64 m=>if n=m∧0≤n∧n*((bytes:Int)+1)≤bA then some (.eJ size s.ah.length 0 n.toNat,{s with ah:=s.ah++ [.int .i64 ((0:Nat):Int)::(fY zero n.toNat).flatten]})else none
  |_,_=>none
 | .rf o x y=>match qH o (x.ev tm) (y.ev tm)with|some d=>some (d,s)|none=>none
def U5 (b:ByteArray):List UInt8:=b.data.toList
def sk:Value→Option D
 | .int k n=>some (.int k n)
 | .bool b=>some (.bool b)
 | .string b=>some (.str (U5 b))
 | .pointer none=>some .ew
 | .slice none 0 0=>some (.slice .full 0 [])
 | .nilIface=>some (.val .nilIface)
 | .float k b=>some (.val (.float k b))
 | .complex k a b=>some (.val (.complex k a b))
 |_=>none
def nT:List Value→Option (List D)
 | []=>some []
 |v::r=>match sk v,nT r with|some d,some ds=>some (d::ds)|_,_=>none
def DE:Value→Option D
 | .slice none 0 0=>some (.val (.slice none 0 0))
 |v=>sk v
def wA:List Value→Option (List D)
 | []=>some []
 |v::r=>match DE v,wA r with|some d,some ds=>some (d::ds)|_,_=>none
def N7:Value→Option D
 | .agg cs=>(nT cs.toList).map .agg
 | .tuple ⟨[]⟩=>some (.tuple [])
 |v=>sk v
def cX:Operand→Option X
 | .tmp t=>some (.s t)
 | .const v=>(N7 v).map .k
 | .func f=>some (.k (.gn f []))
 |_=>none
def x0:List Operand→Option (List X)
 | []=>some []
 |x::r=>match cX x,x0 r with|some d,some ds=>some (d::ds)|_,_=>none
def Ye:Option Operand→Option (Option X)
 |none=>some none
 |some x=>(cX x).map some
section
variable (P:Program)
def ri (t:TypeId):Option Bool:=
 match P.underlying t with
 |some (.struct _)|some (.array _ _)=>some true
 |some _=>some false
 |none=>none
def zeroOf (t:TypeId):Option (List D):=
 match P.info? t with
 |some i=>match i.zero with|some z=>if z.cells.size=i.size then nT z.cells.toList else none|none=>none
 |none=>none
def mw (t:TypeId) (f:Nat):Option (Nat×Nat×Bool):=
 match P.underlying t with
 | some (.struct fs)=>
  match fs[f]? with
  |some fd=>match P.info? fd.type,ri P fd.type with
   |some i,some a=>if i.size=0 then none else some (fd.offset,i.size,a)
   |_,_=>none
  |none=>none
 |_=>none
def RN (t u:TypeId):Bool:=
 match P.underlying u with
 |some (.pointer e)=>e==t
 |_=>false
def acw (t:TypeId):Bool:=
 match P.underlying t with
 |some (.struct fs)=>
  match fs[0]? with
  |some f=>RN P t f.type
  |none=>false
 |_=>false
def N8 (t:TypeId):Bool:=
 match P.underlying t with
 |some (.struct fs)=>
  match fs[0]? with
  |some f=>RN P t f.type ||acw P f.type
  |none=>false
 |_=>false
def N9 (self:Bool) (l:List Value):Option (List D):=if self then wA l else nT l
def zc (t:TypeId):Option (List D):=
 match P.info? t with
 |some i=>match i.zero with|some z=>if z.cells.size=i.size then N9 (N8 P t) z.cells.toList else none|none=>none
 |none=>none
def A4 (t:TypeId):List (Nat×Operand)→Option (List (Nat×Nat×X))
 | []=>some []
 |(i,x)::r=>match mw P t i,cX x,A4 t r with
  |some (off,size,_),some x',some r'=>some ((off,size,x')::r')
  |_,_,_=>none
def Jx:List (Nat×Operand)→Option (List (Nat×X))
 | []=>some []
 |(i,x)::r=>match cX x,Jx r with
  |some x',some r'=>some ((i,x')::r')
  |_,_=>none
def lC (t:TypeId):Option Nat:=
 match P.underlying t with
 |some (.int _)=>some 0
 |some .bool=>some 1
 |some .string=>some 2
 |_=>none
def Ck:Nat→List Field→Option (List Nat)
 |_,[]=>some []
 | n,f::fs=>
  if f.offset=n∧f.name≠ "_" then
   match lC P f.type,Ck (n+1) fs with
   |some k,some ks=>some (k::ks)
   |_,_=>none
  else none
def qg (t:TypeId):Option (List Nat):=
 match P.underlying t with
 |some (.struct fs)=>if P.eqGuardType P.depth t=false∧P.stoodInHeld t=false then Ck P 0 fs.toList else none
 |_=>none
def Es (o:Oper):Option AO:=
 match o.op with
 | .move x| .assign x=>(cX x).map .mv
 | .pick c a b=>match cX c,cX a,cX b with|some c,some a,some b=>some (.pick c a b)|_,_,_=>none
 | .alloc t=>if N8 P t then(zc P t).map (.td · t)else(zeroOf P t).map .alloc
 | .box t x=>if N8 P t then(cX x).map (.AX · t)else(cX x).map .box
 | .build t parts=>
  match P.underlying t,zc P t,A4 P t parts.toList with
  |some (.struct fs),some z,some ps=>if fs.toList.all fun f=>(P.info? f.type).isSome then some (.build z ps)else none
  |_,_,_=>none
 | .buildSlice t n parts=>
  match P.underlying t with
  |some (.slice e)=>
   match P.info? e,zeroOf P e,Jx parts.toList with
   |some i,some z,some ps=>if 0<i.size∧n*i.size≤65536 then some (.cf z i.size n ps)else none
   |_,_,_=>none
  |_=>none
 | .load t x=>
  match cX x,ri P t,P.info? t with
  |some x,some a,some i=>some (.load x a i.size)
  |_,_,_=>none
 | .store t a x=>
  match cX a,cX x,P.info? t with
  |some a,some x,some i=>some (.store a x i.size)
  |_,_,_=>none
 | .nilCheck x=>(cX x).map .br
 | .binOp op t x y _=>
  match cX x,cX y with
  |some x,some y=>
   match P.underlying t,op with
   |some (.int _),_=>some (.bin op x y)
   |some .string,_=>some (.bin op x y)
   |some .bool, .eql=>some (.Dg false x y)
   |some .bool, .neq=>some (.Dg true x y)
   |some (.pointer _), .eql=>some (.He false x y)
   |some (.pointer _), .neq=>some (.He true x y)
   |some (.struct _), .eql=>(qg P t).map (.eqs false · x y)
   |some (.struct _), .neq=>(qg P t).map (.eqs true · x y)
   |some (.float _), .eql=>some (.rf .eq x y)
   |some (.complex _), .add=>some (.rf .Jt x y)
   |some (.complex _), .eql=>some (.rf .RK x y)
   |_,_=>none
  |_,_=>none
 | .unOp op _ x=>(cX x).map (.un op)
 | .convert src dst x=>
  match cX x,P.underlying src,P.underlying dst with
  |some x,some (.int _),some (.int k)=>some (.conv k x)
  |some x,some (.slice e),some .string=>match P.underlying e with|some (.int .u8)=>some (.Em x)|_=>none
  |some x,some (.slice e),some (.slice _)=>match P.underlying e with|some (.int .u8)=>if src=dst then some (.AW x)else none|_=>none
  |some x,some .string,some (.slice e)=>match P.underlying e,P.info? e with|some (.int .u8),some i=>if i.size=1 then some (.xX x)else none|_,_=>none
  |some x,some (.int _),some (.float k)=>some (.rf (.ofInt k) x x)
  |some x,some (.float _),some (.int k)=>some (.rf (.toInt k) x x)
  |_,_,_=>none
 | .slice t x lo hi none=>
  match cX x,Ye lo,Ye hi,P.underlying t with
  |some x,some lo,some hi,some .string=>some (.y8 x lo hi)
  |some x,some lo,some hi,some (.slice e)=>match P.info? e with|some i=>some (.En i.size x lo hi)|none=>none
  |_,_,_,_=>none
 | .fieldAddr t x f=>match cX x,mw P t f with|some x,some (off,_,_)=>some (.aj x off)|_,_=>none
 | .field t x f=>match cX x,mw P t f with|some x,some (off,size,a)=>some (.uC x off a size)|_,_=>none
 | .indexAddr t x i=>
  match cX x,cX i,P.underlying t with
  |some x,some i,some (.slice e)=>match P.info? e with|some j=>if 0<j.size then some (.cr x i j.size)else none|none=>none
  |_,_,_=>none
 | .index t x i=>match cX x,cX i,P.underlying t with|some x,some i,some .string=>some (.oY x i)|_,_,_=>none
 | .extract x i=>(cX x).map (.ext · i)
 | .call {callee:= .builtin .len,args,argTypes}=>
  match args.toList,argTypes.toList with
  | [x],[t]=>match P.underlying t with
   |some .string=>(cX x).map .nR
   |some (.slice _)=>(cX x).map .len
   |_=>none
  |_,_=>none
 | .call {callee:= .builtin .append,args,argTypes}=>
  match args.toList,argTypes.toList with
  | [x,y],[t,u]=>match P.underlying t,P.underlying u,cX x,cX y with
   |some (.slice e),some (.slice _),some x,some y=>match P.info? e,zeroOf P e with
    |some i,some _=>if 0<i.size then some (if e=pH∧i.size=1∧i.bytes=1 then .AY x y else .app i.size i.bytes x y)else none
    |_,_=>none
   |some (.slice e),some .string,some x,some y=>match P.info? e,zeroOf P e with
    |some i,some _=>if e=pH∧i.size=1∧i.bytes=1 then some (.apps x y)else none
    |_,_=>none
   |_,_,_,_=>none
  |_,_=>none
 | .call {callee:= .builtin .max,args, ..}=>
  match args.toList with
  | [x,y]=>match cX x,cX y with|some x,some y=>some (.mm true x y)|_,_=>none
  |_=>none
 | .call {callee:= .builtin .min,args, ..}=>
  match args.toList with
  | [x,y]=>match cX x,cX y with|some x,some y=>some (.mm false x y)|_,_=>none
  |_=>none
 | .call {callee:= .builtin .complex,args, ..}=>
  match args.toList with
  | [x,y]=>match cX x,cX y with|some x,some y=>some (.rf .Js x y)|_,_=>none
  |_=>none
 | .call {callee:= .builtin .real,args, ..}=>
  match args.toList with
  | [x]=>(cX x).map fun x=> .rf .real x x
  |_=>none
 | .call {callee:= .builtin .imag,args, ..}=>
  match args.toList with
  | [x]=>(cX x).map fun x=> .rf .imag x x
  |_=>none
 | .makeSlice t l c=>
  match cX l,cX c,P.underlying t with
  |some l,some c,some (.slice e)=>match P.info? e,zeroOf P e with
   |some i,some z=>if 0<i.size then some (.AZ i.size i.bytes z l c)else none
   |_,_=>none
  |_,_,_=>none
 | .makeFunc (.func f) first captured=>if first.size=0 then(x0 captured.toList).map (.uQ f)else none
 | .makeMap t none=>match P.underlying t with|some (.map _ _)=>some .uR|_=>none
 | .mapUpdate t m k v=>
  match P.underlying t,cX m,cX k,cX v with
  |some (.map kt _),some m,some k,some v=>match P.underlying kt with|some .string=>some (.y9 m k v)|_=>none
  |_,_,_,_=>none
 | .lookup t m k false=>
  match P.underlying t,cX m,cX k with
  |some (.map kt e),some m,some k=>
   match P.underlying kt,P.info? e with
   |some .string,some i=>match i.zero with|some z=>(sk z).map (.wz m k)|none=>none
   |_,_=>none
  |_,_,_=>none
 |_=>none
def vk (ops:Array Oper):Option (Nat×Bool)→Option (Option (Nat×Bool))
 |none=>some none
 |some (j,b)=>
  match (ops[j]?).bind (·.dst)with
  |some t=>some (some (t,b))
  |none=>none
def enters (f:FuncId):Bool:=
 match P.funcs[f]? with
 |some fn=>fn.body.isSome && !(fn.name == "runtime.NumGoroutine")
 |none=>false
def frozenIn (ops:Array Oper) (dst:Option Nat):Bool:=
 ops.toList.any fun o=>match o.op,dst with
  | .convert s d (.tmp t),some t'=>t==t' && s==d
  |_,_=>false
def F9 (o:Oper):Option (Bool×X):=
 match o.op with
 | .binOp op t x (.const (.slice none 0 0)) _=>
  match P.underlying t,op,cX x with
  |some (.slice _), .eql,some x=>some (false,x)
  |some (.slice _), .neq,some x=>some (true,x)
  |_,_,_=>none
 |_=>none
def Yf (nt:Nat) (dst:Option Nat):Bool:=
 match dst with
 |some d=>decide (d<nt)
 |none=>true
def sL (ops:Array Oper) (o:Oper) (g:Option (Nat×Bool)):Option AI:=
 match o.op with
 | .call {callee:= .value (.func f),args, ..}=>if enters P f then(x0 args.toList).map (.call o.dst g f)else none
 | .call {callee:= .value (.tmp t),args, ..}=>(x0 args.toList).map (.jA o.dst g t)
 | _=>
  match F9 P o with
  |some (neg,x)=>some (.nil o.dst g neg x)
  |none=>
   match Es P o with
   |some (.cf z k n ps)=>some (.op o.dst g (if frozenIn ops o.dst then .vi z k n ps else .cf z k n ps))
   |some ao=>some (.op o.dst g ao)
   |none=>none
def cI (nt:Nat) (ops:Array Oper) (o:Oper):Option AI:=
 match vk ops o.guard with
 |none=>none
 |some g=>if Yf nt o.dst=true then sL P ops o g else none
def rj (nt:Nat) (ops:Array Oper):List Oper→Option (List AI)
 | []=>some []
 |o::r=>match cI P nt ops o,rj nt ops r with|some i,some is=>some (i::is)|_,_=>none
def Yg (is:List AI) (af:List (List Nat)):Option AC:=
 if Ju is af (Jv [] af) (RM is af)then some (.par is (RM is af))else none
def cC (nt:Nat):Code→Option AC
 | .skip=>some .skip
 | .region _ ops false=>(rj P nt ops ops.toList).map .run
 | .region _ ops true=>if P.follows .mixedOrders then(rj P nt ops ops.toList).bind (Yg · (ops.toList.map mV))else none
 | .seq a b=>match cC nt a,cC nt b with|some a,some b=>some (.seq a b)|_,_=>none
 | .cond x a b=>match cX x,cC nt a,cC nt b with|some x,some a,some b=>some (.cond x a b)|_,_,_=>none
 | .block id a=>(cC nt a).map (.block id)
 | .loop a=>(cC nt a).map .loop
 | .exit id=>some (.exit id)
 | .scope a=>(cC nt a).map .scope
 | .label l=>some (.label l)
 | .goto l=>some (.goto l)
 | .ret=>some .ret
 |_=>none
def DF:List ResultVar→Option (List (Nat×Option (Bool×Nat)))
 | []=>some []
 | .tmp t::r=>(DF r).map ((t,none):: ·)
 | .cell a t::r=>match ri P t,P.info? t,DF r with
  |some g,some i,some r'=>some ((a,some (g,i.size))::r')
  |_,_,_=>none
def cF (fn:Func):Option AF:=
 match fn.body with
 |some c=>match cC P fn.ntmps c,DF P fn.results.toList with
  |some b,some r=>some ⟨fn.ntmps,r,b⟩
  |_,_=>none
 |none=>none
end
end Go.Abs
namespace Go.Abs
theorem jm {w:World} {b:Nat} {vs:Array Value} {T:TypeId} {fr:Nat×Nat} (h:w.heap[b]? = some (.cells vs T fr)) (o:Nat):w.cell? ⟨b,o,none⟩=vs[o]? :=by
 simp[World.cell?,h]
theorem kv {w:World} {b:Nat} {o:Obj} (h:w.heap[b]? = some o):b<w.heap.size:=(Array.getElem?_eq_some_iff.1 h).1
section
variable {M:Map} {s:St} {w:World}
theorem Rel.A5 (r:Rel M s w) {b o:Nat} {v:Value} (h:M.G b o=some v):b<w.heap.size:=World.block_lt_of_cell? w _ (r.comm b o v h).1
theorem Rel.Oa (r:Rel M s w) {b:Nat} (h:w.heap.size≤b) (o:Nat):M.G b o=none:=by
 cases e:M.G b o with
 |none=>rfl
 |some v=>have:=r.A5 e;omega
theorem Rel.qw (r:Rel M s w) {o:Nat} (h:o<s.ah.length):M.mu o<w.heap.size:=by
 obtain⟨vs,T,hh,_⟩:=r.obj o _ (List.getElem?_eq_getElem h)
 exact hh.lt
theorem Rel.sM (r:Rel M s w) {t b c z:Nat} (h:s.live t) (e:M.be t=some (b,c,z)):b<w.heap.size:=by
 obtain⟨n,hn⟩:=h
 rcases r.tok t n hn with ⟨h1,_⟩|⟨b',cap,size,vs,T,h1,h2,_⟩
 ·rw[e]at h1;cases h1
 ·rw[e]at h1;cases h1;exact kv h2
theorem Rel.of_heap (r:Rel M s w) {w':World} (h:w'.heap=w.heap):Rel M s w':=by
 refine⟨fun b o v e=>?_,fun o ds e=>?_,r.jZ,r.inj,fun t n e=>?_,r.fh,r.fX⟩
 ·obtain⟨h1,h2⟩:=r.comm b o v e
  refine⟨?_,h2⟩
  rw[← h1];simp[World.cell?,h]
 ·rw[h];exact r.obj o ds e
 ·rw[h];exact r.tok t n e
theorem Ext.of_heap {w':World} (h:w'.heap=w.heap) (h1:w'.os=w.os) (h2:w'.tape=w.tape) (h3:w'.output=w.output):Ext M s w M s w':=
 ⟨Le.refl M s,fun _ _ _ _=>by rw[h],fun o h h'=>by rcases h with h|h;omega;exact(h rfl).elim,fun t b c z h e=> .inl ⟨h,c,z,e⟩,fun _ _ h=>(h rfl).elim,by rw[h];exact Nat.le_refl _,h1,h2,h3⟩
def Map.ei (M:Map) (n b:Nat) (x:Ob:= .any):Map:= {M with loc:=fun o=>if o=n then(b,x)else M.loc o}
theorem tj (M:Map) {n:Nat} (b:Nat) (x:Ob) {o:Nat} (ho:o<n):(M.ei n b x).loc o=M.loc o:=by simp[Map.ei];omega
theorem sm (s:St) (b:Nat) (ds:List D) (x:Ob:= .any):Le M s (M.ei s.ah.length b x) {s with ah:=s.ah++ [ds]}:=
 ⟨fun _ _ _ h=>h,by simp,fun o ho=>by rw[tj M b x ho];exact .refl _,Nat.le_refl _,fun t n _ h=>⟨n,h,Nat.le_refl _,fun _=>rfl⟩⟩
theorem Rel.Jy (r:Rel M s w) (ds:List D) (ob:Obj) (vs:Array Value) (T:TypeId) (x:Ob) (x7 : ∀ hp:Array Obj,hp[w.heap.size]? = some ob→iM hp (w.heap.size,x) vs T) (hx : ∀ T',x.ty? = some T'→T'=T) (hl:vs.size=ds.length) (h1 : ∀ v∈vs,v.oneCell'=true)
 (h2 : ∀ (i:Nat) (d:D) (v:Value),ds[i]? = some d→vs[i]? = some v→RD (M.ei s.ah.length w.heap.size x) {s with ah:=s.ah++ [ds]} d v) :
 Rel (M.ei s.ah.length w.heap.size x) {s with ah:=s.ah++ [ds]} (w.alloc ob)∧
 Ext M s w (M.ei s.ah.length w.heap.size x) {s with ah:=s.ah++ [ds]} (w.alloc ob):=by
 have le:=sm (M:=M) s w.heap.size ds x
 have jw : ∀ o,o<s.ah.length→(M.ei s.ah.length w.heap.size x).loc o=M.loc o:=fun o ho=>tj M _ x ho
 have mX : ∀ o,o<s.ah.length→(M.ei s.ah.length w.heap.size x).mu o=M.mu o:=fun o ho=>congrArg Prod.fst (jw o ho)
 have dv:(M.ei s.ah.length w.heap.size x).mu s.ah.length=w.heap.size:=by simp[Map.ei,Map.mu]
 have agI:(M.ei s.ah.length w.heap.size x).ty s.ah.length=x.ty? :=by simp[Map.ei,Map.ty]
 have agJ:(M.ei s.ah.length w.heap.size x).loc s.ah.length=(w.heap.size,x):=by simp[Map.ei]
 refine⟨⟨fun b o v e=>?_,fun o tn e=>?_,fun o ho off=>?_,fun o o' ho nL e=>?_,fun t n e=>?_,fun t b c z o hl e ho=>?_,fun t t' b c z c' z' h h' e e'=>r.fX t t' b c z c' z' h h' e e'⟩, ?_⟩
 ·obtain⟨h3,h4⟩:=r.comm b o v e
  refine⟨?_,h4⟩
  rw[World.cell?_alloc_lt]
  ·exact h3
  ·exact r.A5 e
 ·rcases Nat.lt_or_ge o s.ah.length with ho | ho
  ·rw [List.getElem?_append_left ho]at e
   obtain⟨fD,T',h3,h4,h5,h6⟩:=r.obj o tn e
   refine⟨fD,T', ?_,h4,⟨h5.1,by rw[le.ty o ho];exact h5.2⟩,fun i d v e1 e2=>(h6 i d v e1 e2).mono le⟩
   rw[jw o ho];exact h3.keep (heap_alloc_old w _ _ h3.lt)
  ·rw [List.getElem?_append_right ho]at e
   have:o=s.ah.length:=by
    have:=(List.getElem?_eq_some_iff.1 e).1
    simp at this;omega
   subst this
   simp at e;subst e
   refine⟨vs,T, ?_,hl,⟨h1,by rw[agI];exact hx⟩,fun i d v e1 e2=>h2 i d v e1 e2⟩
   rw[agJ];exact x7 _ (heap_alloc_new w _)
 ·simp at ho
  rcases Nat.lt_or_ge o s.ah.length with h3|h3
  ·rw[mX o h3];exact r.jZ o h3 off
  ·have:o=s.ah.length:=by omega
   subst this
   rw[dv];exact r.Oa (Nat.le_refl _) off
 ·simp at ho nL
  rcases Nat.lt_or_ge o s.ah.length with h3|h3<;>rcases Nat.lt_or_ge o' s.ah.length with h4|h4
  ·rw[mX o h3,mX o' h4]at e;exact r.inj o o' h3 h4 e
  ·have:o'=s.ah.length:=by omega
   subst this
   rw[mX o h3,dv]at e
   have:=r.qw h3;omega
  ·have:o=s.ah.length:=by omega
   subst this
   rw[mX o' h4,dv]at e
   have:=r.qw h4;omega
  ·omega
 ·rcases r.tok t n e with h3 | ⟨b,cap,size,fD,T',h3,h4,h5⟩
  ·exact .inl h3
  ·exact .inr ⟨b,cap,size,fD,T',h3,by rw[heap_alloc_old w _ _ (kv h4)];exact h4,h5⟩
 ·simp at ho
  rcases Nat.lt_or_ge o s.ah.length with h3|h3
  ·rw[mX o h3];exact r.fh t b c z o hl e h3
  ·have:o=s.ah.length:=by omega
   subst this
   rw[dv]
   have:=r.sM hl e;omega
 ·refine⟨le,fun b hb _ _=>heap_alloc_old w _ b hb,fun o h3 h4=> ?_,fun t b c z h e=> .inl ⟨h,c,z,e⟩,fun _ _ h=>(h rfl).elim,by simp,rfl,rfl,rfl⟩
  simp at h4
  rcases Nat.lt_or_ge o s.ah.length with h5|h5
  ·rcases h3 with h3 | h3
   ·omega
   ·exact(h3 (mX o h5)).elim
  have:o=s.ah.length:=by omega
  subst this
  rw[dv];exact Nat.le_refl _
theorem Rel.Jz (r:Rel M s w) (ds:List D) (vs:Array Value) (T:TypeId) (x:Ob) (hk:x.plain) (hx : ∀ T',x.ty? = some T'→T'=T) (hl:vs.size=ds.length) (h1 : ∀ v∈vs,v.oneCell'=true)
 (h2 : ∀ (i:Nat) (d:D) (v:Value),ds[i]? = some d→vs[i]? = some v→RD (M.ei s.ah.length w.heap.size x) {s with ah:=s.ah++ [ds]} d v) :
 Rel (M.ei s.ah.length w.heap.size x) {s with ah:=s.ah++ [ds]} (w.alloc (.cells vs T))∧
 Ext M s w (M.ei s.ah.length w.heap.size x) {s with ah:=s.ah++ [ds]} (w.alloc (.cells vs T)):=
 r.Jy ds _ vs T x (fun hp e=>iM.of e hk) hx hl h1 h2
theorem Rel.ei (r:Rel M s w) (ds:List D) (vs:Array Value) (T:TypeId) (hl:vs.size=ds.length) (h1 : ∀ v∈vs,v.oneCell'=true)
 (h2 : ∀ (i:Nat) (d:D) (v:Value),ds[i]? = some d→vs[i]? = some v→RD M s d v) :
 Rel (M.ei s.ah.length w.heap.size) {s with ah:=s.ah++ [ds]} (w.alloc (.cells vs T))∧
 Ext M s w (M.ei s.ah.length w.heap.size) {s with ah:=s.ah++ [ds]} (w.alloc (.cells vs T)):=
 r.Jz ds vs T .any trivial (fun _ h=>by cases h) hl h1 fun i d v e1 e2=>(h2 i d v e1 e2).mono (sm s w.heap.size ds)
theorem rk (cs:List D) (off:Nat) (r:List D) (h:off+r.length≤cs.length) (i:Nat) :
 (iG cs off r)[i]? = if i<off then cs[i]? else if i<off+r.length then r[i - off]? else cs[i]? :=by
 unfold iG
 have hl:(cs.take off).length=off:=by simp;omega
 split
 ·rename_i h1
  rw[List.append_assoc,List.getElem?_append_left (by omega),List.getElem?_take_of_lt h1]
 ·rename_i h1
  rw[List.append_assoc,List.getElem?_append_right (by omega),hl]
  split
  ·rename_i h2
   rw[List.getElem?_append_left (by omega)]
  ·rename_i h2
   rw[List.getElem?_append_right (by omega),List.getElem?_drop]
   congr 1;omega
theorem tV (cs:List D) (off:Nat) (r:List D) (h:off+r.length≤cs.length):(iG cs off r).length=cs.length:=by
 unfold iG;simp;omega
theorem Rel.Oc (P:Program) (r:Rel M s w) {o off:Nat} {cs:List D} (he:s.ah[o]? = some cs) (hk:(M.ob o).plain) (row:List D) (us:List Value) (hu:us.length=row.length) (jx:off+row.length≤cs.length)
 (h1 : ∀ u∈us,u.oneCell'=true) (h2 : ∀ (i:Nat) (d:D) (v:Value),row[i]? = some d→us[i]? = some v→RD M s d v) :
 ∃ w',(storeCells (⟨M.mu o,off,none⟩:Addr) us).run P w = .ok () w'∧Rel M {s with ah:=s.ah.set o (iG cs off row)} w'∧Ext M s w M {s with ah:=s.ah.set o (iG cs off row)} w':=by
 obtain⟨vs,T,hh,hs,⟨ic,Yh⟩,jC⟩:=r.obj o cs he
 replace hh:=hh.cells hk
 have ho:o<s.ah.length:=(List.getElem?_eq_some_iff.1 he).1
 have jV:=run_storeCells_at P (M.mu o) off T us 0 vs w hh (by omega) h1
 simp only[Nat.add_zero]at jV
 have le:Le M s M {s with ah:=s.ah.set o (iG cs off row)}:=
  ⟨fun _ _ _ h=>h,by simp,fun _ _=> .refl _,Nat.le_refl _,fun t n _ h=>⟨n,h,Nat.le_refl _,fun _=>rfl⟩⟩
 generalize dv:(vs.toList.take off++us++vs.toList.drop (off+us.length)).toArray=ja at jV
 have rl:ja.size=vs.size:=by rw[← dv];simp;omega
 have hE : ∀ i,ja[i]? = if i<off then vs[i]? else if i<off+row.length then us[i - off]? else vs[i]? :=by
  intro i
  rw[← dv]
  simp only[List.getElem?_toArray]
  have hl:(vs.toList.take off).length=off:=by simp;omega
  split
  ·rename_i h3
   rw[List.append_assoc,List.getElem?_append_left (by omega),List.getElem?_take_of_lt h3];simp
  ·rename_i h3
   rw[List.append_assoc,List.getElem?_append_right (by omega),hl]
   split
   ·rename_i h4
    rw[List.getElem?_append_left (by omega)]
   ·rename_i h4
    rw[List.getElem?_append_right (by omega),List.getElem?_drop]
    rw[show off+us.length+(i - off - us.length)=i by omega];simp
 have lZ : ∀ b,b≠M.mu o→(w.setRow (M.mu o) ja).heap[b]? = w.heap[b]? :=fun b hb=>setRow_other w (M.mu o) b _ hb
 refine⟨_,jV,⟨fun b q v e=>?_,fun o' ds e=>?_,fun q hq xl=>r.jZ q (by simpa using hq) xl,fun q q' hq mJ e=>r.inj q q' (by simpa using hq) (by simpa using mJ) e,fun t n e=>?_,
  fun t b c z q hl e hq=>r.fh t b c z q hl e (by simpa using hq),fun t t' b c z c' z' h h' e e'=>r.fX t t' b c z c' z' h h' e e'⟩, ?_⟩
 ·obtain⟨h3,h4⟩:=r.comm b q v e
  refine⟨?_,h4⟩
  have hb:b≠M.mu o:=fun eq=>by subst eq;rw[r.jZ o ho q]at e;cases e
  rw[← h3]
  simp[World.cell?,lZ b hb]
 ·rw [List.getElem?_set]at e
  split at e
  ·rename_i heq
   subst heq
   simp at e
   obtain⟨_,rfl⟩:=e
   refine⟨ja,T,iM.of (l:=M.loc o) (setRow_heap w (M.mu o) vs ja T (0,0) hh) hk,by rw[rl,hs,tV cs off row jx],⟨fun v hv=>?_,Yh⟩,fun i d v e1 e2=>?_⟩
   ·rw [← dv]at hv
    simp at hv
    rcases hv with hv|hv|hv
    ·exact ic v (Array.mem_toList_iff.1 (List.mem_of_mem_take hv))
    ·exact h1 v hv
    ·exact ic v (Array.mem_toList_iff.1 (List.mem_of_mem_drop hv))
   ·rw [rk cs off row jx]at e1
    rw[hE]at e2
    split at e1
    ·rename_i h3;simp only[h3,if_true]at e2;exact(jC i d v e1 e2).mono le
    ·rename_i h3
     simp only[h3,if_false]at e2
     split at e1
     ·rename_i h4;simp only[h4,if_true]at e2;exact(h2 _ d v e1 e2).mono le
     ·rename_i h4;simp only[h4,if_false]at e2;exact(jC i d v e1 e2).mono le
  ·rename_i fl
   obtain⟨fD,T',h3,h4,h5,h6⟩:=r.obj o' ds e
   have nL:o'<s.ah.length:=(List.getElem?_eq_some_iff.1 e).1
   refine⟨fD,T', ?_,h4,h5,fun i d v e1 e2=>(h6 i d v e1 e2).mono le⟩
   exact h3.keep (lZ _ (fun eq=>fl (r.inj o o' ho nL eq.symm)))
 ·rcases r.tok t n e with h3 | ⟨b,cap,size,fD,T',h3,h4,h5⟩
  ·exact .inl h3
  ·refine .inr ⟨b,cap,size,fD,T',h3, ?_,h5⟩
   rw[lZ b (fun eq=>r.fh t b cap size o ⟨n,e⟩ h3 ho eq.symm)];exact h4
 ·refine⟨le,fun b hb h3 _=>lZ b (fun eq=>h3 o ho eq.symm),fun q h3 h4=> ?_,fun t b c z h e=> .inl ⟨h,c,z,e⟩,fun _ _ h=>(h rfl).elim,by simp,rfl,rfl,rfl⟩
  simp at h4;rcases h3 with h3|h3;omega;exact(h3 rfl).elim
def Map.fK (M:Map) (b n:Nat) (vs:Array Value):Map:= {M with G:=fun b' o=>if b'=b then(if o<n then vs[o]? else none)else M.G b' o}
theorem RO (r:Rel M s w) (n:Nat) (vs:Array Value):Le M s (M.fK w.heap.size n vs) s:=
 ⟨fun b o v h=>by
  have hb:b≠w.heap.size:=fun e=>by have:=r.A5 h;omega
  simp[Map.fK,hb,h],Nat.le_refl _,fun _ _=> .refl _,Nat.le_refl _,fun t n _ h=>⟨n,h,Nat.le_refl _,fun _=>rfl⟩⟩
theorem Rel.fK (r:Rel M s w) (n:Nat) (vs:Array Value) (T:TypeId) (fr:Nat×Nat) (h1 : ∀ v∈vs,v.oneCell'=true) :
 Rel (M.fK w.heap.size n vs) s (w.alloc (.cells vs T fr))∧Ext M s w (M.fK w.heap.size n vs) s (w.alloc (.cells vs T fr)):=by
 have le:=RO r n vs
 have hold : ∀ b,b<w.heap.size→∀ o,(M.fK w.heap.size n vs).G b o=M.G b o:=fun b hb o=>by
  have:b≠w.heap.size:=by omega
  simp[Map.fK,this]
 refine⟨⟨fun b o v e=>?_,fun o ds e=>?_,fun o ho off=>?_,r.inj,fun t k e=>?_,r.fh,r.fX⟩, ?_⟩
 ·by_cases hb:b=w.heap.size
  ·subst hb
   simp[Map.fK]at e
   obtain⟨_,e⟩:=e
   refine⟨by rw[jm (heap_alloc_new w _)];exact e,h1 v (Array.mem_of_getElem? e)⟩
  ·simp [Map.fK,hb]at e
   obtain⟨h3,h4⟩:=r.comm b o v e
   refine⟨?_,h4⟩
   rw[World.cell?_alloc_lt]
   ·exact h3
   ·exact r.A5 e
 ·obtain⟨fD,T',h3,h4,h5,h6⟩:=r.obj o ds e
  exact⟨fD,T',h3.keep (heap_alloc_old w _ _ h3.lt),h4,h5,fun i d v e1 e2=>(h6 i d v e1 e2).mono le⟩
 ·rw [hold]
  ·exact r.jZ o ho off
  ·exact r.qw ho
 ·rcases r.tok t k e with h3 | ⟨b,cap,size,fD,T',h3,h4,h5,h6,h7⟩
  ·exact .inl h3
  ·exact .inr ⟨b,cap,size,fD,T',h3,by rw[heap_alloc_old w _ _ (kv h4)];exact h4,h5,h6,fun off ho=>by rw[hold b (kv h4)];exact h7.1 off ho,h7.2⟩
 ·refine⟨le,fun b hb _ _=>heap_alloc_old w _ b hb,fun o h3 h4=>by rcases h3 with h3 | h3;omega;exact(h3 rfl).elim,fun t b c z h e=> .inl ⟨h,c,z,e⟩,fun b o h=> ?_,by simp,rfl,rfl,rfl⟩
  rcases Nat.lt_or_ge b w.heap.size with hb|hb
  ·exact(h (hold b hb o)).elim
  ·exact .inl hb
def Map.e7 (M:Map) (t:Nat) (x:Option (Nat×Nat×Nat)):Map:= {M with be:=fun t'=>if t'=t then x else M.be t'}
theorem Rel.Yi (r:Rel M s w) (n b cap size:Nat) (vs:Array Value) (T:TypeId) (hb:w.heap[b]? = some (.cells vs T (0,0))) (ej:vs.size=cap*zs size) (hn:n≤cap) (hy:size=0→T=pH)
 (hG : ∀ off,n*zs size≤off→M.G b off=none) (ho : ∀ o,o<s.ah.length→M.mu o≠b) (ht : ∀ t c z,s.live t→M.be t≠some (b,c,z)) :
 Rel (M.e7 s.aw.length (some (b,cap,size))) {s with aw:=s.aw++ [some n]} w∧Le M s (M.e7 s.aw.length (some (b,cap,size))) {s with aw:=s.aw++ [some n]}:=by
 have iN : ∀ t,St.live {s with aw:=s.aw++ [some n]} t→s.live t∨t=s.aw.length:=by
  rintro t ⟨k,hk⟩
  rcases Nat.lt_or_ge t s.aw.length with h|h
  ·rw[List.getElem?_append_left h]at hk;exact .inl ⟨k,hk⟩
  ·have:=(List.getElem?_eq_some_iff.1 hk).1
   simp at this;exact .inr (by omega)
 have hC : ∀ t,s.live t→t<s.aw.length:=fun t ⟨k,hk⟩=>(List.getElem?_eq_some_iff.1 hk).1
 have hold : ∀ t,t<s.aw.length→(M.e7 s.aw.length (some (b,cap,size))).be t=M.be t:=fun t h=>by simp[Map.e7];omega
 have dv:(M.e7 s.aw.length (some (b,cap,size))).be s.aw.length=some (b,cap,size):=by simp[Map.e7]
 have le:Le M s (M.e7 s.aw.length (some (b,cap,size))) {s with aw:=s.aw++ [some n]}:=
  ⟨fun _ _ _ h=>h,Nat.le_refl _,fun _ _=> .refl _,by simp,fun t k h e=>by
   rw[List.getElem?_append_left h]at e
   exact⟨k,e,Nat.le_refl _,fun _=>hold t h⟩⟩
 refine⟨⟨r.comm,fun o ds e=>?_,r.jZ,r.inj,fun t k e=>?_,fun t b' c z o hl e nL=>?_,fun t t' b' c z c' z' h h' e e'=>?_⟩,le⟩
 ·obtain⟨fD,T',h3,h4,h5,h6⟩:=r.obj o ds e
  exact⟨fD,T',h3,h4,h5,fun i d v e1 e2=>(h6 i d v e1 e2).mono le⟩
 ·rcases Nat.lt_or_ge t s.aw.length with h | h
  ·rw [List.getElem?_append_left h]at e
   rw[hold t h];exact r.tok t k e
  ·have:=(List.getElem?_eq_some_iff.1 e).1
   simp at this
   have:t=s.aw.length:=by omega
   subst this
   simp at e;subst e
   exact .inr ⟨b,cap,size,vs,T,dv,hb,ej,hn,hG,hy⟩
 ·rcases iN t hl with h | h
  ·rw[hold t (hC t h)]at e;exact r.fh t b' c z o h e nL
  ·subst h;rw[dv]at e;cases e;exact ho o nL
 ·rcases iN t h with h | h <;> rcases iN t' h' with h' | h'
  ·rw[hold t (hC t h)]at e;rw[hold t' (hC t' h')]at e';exact r.fX t t' b' c z c' z' h h' e e'
  ·subst h';rw[dv]at e';cases e';rw[hold t (hC t h)]at e;exact(ht t c z h e).elim
  ·subst h;rw[dv]at e;cases e;rw[hold t' (hC t' h')]at e';exact(ht t' c' z' h' e').elim
  ·omega
theorem Rel.agK (r:Rel M s w) (t n n' b cap size:Nat) (vs:Array Value) (T:TypeId) (Et:s.aw[t]? = some (some n)) (hnn:n<n') (hb:w.heap[b]? = some (.cells vs T (0,0))) (ej:vs.size=cap*zs size) (hn:n'≤cap) (hy:size=0→T=pH)
 (hG : ∀ off,n'*zs size≤off→M.G b off=none) (ho : ∀ o,o<s.ah.length→M.mu o≠b) (ht : ∀ t c z,s.live t→M.be t≠some (b,c,z)) :
 Rel (M.e7 t (some (b,cap,size))) {s with aw:=s.aw.set t (some n')} w∧Le M s (M.e7 t (some (b,cap,size))) {s with aw:=s.aw.set t (some n')}:=by
 have x8:t<s.aw.length:=(List.getElem?_eq_some_iff.1 Et).1
 have iN : ∀ q,St.live {s with aw:=s.aw.set t (some n')} q→s.live q:=by
  rintro q ⟨k,hk⟩
  rw[List.getElem?_set]at hk
  split at hk
  ·rename_i h;subst h;exact⟨n,Et⟩
  ·exact⟨k,hk⟩
 have hold : ∀ q,q≠t→(M.e7 t (some (b,cap,size))).be q=M.be q:=fun q h=>by simp[Map.e7,h]
 have dv:(M.e7 t (some (b,cap,size))).be t=some (b,cap,size):=by simp[Map.e7]
 have le:Le M s (M.e7 t (some (b,cap,size))) {s with aw:=s.aw.set t (some n')}:=
  ⟨fun _ _ _ h=>h,Nat.le_refl _,fun _ _=> .refl _,by simp,fun q k h e=>by
   rw[List.getElem?_set]at e
   split at e
   ·rename_i h2;subst h2
    simp at e;subst e
    exact⟨n,Et,by omega,fun h=>by omega⟩
   ·rename_i h2
    exact⟨k,e,Nat.le_refl _,fun _=>hold q (fun h=>h2 h.symm)⟩⟩
 refine⟨⟨r.comm,fun o ds e=>?_,r.jZ,r.inj,fun q k e=>?_,fun q b' c z o hl e nL=>?_,fun q q' b' c z c' z' h h' e e'=>?_⟩,le⟩
 ·obtain⟨fD,T',h3,h4,h5,h6⟩:=r.obj o ds e
  exact⟨fD,T',h3,h4,h5,fun i d v e1 e2=>(h6 i d v e1 e2).mono le⟩
 ·rw [List.getElem?_set]at e
  split at e
  ·rename_i h2;subst h2
   simp at e;subst e
   exact .inr ⟨b,cap,size,vs,T,dv,hb,ej,hn,hG,hy⟩
  ·rename_i h2
   rw[hold q (fun h=>h2 h.symm)];exact r.tok q k e
 ·by_cases h:q=t
  ·subst h;rw[dv]at e;cases e;exact ho o nL
  ·rw[hold q h]at e;exact r.fh q b' c z o (iN q hl) e nL
 ·by_cases h1:q=t <;> by_cases h2:q'=t
  ·omega
  ·subst h1;rw[dv]at e;cases e;rw[hold q' h2]at e';exact(ht q' c' z' (iN q' h') e').elim
  ·subst h2;rw[dv]at e';cases e';rw[hold q h1]at e;exact(ht q c z (iN q h) e).elim
  ·rw[hold q h1]at e;rw[hold q' h2]at e';exact r.fX q q' b' c z c' z' (iN q h) (iN q' h') e e'
def Map.fix (M:Map) (b lo:Nat) (us:List Value):Map:=
 {M with G:=fun b' o=>if b'=b∧lo≤o∧o<lo+us.length then us[o - lo]? else M.G b' o}
theorem Rel.agL (r:Rel M s w) (t n m b cap z size:Nat) (us:List Value) (hz:zs z=size) (Et:s.aw[t]? = some (some n)) (kW:M.be t=some (b,cap,z)) (Dh:us.length=m*size) (fP:n+m≤cap) (hm:0<m)
 (h1 : ∀ u∈us,u.oneCell'=true) (vs:Array Value) (T:TypeId) (hh:w.heap[b]? = some (.cells vs T (0,0))) (ej:vs.size=cap*size) (hy:z=0→T=pH) :
 Rel (M.fix b (n*size) us) {s with aw:=s.aw.set t (some (n+m))} (w.setRow b (vs.toList.take (n*size)++us++vs.toList.drop (n*size+us.length)).toArray)∧
 Ext M s w (M.fix b (n*size) us) {s with aw:=s.aw.set t (some (n+m))} (w.setRow b (vs.toList.take (n*size)++us++vs.toList.drop (n*size+us.length)).toArray):=by
 have x8:t<s.aw.length:=(List.getElem?_eq_some_iff.1 Et).1
 have x9:s.live t:=⟨n,Et⟩
 have Od : ∀ off,n*size≤off→M.G b off=none:=by
  rcases r.tok t n Et with ⟨h3,_⟩|⟨b',qJ,ze,fD,T',h3,h4,h5,h6,h7⟩
  ·rw[kW]at h3;cases h3
  ·rw[kW]at h3;cases h3;rw[← hz];exact h7.1
 have jx:n*size+us.length≤vs.size:=by rw[Dh,ej, ← Nat.add_mul];exact Nat.mul_le_mul_right _ fP
 have iN : ∀ q,St.live {s with aw:=s.aw.set t (some (n+m))} q→s.live q:=by
  rintro q ⟨k,hk⟩
  rw[List.getElem?_set]at hk
  split at hk
  ·rename_i h;subst h;exact x9
  ·exact⟨k,hk⟩
 generalize dv:(vs.toList.take (n*size)++us++vs.toList.drop (n*size+us.length)).toArray=ja
 have rl:ja.size=vs.size:=by rw[← dv];simp;omega
 have hE : ∀ i,ja[i]? = if i<n*size then vs[i]? else if i<n*size+us.length then us[i - n*size]? else vs[i]? :=by
  intro i
  rw[← dv]
  simp only[List.getElem?_toArray]
  have hl:(vs.toList.take (n*size)).length=n*size:=by simp;omega
  split
  ·rename_i h3
   rw[List.append_assoc,List.getElem?_append_left (by omega),List.getElem?_take_of_lt h3];simp
  ·rename_i h3
   rw[List.append_assoc,List.getElem?_append_right (by omega),hl]
   split
   ·rename_i h4
    rw[List.getElem?_append_left (by omega)]
   ·rename_i h4
    rw[List.getElem?_append_right (by omega),List.getElem?_drop]
    rw[show n*size+us.length+(i - n*size - us.length)=i by omega];simp
 have eD:(w.setRow b ja).heap[b]? = some (.cells ja T (0,0)):=setRow_heap w b vs ja T (0,0) hh
 have lZ : ∀ q,q≠b→(w.setRow b ja).heap[q]? = w.heap[q]? :=fun q hq=>setRow_other w b q _ hq
 have le:Le M s (M.fix b (n*size) us) {s with aw:=s.aw.set t (some (n+m))}:=by
  refine⟨fun b' o v h=>?_,Nat.le_refl _,fun _ _=> .refl _,by simp,fun q k h e=>?_⟩
  ·show(if b'=b∧n*size≤o∧o<n*size+us.length then us[o - n*size]? else M.G b' o)=some v
   rw[if_neg]
   ·exact h
   ·rintro⟨rfl,h3,_⟩;rw[Od o h3]at h;cases h
  ·rw [List.getElem?_set]at e
   split at e
   ·rename_i h2;subst h2
    simp at e;subst e
    exact⟨n,Et,by omega,fun h=>by omega⟩
   ·exact⟨k,e,Nat.le_refl _,fun _=>rfl⟩
 have qh : ∀ b' o,b'≠b→(M.fix b (n*size) us).G b' o=M.G b' o:=fun b' o h=>by simp[Map.fix,h]
 refine⟨⟨fun b' o v e=>?_,fun o ds e=>?_,fun o ho off=>?_,r.inj,fun q k e=>?_,fun q b' c z o hl e nL=>r.fh q b' c z o (iN q hl) e nL,
  fun q q' b' c z c' z' h h' e e'=>r.fX q q' b' c z c' z' (iN q h) (iN q' h') e e'⟩, ?_⟩
 ·by_cases hb:b'=b
  ·subst hb
   rw[jm eD,hE]
   have e':(if b'=b'∧n*size≤o∧o<n*size+us.length then us[o - n*size]? else M.G b' o)=some v:=e
   by_cases h3:n*size≤o
   ·by_cases h4:o<n*size+us.length
    ·rw [if_pos ⟨rfl,h3,h4⟩]at e'
     rw[if_neg (by omega),if_pos h4]
     exact⟨e',h1 v (List.mem_of_getElem? e')⟩
    ·rw[if_neg (fun h=>h4 h.2.2),Od o h3]at e';cases e'
   ·rw [if_neg (fun h=>h3 h.2.1)]at e'
    obtain⟨h5,h6⟩:=r.comm b' o v e'
    rw[jm hh]at h5
    rw[if_pos (by omega)]
    exact⟨h5,h6⟩
  ·rw [qh b' o hb]at e
   obtain⟨h5,h6⟩:=r.comm b' o v e
   refine⟨?_,h6⟩
   rw[← h5]
   simp[World.cell?,lZ b' hb]
 ·obtain⟨fD,T',h3,h4,h5,h6⟩:=r.obj o ds e
  have ho:o<s.ah.length:=(List.getElem?_eq_some_iff.1 e).1
  refine⟨fD,T', ?_,h4,h5,fun i d v e1 e2=>(h6 i d v e1 e2).mono le⟩
  exact h3.keep (lZ _ (r.fh t b cap z o x9 kW ho))
 ·show(M.fix b (n*size) us).G (M.mu o) off=none
  rw[qh _ _ (r.fh t b cap z o x9 kW ho)];exact r.jZ o ho off
 ·rw [List.getElem?_set]at e
  split at e
  ·rename_i h2;subst h2
   simp at e;subst e
   refine .inr ⟨b,cap,z,ja,T,kW,eD,by rw[rl,ej,hz],fP,fun off ho=>?_,hy⟩
   rw[hz]at ho
   show(if b=b∧n*size≤off∧off<n*size+us.length then us[off - n*size]? else M.G b off)=none
   rw[Nat.add_mul]at ho
   rw[if_neg (by rintro⟨_,_,h⟩;omega)]
   exact Od off (by omega)
  ·rename_i h2
   rcases r.tok q k e with h3|⟨b',qJ,ze,fD,T',h3,h4,h5,h6,h7⟩
   ·exact .inl h3
   ·have fl:b'≠b:=fun h=>h2 (r.fX t q b cap z qJ ze x9 ⟨k,e⟩ kW (by rw [h3,h]))
    exact .inr ⟨b',qJ,ze,fD,T',h3,by rw[lZ b' fl];exact h4,h5,h6,fun off ho=>by rw[qh b' off fl];exact h7.1 off ho,h7.2⟩
 ·refine⟨le,fun q _ _ h4=>lZ q (fun h=>h4 t cap z x9 (by rw [kW,h])),fun o h3 h4=>by simp at h4;rcases h3 with h3 | h3;omega;exact(h3 rfl).elim,fun q b' c z h e=> .inl ⟨iN q h,c,z,e⟩,fun b' o h=> ?_,by simp,rfl,rfl,rfl⟩
  by_cases hb:b'=b
  ·exact .inr ⟨t,cap,z,x9,by rw[kW,hb]⟩
  ·exact(h (qh b' o hb)).elim
theorem Rel.freeze (r:Rel M s w) {b:Nat} (off n:Nat) (ho : ∀ o,o<s.ah.length→M.mu o≠b) (ht : ∀ t c z,s.live t→M.be t≠some (b,c,z)) :
 Rel M s (w.freeze ⟨b,off,none⟩ n)∧(∀ q,q≠b→(w.freeze ⟨b,off,none⟩ n).heap[q]? = w.heap[q]?)∧(w.freeze ⟨b,off,none⟩ n).heap.size=w.heap.size∧
 (w.freeze ⟨b,off,none⟩ n).os=w.os∧(w.freeze ⟨b,off,none⟩ n).tape=w.tape∧(w.freeze ⟨b,off,none⟩ n).output=w.output:=by
 by_cases hn:n=0
 ·simp[World.freeze,hn,r]
 ·have hh : ∀ q,q≠b→(w.freeze ⟨b,off,none⟩ n).heap[q]? = w.heap[q]? :=fun q hq=>by
   simp[World.freeze,hn,Array.getElem?_modify,Ne.symm hq]
  have kM : ∀ q o,(w.freeze ⟨b,off,none⟩ n).cell? ⟨q,o,none⟩=w.cell? ⟨q,o,none⟩:=by
   intro q o
   by_cases hq:q=b
   ·subst hq
    unfold World.cell?
    simp only[World.freeze,hn,if_false,Array.getElem?_modify,if_true]
    cases h:w.heap[q]? with
    |none=>rfl
    |some x=>cases x<;>rfl
   ·simp[World.cell?,hh q hq]
  refine⟨⟨fun q o v e=>?_,fun o ds e=>?_,r.jZ,r.inj,fun t k e=>?_,r.fh,r.fX⟩,hh,by simp[World.freeze,hn],by simp[World.freeze,hn],by simp[World.freeze,hn],by simp[World.freeze,hn]⟩
  ·rw[kM];exact r.comm q o v e
  ·obtain⟨vs,T,h1,h2⟩:=r.obj o ds e
   exact⟨vs,T,h1.keep (hh _ (ho o (List.getElem?_eq_some_iff.1 e).1)),h2⟩
  ·rcases r.tok t k e with h3 | ⟨b',cap,size,vs,T,h3,h4,h5⟩
   ·exact .inl h3
   ·refine .inr ⟨b',cap,size,vs,T,h3, ?_,h5⟩
    rw[hh]
    ·exact h4
    ·rintro rfl;exact ht t cap size ⟨k,e⟩ h3
theorem Rel.agM (r:Rel M s w) (t:Nat):Rel M {s with aw:=s.aw.set t none} w∧Le M s M {s with aw:=s.aw.set t none}:=by
 have iN : ∀ q,St.live {s with aw:=s.aw.set t none} q→s.live q:=by
  rintro q ⟨k,hk⟩
  rw[List.getElem?_set]at hk
  split at hk
  ·split at hk<;>simp at hk
  ·exact⟨k,hk⟩
 have tW : ∀ (q k:Nat),(s.aw.set t none)[q]? = some (some k)→s.aw[q]? = some (some k):=by
  intro q k e
  rw[List.getElem?_set]at e
  split at e
  ·split at e<;>simp at e
  ·exact e
 have le:Le M s M {s with aw:=s.aw.set t none}:=
  ⟨fun _ _ _ h=>h,Nat.le_refl _,fun _ _=> .refl _,by simp,fun q k _ e=>⟨k,tW q k e,Nat.le_refl _,fun _=>rfl⟩⟩
 refine⟨⟨r.comm,fun o ds e=>?_,r.jZ,r.inj,fun q k e=>r.tok q k (tW q k e),fun q b' c z o hl e nL=>r.fh q b' c z o (iN q hl) e nL,
  fun q q' b' c z c' z' h h' e e'=>r.fX q q' b' c z c' z' (iN q h) (iN q' h') e e'⟩,le⟩
 obtain⟨fD,T',h3,h4,h5,h6⟩:=r.obj o ds e
 exact⟨fD,T',h3,h4,h5,fun i d v e1 e2=>(h6 i d v e1 e2).mono le⟩
end
end Go.Abs
namespace Go.Abs
section
variable {M:Map} {s:St} {w:World}
theorem RD.iB {k:IntKind} {n:Int} {v:Value} (h:RD M s (.int k n) v):v = .int k n:=by cases h;rfl
theorem RD.nU {b:Bool} {v:Value} (h:RD M s (.bool b) v):v = .bool b:=by cases h;rfl
theorem RD.lx {l:List UInt8} {v:Value} (h:RD M s (.str l) v):v = .string ⟨⟨l⟩⟩:=by cases h;rfl
theorem RD.sn {v:Value} (h:RD M s .ew v):v = .pointer none:=by cases h;rfl
theorem RD.sq {o off:Nat} {v:Value} (h:RD M s (.ptr o off) v):v = .pointer (some ⟨M.mu o,off,none⟩)∧o<s.ah.length:=by
 cases h with|ptr _ _ h hm=>exact⟨rfl,h⟩
theorem RD.A6 {o off:Nat} {v:Value} (h:RD M s (.ptr o off) v):(M.ob o).plain:=by cases h with|ptr _ _ h hm=>exact hm
theorem RD.JA {o:Nat} {v:Value} (h:RD M s (.fW o) v):v = .map (some (M.mu o))∧o<s.ah.length∧M.ob o = .map:=by cases h with|fW _ h hm=>exact⟨rfl,h,hm⟩
theorem RD.ya {z o g len:Nat} {v:Value} (h:RD M s (.eJ z o g len) v) : ∃ b cap A,v = .slice (some ⟨b,0,none⟩) len cap∧o<s.ah.length∧M.ob o = .arr z A∧A g=some (b,cap)∧len≤cap:=by
 cases h with|eJ _ _ _ _ b cap A h hm ha hl=>exact⟨b,cap,A,rfl,h,hm,ha,hl⟩
theorem RD.DG {o g off:Nat} {v:Value} (h:RD M s (.fv o g off) v) : ∃ z b cap A,v = .pointer (some ⟨b,off,none⟩)∧o<s.ah.length∧M.ob o = .arr z A∧A g=some (b,cap):=by
 cases h with|fv z _ _ _ b cap A h hm ha=>exact⟨z,b,cap,A,rfl,h,hm,ha⟩
theorem RD.DH {z:Nat} {v:Value} (h:RD M s (.eH z) v) : ∃ a,v = .slice a 0 0:=by cases h with|eH _ a=>exact⟨a,rfl⟩
theorem RD.M4 {f:Nat} {ds:List D} {v:Value} (h:RD M s (.gn f ds) v) : ∃ vs:Array Value,v = .func (.func f) #[] vs∧ds.length=vs.size∧
 ∀ (i:Nat) (d:D) (v:Value),ds[i]? = some d→vs[i]? = some v→RD M s d v:=by
 cases h with|gn _ _ vs h1 h2=>exact⟨vs,rfl,h1,h2⟩
theorem RD.zf {row:List D} {off:Nat} {v:Value} (h:RD M s (.dO row off) v) : ∃ b k,v = .pointer (some ⟨b,k+off,none⟩)∧
 (∀ (i:Nat) (d:D),row[i]? = some d→∃ u,M.G b (k+i)=some u)∧(∀ (i:Nat) (d:D) (u:Value),row[i]? = some d→M.G b (k+i)=some u→RD M s d u):=by
 cases h with|dO _ _ b k h1 h2=>exact⟨b,k,rfl,h1,h2⟩
theorem RD.Ga {ds:List D} {v:Value} (h:RD M s (.agg ds) v) : ∃ vs:Array Value,v = .agg vs∧ds.length=vs.size∧(∀ v∈vs,v.oneCell'=true)∧
 ∀ (i:Nat) (d:D) (v:Value),ds[i]? = some d→vs[i]? = some v→RD M s d v:=by
 cases h with|agg _ vs h1 h2 h3=>exact⟨vs,rfl,h1,h2,h3⟩
theorem RD.Hg {ds:List D} {v:Value} (h:RD M s (.tuple ds) v) : ∃ vs:Array Value,v = .tuple vs∧ds.length=vs.size∧
 ∀ (i:Nat) (d:D) (v:Value),ds[i]? = some d→vs[i]? = some v→RD M s d v:=by
 cases h with|tuple _ vs h1 h2=>exact⟨vs,rfl,h1,h2⟩
theorem RD.undef:RD M s (.tuple []) Go.undef:= .tuple [] #[] rfl (fun i d v h=>by simp at h)
theorem RD.jn {g:Tag} {z:Nat} {rows:List (List D)} {v:Value} (h:RD M s (.slice g z rows) v) :
 (rows = []∧v = .slice none 0 0∧iU M s g z 0 none 0)∨(rows = []∧g = .shared∧∃ a cap,v = .slice (some a) 0 cap)∨
 ∃ b k cap,v = .slice (some ⟨b,k,none⟩) rows.length cap∧rows.length≤cap∧(∀ row∈rows,row.length=z)∧
  (∀ (i:Nat) (row:List D) (j:Nat) (d:D),rows[i]? = some row→row[j]? = some d→∃ u,M.G b (k+(i*z+j))=some u)∧
  (∀ (i:Nat) (row:List D) (j:Nat) (d:D) (u:Value),rows[i]? = some row→row[j]? = some d→M.G b (k+(i*z+j))=some u→RD M s d u)∧
  iU M s g z rows.length (some (b,k)) cap:=by
 cases h with
 |jv _ _ cap hc ht=>subst hc;exact .inl ⟨rfl,rfl,ht⟩
 |mr _ a cap=>exact .inr (.inl ⟨rfl,rfl,a,cap,rfl⟩)
 |slice _ _ _ b k cap hl hs h1 h2 ht=>exact .inr (.inr ⟨b,k,cap,rfl,hl,hs,h1,h2,ht⟩)
theorem RD.row {d:D} {v:Value} (h:RD M s d v) {r:List D} (hr:d.row=some r):v.cells.size=r.length∧(∀ u∈v.cells,u.oneCell'=true)∧
 ∀ (i:Nat) (d':D) (u:Value),r[i]? = some d'→v.cells[i]? = some u→RD M s d' u:=by
 have one : ∀ (x:Value),x.oneCell'=true→x.cells = #[x]:=by intro x hx;cases x<;>first|rfl|(simp[Value.oneCell']at hx)
 have go : ∀ (x:Value),x.oneCell'=true→RD M s d x→d.row=some [d]→x.cells.size=r.length∧(∀ u∈x.cells,u.oneCell'=true)∧
  ∀ (i:Nat) (d':D) (u:Value),r[i]? = some d'→x.cells[i]? = some u→RD M s d' u:=by
  intro x hx hd h1
  rw[h1]at hr;cases hr
  rw[one x hx]
  refine⟨rfl,by simp[hx],fun i d' u e1 e2=>?_⟩
  cases i with
  |zero=>simp at e1 e2;subst e1;subst e2;exact hd
  |succ i=>simp at e1
 cases h with
 |junk v=>cases hr
 |int k n=>exact go _ rfl (.int k n) rfl
 |bool b=>exact go _ rfl (.bool b) rfl
 |str l=>exact go _ rfl (.str l) rfl
 |ew=>exact go _ rfl .ew rfl
 |val v hv=>exact go _ hv (.val v hv) rfl
 |fu T o v h ht hv=>exact go _ (by rcases hv with rfl|rfl<;>rfl) (.fu T o v h ht hv) rfl
 |ptr o off h hm=>exact go _ rfl (.ptr o off h hm) rfl
 |gn f ds vs hl h=>exact go _ rfl (.gn f ds vs hl h) rfl
 |fW o h hm=>exact go _ rfl (.fW o h hm) rfl
 |dO row off b k h1 h2=>exact go _ rfl (.dO row off b k h1 h2) rfl
 |jv g z cap hc ht=>exact go _ rfl (.jv g z cap hc ht) rfl
 |mr z a cap=>exact go _ rfl (.mr z a cap) rfl
 |slice g z rows b k cap hl hs h1 h2 ht=>exact go _ rfl (.slice g z rows b k cap hl hs h1 h2 ht) rfl
 |eJ z o g len b cap A h hm ha hl=>exact go _ rfl (.eJ z o g len b cap A h hm ha hl) rfl
 |fv z o g off b cap A h hm ha=>exact go _ rfl (.fv z o g off b cap A h hm ha) rfl
 |eH z a=>exact go _ rfl (.eH z a) rfl
 |agg cells vs hl h1 h2=>cases hr;exact⟨hl.symm,h1,h2⟩
 |tuple ds vs hl h1=>cases hr
theorem qx {v:Value} {d:D} (h:sk v=some d):RD M s d v∧v.oneCell'=true:=by
 unfold sk at h
 split at h<;>first|(cases h;done)|skip
 ·cases h;exact⟨.int _ _,rfl⟩
 ·cases h;exact⟨.bool _,rfl⟩
 ·cases h;exact⟨.str _,rfl⟩
 ·cases h;exact⟨.ew,rfl⟩
 ·cases h;exact⟨.jv _ _ 0 rfl rfl,rfl⟩
 ·cases h;exact⟨.val _ rfl,rfl⟩
 ·cases h;exact⟨.val _ rfl,rfl⟩
 ·cases h;exact⟨.val _ rfl,rfl⟩
theorem ly : ∀ {vs:List Value} {ds:List D},nT vs=some ds→ds.length=vs.length∧(∀ v∈vs,v.oneCell'=true)∧
 ∀ (i:Nat) (d:D) (v:Value),ds[i]? = some d→vs[i]? = some v→RD M s d v
 | [],ds,h=>by cases h;exact⟨rfl,by simp,by simp⟩
 | v::r,ds,h=>by
  unfold nT at h
  split at h
  ·rename_i d tn h1 h2
   cases h
   obtain⟨a,b⟩:=qx (M:=M) (s:=s) h1
   obtain⟨i1,i2,i3⟩:=ly h2
   refine⟨by simp[i1],fun u hu=>?_,fun i d' u e1 e2=>?_⟩
   ·rcases List.mem_cons.1 hu with rfl | hu
    ·exact b
    ·exact i2 u hu
   ·cases i with
    |zero=>simp at e1 e2;subst e1;subst e2;exact a
    |succ i=>simp at e1 e2;exact i3 i d' u e1 e2
  ·cases h
theorem Gb {v:Value} {d:D} (h:DE v=some d):RD M s d v∧v.oneCell'=true:=by
 unfold DE at h
 split at h
 ·cases h;exact⟨.val _ rfl,rfl⟩
 ·exact qx h
theorem wB : ∀ {vs:List Value} {ds:List D},wA vs=some ds→ds.length=vs.length∧(∀ v∈vs,v.oneCell'=true)∧
 ∀ (i:Nat) (d:D) (v:Value),ds[i]? = some d→vs[i]? = some v→RD M s d v
 | [],ds,h=>by cases h;exact⟨rfl,by simp,by simp⟩
 | v::r,ds,h=>by
  unfold wA at h
  split at h
  ·rename_i d tn h1 h2
   cases h
   obtain⟨g1,g2⟩:=Gb (M:=M) (s:=s) h1
   obtain⟨k1,k2,k3⟩:=wB h2
   refine⟨by simp[k1],fun u hu=>?_,fun i d' u e1 e2=>?_⟩
   ·rcases List.mem_cons.1 hu with rfl | hu
    ·exact g2
    ·exact k2 u hu
   ·cases i with
    |zero=>simp at e1 e2;subst e1;subst e2;exact g1
    |succ i=>exact k3 i d' u (by simpa using e1) (by simpa using e2)
  ·cases h
theorem Di {b:Bool} {vs:List Value} {ds:List D} (h:N9 b vs=some ds):ds.length=vs.length∧(∀ v∈vs,v.oneCell'=true)∧
 ∀ (i:Nat) (d:D) (v:Value),ds[i]? = some d→vs[i]? = some v→RD M s d v:=by
 unfold N9 at h
 split at h
 ·exact wB h
 ·exact ly h
theorem Oe {v:Value} {d:D} (h:N7 v=some d):RD M s d v:=by
 unfold N7 at h
 split at h
 ·rename_i cs
  cases hc:nT cs.toList with
  |none=>rw[hc]at h;cases h
  |some ds=>
   rw[hc]at h;cases h
   obtain⟨h1,h2,h3⟩:=ly (M:=M) (s:=s) hc
   exact .agg ds cs (by simpa using h1) (fun v hv=>h2 v (by simpa using hv)) (fun i d v e1 e2=>h3 i d v e1 (by simpa using e2))
 ·cases h;exact .undef
 ·exact(qx h).1
def l5 (M:Map) (s:St) (tm:Tm) (tmps:Array Value):Prop:=∀ t,RD M s (tm.get t) (tmps.getD t Go.undef)
theorem l5.mono {M':Map} {s':St} {tm:Tm} {tmps:Array Value} (h:l5 M s tm tmps) (le:Le M s M' s'):l5 M' s' tm tmps:=fun t=>(h t).mono le
theorem bZ {x:Operand} {y:X} (h:cX x=some y) {tm:Tm} {act:Act} (hr:l5 M s tm act.tmps):RD M s (y.ev tm) (act.eval x):=by
 unfold cX at h
 split at h
 ·cases h;exact hr _
 ·rename_i v
  cases hv:N7 v with
  |none=>rw[hv]at h;cases h
  |some d=>rw[hv]at h;cases h;exact Oe hv
 ·cases h;exact .gn _ [] #[] rfl (by simp)
 ·cases h
theorem Tm.Cl (tm:Tm) (t:Nat) (d:D) (u:Nat):(tm.set t d).get u=if u=t then d else tm.get u:=by
 induction tm with
 |nil=>
  simp only[Tm.set,Tm.get]
  by_cases h:t=u
  ·simp[h]
  ·rw[if_neg h,if_neg (fun e=>h e.symm)]
 | cons p r ih=>
  obtain⟨k,e⟩:=p
  simp only[Tm.set]
  split
  ·rename_i h
   subst h
   simp only[Tm.get]
   by_cases h:k=u
   ·simp[h]
   ·rw[if_neg h,if_neg (fun e=>h e.symm),if_neg h]
  ·rename_i h
   simp only[Tm.get,ih]
   by_cases h1:k=u
   ·subst h1;simp[h]
   ·simp[h1]
theorem l5.put {tm:Tm} {act:Act} (h:l5 M s tm act.tmps) {dst:Option Nat} (hd : ∀ t,dst=some t→t<act.tmps.size) {d:D} {v:Value} (hv:RD M s d v) :
 l5 M s (tm.put dst d) (act.put dst v).tmps:=by
 intro u
 cases dst with
 |none=>exact h u
 | some t=>
  simp only[Tm.put,Act.put,Tm.Cl]
  have ht:=hd t rfl
  by_cases hu:u=t
  ·subst hu
   simp[ht];exact hv
  ·rw [if_neg hu]
   have:=h u
   simpa[Array.getElem?_setIfInBounds_ne (fun e=>hu e.symm)]using this
theorem fZ (P:Program) {t:TypeId} {i:TypeInfo} (h:P.info? t=some i) (w:World):(typeInfo t).run P w = .ok i w:=by
 simp[typeInfo,h]
theorem my (b o n:Nat):Addr.add ⟨b,o,none⟩ n = ⟨b,o+n,none⟩:=Addr.add_lit b o n
theorem zh (P:Program) {t:TypeId} {i:TypeInfo} {agg:Bool} (hi:P.info? t=some i) (ha:ri P t=some agg) (b k:Nat) (us:List Value)
 (hl:us.length=if agg then i.size else 1) (h : ∀ (j:Nat) (u:Value),us[j]? = some u→w.cell? ⟨b,k+j,none⟩=some u) :
 (loadVar t ⟨b,k,none⟩).run P w = .ok (if agg then .agg us.toArray else us.getD 0 Go.undef) w:=by
 have A8:(isAgg t).run P w = .ok agg w:=by
  unfold ri at ha
  unfold isAgg
  cases hu:P.underlying t with
  |none=>rw[hu]at ha;cases ha
  |some d=>
   rw[hu]at ha
   simp only[Sem.run_bind,run_underlying hu,Result.andThen_ok]
   cases d<;>simp_all
 cases agg with
 |true=>
  simp only[if_true]at hl ⊢
  have hc:=run_loadCells_list (P:=P) w ⟨b,k,none⟩ us (fun j v e=>by rw[my];exact h j v e)
  simp[loadVar,A8,sizeOf,fZ P hi, ← hl,hc]
 | false=>
  simp only[Bool.false_eq_true,if_false]at hl ⊢
  match us,hl with
  | [u],_=>
   have:=h 0 u rfl
   simp only[Nat.add_zero]at this
   simp[loadVar,A8,this]
theorem qV {cs:List D} {off:Nat} {agg:Bool} {size:Nat} {d:D} (h:part cs off agg size=some d) :
 (agg=true∧off+size≤cs.length∧d = .agg ((cs.drop off).take size))∨(agg=false∧cs[off]? = some d):=by
 unfold part at h
 split at h
 ·split at h
  ·cases h;exact .inl ⟨rfl, ‹_›,rfl⟩
  ·cases h
 ·exact .inr ⟨rfl,h⟩
theorem rm {cs:List D} {off size:Nat} {agg:Bool} {d:D} (h:part cs off agg size=some d) (us:List Value) (hl:us.length=if agg then size else 1)
 (ic:agg=true→∀ u∈us,u.oneCell'=true)
 (hr : ∀ (j:Nat) (d:D) (u:Value),cs[off+j]? = some d→us[j]? = some u→RD M s d u):RD M s d (if agg then .agg us.toArray else us.getD 0 Go.undef):=by
 rcases qV h with ⟨rfl,h1,rfl⟩|⟨rfl,h1⟩
 ·simp only [if_true]at hl ⊢
  refine .agg _ _ (by simp[hl];omega) (fun v hv=>ic rfl v (by simpa using hv)) (fun i d v e1 e2=>?_)
  rw[List.getElem?_take]at e1
  split at e1
  ·rw [List.getElem?_drop]at e1
   exact hr i d v e1 (by simpa using e2)
  ·cases e1
 ·simp only [Bool.false_eq_true,if_false]at hl ⊢
  match us,hl with
  | [u],_=>exact hr 0 d u (by simpa using h1) rfl
end
end Go.Abs
namespace Go.Abs
def df (P:Program) (M:Map) (s:St) (w:World) (x:Sem Next) (d:D) (s':St):Prop:=
 ∃ v w' M',(x.run P w = .ok (.value v) w'∨(x.run P w = .ok .skip w'∧v=Go.undef))∧Rel M' s' w'∧RD M' s' d v∧Ext M s w M' s' w'
section
variable {P:Program} {M:Map} {s:St} {w:World}
theorem df.pure {x:Sem Next} {d:D} {v:Value} (r:Rel M s w) (h:x.run P w = .ok (.value v) w) (hd:RD M s d v):df P M s w x d s:=
 ⟨v,w,M, .inl h,r,hd,Ext.refl M s w⟩
theorem Og (r:Rel M s w) {t:TypeId} {z:List D} (hz:zeroOf P t=some z) :
 df P M s w (do pure (.value (← Instr.alloc t true (.tuple #[])))) (.ptr s.ah.length 0) {s with ah:=s.ah++ [z]}:=by
 unfold zeroOf at hz
 split at hz
 ·rename_i i hi
  split at hz
  ·rename_i v hv
   split at hz
   ·rename_i ej
    obtain⟨h1,h2,h3⟩:=ly (M:=M) (s:=s) hz
    obtain⟨r',e'⟩:=r.ei z v.cells t (by rw[h1];simp) (fun u hu=>h2 u (by simpa using hu)) (fun i d u e1 e2=>h3 i d u e1 (by simpa using e2))
    refine⟨_,_,_, .inl ?_,r', .ptr _ _ (by simp) (by simp[Map.ei,Map.ob,Ob.plain]),e'⟩
    simp[Instr.alloc,zeroValue,fZ P hi,hv,newVar,newRow,Map.ei,Map.mu]
   ·cases hz
  ·cases hz
 ·cases hz
theorem L9 (r:Rel M s w) {t:TypeId} {z:List D} (hz:zc P t=some (.ew::z)) :
 df P M s w (do pure (.value (← Instr.alloc t true (.tuple #[])))) (.ptr s.ah.length 0) {s with ah:=s.ah++ [.fu t s.ah.length::z]}:=by
 unfold zc at hz
 split at hz
 ·rename_i i hi
  split at hz
  ·rename_i v hv
   split at hz
   ·rename_i ej
    obtain⟨h1,h2,h3⟩:=Di (M:=M) (s:=s) hz
    obtain⟨r',e'⟩:=r.Jz (.fu t s.ah.length::z) v.cells t (.ty t) trivial (fun _ h=>by cases h;rfl) (by simp at h1 ⊢;omega) (fun u hu=>h2 u (by simpa using hu)) (fun i d u e1 e2=>by
     cases i with
     |zero=>
      simp at e1;subst e1
      have:=(h3 0 .ew u rfl (by simpa using e2)).sn
      exact .fu t _ u (by simp) (by simp[Map.ei,Map.ty,Ob.ty?]) (.inl this)
     |succ i=>exact(h3 (i+1) d u (by simpa using e1) (by simpa using e2)).mono (sm s w.heap.size _ _))
    refine⟨_,_,_, .inl ?_,r', .ptr _ _ (by simp) (by simp[Map.ei,Map.ob,Ob.plain]),e'⟩
    simp[Instr.alloc,zeroValue,fZ P hi,hv,newVar,newRow,Map.ei,Map.mu]
   ·cases hz
  ·cases hz
 ·cases hz
theorem U7 (r:Rel M s w) {t:TypeId} {d:D} {v:Value} {row:List D} (hd:RD M s d v) (hr:d.row=some row) :
 df P M s w (do pure (.value (← Instr.box t v))) (.ptr s.ah.length 0) {s with ah:=s.ah++ [row]}:=by
 obtain⟨h1,h2,h3⟩:=hd.row hr
 obtain⟨r',e'⟩:=r.ei row v.cells t h1 h2 h3
 refine⟨_,_,_, .inl ?_,r', .ptr _ _ (by simp) (by simp[Map.ei,Map.ob,Ob.plain]),e'⟩
 simp[Instr.box,newVar,newRow,Map.ei,Map.mu]
theorem RP (r:Rel M s w) {t:TypeId} {d:D} {v:Value} {row:List D} (hd:RD M s d v) (hr:d.row=some (.ew::row)) :
 df P M s w (do pure (.value (← Instr.box t v))) (.ptr s.ah.length 0) {s with ah:=s.ah++ [.fu t s.ah.length::row]}:=by
 obtain⟨h1,h2,h3⟩:=hd.row hr
 obtain⟨r',e'⟩:=r.Jz (.fu t s.ah.length::row) v.cells t (.ty t) trivial (fun _ h=>by cases h;rfl) (by simp at h1 ⊢;omega) h2 (fun i d u e1 e2=>by
  cases i with
  |zero=>
   simp at e1;subst e1
   have:=(h3 0 .ew u rfl e2).sn
   exact .fu t _ u (by simp) (by simp[Map.ei,Map.ty,Ob.ty?]) (.inl this)
  |succ i=>exact(h3 (i+1) d u (by simpa using e1) e2).mono (sm s w.heap.size _ _))
 refine⟨_,_,_, .inl ?_,r', .ptr _ _ (by simp) (by simp[Map.ei,Map.ob,Ob.plain]),e'⟩
 simp[Instr.box,newVar,newRow,Map.ei,Map.mu]
theorem Ih (r:Rel M s w) {t:TypeId} {i:TypeInfo} {agg:Bool} (hi:P.info? t=some i) (ha:ri P t=some agg) {o off:Nat} {cs:List D} {d:D}
 (ho:s.ah[o]? = some cs) (hk:(M.ob o).plain) (hp:part cs off agg i.size=some d) :
 df P M s w (do pure (.value (← Instr.loadAt t (.pointer (some ⟨M.mu o,off,none⟩))))) d s:=by
 obtain⟨vs,T,hh,ej,⟨ic,_⟩,jC⟩:=r.obj o cs ho
 replace hh:w.heap[M.mu o]? = some (.cells vs T (0,0)):=hh.cells hk
 let n:=if agg then i.size else 1
 have jx:off+n≤vs.size:=by
  rcases qV hp with ⟨rfl,h1,_⟩|⟨rfl,h1⟩
  ·simp[n];omega
  ·have:=(List.getElem?_eq_some_iff.1 h1).1;simp[n];omega
 have hlen:((vs.toList.drop off).take n).length=n:=by simp;omega
 have hE : ∀ (j:Nat) (u:Value),((vs.toList.drop off).take n)[j]? = some u→vs[off+j]? = some u:=by
  intro j u h
  rw[List.getElem?_take]at h
  split at h
  ·rw[List.getElem?_drop]at h;simpa using h
  ·cases h
 have dK:=zh (w:=w) P hi ha (M.mu o) off ((vs.toList.drop off).take n) hlen (fun j u h=>by rw[jm hh];exact hE j u h)
 refine df.pure (v:=if agg then .agg ((vs.toList.drop off).take n).toArray else((vs.toList.drop off).take n).getD 0 Go.undef) r (by simp[Instr.loadAt,Instr.sureAddr,dK]) ?_
 refine rm hp _ hlen (fun _ u hu=>ic u ?_) (fun j d u e1 e2=>jC _ d u e1 (hE j u e2))
 exact Array.mem_toList_iff.1 (List.mem_of_mem_drop (List.mem_of_mem_take hu))
theorem zi {b:Nat} : ∀ (n k:Nat),(∀ j,j<n→∃ u,M.G b (k+j)=some u)→∃ us:List Value,us.length=n∧∀ (j:Nat) (u:Value),us[j]? = some u→M.G b (k+j)=some u
 | 0,_,_=>⟨[],rfl,fun j u h=>by simp at h⟩
 |n+1,k,h=>by
  obtain⟨u0,h0⟩:=h 0 (by omega)
  obtain⟨us,h1,h2⟩:=zi n (k+1) (fun j hj=>by obtain⟨u,hu⟩:=h (j+1) (by omega);exact⟨u,by rw[show k+1+j=k+(j+1) by omega];exact hu⟩)
  refine⟨u0::us,by simp[h1],fun j u hj=>?_⟩
  cases j with
  |zero=>simp at hj;subst hj;exact h0
  |succ j=>simp at hj;have:=h2 j u hj;rw[show k+(j+1)=k+1+j by omega];exact this
theorem Ii (r:Rel M s w) {t:TypeId} {i:TypeInfo} {agg:Bool} (hi:P.info? t=some i) (ha:ri P t=some agg) {row:List D} {off b k:Nat} {d:D}
 (h1 : ∀ (i:Nat) (d:D),row[i]? = some d→∃ u,M.G b (k+i)=some u) (h2 : ∀ (i:Nat) (d:D) (u:Value),row[i]? = some d→M.G b (k+i)=some u→RD M s d u)
 (hp:part row off agg i.size=some d) :
 df P M s w (do pure (.value (← Instr.loadAt t (.pointer (some ⟨b,k+off,none⟩))))) d s:=by
 let n:=if agg then i.size else 1
 have jx:off+n≤row.length:=by
  rcases qV hp with ⟨rfl,h1,_⟩|⟨rfl,h1⟩
  ·simp[n];omega
  ·have:=(List.getElem?_eq_some_iff.1 h1).1;simp[n];omega
 obtain⟨us,hl,Dh⟩:=zi (M:=M) (b:=b) n (k+off) (fun j hj=>by
  obtain⟨d,hd⟩ : ∃ d,row[off+j]? = some d:=⟨_,List.getElem?_eq_getElem (by omega)⟩
  obtain⟨u,hu⟩:=h1 _ d hd
  exact⟨u,by rw[show k+off+j=k+(off+j) by omega];exact hu⟩)
 have dK:=zh (w:=w) P hi ha b (k+off) us hl (fun j u h=>(r.comm _ _ _ (Dh j u h)).1)
 refine df.pure (v:=if agg then .agg us.toArray else us.getD 0 Go.undef) r (by simp[Instr.loadAt,Instr.sureAddr,dK]) ?_
 refine rm hp us hl (fun _ u hu=>?_) (fun j d u e1 e2=>h2 _ d u e1 (by rw[show k+(off+j)=k+off+j by omega];exact Dh j u e2))
 obtain⟨j,hj⟩:=List.mem_iff_getElem?.1 hu
 exact(r.comm _ _ _ (Dh j u hj)).2
theorem Oh (r:Rel M s w) {t:TypeId} {i:TypeInfo} (hi:P.info? t=some i) {o off:Nat} {cs row:List D} {d:D} {v:Value} (ho:s.ah[o]? = some cs) (hk:(M.ob o).plain)
 (hd:RD M s d v) (hr:d.row=some row) (hl:row.length=i.size) (jx:off+i.size≤cs.length) :
 df P M s w (do Instr.storeAt t (.pointer (some ⟨M.mu o,off,none⟩)) v;pure .skip) (.tuple []) {s with ah:=s.ah.set o (iG cs off row)}:=by
 obtain⟨h1,h2,h3⟩:=hd.row hr
 obtain⟨w',dK,r',e'⟩:=r.Oc P ho hk row v.cells.toList (by simpa using h1) (by rw[hl];exact jx) (fun u hu=>h2 u (by simpa using hu)) (fun i d u e1 e2=>h3 i d u e1 (by simpa using e2))
 refine⟨Go.undef,w',M, .inr ⟨?_,rfl⟩,r', .undef,e'⟩
 have ej:v.cells.size=i.size:=by omega
 simp[Instr.storeAt,Instr.sureAddr,storeVar,sizeOf,fZ P hi,ej,dK]
theorem zj (r:Rel M s w) {d:D} {a:Addr} (hd:RD M s d (.pointer (some a))) :
 df P M s w (pure (.value (.pointer (some a)))) d s:=df.pure r rfl hd
theorem A9 {t:TypeId} {f off size:Nat} {agg:Bool} (h:mw P t f=some (off,size,agg)) (b k:Nat) :
 (Instr.fieldAt t (.pointer (some ⟨b,k,none⟩)) f).run P w = .ok (.pointer (some ⟨b,k+off,none⟩)) w:=by
 unfold mw at h
 split at h
 ·rename_i fs hu
  split at h
  ·rename_i fd hf
   split at h
   ·rename_i i a hi ha
    split at h
    ·cases h
    ·rename_i fl
     cases h
     simp[Instr.fieldAt,run_underlying hu,hf,Instr.sureAddr,fieldPlace,sizeOf,fZ P hi,fl,my]
   ·cases h
  ·cases h
 ·cases h
theorem RQ {t:TypeId} {f off size:Nat} {agg:Bool} (h:mw P t f=some (off,size,agg)) (vs:Array Value) (us:List Value) (hl:us.length=if agg then size else 1)
 (hg : ∀ j,j<us.length→vs[off+j]? = us[j]?) :
 (Instr.field t (.agg vs) f).run P w = .ok (if agg then .agg us.toArray else us.getD 0 Go.undef) w:=by
 unfold mw at h
 split at h
 ·rename_i fs hu
  split at h
  ·rename_i fd hf
   split at h
   ·rename_i i a hi ha
    split at h
    ·cases h
    ·rename_i fl
     cases h
     have A8:(isAgg fd.type).run P w = .ok agg w:=by
      unfold ri at ha
      unfold isAgg
      cases hu:P.underlying fd.type with
      |none=>rw[hu]at ha;cases ha
      |some d=>
       rw[hu]at ha
       simp only[Sem.run_bind,run_underlying hu,Result.andThen_ok]
       cases d<;>simp_all
     cases agg with
     | true=>
      simp only[if_true]at hl ⊢
      have:vs.extract fd.offset (fd.offset+i.size)=us.toArray:=by
       apply Array.ext_getElem?
       intro j
       rw[Array.getElem?_extract]
       by_cases hj:j<us.length
       ·rw [← hl,if_pos (by
         have h1:=hg j hj
         rw[List.getElem?_eq_getElem hj]at h1
         have:=(Array.getElem?_eq_some_iff.1 h1).1
         have h2:=hg (us.length - 1) (by omega)
         rw[List.getElem?_eq_getElem (by omega)]at h2
         have:=(Array.getElem?_eq_some_iff.1 h2).1
         omega),hg j hj]
        simp
       ·have hn:us.toArray[j]? = none:=by simp;omega
        rw[hn,if_neg (by omega)]
      simp[Instr.field,run_underlying hu,hf,asAgg,Go.part,A8,sizeOf,fZ P hi,this]
     | false=>
      simp only[Bool.false_eq_true,if_false]at hl ⊢
      match us,hl with
      | [u],_=>
       have:=hg 0 (by simp)
       simp at this
       simp[Instr.field,run_underlying hu,hf,asAgg,Go.part,A8,this]
   ·cases h
  ·cases h
 ·cases h
end
end Go.Abs
namespace Go.Abs
section
variable {P:Program} {M:Map} {s:St} {w:World}
theorem Oi {op : BinOp} {t : TypeId} {k : IntKind} {a b : Int} {d : D} (h : gp op k a b = some d) :
   ∃ v, (binOp op t (.int k a) (.int k b)).run P w = .ok v w ∧ RD M s d v := by
 cases op<;>simp only[gp]at h<;>first
   |(cases h; done)
   | (split at h
      · cases h
      · cases h
        exact ⟨_, by simp[binOp, Op.intDiv, *], .int _ _⟩)
   |(cases h; exact ⟨_, by simp[binOp, Op.intArith], .int _ _⟩)
   |(cases h; exact ⟨_, by simp[binOp, Op.intCmp], .bool _⟩)
theorem Oj {op:BinOp} {t:TypeId} {a b:List UInt8} {d:D} (h:oi op a b=some d) :
 ∃ v,(binOp op t (.string ⟨⟨a⟩⟩) (.string ⟨⟨b⟩⟩)).run P w = .ok v w∧RD M s d v:=by
 have sz : ∀ l:List UInt8,(⟨⟨l⟩⟩:ByteArray).size=l.length:=fun _=>rfl
 cases op<;>simp only[oi]at h<;>first
  |(cases h;done)
  |skip
 case add=>
  split at h
  ·rename_i hl
   cases h
   refine⟨.string ⟨⟨a++b⟩⟩, ?_, .str _⟩
   have h1 : ¬ ((((⟨⟨a⟩⟩:ByteArray).size+(⟨⟨b⟩⟩:ByteArray).size:Nat):Int) > IntKind.i64.max):=by
    rw[sz,sz,IntKind.max_i64];simp only[bA]at hl;omega
   simp only[binOp,Op.stringOp,h1,if_false]
   simp only[Sem.run_pure]
   congr 2
  ·cases h
 case eql=>cases h;exact⟨_,by simp[binOp,Op.stringOp], .bool _⟩
 case neq=>cases h;exact⟨_,by simp[binOp,Op.stringOp], .bool _⟩
 case lss=>cases h;exact⟨_,by simp[binOp,Op.stringOp,bytesLess], .bool _⟩
theorem jW {op:BinOp} {t:TypeId} {x y:Operand} {a b:Value} (h:(∀ vs,a≠ .agg vs)∧a≠ .nilIface):(eqGuard op t x y a b).run P w = .ok () w:=by
 obtain⟨h1,h2⟩:=h
 cases a<;>first
  |exact(h2 rfl).elim
  |exact(h1 _ rfl).elim
  |(cases op<;>simp[eqGuard])
theorem U8 (r:Rel M s w) {op:BinOp} {t:TypeId} {x y:Operand} {dx dy d:D} {a b:Value} (ha:RD M s dx a) (hb:RD M s dy b) (h:xi op dx dy=some d) :
 df P M s w (do pure (.value (← (do eqGuard op t x y a b;binOp op t a b)))) d s:=by
 unfold xi at h
 split at h
 ·rename_i k n k' m
  split at h
  ·rename_i hk;subst hk
   rw[ha.iB,hb.iB]
   obtain⟨v,hv,hd⟩:=Oi (P:=P) (M:=M) (s:=s) (w:=w) (t:=t) h
   exact df.pure r (by simp[jW (P:=P) (w:=w) (op:=op) (t:=t) (x:=x) (y:=y) (a:= .int k n) (b:= .int k m) ⟨by simp,by simp⟩,hv]) hd
  ·cases h
 ·rename_i l m
  rw[ha.lx,hb.lx]
  obtain⟨v,hv,hd⟩:=Oj (P:=P) (M:=M) (s:=s) (w:=w) (t:=t) h
  exact df.pure r (by simp[jW (P:=P) (w:=w) (op:=op) (t:=t) (x:=x) (y:=y) (a:= .string ⟨⟨l⟩⟩) (b:= .string ⟨⟨m⟩⟩) ⟨by simp,by simp⟩,hv]) hd
 ·cases h
theorem RD.mY {v u:Value} (h:RD M s (.val v) u):u=v:=by cases h;rfl
theorem Ol {k:FloatKind} {x y d:D} (h:qH (.ofInt k) x y=some d) : ∃ j n,x = .int j n∧d = .val (.float k (k.nearest n)):=by
 cases x<;>first|(cases h;done)|(cases h;exact⟨_,_,rfl,rfl⟩)
theorem Om {k:IntKind} {x y d:D} (h:qH (.toInt k) x y=some d) : ∃ s b n,x = .val (.float s b)∧(s.decode b).toInt .zero=some n∧(k.min≤n∧n≤k.max)∧d = .int k n:=by
 cases x with
 | val v=>
  cases v with
  | float s b=>
   simp only[qH]at h
   split at h
   ·rename_i n hn
    split at h
    ·rename_i hr;cases h;exact⟨_,_,_,rfl,hn,hr,rfl⟩
    ·cases h
   ·cases h
  |_=>cases h
 |_=>cases h
theorem RR {x y d:D} (h:qH .Js x y=some d) : ∃ k a b,x = .val (.float k a)∧y = .val (.float k b)∧d = .val (.complex k a b):=by
 unfold qH at h
 split at h<;>first|(cases h;done)|skip
 all_goals (first|(rename_i heq;cases heq;done)|skip)
 all_goals
  split at h
  ·rename_i hk;subst hk;cases h;first|exact⟨_,_,_,rfl,rfl,rfl⟩|(rename_i heq _ _;cases heq)
  ·cases h
theorem RS {x y d:D} (h:qH .real x y=some d) : ∃ k a b,x = .val (.complex k a b)∧d = .val (.float k a):=by
 cases x with
 |val v=>cases v<;>first|(cases h;done)|(cases h;exact⟨_,_,_,rfl,rfl⟩)
 |_=>cases h
theorem RT {x y d:D} (h:qH .imag x y=some d) : ∃ k a b,x = .val (.complex k a b)∧d = .val (.float k b):=by
 cases x with
 |val v=>cases v<;>first|(cases h;done)|(cases h;exact⟨_,_,_,rfl,rfl⟩)
 |_=>cases h
theorem RU (r:Rel M s w) {op:BinOp} {o:FO} (ho:(o = .eq∧op = .eql)∨(o = .Jt∧op = .add)∨(o = .RK∧op = .eql)) {t:TypeId} {x y:Operand} {dx dy d:D} {a b:Value} (ha:RD M s dx a) (hb:RD M s dy b) (h:qH o dx dy=some d) :
 df P M s w (do pure (.value (← (do eqGuard op t x y a b;binOp op t a b)))) d s:=by
 unfold qH at h
 split at h<;>(try simp only[reduceCtorEq,false_and,true_and,false_or,or_false]at ho)
 ·rename_i k p k' q
  split at h<;>cases h
  rename_i hk;subst hk;subst ho
  cases ha.mY;cases hb.mY
  exact df.pure r (by simp[jW (P:=P) (w:=w) (op:= .eql) (t:=t) (x:=x) (y:=y) (a:= .float k p) (b:= .float k q) ⟨by simp,by simp⟩,binOp,Op.floatCmp]) (.bool _)
 ·rename_i k p p' k' q q'
  split at h
  ·rename_i hk;subst hk;subst ho
   cases ha.mY;cases hb.mY
   split at h
   ·rename_i e f h1 h2
    cases h
    simp only[U4]at h1 h2
    exact df.pure r (by simp[jW (P:=P) (w:=w) (op:= .add) (t:=t) (x:=x) (y:=y) (a:= .complex k p p') (b:= .complex k q q') ⟨by simp,by simp⟩,binOp,Op.complexOp,Op.Complex.arith,Op.floatArith,h1,h2]) (.val _ rfl)
   ·cases h
  ·cases h
 ·rename_i k p p' k' q q'
  split at h<;>cases h
  rename_i hk;subst hk;subst ho
  cases ha.mY;cases hb.mY
  exact df.pure r (by simp[jW (P:=P) (w:=w) (op:= .eql) (t:=t) (x:=x) (y:=y) (a:= .complex k p p') (b:= .complex k q q') ⟨by simp,by simp⟩,binOp,Op.complexOp,Op.Complex.cmp,Op.floatCmp,asBool]) (.bool _)
 ·cases h
theorem U9 (r:Rel M s w) {neg:Bool} {t:TypeId} {x y:Operand} {p q:Bool} (ht:P.underlying t=some .bool) :
 df P M s w (do pure (.value (← (do eqGuard (if neg then .neq else .eql) t x y (.bool p) (.bool q);binOp (if neg then .neq else .eql) t (.bool p) (.bool q))))) (.bool (if neg then !(p==q)else p==q)) s:=by
 refine df.pure (v:= .bool (if neg then !(p==q)else p==q)) r ?_ (.bool _)
 have hg:=jW (P:=P) (w:=w) (op:=if neg then .neq else .eql) (t:=t) (x:=x) (y:=y) (a:= .bool p) (b:= .bool q) ⟨by simp,by simp⟩
 have he:(Op.equal t (.bool p) (.bool q)).run P w = .ok (p==q) w:=by
  exact run_equalIn_bool w 9999 t p q ht
 cases neg
 ·simp only [Bool.false_eq_true,if_false]at hg ⊢
  simp[hg,binOp,he]
 ·simp only [if_true]at hg ⊢
  simp[hg,binOp,he]
theorem Ma (n:Nat) {t e:TypeId} {a:Option Addr} (ht:P.underlying t=some (.pointer e)):(Op.equalIn (n+1) t (.pointer a) (.pointer none)).run P w = .ok a.isNone w:=by
 cases a<;>simp[Op.equalIn,run_underlying ht]
theorem DI (r:Rel M s w) {neg:Bool} {t e:TypeId} {x y:Operand} {a:Option Addr} (ht:P.underlying t=some (.pointer e)) :
 df P M s w (do pure (.value (← (do eqGuard (if neg then .neq else .eql) t x y (.pointer a) (.pointer none);binOp (if neg then .neq else .eql) t (.pointer a) (.pointer none))))) (.bool (if neg then !a.isNone else a.isNone)) s:=by
 refine df.pure (v:= .bool (if neg then !a.isNone else a.isNone)) r ?_ (.bool _)
 have hg:=jW (P:=P) (w:=w) (op:=if neg then .neq else .eql) (t:=t) (x:=x) (y:=y) (a:= .pointer a) (b:= .pointer none) ⟨by simp,by simp⟩
 have he:(Op.equal t (.pointer a) (.pointer none)).run P w = .ok a.isNone w:=by
  exact Ma 9999 ht
 cases neg
 ·simp only [Bool.false_eq_true,if_false]at hg ⊢
  simp[hg,binOp,he]
 ·simp only [if_true]at hg ⊢
  simp[hg,binOp,he]
theorem On (n:Nat) {t:TypeId} {k:Nat} (hk:lC P t=some k) {x y:D} {v u:Value} (rv:RD M s x v) (ru:RD M s y u) {b:Bool} (h:mW k x y=some b) :
 (Op.equalIn (n+1) t v u).run P w = .ok b w:=by
 unfold lC at hk
 split at hk<;>first|(cases hk;done)|skip
 ·rename_i kk hu
  cases hk
  cases x<;>cases y<;>simp[mW]at h
  obtain⟨rfl,rfl⟩:=h
  rw[rv.iB,ru.iB]
  exact run_equalIn_int w n t _ _ _ _ hu
 ·rename_i hu
  cases hk
  cases x<;>cases y<;>simp[mW]at h
  subst h
  rw[rv.nU,ru.nU]
  exact run_equalIn_bool w n t _ _ hu
 ·rename_i hu
  cases hk
  cases x<;>cases y<;>simp[mW]at h
  subst h
  rw[rv.lx,ru.lx]
  rw[run_equalIn_string w n t _ _ hu]
  simp
theorem Ba (n:Nat) : ∀ (fs:List Field) (off:Nat) (ks:List Nat) (xs ys:List D) (vs us:Array Value) (e:Bool),
 Ck P off fs=some ks→(∀ (i:Nat) (d:D) (v:Value),xs[i]? = some d→vs[off+i]? = some v→RD M s d v)→(∀ i,i<xs.length→(vs[off+i]?).isSome)→
 (∀ (i:Nat) (d:D) (v:Value),ys[i]? = some d→us[off+i]? = some v→RD M s d v)→(∀ i,i<ys.length→(us[off+i]?).isSome)→
 lu ks xs ys=some e→(Op.eqFields (n+1) vs us fs).run P w = .ok e w
 | [],off,ks,xs,ys,vs,us,e,hk,_,_,_,_,h=>by
  cases hk
  cases xs<;>cases ys<;>simp[lu]at h
  subst h;rfl
 | f::fs,off,ks,xs,ys,vs,us,e,hk,h1,h2,h3,h4,h=>by
  unfold Ck at hk
  split at hk
  ·rename_i hf
   obtain⟨ho,Oo⟩:=hf
   split at hk
   ·rename_i k ks' rn cp
    cases hk
    match xs,ys with
    | [],[]=>cases h
    | [],_::_=>cases h
    |_::_,[]=>cases h
    | x::xs,y::ys=>
     obtain⟨v,hv⟩:=Option.isSome_iff_exists.1 (h2 0 (by simp))
     obtain⟨u,hu⟩:=Option.isSome_iff_exists.1 (h4 0 (by simp))
     simp only[Nat.add_zero]at hv hu
     have rv:=h1 0 x v rfl hv
     have ru:=h3 0 y u rfl hu
     have A8:(isAgg f.type).run P w = .ok false w:=by
      unfold isAgg
      unfold lC at rn
      cases hu:P.underlying f.type with
      |none=>rw[hu]at rn;simp at rn
      |some d=>simp only[Sem.run_bind,run_underlying hu,Result.andThen_ok];rw[hu]at rn;cases d<;>simp_all
     have pv:(Go.part f.type vs f.offset).run P w = .ok v w:=by simp[Go.part,A8,ho,hv]
     have pu:(Go.part f.type us f.offset).run P w = .ok u w:=by simp[Go.part,A8,ho,hu]
     cases hc:mW k x y with
     |none=>simp[lu,hc]at h
     | some b=>
      have hb:=On (w:=w) n rn rv ru hc
      simp only[lu,hc]at h
      simp only[Op.eqFields,if_pos Oo,Sem.run_bind,pv,pu,hb,Result.andThen_ok,Sem.run_ite,Sem.run_pure]
      cases b with
      |false=>cases h;rfl
      | true=>
       have:=Ba n fs (off+1) ks' xs ys vs us e cp
        (fun i d v e1 e2=>h1 (i+1) d v (by simpa using e1) (by rw[show off+(i+1)=off+1+i by omega];exact e2))
        (fun i hi=>by have:=h2 (i+1) (by simpa using hi);rwa [show off+(i+1)=off+1+i by omega]at this)
        (fun i d v e1 e2=>h3 (i+1) d v (by simpa using e1) (by rw[show off+(i+1)=off+1+i by omega];exact e2))
        (fun i hi=>by have:=h4 (i+1) (by simpa using hi);rwa [show off+(i+1)=off+1+i by omega]at this) h
       simp[this]
   ·cases hk
  ·cases hk
theorem Vb (r:Rel M s w) {neg:Bool} {t:TypeId} {x y:Operand} {ks:List Nat} {xs ys:List D} {a b:Value} {e:Bool} (ht:qg P t=some ks) (ha:RD M s (.agg xs) a) (hb:RD M s (.agg ys) b) (he:lu ks xs ys=some e) :
 df P M s w (do pure (.value (← (do eqGuard (if neg then .neq else .eql) t x y a b;binOp (if neg then .neq else .eql) t a b)))) (.bool (if neg then !e else e)) s:=by
 obtain⟨vs,rfl,hl,_,h1⟩:=ha.Ga
 obtain⟨us,rfl,mK,_,h2⟩:=hb.Ga
 unfold qg at ht
 split at ht
 ·rename_i fs hu
  split at ht
  ·rename_i hg
   obtain⟨ye,Dj⟩:=hg
   have hf:P.fieldsOf t=fs:=by simp[Program.fieldsOf,hu]
   have dK:(Op.equalIn 10000 t (.agg vs) (.agg us)).run P w = .ok e w:=by
    rw[run_equalIn_struct w 9999 t vs us (by rw[hf];exact hu) Dj,hf]
    exact Ba 9998 fs.toList 0 ks xs ys vs us e ht (fun i d v e1 e2=>h1 i d v e1 (by simpa using e2)) (fun i hi=>by simp;omega)
     (fun i d v e1 e2=>h2 i d v e1 (by simpa using e2)) (fun i hi=>by simp;omega) he
   have Hh:=run_eqGuard_agg (P:=P) w (if neg then .neq else .eql) t x y vs us ye
   refine df.pure (v:= .bool (if neg then !e else e)) r ?_ (.bool _)
   cases neg
   ·simp only [Bool.false_eq_true,if_false]at Hh ⊢
    simp only[Sem.run_bind,Hh,Result.andThen_ok,run_eql_struct,dK,Sem.run_pure]
   ·simp only [if_true]at Hh ⊢
    simp only[Sem.run_bind,Hh,Result.andThen_ok,run_neq_struct,dK,Sem.run_pure]
  ·cases ht
 ·cases ht
end
end Go.Abs
namespace Go.Abs
section
variable {P:Program} {M:Map} {s:St} {w:World}
theorem Cm (l:List UInt8):(⟨⟨l⟩⟩:ByteArray).size=l.length:=rfl
theorem extract_mk (l:List UInt8) (a b:Nat):(⟨⟨l⟩⟩:ByteArray).extract a b = ⟨⟨(l.take b).drop a⟩⟩:=by
 apply ByteArray.ext
 rw[ByteArray.data_extract]
 apply Array.ext'
 simp[List.drop_take]
theorem getElem?_mk (l:List UInt8) (n:Nat):(⟨⟨l⟩⟩:ByteArray)[n]? = l[n]? :=by
 by_cases h:n<l.length
 ·rw[getElem?_pos (⟨⟨l⟩⟩:ByteArray) n h,List.getElem?_eq_getElem h];rfl
 ·rw [List.getElem?_eq_none (by omega)]
  rw[getElem?_neg (c:=(⟨⟨l⟩⟩:ByteArray)) (i:=n)]
  show ¬ n<(⟨⟨l⟩⟩:ByteArray).size
  rw[Cm];omega
theorem RW (r:Rel M s w) {t:TypeId} {l:List UInt8} {k:IntKind} {n:Int} {c:UInt8} (ht:P.underlying t=some .string) (h0:0≤n) (hc:l[n.toNat]? = some c) :
 df P M s w (do pure (.value (← Instr.index t (.string ⟨⟨l⟩⟩) (.int k n)))) (.int .u8 c.toNat) s:=by
 refine df.pure (v:= .int .u8 c.toNat) r ?_ (.int _ _)
 simp[Instr.index,asIntOf,run_underlying ht,h0,getElem?_mk,hc]
theorem JB (r:Rel M s w) {t ty:TypeId} {l:List UInt8} (ht:P.underlying t=some .string) :
 df P M s w (do pure (.value (← Builtin.len_ #[t] ty #[.string ⟨⟨l⟩⟩]))) (.int .i64 l.length) s:=by
 refine df.pure (v:= .int .i64 l.length) r ?_ (.int _ _)
 simp[Builtin.len_,run_underlying ht,goInt,Cm]
theorem mZ (r:Rel M s w) {t ty e:TypeId} {a:Option Addr} {n c:Nat} (ht:P.underlying t=some (.slice e)) :
 df P M s w (do pure (.value (← Builtin.len_ #[t] ty #[.slice a n c]))) (.int .i64 n) s:=by
 refine df.pure (v:= .int .i64 n) r ?_ (.int _ _)
 simp[Builtin.len_,run_underlying ht,goInt]
theorem Oq (r:Rel M s w) {t e:TypeId} {i:TypeInfo} {g:Tag} {rows:List (List D)} {row:List D} {v:Value} {k:IntKind} {n:Int} (ht:P.underlying t=some (.slice e)) (hi:P.info? e=some i)
 (hd:RD M s (.slice g i.size rows) v) (h0:0≤n) (hr:rows[n.toNat]? = some row) :
 df P M s w (do pure (.value (← Instr.indexAt t v (.int k n)))) (.dO row 0) s:=by
 have hC:=(List.getElem?_eq_some_iff.1 hr).1
 rcases hd.jn with ⟨rfl,_,_⟩|⟨rfl,_,_⟩|⟨b,q,cap,rfl,hl,hs,h1,h2,_⟩
 ·simp at hr
 ·simp at hr
 ·refine df.pure (v:= .pointer (some ⟨b,q+n.toNat*i.size+0,none⟩)) r ?_ ?_
  ·have:n<(rows.length:Int):=by omega
   simp[Instr.indexAt,asIntOf,run_underlying ht,h0,this,sizeOf,fZ P hi,my]
  ·refine .dO row 0 b (q+n.toNat*i.size) (fun j d hj=> ?_) (fun j d u hj hu=> ?_)
   ·obtain⟨u,hu⟩:=h1 n.toNat row j d hr hj
    exact⟨u,by rw[Nat.add_assoc];exact hu⟩
   ·exact h2 n.toNat row j d u hr hj (by rw[← Nat.add_assoc];exact hu)
def RX (lv:Option Value) (l:Int):Prop:=(lv=none∧l=0)∨∃ k,lv=some (.int k l)
def RY (hv:Option Value) (len:Nat) (h:Int):Prop:=(hv=none∧h=len)∨∃ k,hv=some (.int k h)
theorem pI {isSlice:Bool} {lv hv:Option Value} {len cap:Nat} {l h:Int} (h1:RX lv l) (h2:RY hv len h) (a:0≤l) (b:l≤h) (c:h≤len) (d:len≤cap) :
 (Instr.sliceBounds isSlice len cap lv hv none).run P w = .ok (l.toNat,h.toNat,cap) w:=by
 have h0:0≤h:=by omega
 have hc:h≤cap:=by omega
 rcases h1 with ⟨rfl,rfl⟩|⟨k,rfl⟩<;>rcases h2 with ⟨rfl,rfl⟩|⟨k',rfl⟩
 ·simp[Instr.sliceBounds]
 ·simp[Instr.sliceBounds,run_sliceBound w _ _ _ _ h0 hc]
 ·simp[Instr.sliceBounds,run_sliceBound w _ _ _ _ a b]
 ·have e:(h.toNat:Int)=h:=Int.toNat_of_nonneg h0
  simp[Instr.sliceBounds,run_sliceBound w _ _ _ _ h0 hc,run_sliceBound w _ _ _ _ a (show l≤(h.toNat:Int) by omega)]
theorem RZ (r:Rel M s w) {t:TypeId} {lv hv:Option Value} {x:List UInt8} {l h:Int} (ht:P.underlying t=some .string) (h1:RX lv l) (h2:RY hv x.length h) (a:0≤l) (b:l≤h) (c:h≤x.length) :
 df P M s w (do pure (.value (← Instr.sliceAt t (.string ⟨⟨x⟩⟩) lv hv none))) (.str ((x.take h.toNat).drop l.toNat)) s:=by
 have hb:=pI (P:=P) (w:=w) (isSlice:=false) (cap:=x.length) h1 h2 a b c (Nat.le_refl _)
 refine df.pure (v:= .string ⟨⟨(x.take h.toNat).drop l.toNat⟩⟩) r ?_ (.str _)
 simp[Instr.sliceAt,run_underlying ht,Instr.slice,Cm,hb,extract_mk]
theorem iU.cut {g:Tag} {z len Vc cap:Nat} {base:Option (Nat×Nat)} (h:iU M s g z len base cap) (hl:Vc≤len) (whole:Bool) (hw:whole=true→Vc=len):iU M s (g.cut whole) z Vc base cap:=by
 cases g with
 |full=>
  cases whole with
  |true=>rw[hw rfl];exact h
  |false=>trivial
 |shared=>trivial
 |tok t y=>
  obtain⟨x1,x2⟩:=h
  refine⟨x1,fun n hn=>⟨Nat.le_trans hl (x2 n hn).1,fun e=>?_⟩⟩
  have:len=n:=by have:=(x2 n hn).1;omega
  exact(x2 n hn).2 this
theorem Vd (r:Rel M s w) {t e:TypeId} {i:TypeInfo} {g:Tag} {z:Nat} {lv hv:Option Value} {rows:List (List D)} {v:Value} {l h:Int} (ht:P.underlying t=some (.slice e)) (Eu:P.info? e=some i) (hz:rows = []∨z=i.size)
 (hd:RD M s (.slice g z rows) v) (h1:RX lv l) (h2:RY hv rows.length h) (a:0≤l) (b:l≤h) (c:h≤rows.length) :
 df P M s w (do pure (.value (← Instr.sliceAt t v lv hv none))) (.slice (if l=0 then g.cut (h=rows.length)else .shared) z ((rows.take h.toNat).drop l.toNat)) s:=by
 have hlen:((rows.take h.toNat).drop l.toNat).length=h.toNat - l.toNat:=by simp;omega
 have tag : ∀ base cap,iU M s g z rows.length base cap→iU M s (if l=0 then g.cut (h=rows.length)else .shared) z ((rows.take h.toNat).drop l.toNat).length base cap:=by
  intro base cap oE
  split
  ·exact oE.cut (by omega) _ (fun hh=>by simp at hh;omega)
  ·trivial
 rcases hd.jn with ⟨rfl,rfl,oE⟩|⟨rfl,rfl,a',cap,rfl⟩|⟨b',q,cap,rfl,hl,hs,g1,g2,oE⟩
 ·have hb:=pI (P:=P) (w:=w) (isSlice:=true) (cap:=0) h1 h2 a b c (Nat.le_refl _)
  have qW:l=0:=by simp at c;omega
  have hh0:h=0:=by simp at c;omega
  subst qW;subst hh0
  refine df.pure (v:= .slice none 0 0) r ?_ ?_
  ·simp at hb
   simp[Instr.sliceAt,run_underlying ht,Instr.slice,hb,sizeOf,fZ P Eu]
  ·have:=tag _ _ oE
   simp only[Int.toNat_zero,List.take_nil,List.drop_nil,List.length_nil]at this ⊢
   exact .jv _ _ 0 rfl this
 ·have hb:=pI (P:=P) (w:=w) (isSlice:=true) (cap:=cap) h1 h2 a b c (Nat.zero_le _)
  have qW:l=0:=by simp at c;omega
  have hh0:h=0:=by simp at c;omega
  subst qW;subst hh0
  simp only[List.length_nil]at hb
  have dK : ∃ a2:Addr,(Instr.sliceAt t (.slice (some a') 0 cap) lv hv none).run P w = .ok (.slice (some a2) 0 cap) w:=by
   refine⟨if cap=(0:Int).toNat then a' else a'.add ((0:Int).toNat*i.size), ?_⟩
   simp only[Instr.sliceAt,Sem.run_bind,run_underlying ht,Result.andThen_ok,Instr.slice,hb,sizeOf,fZ P Eu,Sem.run_pure]
   split<;>simp
  obtain⟨a2,dK⟩:=dK
  refine df.pure (v:= .slice (some a2) 0 cap) r (by simp[dK]) ?_
  simp only[↓reduceIte,Int.toNat_zero,List.take_nil,List.drop_nil]
  have:Tag.cut .shared (decide ((0:Int)=(([] : List (List D)).length:Int))) = .shared:=rfl
  rw[this]
  exact .mr _ a2 cap
 ·have hb:=pI (P:=P) (w:=w) (isSlice:=true) (cap:=cap) h1 h2 a b c hl
  have dK:(Instr.sliceAt t (.slice (some ⟨b',q,none⟩) rows.length cap) lv hv none).run P w = .ok (.slice (some (if cap=l.toNat then⟨b',q,none⟩else⟨b',q+l.toNat*i.size,none⟩)) (h.toNat - l.toNat) (cap - l.toNat)) w:=by
   simp only[Instr.sliceAt,Sem.run_bind,run_underlying ht,Result.andThen_ok,Instr.slice,hb,sizeOf,fZ P Eu,Sem.run_pure]
   split<;>simp[my]
  by_cases qW:l=0
  ·subst qW
   have e:(if cap=(0:Int).toNat then(⟨b',q,none⟩:Addr)else⟨b',q+(0:Int).toNat*i.size,none⟩) = ⟨b',q,none⟩:=by simp
   rw[e]at dK
   refine df.pure (v:= .slice (some ⟨b',q,none⟩) ((rows.take h.toNat).drop (0:Int).toNat).length cap) r (by simp[dK];omega) ?_
   refine .slice _ z _ b' q cap (by omega) (fun row hr=>hs row ?_) (fun i row j d e1 e2=>?_) (fun i row j d u e1 e2 eu=>?_) (tag _ _ oE)
   ·simp at hr;exact List.mem_of_mem_take hr
   ·simp[List.getElem?_take]at e1;exact g1 i row j d e1.2 e2
   ·simp[List.getElem?_take]at e1;exact g2 i row j d u e1.2 e2 eu
  ·rw [if_neg qW]
   by_cases tX:cap=l.toNat
   ·have:(rows.take h.toNat).drop l.toNat = []:=List.eq_nil_of_length_eq_zero (by omega)
    rw[this]
    rw[if_pos tX]at dK
    refine df.pure (v:= .slice (some ⟨b',q,none⟩) ([] : List (List D)).length (cap - l.toNat)) r (by simp[dK];omega) ?_
    exact .slice _ z [] b' q _ (by simp) (by simp) (by simp) (by simp) trivial
   ·rw [if_neg tX]at dK
    refine df.pure (v:= .slice (some ⟨b',q+l.toNat*i.size,none⟩) ((rows.take h.toNat).drop l.toNat).length (cap - l.toNat)) r (by simp[dK];omega) ?_
    have eD : ∀ (k:Nat) (row:List D),((rows.take h.toNat).drop l.toNat)[k]? = some row→rows[l.toNat+k]? = some row:=by
     intro k row e
     rw[List.getElem?_drop,List.getElem?_take]at e
     split at e
     ·exact e
     ·cases e
    have hzz : ∀ (k:Nat) (row:List D),((rows.take h.toNat).drop l.toNat)[k]? = some row→z=i.size:=by
     intro k row e
     rcases hz with rfl|hz
     ·simp at e
     ·exact hz
    refine .slice _ z _ b' _ _ (by omega) (fun row hr=>hs row (List.mem_of_mem_take (List.mem_of_mem_drop hr))) (fun k row j d e1 e2=>?_) (fun k row j d u e1 e2 eu=>?_) trivial
    ·obtain⟨u,hu⟩:=g1 _ row j d (eD k row e1) e2
     refine⟨u, ?_⟩
     rw[← hu, ← hzz k row e1]
     congr 1
     rw[Nat.add_mul];omega
    ·refine g2 _ row j d u (eD k row e1) e2 ?_
     rw[← eu, ← hzz k row e1]
     congr 1
     rw[Nat.add_mul];omega
theorem wC (off:Nat) : ∀ (l:List Value) (k:Nat) (cells:Array Value) (i:Nat),
 ((l.zipIdx k).foldl (fun cs p=>cs.setIfInBounds (off+p.2) p.1) cells).size=cells.size∧
 (off+k+l.length≤cells.size→((l.zipIdx k).foldl (fun cs p=>cs.setIfInBounds (off+p.2) p.1) cells)[i]? = if off+k≤i∧i<off+k+l.length then l[i - (off+k)]? else cells[i]?)
 | [],k,cells,i=>by simp;intro _ h1 h2;omega
 | v::l,k,cells,i=>by
  obtain⟨h1,h2⟩:=wC off l (k+1) (cells.setIfInBounds (off+k) v) i
  simp only[List.zipIdx_cons,List.foldl_cons]
  refine⟨by rw[h1];simp,fun jx=>?_⟩
  simp only[List.length_cons]at jx
  rw[h2 (by simp;omega)]
  rw[Array.getElem?_setIfInBounds]
  by_cases hi:off+k=i
  ·subst hi
   rw[if_neg (by omega),if_pos rfl,if_pos (by omega),if_pos (by simp)]
   simp
  ·rw [if_neg hi]
   by_cases hr:off+(k+1)≤i∧i<off+(k+1)+l.length
   ·rw [if_pos hr,if_pos (by simp;omega)]
    rw[show i - (off+k)=(i - (off+(k+1)))+1 by omega]
    simp
   ·rw[if_neg hr,if_neg (by simp;omega)]
def tq (M:Map) (s:St) (ds:List D) (vs:Array Value):Prop:=vs.size=ds.length∧(∀ v∈vs,v.oneCell'=true)∧∀ (i:Nat) (d:D) (v:Value),ds[i]? = some d→vs[i]? = some v→RD M s d v
theorem tq.iG {ds:List D} {vs:Array Value} (h:tq M s ds vs) {d:D} {v:Value} {row:List D} (hd:RD M s d v) (hr:d.row=some row) {off:Nat} (jx:off+row.length≤ds.length) :
 tq M s (iG ds off row) (v.cells.zipIdx.foldl (fun cs (p:Value×Nat)=>cs.setIfInBounds (off+p.2) p.1) vs):=by
 obtain⟨h1,h2,h3⟩:=hd.row hr
 obtain⟨g1,g2,g3⟩:=h
 have e:v.cells.zipIdx.foldl (fun cs (p:Value×Nat)=>cs.setIfInBounds (off+p.2) p.1) vs=(v.cells.toList.zipIdx 0).foldl (fun cs p=>cs.setIfInBounds (off+p.2) p.1) vs:=by
  rw[← Array.foldl_toList];simp
 rw[e]
 have hl:v.cells.toList.length=row.length:=by simpa using h1
 have fs:=fun i=>wC off v.cells.toList 0 vs i
 have get : ∀ i,((v.cells.toList.zipIdx 0).foldl (fun cs p=>cs.setIfInBounds (off+p.2) p.1) vs)[i]? = if off≤i∧i<off+row.length then v.cells.toList[i - off]? else vs[i]? :=by
  intro i
  have:=(fs i).2 (by omega)
  rw[hl]at this
  simpa using this
 refine⟨by rw[(fs 0).1,g1,tV ds off row jx],fun u hu=>?_,fun i d' u e1 e2=>?_⟩
 ·obtain⟨i,hi⟩:=Array.mem_iff_getElem?.1 hu
  rw[get]at hi
  split at hi
  ·exact h2 u (Array.mem_toList_iff.1 (List.mem_of_getElem? hi))
  ·exact g2 u (Array.mem_of_getElem? hi)
 ·rw [rk ds off row jx]at e1
  rw[get]at e2
  by_cases h5:off≤i
  ·by_cases h6:i<off+row.length
   ·rw [if_pos ⟨h5,h6⟩]at e2
    rw[if_neg (by omega),if_pos h6]at e1
    exact h3 _ d' u e1 (by simpa using e2)
   ·rw [if_neg (fun h=>h6 h.2)]at e2
    rw[if_neg (by omega),if_neg h6]at e1
    exact g3 i d' u e1 e2
  ·rw [if_neg (fun h=>h5 h.1)]at e2
   rw[if_pos (by omega)]at e1
   exact g3 i d' u e1 e2
theorem JC {place:Nat→Option (Nat×Nat)} : ∀ (vp:List (Nat×Value)) (dp:List (Nat×Nat×D)) (ds:List D) (vs:Array Value) (tn:List D),tq M s ds vs→
 dp.length=vp.length→(∀ (j:Nat) (i:Nat) (v:Value) (off size:Nat) (d:D),vp[j]? = some (i,v)→dp[j]? = some (off,size,d)→place i=some (off,size)∧RD M s d v)→
 rh ds dp=some tn→∃ fD,Instr.fill place vs vp=some fD∧tq M s tn fD
 | [],[],ds,vs,tn,h,_,_,e=>by cases e;exact⟨vs,rfl,h⟩
 | [],_::_,_,_,_,_,hl,_,_=>by simp at hl
 |_::_,[],_,_,_,_,hl,_,_=>by simp at hl
 | (i,v)::vp,(off,size,d)::dp,ds,vs,tn,h,hl,hp,e=>by
  obtain⟨h1,h2⟩:=hp 0 i v off size d rfl rfl
  unfold rh at e
  split at e
  ·cases e
  ·rename_i row hr
   split at e
   ·rename_i hc
    obtain⟨c1,c2⟩:=hc
    have ej:=(h2.row hr).1
    obtain⟨fD,f1,f2⟩:=JC vp dp (iG ds off row) _ tn (h.iG h2 hr (by omega)) (by simpa using hl)
     (fun j i v off size d e1 e2=>hp (j+1) i v off size d (by simpa using e1) (by simpa using e2)) e
    refine⟨fD, ?_,f2⟩
    unfold Instr.fill
    simp only[h1]
    rw[if_neg]
    ·exact f1
    ·simp;exact⟨by omega,by have:=h.1;omega⟩
   ·cases e
end
end Go.Abs
namespace Go.Abs
section
variable {P:Program} {M:Map} {s:St} {w:World}
def l6 (M:Map) (s:St) (size:Nat) (rows:List (List D)) (vs:Array Value):Prop:=
 rows.length*size≤vs.size∧(∀ row∈rows,row.length=size)∧(∀ v∈vs,v.oneCell'=true)∧
 ∀ (i:Nat) (row:List D) (j:Nat) (d:D) (v:Value),rows[i]? = some row→row[j]? = some d→vs[i*size+j]? = some v→RD M s d v
theorem Bb {size:Nat} {rows:List (List D)} (hs : ∀ row∈rows,row.length=size) {i:Nat} {row:List D} {j:Nat} {d:D} (h1:rows[i]? = some row) (h2:row[j]? = some d):i*size+j<rows.length*size:=by
 have hi:=(List.getElem?_eq_some_iff.1 h1).1
 have hj:=(List.getElem?_eq_some_iff.1 h2).1
 have:=hs row (List.mem_of_getElem? h1)
 have:i*size+size≤rows.length*size:=by rw[← Nat.succ_mul];exact Nat.mul_le_mul_right _ hi
 omega
theorem l6.fixed {size:Nat} {rows:List (List D)} {vs:Array Value} (h:l6 M s size rows vs) {M':Map} {s':St} (le:Le M s M' s') {b:Nat}
 (hG : ∀ o,o<rows.length*size→M'.G b o=vs[o]?) :
 (∀ (i:Nat) (row:List D) (j:Nat) (d:D),rows[i]? = some row→row[j]? = some d→∃ u,M'.G b (0+(i*size+j))=some u)∧
 (∀ (i:Nat) (row:List D) (j:Nat) (d:D) (u:Value),rows[i]? = some row→row[j]? = some d→M'.G b (0+(i*size+j))=some u→RD M' s' d u):=by
 obtain⟨h1,h2,h3,h4⟩:=h
 refine⟨fun i row j d e1 e2=>?_,fun i row j d u e1 e2 eu=>?_⟩
 ·have hC:=Bb h2 e1 e2
  rw[Nat.zero_add,hG _ hC]
  exact⟨_,Array.getElem?_eq_getElem (by omega)⟩
 ·have hC:=Bb h2 e1 e2
  rw[Nat.zero_add,hG _ hC]at eu
  exact(h4 i row j d u e1 e2 eu).mono le
theorem l7 (z:List D) : ∀ n,(fY z n).length=n
 | 0=>rfl
 |n+1=>by simp[fY,l7 z n]
theorem o4 (z:List D) : ∀ n,∀ row∈fY z n,row=z
 | 0,_,h=>by cases h
 |n+1,row,h=>by
  rcases List.mem_cons.1 h with rfl|h
  ·rfl
  ·exact o4 z n row h
theorem l6.zero {z:List D} {zs:Array Value} (h:tq M s z zs) (hp:0<z.length) (n:Nat):l6 M s z.length (fY z n) ((Array.range (n*z.length)).map (zs[· % zs.size]!)):=by
 obtain⟨h1,h2,h3⟩:=h
 have get : ∀ q,q<n*z.length→((Array.range (n*z.length)).map (zs[· % zs.size]!))[q]? = zs[q % z.length]? :=by
  intro q hq
  have:q % z.length<zs.size:=by rw[h1];exact Nat.mod_lt _ hp
  simp only[Array.getElem?_map,Array.getElem?_range,hq,if_true,Option.map_some]
  rw[h1,getElem!_pos zs (q % z.length) this,Array.getElem?_eq_getElem this]
 refine⟨by simp[l7],fun row hr=>by rw[o4 z n row hr],fun v hv=>?_,fun i row j d v e1 e2 e3=>?_⟩
 ·obtain⟨q,hq⟩:=Array.mem_iff_getElem?.1 hv
  have hC:q<n*z.length:=by have:=(Array.getElem?_eq_some_iff.1 hq).1;simpa using this
  rw[get q hC]at hq
  exact h2 v (Array.mem_of_getElem? hq)
 ·have eD:=o4 z n row (List.mem_of_getElem? e1)
  subst eD
  have hC:=Bb (size:=row.length) (fun r hr=>by rw[o4 row n r hr]) e1 e2
  rw[l7]at hC
  rw[get _ hC]at e3
  have hj:=(List.getElem?_eq_some_iff.1 e2).1
  rw[Nat.mul_comm,Nat.mul_add_mod,Nat.mod_eq_of_lt hj]at e3
  exact h3 j d v e2 e3
theorem l6.set {size:Nat} {rows:List (List D)} {vs:Array Value} (h:l6 M s size rows vs) {d:D} {v:Value} {row:List D} (hd:RD M s d v) (hr:d.row=some row) (hl:row.length=size) {i:Nat} (hi:i<rows.length) :
 l6 M s size (rows.set i row) (v.cells.zipIdx.foldl (fun cs (p:Value×Nat)=>cs.setIfInBounds (i*size+p.2) p.1) vs):=by
 obtain⟨h1,h2,h3⟩:=hd.row hr
 obtain⟨g1,g2,g3,g4⟩:=h
 have e:v.cells.zipIdx.foldl (fun cs (p:Value×Nat)=>cs.setIfInBounds (i*size+p.2) p.1) vs=(v.cells.toList.zipIdx 0).foldl (fun cs p=>cs.setIfInBounds (i*size+p.2) p.1) vs:=by
  rw[← Array.foldl_toList];simp
 rw[e]
 have lh:v.cells.toList.length=size:=by simp[h1,hl]
 have jx:i*size+size≤vs.size:=by
  have:(i+1)*size≤rows.length*size:=Nat.mul_le_mul_right _ hi
  rw[Nat.succ_mul]at this;omega
 have fs:=fun q=>wC (i*size) v.cells.toList 0 vs q
 have get : ∀ q,((v.cells.toList.zipIdx 0).foldl (fun cs p=>cs.setIfInBounds (i*size+p.2) p.1) vs)[q]? = if i*size≤q∧q<i*size+size then v.cells.toList[q - i*size]? else vs[q]? :=by
  intro q
  have:=(fs q).2 (by omega)
  rw[lh]at this
  simpa using this
 refine⟨by rw[(fs 0).1];simpa using g1,fun r JE=>?_,fun u hu=>?_,fun i' jy j d' u e1 e2 e3=>?_⟩
 ·rcases List.mem_or_eq_of_mem_set JE with h | rfl
  ·exact g2 r h
  ·exact hl
 ·obtain⟨q,hq⟩:=Array.mem_iff_getElem?.1 hu
  rw[get]at hq
  split at hq
  ·exact h2 u (Array.mem_toList_iff.1 (List.mem_of_getElem? hq))
  ·exact g3 u (Array.mem_of_getElem? hq)
 ·rw [List.getElem?_set]at e1
  rw[get]at e3
  split at e1
  ·rename_i heq;subst heq
   simp at e1
   obtain⟨_,rfl⟩:=e1
   have hj:=(List.getElem?_eq_some_iff.1 e2).1
   rw[if_pos (by omega)]at e3
   rw[show i*size+j - i*size=j by omega]at e3
   exact h3 j d' u e2 (by simpa using e3)
  ·rename_i fl
   have hj:=(List.getElem?_eq_some_iff.1 e2).1
   have Bc:=g2 jy (List.mem_of_getElem? e1)
   rw[if_neg]at e3
   ·exact g4 i' jy j d' u e1 e2 e3
   ·rintro⟨a,b⟩
    rcases Nat.lt_or_gt_of_ne fl with h|h
    ·have:(i+1)*size≤i'*size:=Nat.mul_le_mul_right _ h
     rw[Nat.succ_mul]at this;omega
    ·have:(i'+1)*size≤i*size:=Nat.mul_le_mul_right _ h
     rw[Nat.succ_mul]at this;omega
theorem Bd {size:Nat} : ∀ (vp:List (Nat×Value)) (dp:List (Nat×D)) (rows:List (List D)) (vs:Array Value) (lL:List (List D)),l6 M s size rows vs→
 dp.length=vp.length→(∀ (j:Nat) (i:Nat) (v:Value) (i':Nat) (d:D),vp[j]? = some (i,v)→dp[j]? = some (i',d)→i'=i∧RD M s d v)→
 km size rows dp=some lL→∃ fD,Instr.fill (fun i=>some (i*size,size)) vs vp=some fD∧l6 M s size lL fD∧lL.length=rows.length∧fD.size=vs.size
 | [],[],rows,vs,lL,h,_,_,e=>by cases e;exact⟨vs,rfl,h,rfl,rfl⟩
 | [],_::_,_,_,_,_,hl,_,_=>by simp at hl
 |_::_,[],_,_,_,_,hl,_,_=>by simp at hl
 | (i,v)::vp,(i',d)::dp,rows,vs,lL,h,hl,hp,e=>by
  obtain⟨h1,h2⟩:=hp 0 i v i' d rfl rfl
  subst h1
  unfold km at e
  split at e
  ·cases e
  ·rename_i row hr
   split at e
   ·rename_i hc
    obtain⟨c1,c2⟩:=hc
    have ej:=(h2.row hr).1
    have agN:=h.set h2 hr c1 c2
    obtain⟨fD,f1,f2,f3,f4⟩:=Bd vp dp (rows.set i' row) _ lL agN (by simpa using hl)
     (fun j i v i' d e1 e2=>hp (j+1) i v i' d (by simpa using e1) (by simpa using e2)) e
    have jx:i'*size+size≤vs.size:=by
     have:(i'+1)*size≤rows.length*size:=Nat.mul_le_mul_right _ c2
     have:=h.1
     rw[Nat.succ_mul]at *;omega
    refine⟨fD, ?_,f2,by rw[f3];simp, ?_⟩
    ·unfold Instr.fill
     simp only
     rw[if_neg]
     ·exact f1
     ·simp;exact⟨by omega,by omega⟩
    ·rw [f4]
     have:=(wC (i'*size) v.cells.toList 0 vs 0).1
     rw[← this, ← Array.foldl_toList];simp
   ·cases e
theorem Ot (r:Rel M s w) {size:Nat} {rows:List (List D)} {vs:Array Value} (T:TypeId) (h:l6 M s size rows vs) :
 RD (M.fK w.heap.size vs.size vs) s (.slice .full size rows) (.slice (some ⟨w.heap.size,0,none⟩) rows.length rows.length)∧
 Rel (M.fK w.heap.size vs.size vs) s (w.alloc (.cells vs T))∧Ext M s w (M.fK w.heap.size vs.size vs) s (w.alloc (.cells vs T)):=by
 obtain⟨r',e'⟩:=r.fK vs.size vs T (0,0) h.2.2.1
 obtain⟨g1,g2⟩:=h.fixed e'.le (b:=w.heap.size) (fun o ho=>by
  have:o<vs.size:=Nat.lt_of_lt_of_le ho h.1
  simp[Map.fK,this])
 exact⟨.slice .full size rows w.heap.size 0 rows.length (Nat.le_refl _) h.2.1 g1 g2 rfl,r',e'⟩
theorem lD {t u ty e:TypeId} {i:TypeInfo} (ht:P.underlying t=some (.slice e)) (hi:P.info? e=some i) {base:Option Addr} {len cap:Nat} {y:Value} (hs:Src P i.size u y 0 [] w) (hc:len≤cap) :
 (Builtin.append_ #[t,u] ty #[.slice base len cap,y]).run P w = .ok (.slice base len cap) w:=by
 have l8:=hs.cells
 rcases hs.kind with ⟨e',hk⟩|hk<;>cases base<;>simp[Builtin.append_,run_underlying ht,run_underlying hk,sizeOf,typeInfo,hi,hs.len,hc,l8,storeCells]
theorem Hi (r:Rel M s w) {u e':TypeId} (hu:P.underlying u=some (.slice e')) {g:Tag} {size:Nat} {rows:List (List D)} {y:Value} (hy:RD M s (.slice g size rows) y) :
 ∃ news:List Value,Src P size u y rows.length news w∧
  (∀ (i:Nat) (row:List D) (j:Nat) (d:D) (v:Value),rows[i]? = some row→row[j]? = some d→news[i*size+j]? = some v→RD M s d v)∧
  ∀ (b q n c:Nat),y = .slice (some ⟨b,q,none⟩) n c→∀ o,o<rows.length*size→M.G b (q+o)=news[o]? :=by
 rcases hy.jn with ⟨rfl,rfl,_⟩|⟨rfl,_,a,cap,rfl⟩|⟨b,q,cap,rfl,hl,hs,g1,g2,_⟩
 ·exact⟨[],Src.ofNil w hu 0,by simp,by simp⟩
 ·exact⟨[],Src.ofSlice w hu a 0 cap [] (by simp) (by simp) (by simp),by simp,by simp⟩
 ·obtain⟨us,hlen,Dh⟩:=zi (M:=M) (b:=b) (rows.length*size) q (fun k hk=>by
   have hz:0<size:=by
    rcases Nat.eq_zero_or_pos size with h|h
    ·subst h;simp at hk
    ·exact h
   have hi:k / size<rows.length:=by rw[Nat.div_lt_iff_lt_mul hz];exact hk
   obtain⟨row,eD⟩ : ∃ row,rows[k / size]? = some row:=⟨_,List.getElem?_eq_getElem hi⟩
   have Bc:=hs row (List.mem_of_getElem? eD)
   have hj:k % size<row.length:=by rw[Bc];exact Nat.mod_lt _ hz
   obtain⟨u,hu⟩:=g1 _ row _ _ eD (List.getElem?_eq_getElem hj)
   refine⟨u, ?_⟩
   rw[← hu,Nat.mul_comm (k / size) size,Nat.div_add_mod])
  refine⟨us,Src.ofSlice w hu ⟨b,q,none⟩ rows.length cap us hlen (fun j u h=>by rw[my];exact(r.comm _ _ _ (Dh j u h)).1) (fun u hu=>?_),fun i row j d v e1 e2 e3=>g2 i row j d v e1 e2 (Dh _ v e3),
   fun b' q' n c heq o ho=>by
    cases heq
    rw[Dh o _ (List.getElem?_eq_getElem (by omega)),List.getElem?_eq_getElem (by omega)]⟩
  obtain⟨j,hj⟩:=List.mem_iff_getElem?.1 hu
  exact(r.comm _ _ _ (Dh j u hj)).2
theorem Ev {size:Nat} {rows new:List (List D)} {p0 news:List Value} (Ai : ∀ row∈rows,row.length=size) (Aj : ∀ row∈new,row.length=size)
 (l1:p0.length=rows.length*size) (l2:news.length=new.length*size) (o1 : ∀ u∈p0,u.oneCell'=true) (o2 : ∀ u∈news,u.oneCell'=true)
 (h1 : ∀ (i:Nat) (row:List D) (j:Nat) (d:D) (v:Value),rows[i]? = some row→row[j]? = some d→p0[i*size+j]? = some v→RD M s d v)
 (h2 : ∀ (i:Nat) (row:List D) (j:Nat) (d:D) (v:Value),new[i]? = some row→row[j]? = some d→news[i*size+j]? = some v→RD M s d v)
 (z:Array Value) (hz : ∀ v∈z,v.oneCell'=true):l6 M s size (rows++new) ((p0++news).toArray++z):=by
 have hs : ∀ row∈rows++new,row.length=size:=fun row h=>(List.mem_append.1 h).elim (Ai row) (Aj row)
 refine⟨by simp[l1,l2,Nat.add_mul],hs,fun v hv=>?_,fun i row j d v e1 e2 e3=>?_⟩
 ·simp at hv
  rcases hv with (h|h)|h
  ·exact o1 v h
  ·exact o2 v h
  ·exact hz v h
 ·have hC:=Bb hs e1 e2
  rw[List.length_append,Nat.add_mul]at hC
  rw[Array.getElem?_append_left (by simp[l1,l2];omega),List.getElem?_toArray]at e3
  by_cases hi:i<rows.length
  ·rw [List.getElem?_append_left hi]at e1
   have:=Bb Ai e1 e2
   rw[List.getElem?_append_left (by omega)]at e3
   exact h1 i row j d v e1 e2 e3
  ·rw [List.getElem?_append_right (by omega)]at e1
   have eL:rows.length*size≤i*size:=Nat.mul_le_mul_right _ (by omega)
   rw[List.getElem?_append_right (by omega),l1]at e3
   refine h2 (i - rows.length) row j d v e1 e2 ?_
   rw[← e3]
   congr 1
   rw[Nat.sub_mul];omega
theorem tY {z:Array Value} (h : ∀ v∈z,v.oneCell'=true) (n:Nat) : ∀ v∈Builtin.zeroCells z n,v.oneCell'=true:=by
 intro v hv
 unfold Builtin.zeroCells at hv
 obtain⟨q,hq,rfl⟩:=Array.mem_map.1 hv
 have hC:q<n*z.size:=by simpa using hq
 have hz:0<z.size:=by
  rcases Nat.eq_zero_or_pos z.size with h|h
  ·rw[h]at hC;simp at hC
  ·exact h
 have:=Nat.mod_lt q hz
 rw[getElem!_pos z (q % z.size) this]
 exact h _ (Array.getElem_mem this)
def Gc (eb:Bool) (size bytes:Nat) (x y:D) (s:St):Option (D×St):=
 match x,y with
 | .slice g z rows, .slice _ z' new=>
  if(rows = []∨z=size)∧(new = []∨z'=size)∧(rows.length+new.length)*(bytes+1)≤bA then
   match new with
   | []=>some (.slice g z rows,s)
   |_::_=>
    match g with
    | .full=>some (.slice (.tok s.aw.length eb) size (rows++new),{s with aw:=s.aw++ [some (rows.length+new.length)]})
    | .shared=>none
    | .tok t y=>if(y=true→eb=true)∧z=size∧s.aw[t]? = some (some rows.length)then some (.slice (.tok t y) size (rows++new),{s with aw:=s.aw.set t (some (rows.length+new.length))})else none
  else none
 |_,_=>none
theorem acz {size bytes:Nat} {x y d:D} {s s':St} (h:gw size bytes x y s=some (d,s')):Gc false size bytes x y s=some (d,s'):=by
 unfold gw at h
 unfold Gc
 split at h
 ·split at h
  ·rename_i hc
   simp only[hc,and_self,if_true]
   split at h
   ·exact h
   ·split at h
    ·exact h
    ·exact h
    ·cases h
    ·split at h
     ·rename_i hq
      simp only[hq,and_self,Bool.false_eq_true,false_imp_iff,if_true]
      exact h
     ·cases h
  ·cases h
 ·cases h
theorem R0 {x y d:D} {s s':St} (h:A1 x y s=some (d,s')):Gc true 1 1 x y s=some (d,s'):=by
 unfold A1 at h
 unfold Gc
 split at h
 ·split at h
  ·rename_i hc
   simp only[hc,and_self,if_true]
   split at h
   ·exact h
   ·split at h
    ·exact h
    ·exact h
    ·split at h
     ·rename_i hq
      simp only[hq,and_self,imp_true_iff,if_true]
      exact h
     ·cases h
  ·cases h
 ·cases h
theorem Yj {b:Bool} {n:Nat} (h:b=true→n=1) (hn:0<n):zs (bz b n)=n:=by
 cases b
 ·show(if n=0 then 1 else n)=n
  rw[if_neg (by omega)]
 ·simp[zs,bz,h rfl]
theorem DJ (eb:Bool) (r:Rel M s w) {t u ty e:TypeId} {i:TypeInfo} {z:Value} (ht:P.underlying t=some (.slice e)) (hi:P.info? e=some i) (hz:i.zero=some z)
 (yf:z.cells.size=i.size) (Dk : ∀ v∈z.cells,v.oneCell'=true) {dx dy d:D} {x y:Value} {s':St} (hx:RD M s dx x) (Yk:eb=true→e=pH∧i.size=1) (sv:0<i.size) (he:Gc eb i.size i.bytes dx dy s=some (d,s'))
 (src : ∀ (g:Tag) (size:Nat) (rows:List (List D)),dy = .slice g size rows→(rows = []→Src P i.size u y 0 [] w)∧(rows≠ []→size=i.size→(∀ row∈rows,row.length=i.size)∧∃ news:List Value,Src P i.size u y rows.length news w∧
  (∀ (k:Nat) (row:List D) (j:Nat) (d:D) (v:Value),rows[k]? = some row→row[j]? = some d→news[k*i.size+j]? = some v→RD M s d v))) :
 ∃ v w' M',(Builtin.append_ #[t,u] ty #[x,y]).run P w = .ok v w'∧Rel M' s' w'∧RD M' s' d v∧Ext M s w M' s' w':=by
 unfold Gc at he
 split at he
 case h_2=>cases he
 rename_i g zx rows g' zy new
 split at he
 case isFalse=>cases he
 rename_i hc
 obtain⟨pU,JF,wD⟩:=hc
 cases new with
 | nil=>
  simp only at he
  cases he
  have vm:Src P i.size u y 0 [] w:=(src _ _ _ rfl).1 rfl
  rcases hx.jn with ⟨_,hv,_⟩|⟨_,_,a,cap,hv⟩|⟨b,q,cap,hv,hl,_⟩
  ·refine⟨x,w,M, ?_,r,hx,Ext.refl M s w⟩
   rw[hv]
   exact lD ht hi vm (Nat.le_refl _)
  ·refine⟨x,w,M, ?_,r,hx,Ext.refl M s w⟩
   rw[hv]
   exact lD ht hi vm (Nat.zero_le _)
  ·refine⟨x,w,M, ?_,r,hx,Ext.refl M s w⟩
   rw[hv]
   exact lD ht hi vm hl
 | cons n0 new=>
  have fl:(n0::new)≠ []:=by simp
  generalize dv:n0::new=ez at *
  have R3:zy=i.size:=JF.resolve_left fl
  subst R3
  obtain⟨Hj,news,hs,Cn⟩:=(src _ _ _ rfl).2 fl rfl
  have hm:0<ez.length:=List.length_pos_iff.2 fl
  have tu:(rows.length+ez.length)*i.bytes≤140737488355328:=by rw[Nat.mul_succ]at wD;simp only[bA]at wD;omega
  have R4:rows.length+ez.length≤1099511627776:=by rw[Nat.mul_succ]at wD;simp only[bA]at wD;omega
  -- what the first argument reads as
  obtain⟨base,cap,p0,hxv,hle,jX,hod,Yl,acB,hsx,hoG,oE⟩ : ∃ (base:Option Addr) (cap:Nat) (p0:List Value),x = .slice base rows.length cap∧rows.length≤cap∧p0.length=rows.length*i.size∧
   (Builtin.firstCells i.size rows.length (.slice base rows.length cap)).run P w.drew = .ok p0.toArray w.drew∧(∀ u∈p0,u.oneCell'=true)∧
   (∀ (k:Nat) (row:List D) (j:Nat) (d:D) (v:Value),rows[k]? = some row→row[j]? = some d→p0[k*i.size+j]? = some v→RD M s d v)∧(∀ row∈rows,row.length=i.size)∧
   (∀ b q,base=some ⟨b,q,none⟩→∀ o,o<rows.length*i.size→M.G b (q+o)=p0[o]?)∧
   ((base=none∧rows = []∧iU M s g zx 0 none cap)∨∃ b q,base=some ⟨b,q,none⟩∧iU M s g zx rows.length (some (b,q)) cap):=by
   rcases pU with h0|h0
   ·subst h0
    rcases hx.jn with ⟨_,hv,oE⟩|⟨_,rfl,_⟩|⟨b,q,cap,hv,hl,_,_,_,oE⟩
    ·exact⟨none,0,[],hv,Nat.le_refl _,by simp,by simp[Builtin.firstCells],by simp,by simp,by simp,by simp, .inl ⟨rfl,rfl,oE⟩⟩
    ·exfalso;simp only[← dv]at he;cases he
    ·exact⟨some ⟨b,q,none⟩,cap,[],hv,hl,by simp,by simp[Builtin.firstCells,loadCells,loadCellsFrom],by simp,by simp,by simp,by simp, .inr ⟨b,q,rfl,oE⟩⟩
   ·subst h0
    obtain⟨p0,Be,se,kN⟩:=Hi r ht hx
    rcases hx.jn with ⟨h0,hv,oE⟩|⟨_,rfl,_⟩|⟨b,q,cap,hv,hl,o5,_,_,oE⟩
    ·subst h0
     refine⟨none,0,p0,hv,Nat.le_refl _,Be.newsLen, ?_,Be.one,se,by simp,by simp, .inl ⟨rfl,rfl,oE⟩⟩
     have:=Be.cellsD;rw[hv]at this;exact this
    ·exfalso;simp only[← dv]at he;cases he
    ·refine⟨some ⟨b,q,none⟩,cap,p0,hv,hl,Be.newsLen, ?_,Be.one,se,o5,fun b' q' heq o ho=> ?_, .inr ⟨b,q,rfl,oE⟩⟩
     ·have:=Be.cellsD;rw[hv]at this;exact this
     ·cases heq;exact kN b q _ cap hv o ho
  subst hxv
  -- the way that makes a new row
  have grow : ∀ (hg:cap<rows.length+ez.length),∃ (w':World) (M1:Map) (vs:Array Value) (o6:Nat),
   (Builtin.append_ #[t,u] ty #[.slice base rows.length cap,y]).run P w = .ok (.slice (some ⟨w.heap.size,0,none⟩) (rows.length+ez.length) o6) w'∧
   w'.heap[w.heap.size]? = some (.cells vs e (0,0))∧vs.size=o6*i.size∧rows.length+ez.length≤o6∧M1=M.fK w.heap.size ((rows.length+ez.length)*i.size) vs∧
   l6 M s i.size (rows++ez) vs∧Rel M1 s w'∧Ext M s w M1 s w':=by
   intro hg
   have eL:=grownCap_ge w (rows.length+ez.length) cap e
   have dK:=run_append_grow_src (P:=P) w t u ty e i z ht hi hz base rows.length cap p0 hod y ez.length news hs hg (by omega) (growslice_fits hg tu)
   have eD:=Ev (M:=M) (s:=s) hsx Hj jX hs.newsLen Yl hs.one acB Cn (Builtin.zeroCells z.cells (grownCap w (rows.length+ez.length) cap e - (rows.length+ez.length))) (tY Dk _)
   obtain⟨r1,e1⟩:=(r.of_heap (w':=w.drew) rfl).fK ((rows.length+ez.length)*i.size) _ e (0,0) eD.2.2.1
   refine⟨_,_,_,_,dK,heap_alloc_new w.drew _, ?_,eL,rfl,eD,r1,(Ext.of_heap (M:=M) (s:=s) (w:=w) (w':=w.drew) rfl rfl rfl rfl).trans e1⟩
   simp only[Array.size_append,List.size_toArray,List.length_append,size_zeroCells,yf,jX,hs.newsLen, ← Nat.add_mul]
   congr 1;omega
  have hlen:(rows++ez).length=rows.length+ez.length:=by simp
  cases g with
  |shared=>simp only[← dv]at he;cases he
  | full=>
   have tX:cap=rows.length:=by
    rcases oE with ⟨_,h0,h1⟩|⟨_,_,_,h1⟩
    ·subst h0;exact h1
    ·exact h1
   obtain⟨w',M1,vs,o6,dK,hh,ej,hn,Ew,eD,r1,e1⟩:=grow (by omega)
   simp only[← dv]at he
   simp only[dv]at he
   cases he
   have JG:zs (bz eb i.size)=i.size:=Yj (fun h=>(Yk h).2) sv
   have Ym:bz eb i.size=0→e=pH:=fun h0=>by
    cases eb with
    |true=>exact(Yk rfl).1
    |false=>simp[bz]at h0;omega
   obtain⟨r2,l2⟩:=r1.Yi (rows.length+ez.length) w.heap.size o6 (bz eb i.size) vs e hh (by rw[JG];exact ej) hn Ym
    (fun off ho=>by rw[JG]at ho;rw[Ew];simp[Map.fK];omega)
    (fun o ho=>by have:=r.qw ho;rw [Ew];show M.mu o≠_;omega) (fun q c z' hl heq=>by
     have:M.be q=some (w.heap.size,c,z'):=by rw[Ew]at heq;exact heq
     have:=r.sM hl this;omega)
   refine⟨_,w',_,dK,r2, ?_, ?_⟩
   ·obtain⟨f1,f2⟩:=eD.fixed (e1.le.trans l2) (b:=w.heap.size) (fun o ho=>by
     rw[Ew,hlen]at *
     simp[Map.e7,Map.fK,ho])
    have key:=RD.slice (M:=M1.e7 s.aw.length (some (w.heap.size,o6,bz eb i.size))) (s:= {s with aw:=s.aw++ [some (rows.length+ez.length)]}) (.tok s.aw.length eb) i.size (rows++ez) w.heap.size 0 o6 (by rw[hlen];exact hn) eD.2.1 f1 f2
     ⟨by simp,fun n nc=>by
      simp at nc
      subst nc
      exact⟨by rw[hlen];exact Nat.le_refl _,fun _=> .inr ⟨_,rfl,by simp[Map.e7]⟩⟩⟩
    rw[hlen]at key
    exact key
   ·refine⟨e1.le.trans l2,e1.kept,e1.tU,fun q b c z' hl heq=> ?_,e1.sj,e1.size,e1.os,e1.tape,e1.output⟩
    obtain⟨k,hk⟩:=hl
    rcases Nat.lt_or_ge q s.aw.length with h|h
    ·have JH:M1.be q=some (b,c,z'):=by
      have:(M1.e7 s.aw.length (some (w.heap.size,o6,bz eb i.size))).be q=M1.be q:=by simp[Map.e7];omega
      rw[this]at heq;exact heq
     simp only[List.getElem?_append_left h]at hk
     exact e1.qG q b c z' ⟨k,hk⟩ JH
    ·have:=(List.getElem?_eq_some_iff.1 hk).1
     simp at this
     have:q=s.aw.length:=by omega
     subst this
     have:(M1.e7 s.aw.length (some (w.heap.size,o6,bz eb i.size))).be s.aw.length=some (w.heap.size,o6,bz eb i.size):=by simp[Map.e7]
     rw[this]at heq;cases heq
     exact .inr (Nat.le_refl _)
  | tok q yb=>
   simp only[← dv]at he
   simp only[dv]at he
   split at he
   case isFalse=>cases he
   rename_i hq
   obtain⟨Ym,hzx,hq⟩:=hq
   cases he
   have JG:zs (bz yb i.size)=i.size:=Yj (fun h=>(Yk (Ym h)).2) sv
   have akf:bz yb i.size=0→e=pH:=fun h0=>by
    cases yb with
    |true=>exact(Yk (Ym rfl)).1
    |false=>simp[bz]at h0;omega
   have Ou : ∀ (hg:cap<rows.length+ez.length),∃ v w' M',(Builtin.append_ #[t,u] ty #[.slice base rows.length cap,y]).run P w = .ok v w'∧Rel M' {s with aw:=s.aw.set q (some (rows.length+ez.length))} w'∧
    RD M' {s with aw:=s.aw.set q (some (rows.length+ez.length))} (.slice (.tok q yb) i.size (rows++ez)) v∧Ext M s w M' {s with aw:=s.aw.set q (some (rows.length+ez.length))} w':=by
    intro hg
    obtain⟨w',M1,vs,o6,dK,hh,ej,hn,Ew,eD,r1,e1⟩:=grow hg
    have JI:q<s.aw.length:=(List.getElem?_eq_some_iff.1 hq).1
    obtain⟨r2,l2⟩:=r1.agK q rows.length (rows.length+ez.length) w.heap.size o6 (bz yb i.size) vs e hq (by omega) hh (by rw[JG];exact ej) hn akf
     (fun off ho=>by rw[JG]at ho;rw[Ew];simp[Map.fK];omega)
     (fun o ho=>by have:=r.qw ho;rw [Ew];show M.mu o≠_;omega) (fun q c z' hl heq=>by
      have:M.be q=some (w.heap.size,c,z'):=by rw[Ew]at heq;exact heq
      have:=r.sM hl this;omega)
    refine⟨_,w',_,dK,r2, ?_, ?_⟩
    ·obtain⟨f1,f2⟩:=eD.fixed (e1.le.trans l2) (b:=w.heap.size) (fun o ho=>by
      rw[Ew,hlen]at *
      simp[Map.e7,Map.fK,ho])
     have key:=RD.slice (M:=M1.e7 q (some (w.heap.size,o6,bz yb i.size))) (s:= {s with aw:=s.aw.set q (some (rows.length+ez.length))}) (.tok q yb) i.size (rows++ez) w.heap.size 0 o6 (by rw[hlen];exact hn) eD.2.1 f1 f2
      ⟨by simp [JI],fun n nc=>by
       simp[JI]at nc
       subst nc
       exact⟨by rw[hlen];exact Nat.le_refl _,fun _=> .inr ⟨_,rfl,by simp[Map.e7]⟩⟩⟩
     rw[hlen]at key
     exact key
    ·refine⟨e1.le.trans l2,e1.kept,e1.tU,fun q' b c z' hl heq=> ?_,e1.sj,e1.size,e1.os,e1.tape,e1.output⟩
     obtain⟨k,hk⟩:=hl
     by_cases h:q'=q
     ·subst h
      have:(M1.e7 q' (some (w.heap.size,o6,bz yb i.size))).be q'=some (w.heap.size,o6,bz yb i.size):=by simp[Map.e7]
      rw[this]at heq;cases heq
      exact .inr (Nat.le_refl _)
     ·have JH:M1.be q'=some (b,c,z'):=by
       have:(M1.e7 q (some (w.heap.size,o6,bz yb i.size))).be q'=M1.be q':=by simp[Map.e7,h]
       rw[this]at heq;exact heq
      simp only[List.getElem?_set_ne (Ne.symm h)]at hk
      exact e1.qG q' b c z' ⟨k,hk⟩ JH
   rcases oE with ⟨rfl,rfl,h1⟩|⟨b,k,rfl,h1⟩
   ·obtain⟨_,h2⟩:=h1
    obtain⟨_,h3⟩:=h2 _ hq
    rcases h3 rfl with ⟨_,h4⟩|⟨b,h4,_⟩
    ·exact Ou (by simp;omega)
    ·cases h4
   ·obtain⟨_,h2⟩:=h1
    obtain⟨_,h3⟩:=h2 _ hq
    rcases h3 rfl with ⟨_,h4⟩|⟨b2,h4,kW⟩
    ·exact Ou (by omega)
    cases h4
    subst hzx
    by_cases fP:rows.length+ez.length≤cap
    ·rcases r.tok q rows.length hq with ⟨h4,_⟩ | ⟨b',qJ,ze,vs,T,h4,h5,h6,h7,h8⟩
     ·rw[kW]at h4;cases h4
     ·rw [kW]at h4;cases h4
      rw[JG]at h6
      obtain⟨r2,e2⟩:=r.agL q rows.length ez.length b cap (bz yb i.size) i.size news JG hq kW hs.newsLen fP hm hs.one vs T h5 h6 h8.2
      have jx:rows.length*i.size+news.length≤vs.size:=by rw[hs.newsLen,h6, ← Nat.add_mul];exact Nat.mul_le_mul_right _ fP
      have jV:=run_storeCells_at P b (rows.length*i.size) T news 0 vs w h5 (by simpa using jx) hs.one
      simp only[Nat.add_zero]at jV
      have dK:(Builtin.append_ #[t,u] ty #[.slice (some ⟨b,0,none⟩) rows.length cap,y]).run P w = .ok (.slice (some ⟨b,0,none⟩) (rows.length+ez.length) cap) (w.setRow b (vs.toList.take (rows.length*i.size)++news++vs.toList.drop (rows.length*i.size+news.length)).toArray):=by
       rcases hs.kind with ⟨M3,hk⟩|hk<;>simp[Builtin.append_,run_underlying ht,run_underlying hk,sizeOf,typeInfo,hi,hs.len,fP,hs.cells,Addr.add_lit,jV]
      refine⟨_,_,_,dK,r2, ?_,e2⟩
      have hG : ∀ o,o<(rows++ez).length*i.size→(M.fix b (rows.length*i.size) news).G b o=(p0++news).toArray[o]? :=by
       intro o ho
       rw[hlen,Nat.add_mul]at ho
       rw[List.getElem?_toArray]
       by_cases h9:o<rows.length*i.size
       ·rw [List.getElem?_append_left (by omega)]
        have:(M.fix b (rows.length*i.size) news).G b o=M.G b o:=by simp[Map.fix];omega
        rw[this]
        have:=hoG b 0 rfl o h9
        rwa [Nat.zero_add]at this
       ·rw [List.getElem?_append_right (by omega),jX]
        have:(M.fix b (rows.length*i.size) news).G b o=news[o - rows.length*i.size]? :=by
         simp only[Map.fix];rw[if_pos ⟨trivial,by omega,by rw[hs.newsLen];omega⟩]
        rw[this]
      have eD:=Ev (M:=M) (s:=s) hsx Hj jX hs.newsLen Yl hs.one acB Cn #[] (by simp)
      rw[Array.append_empty]at eD
      obtain⟨f1,f2⟩:=eD.fixed e2.le (b:=b) hG
      have JI:q<s.aw.length:=(List.getElem?_eq_some_iff.1 hq).1
      have key:=RD.slice (M:=M.fix b (rows.length*i.size) news) (s:= {s with aw:=s.aw.set q (some (rows.length+ez.length))}) (.tok q yb) i.size (rows++ez) b 0 cap (by rw[hlen];exact fP) eD.2.1 f1 f2
       ⟨by simp [JI],fun n nc=>by
        simp[JI]at nc
        subst nc
        exact⟨by rw[hlen];exact Nat.le_refl _,fun _=> .inr ⟨_,rfl,kW⟩⟩⟩
      rw[hlen]at key
      exact key
    ·exact Ou (by omega)
theorem Gd (r:Rel M s w) {u e':TypeId} {i:TypeInfo} (hu:P.underlying u=some (.slice e')) {y:Value} {dy:D} (hy:RD M s dy y) (g:Tag) (size:Nat) (rows:List (List D)) (hdy:dy = .slice g size rows) :
 (rows = []→Src P i.size u y 0 [] w)∧(rows≠ []→size=i.size→(∀ row∈rows,row.length=i.size)∧∃ news:List Value,Src P i.size u y rows.length news w∧
  (∀ (k:Nat) (row:List D) (j:Nat) (d:D) (v:Value),rows[k]? = some row→row[j]? = some d→news[k*i.size+j]? = some v→RD M s d v)):=by
 subst hdy
 refine⟨fun h0=>?_,fun fl ej=>?_⟩
 ·subst h0
  rcases hy.jn with ⟨_,rfl,_⟩|⟨_,_,a,cap,rfl⟩|⟨b,q,cap,rfl,_⟩
  ·exact Src.ofNil w hu 0
  ·exact Src.ofSlice w hu a 0 cap [] (by simp) (by simp) (by simp)
  ·exact Src.ofSlice w hu ⟨b,q,none⟩ 0 cap [] (by simp) (by simp) (by simp)
 ·subst ej
  obtain⟨news,h1,h2,_⟩:=Hi r hu hy
  refine⟨?_,news,h1,h2⟩
  rcases hy.jn with ⟨h0,_⟩|⟨h0,_⟩|⟨_,_,_,_,_,h,_⟩
  ·exact(fl h0).elim
  ·exact(fl h0).elim
  ·exact h
theorem R5 (r:Rel M s w) {t u ty e e':TypeId} {i:TypeInfo} {z:Value} (ht:P.underlying t=some (.slice e)) (hu:P.underlying u=some (.slice e')) (hi:P.info? e=some i) (hz:i.zero=some z)
 (yf:z.cells.size=i.size) (Dk : ∀ v∈z.cells,v.oneCell'=true) {dx dy d:D} {x y:Value} {s':St} (hx:RD M s dx x) (hy:RD M s dy y) (sv:0<i.size) (he:gw i.size i.bytes dx dy s=some (d,s')) :
 ∃ v w' M',(Builtin.append_ #[t,u] ty #[x,y]).run P w = .ok v w'∧Rel M' s' w'∧RD M' s' d v∧Ext M s w M' s' w':=
 DJ false r ht hi hz yf Dk hx (fun h=>by cases h) sv (acz he) (Gd r hu hy)
theorem Ov (r:Rel M s w) {t u ty e':TypeId} {i:TypeInfo} {z:Value} (ht:P.underlying t=some (.slice pH)) (hu:P.underlying u=some (.slice e')) (hi:P.info? pH=some i) (hz:i.zero=some z) (h1:i.size=1) (h2:i.bytes=1)
 (yf:z.cells.size=i.size) (Dk : ∀ v∈z.cells,v.oneCell'=true) {dx dy d:D} {x y:Value} {s':St} (hx:RD M s dx x) (hy:RD M s dy y) (he:A1 dx dy s=some (d,s')) :
 ∃ v w' M',(Builtin.append_ #[t,u] ty #[x,y]).run P w = .ok v w'∧Rel M' s' w'∧RD M' s' d v∧Ext M s w M' s' w':=
 DJ true r ht hi hz yf Dk hx (fun _=>⟨rfl,h1⟩) (by omega) (by rw[h1,h2];exact R0 he) (Gd r hu hy)
theorem Ow (r:Rel M s w) {t u ty:TypeId} {i:TypeInfo} {z:Value} (ht:P.underlying t=some (.slice pH)) (hu:P.underlying u=some .string) (hi:P.info? pH=some i) (hz:i.zero=some z) (h1:i.size=1) (h2:i.bytes=1)
 (yf:z.cells.size=i.size) (Dk : ∀ v∈z.cells,v.oneCell'=true) {dx d:D} {x:Value} {l:List UInt8} {s':St} (hx:RD M s dx x) (he:A1 dx (.slice .shared 1 (l.map fun c=> [.int .u8 c.toNat])) s=some (d,s')) :
 ∃ v w' M',(Builtin.append_ #[t,u] ty #[x, .string ⟨⟨l⟩⟩]).run P w = .ok v w'∧Rel M' s' w'∧RD M' s' d v∧Ext M s w M' s' w':=by
 have hs:Src P i.size u (.string ⟨⟨l⟩⟩) l.length (l.map fun c=> .int .u8 c.toNat) w:=by
  rw[h1]
  exact Src.ofString w hu ⟨⟨l⟩⟩
 refine DJ true r ht hi hz yf Dk hx (fun _=>⟨rfl,h1⟩) (by omega) (by rw[h1,h2];exact R0 he) fun g size rows hdy=>?_
 cases hdy
 refine⟨fun h0=>?_,fun fl ej=>?_⟩
 ·have:l = []:=by simpa using h0
  subst this
  exact hs
 ·refine⟨fun row hr=> ?_,_,by simpa using hs,fun k row j d v e1 e2 e3=> ?_⟩
  ·obtain⟨c,_,rfl⟩:=List.mem_map.1 hr
   rw[h1];rfl
  ·rw [List.getElem?_map,Option.map_eq_some_iff]at e1
   obtain⟨c,e1,rfl⟩:=e1
   cases j with
   |zero=>
    simp at e2
    subst e2
    simp[h1,e1]at e3
    subst e3
    exact .int _ _
   |succ j=>simp at e2
end
end Go.Abs
namespace Go.Abs
section
variable {P:Program} {M:Map} {s:St} {w:World}
theorem map_some {α β:Type} {f:α→β} {x:Option α} {y:β} (h:x.map f=some y) : ∃ a,x=some a∧y=f a:=by
 cases x with
 |none=>cases h
 |some a=>cases h;exact⟨a,rfl,rfl⟩
theorem sN {t:TypeId} {z:List D} (h:zeroOf P t=some z) : ∃ i v,P.info? t=some i∧i.zero=some v∧v.cells.size=i.size∧nT v.cells.toList=some z:=by
 unfold zeroOf at h
 split at h
 ·rename_i i hi
  split at h
  ·rename_i v hv
   split at h
   ·exact⟨i,v,hi,hv, ‹_›,h⟩
   ·cases h
  ·cases h
 ·cases h
theorem rp {z:List D} {v:Value} (h:nT v.cells.toList=some z):tq M s z v.cells:=by
 obtain⟨h1,h2,h3⟩:=ly (M:=M) (s:=s) h
 exact⟨by simpa using h1.symm,fun u hu=>h2 u (by simpa using hu),fun i d u e1 e2=>h3 i d u e1 (by simpa using e2)⟩
theorem Ox {t:TypeId} {z:List D} (h:zc P t=some z) : ∃ i v,P.info? t=some i∧i.zero=some v∧v.cells.size=i.size∧tq M s z v.cells:=by
 unfold zc at h
 split at h
 ·rename_i i hi
  split at h
  ·rename_i v hv
   split at h
   ·refine⟨i,v,hi,hv, ‹_›, ?_⟩
    obtain⟨h1,h2,h3⟩:=Di (M:=M) (s:=s) h
    exact⟨by simpa using h1.symm,fun u hu=>h2 u (by simpa using hu),fun i d u e1 e2=>h3 i d u e1 (by simpa using e2)⟩
   ·cases h
  ·cases h
 ·cases h
theorem Bf {t:TypeId} {tm:Tm} {act:Act} (hr:l5 M s tm act.tmps) : ∀ {l:List (Nat×Operand)} {ps:List (Nat×Nat×X)},A4 P t l=some ps→
 (ps.map fun p=>(p.1,p.2.1,p.2.2.ev tm)).length=(l.map fun p=>(p.1,act.eval p.2)).length∧
 ∀ (j:Nat) (i:Nat) (v:Value) (off size:Nat) (d:D),(l.map fun p=>(p.1,act.eval p.2))[j]? = some (i,v)→(ps.map fun p=>(p.1,p.2.1,p.2.2.ev tm))[j]? = some (off,size,d)→
  (∃ a,mw P t i=some (off,size,a))∧RD M s d v
 | [],ps,h=>by cases h;exact⟨rfl,by simp⟩
 | (i0,x)::l,ps,h=>by
  unfold A4 at h
  split at h
  ·rename_i off size a x' r' h1 h2 h3
   cases h
   obtain⟨g1,g2⟩:=Bf hr h3
   refine⟨by simpa using g1,fun j i v xl ze d e1 e2=>?_⟩
   cases j with
   |zero=>
    simp at e1 e2
    obtain⟨rfl,rfl⟩:=e1
    obtain⟨rfl,rfl,rfl⟩:=e2
    exact⟨⟨a,h1⟩,bZ h2 hr⟩
   |succ j=>exact g2 j i v xl ze d (by simpa using e1) (by simpa using e2)
  ·cases h
theorem Ey {tm:Tm} {act:Act} (hr:l5 M s tm act.tmps) : ∀ {l:List (Nat×Operand)} {ps:List (Nat×X)},Jx l=some ps→
 (ps.map fun p=>(p.1,p.2.ev tm)).length=(l.map fun p=>(p.1,act.eval p.2)).length∧
 ∀ (j:Nat) (i:Nat) (v:Value) (i':Nat) (d:D),(l.map fun p=>(p.1,act.eval p.2))[j]? = some (i,v)→(ps.map fun p=>(p.1,p.2.ev tm))[j]? = some (i',d)→i'=i∧RD M s d v
 | [],ps,h=>by cases h;exact⟨rfl,by simp⟩
 | (i0,x)::l,ps,h=>by
  unfold Jx at h
  split at h
  ·rename_i x' r' h1 h2
   cases h
   obtain⟨g1,g2⟩:=Ey hr h2
   refine⟨by simpa using g1,fun j i v i' d e1 e2=>?_⟩
   cases j with
   |zero=>
    simp at e1 e2
    obtain⟨rfl,rfl⟩:=e1
    obtain⟨rfl,rfl⟩:=e2
    exact⟨rfl,bZ h1 hr⟩
   |succ j=>exact g2 j i v i' d (by simpa using e1) (by simpa using e2)
  ·cases h
theorem Ez : ∀ (l:List Field),(∀ f∈l,(P.info? f.type).isSome)→
 ∃ ps:List (Nat×Nat),(l.mapM fun f=>do pure (f.offset, ← sizeOf f.type):Sem (List (Nat×Nat))).run P w = .ok ps w∧
  ∀ (j:Nat) (f:Field) (i:TypeInfo),l[j]? = some f→P.info? f.type=some i→ps[j]? = some (f.offset,i.size)
 | [],_=>⟨[],rfl,by simp⟩
 | f::l,h=>by
  obtain⟨i,hi⟩:=Option.isSome_iff_exists.1 (h f (by simp))
  obtain⟨ps,h1,h2⟩:=Ez l (fun g hg=>h g (by simp[hg]))
  refine⟨(f.offset,i.size)::ps, ?_,fun j g i' e1 e2=>?_⟩
  ·rw [List.mapM_cons]
   simp only[Sem.run_bind,sizeOf,fZ P hi,Result.andThen_ok,Sem.run_pure]at h1 ⊢
   simp only[h1,Result.andThen_ok]
  ·cases j with
   |zero=>simp at e1;subst e1;rw[hi]at e2;cases e2;rfl
   |succ j=>exact h2 j g i' (by simpa using e1) e2
theorem Oy (r:Rel M s w) {t:TypeId} {fs:Array Field} {z:List D} {l:List (Nat×Operand)} {ps:List (Nat×Nat×X)} {tm:Tm} {act:Act} {cs:List D} (hr:l5 M s tm act.tmps)
 (ht:P.underlying t=some (.struct fs)) (JK:(fs.toList.all fun f=>(P.info? f.type).isSome)=true) (hz:zc P t=some z) (hp:A4 P t l=some ps) (hf:rh z (ps.map fun p=>(p.1,p.2.1,p.2.2.ev tm))=some cs) :
 df P M s w (do pure (.value (← Instr.build t (l.toArray.map fun(i,x)=>(i,act.eval x))))) (.agg cs) s:=by
 obtain⟨i,v,h1,h2,h3,hc⟩:=Ox (M:=M) (s:=s) hz
 obtain⟨g1,g2⟩:=Bf hr hp
 obtain⟨pl,p1,p2⟩:=Ez (P:=P) (w:=w) fs.toList (fun f hf'=>by simpa using List.all_eq_true.1 JK f hf')
 have Z2:(fs.mapM fun f=>do pure (f.offset, ← sizeOf f.type):Sem (Array (Nat×Nat))).run P w = .ok pl.toArray w:=by
  rw[Array.mapM_eq_mapM_toList,Sem.run_map,p1];rfl
 obtain⟨vs,f1,f2⟩:=JC (place:=(pl.toArray[·]?)) (l.map fun p=>(p.1,act.eval p.2)) _ z v.cells cs hc g1 (fun j i v off size d e1 e2=>by
  obtain⟨⟨a,ha⟩,hd⟩:=g2 j i v off size d e1 e2
  refine⟨?_,hd⟩
  unfold mw at ha
  rw[ht]at ha
  simp only at ha
  split at ha
  ·rename_i fd hfd
   split at ha
   ·rename_i i' a' ig _
    split at ha
    ·cases ha
    ·cases ha
     simpa using p2 i fd i' (by simpa using hfd) ig
   ·cases ha
  ·cases ha) hf
 refine df.pure (v:= .agg vs) r ?_ (.agg _ _ f2.1.symm f2.2.1 f2.2.2)
 have sf:(l.toArray.map fun(i,x)=>(i,act.eval x)).toList=l.map fun p=>(p.1,act.eval p.2):=by simp
 unfold Instr.build
 simp only[Sem.run_bind,zeroValue,fZ P h1,h2,Result.andThen_ok,Sem.run_pure,run_underlying ht,Z2,sf,f1]
theorem Dl (r:Rel M s w) {t e:TypeId} {i:TypeInfo} {z:List D} {n:Nat} {l:List (Nat×Operand)} {ps:List (Nat×X)} {tm:Tm} {act:Act} {rows:List (List D)} (hr:l5 M s tm act.tmps)
 (ht:P.underlying t=some (.slice e)) (hi:P.info? e=some i) (hz:zeroOf P e=some z) (sv:0<i.size) (hn:n*i.size≤65536) (hp:Jx l=some ps)
 (hf:km i.size (fY z n) (ps.map fun p=>(p.1,p.2.ev tm))=some rows) :
 ∃ (vs:Array Value) (T:TypeId),l6 M s i.size rows vs∧rows.length=n∧vs.size=n*i.size∧
  (Instr.buildSlice t n (l.toArray.map fun(i,x)=>(i,act.eval x))).run P w = .ok (.slice (some ⟨w.heap.size,0,none⟩) n n) (w.alloc (.cells vs T)):=by
 obtain⟨i',v,h1,h2,h3,h4⟩:=sN hz
 rw[hi]at h1;cases h1
 have hc:=rp (M:=M) (s:=s) h4
 have Yn:z.length=i.size:=by rw[← hc.1,h3]
 have R6:=l6.zero hc (by omega) n
 rw[Yn]at R6
 obtain⟨g1,g2⟩:=Ey hr hp
 obtain⟨vs,f1,f2,f3,f4⟩:=Bd (l.map fun p=>(p.1,act.eval p.2)) _ _ _ rows R6 g1 g2 hf
 have hzr:=l7 z n
 refine⟨vs,e,f2,by rw[f3,hzr],by rw[f4];simp, ?_⟩
 have tu : ¬ (n*i.size > 2 ^ 24):=by omega
 have sf:(l.toArray.map fun(i,x)=>(i,act.eval x)).toList=l.map fun p=>(p.1,act.eval p.2):=by simp
 by_cases h0:n*i.size=0
 ·have l8:(Array.range (n*i.size)).map ((#[] : Array Value)[· % (#[] : Array Value).size]!)=(Array.range (n*i.size)).map (v.cells[· % v.cells.size]!):=by rw [h0];simp
  unfold Instr.buildSlice
  simp only[Sem.run_bind,run_underlying ht,Result.andThen_ok,sizeOf,fZ P hi,Sem.run_pure,if_neg tu,if_pos h0,l8,sf,f1,newRow,run_newObj]
  rfl
 ·unfold Instr.buildSlice
  simp only[Sem.run_bind,run_underlying ht,Result.andThen_ok,sizeOf,fZ P hi,Sem.run_pure,if_neg tu,if_neg h0,zeroValue,h2,sf,f1,newRow,run_newObj]
  rfl
end
end Go.Abs
namespace Go.Abs
section
variable {P:Program} {M:Map} {s:St} {w:World}
theorem foldl_push (ns:List Int) : ∀ r:ByteArray,ns.foldl (fun r n=>r.push (UInt8.ofNat n.toNat)) r = ⟨r.data++(ns.map fun n=>UInt8.ofNat n.toNat).toArray⟩:=by
 induction ns with
 |nil=>intro r;simp
 |cons n ns ih=>intro r;simp only[List.foldl_cons];rw[ih];simp[ByteArray.push]
theorem vq : ∀ {rows:List (List D)} {l:List UInt8},oy rows=some l→∃ ns:List Int,rows=ns.map (fun n=> [.int .u8 n])∧l=ns.map fun n=>UInt8.ofNat n.toNat
 | [],l,h=>by cases h;exact⟨[],rfl,rfl⟩
 | r::rs,l,h=>by
  unfold oy at h
  split at h
  ·rename_i b bs h1 h2
   cases h
   obtain⟨ns,g1,g2⟩:=vq h2
   unfold Hf at h1
   split at h1
   ·rename_i n
    cases h1
    exact⟨n::ns,by rw[g1];rfl,by rw[g2];rfl⟩
   ·cases h1
  ·cases h
theorem Oz (r:Rel M s w) {src dst e:TypeId} {g:Tag} {z:Nat} {rows:List (List D)} {v:Value} {l:List UInt8} (hs:P.underlying src=some (.slice e)) (he:P.underlying e=some (.int .u8)) (hd:P.underlying dst=some .string)
 (hv:RD M s (.slice g z rows) v) (hb:oy rows=some l):df P M s w (do pure (.value (← convert src dst v))) (.str l) s:=by
 obtain⟨ns,rfl,rfl⟩:=vq hb
 refine df.pure (v:= .string ⟨⟨ns.map fun n=>UInt8.ofNat n.toNat⟩⟩) r ?_ (.str _)
 rcases hv.jn with ⟨h0,rfl,_⟩|⟨h0,_,a,cap,rfl⟩|⟨b,q,cap,rfl,hl,ej,g1,g2,_⟩
 ·have:ns = []:=by simpa using h0
  subst this
  have:=run_convert_bytes_string w src dst e none 0 0 hs he hd
  simp only[Sem.run_bind,this,Conv.bytesToString,Sem.run_pure,Result.andThen_ok]
  rfl
 ·have:ns = []:=by simpa using h0
  subst this
  have h2:=run_convert_bytes_string w src dst e (some a) 0 cap hs he hd
  simp only[Sem.run_bind,h2,Conv.bytesToString,Sem.run_pure,Result.andThen_ok]
  rfl
 ·have l8:=run_loadCells_list (P:=P) w ⟨b,q,none⟩ (ns.map (Value.int .u8)) (fun j v hj=>by
   rw[my]
   simp only[List.getElem?_map,Option.map_eq_some_iff]at hj
   obtain⟨n,hn,rfl⟩:=hj
   have eD:(ns.map (fun n=> [D.int .u8 n]))[j]? = some [.int .u8 n]:=by simp[hn]
   have hz:z=1:=by have:=ej [.int .u8 n] (List.mem_of_getElem? eD);simpa using this.symm
   subst hz
   obtain⟨u,hu⟩:=g1 j _ 0 _ eD rfl
   have:=g2 j _ 0 _ u eD rfl hu
   rw[this.iB]at hu
   have:=(r.comm _ _ _ hu).1
   simpa using this)
  simp only[List.length_map]at l8 ⊢
  have h1:=run_bytesToString (P:=P) w ⟨b,q,none⟩ ns.length cap ns l8
  have h2:=run_convert_bytes_string w src dst e (some ⟨b,q,none⟩) ns.length cap hs he hd
  simp only[Sem.run_bind,h2,h1,Sem.run_pure,Result.andThen_ok,foldl_push]
  congr 3
  simp[ByteArray.empty,ByteArray.emptyWithCapacity]
  rfl
theorem JL (r:Rel M s w) {src dst e:TypeId} {l:List UInt8} (hs:P.underlying src=some .string) (hd:P.underlying dst=some (.slice e)) (he:P.underlying e=some (.int .u8)) :
 df P M s w (do pure (.value (← convert src dst (.string ⟨⟨l⟩⟩)))) (.slice .shared 1 (l.map fun c=> [.int .u8 c.toNat])) s:=by
 have dK:=run_bytes_of_string (P:=P) w src dst e ⟨⟨l⟩⟩ hs hd he
 generalize tX:grownCap w (ByteArray.size ⟨⟨l⟩⟩) 0 e=cap at dK
 have eL:l.length≤cap:=by rw[← tX];exact grownCap_ge w l.length 0 e
 have eD : ∀ j,j<l.length→(bytesRow ⟨⟨l⟩⟩ cap)[j]? = some (.int .u8 ((l[j]?.getD 0).toNat:Int)):=by
  intro j hj
  unfold bytesRow
  rw[Array.getElem?_append_left (by simpa using hj)]
  simp[hj]
 have ej:(bytesRow ⟨⟨l⟩⟩ cap).size=cap:=by simp[bytesRow,Cm];omega
 have ic : ∀ v∈bytesRow ⟨⟨l⟩⟩ cap,v.oneCell'=true:=by
  intro v hv
  unfold bytesRow at hv
  simp at hv
  rcases hv with ⟨a,_,rfl⟩|⟨_,rfl⟩<;>rfl
 have hR:l6 M s 1 (l.map fun c=> [D.int .u8 c.toNat]) (bytesRow ⟨⟨l⟩⟩ cap):=by
  refine⟨by simp[ej];omega,by simp,ic,fun i row j d v e1 e2 e3=>?_⟩
  simp only[List.getElem?_map,Option.map_eq_some_iff]at e1
  obtain⟨c,hc,rfl⟩:=e1
  cases j with
  |zero=>
   simp at e2;subst e2
   have hi:=(List.getElem?_eq_some_iff.1 hc).1
   rw[show i*1+0=i by omega,eD i hi,hc]at e3
   cases e3
   exact .int _ _
  |succ j=>simp at e2
 obtain⟨r1,e1⟩:=(r.of_heap (w':=w.drew) rfl).fK l.length (bytesRow ⟨⟨l⟩⟩ cap) e ((bytesRow ⟨⟨l⟩⟩ cap).size,(bytesRow ⟨⟨l⟩⟩ cap).size+1) ic
 obtain⟨f1,f2⟩:=hR.fixed e1.le (b:=w.heap.size) (fun o ho=>by simp at ho;simp[Map.fK,ho])
 refine⟨.slice (some ⟨w.heap.size,0,none⟩) l.length cap,_,_, .inl (by simp only[Sem.run_bind,dK,Result.andThen_ok,Sem.run_pure];rfl),r1, ?_,(Ext.of_heap (M:=M) (s:=s) (w:=w) (w':=w.drew) rfl rfl rfl rfl).trans e1⟩
 have key:=RD.slice (M:=M.fK w.heap.size l.length (bytesRow ⟨⟨l⟩⟩ cap)) (s:=s) .shared 1 (l.map fun c=> [D.int .u8 c.toNat]) w.heap.size 0 cap (by simpa using eL) hR.2.1 f1 f2 trivial
 simp only[List.length_map]at key
 exact key
theorem Ve (r:Rel M s w) {t e:TypeId} {q z:Nat} {yb:Bool} {rows:List (List D)} {v:Value} (ht:P.underlying t=some (.slice e)) (he:P.underlying e=some (.int .u8)) (hv:RD M s (.slice (.tok q yb) z rows) v) (fl:rows≠ []) (hq:s.aw[q]? = some (some rows.length)) :
 df P M s w (do pure (.value (← convert t t v))) (.slice .shared z rows) {s with aw:=s.aw.set q none}:=by
 rcases hv.jn with ⟨h0,_,_⟩|⟨h0,_,_⟩|⟨b,k,cap,rfl,hl,ej,g1,g2,oE⟩
 ·exact(fl h0).elim
 ·exact(fl h0).elim
 ·obtain⟨_,h2⟩:=oE
  obtain⟨_,h3⟩:=h2 _ hq
  rcases h3 rfl with ⟨_,h4,_⟩|⟨b2,h4,kW⟩
  ·subst h4
   exact(fl (List.eq_nil_of_length_eq_zero (Nat.le_zero.1 hl))).elim
  cases h4
  obtain⟨r1,l1⟩:=r.agM q
  rcases r.tok q rows.length hq with ⟨h4,_⟩|⟨b',qJ,ze,vs,T,h4,h5,h6,h7,h8⟩
  ·rw[kW]at h4;cases h4
  ·rw [kW]at h4;cases h4
   have iN : ∀ p,St.live {s with aw:=s.aw.set q none} p→p≠q∧s.live p:=by
    rintro p ⟨n,hn⟩
    rw[List.getElem?_set]at hn
    split at hn
    ·simp at hn
    ·rename_i fl;exact⟨fun h=>fl h.symm,n,hn⟩
   obtain⟨r2,hh,o5,ho,EA,Vf⟩:=r1.freeze (b:=b) vs.size 1 (fun o ho=>r.fh q b cap _ o ⟨_,hq⟩ kW ho)
    (fun p c y hp heq=>(iN p hp).1 (r.fX p q b c y cap _ (iN p hp).2 ⟨_,hq⟩ heq kW))
   have acD:w.shape? b=some (T,vs.size):=by simp[World.shape?,h5]
   refine⟨.slice (some ⟨b,0,none⟩) rows.length cap,_,M, .inl ?_,r2, ?_, ?_⟩
   ·simp[convert,run_underlying ht,run_underlying he,markStringish,acD]
   ·have h9:=(RD.slice (M:=M) (s:=s) .shared z rows b 0 cap hl ej g1 g2 trivial).mono l1
    exact h9
   ·refine⟨l1,fun p _ _ h4=>hh p (fun e=>h4 q cap (bz yb z) ⟨_,hq⟩ (by rw [kW,e])),fun o h3 h4=> ?_,fun p b' c y hp heq=> .inl ⟨(iN p hp).2,c,y,heq⟩,fun _ _ h=>(h rfl).elim,by rw [o5];exact Nat.le_refl _,ho,EA,Vf⟩
    simp at h4;omega
theorem R7 (r:Rel M s w) {size:Nat} {rows:List (List D)} {vs:Array Value} (T:TypeId) (h:l6 M s size rows vs) (ej:vs.size=rows.length*size) (sv:0<size) :
 ∃ M',RD M' {s with aw:=s.aw++ [some rows.length]} (.slice (.tok s.aw.length) size rows) (.slice (some ⟨w.heap.size,0,none⟩) rows.length rows.length)∧
 Rel M' {s with aw:=s.aw++ [some rows.length]} (w.alloc (.cells vs T))∧Ext M s w M' {s with aw:=s.aw++ [some rows.length]} (w.alloc (.cells vs T)):=by
 obtain⟨r1,e1⟩:=r.fK vs.size vs T (0,0) h.2.2.1
 have yf:zs size=size:=by show(if size=0 then 1 else size)=size;rw[if_neg (by omega)]
 obtain⟨r2,l2⟩:=r1.Yi rows.length w.heap.size rows.length size vs T (heap_alloc_new w _) (by rw[yf];exact ej) (Nat.le_refl _) (fun h=>by omega)
  (fun off ho=>by rw[yf]at ho;simp[Map.fK];omega) (fun o ho=>by have:=r.qw ho;show M.mu o≠_;omega)
  (fun q c z' hl heq=>by have:=r.sM hl (show M.be q=some (w.heap.size,c,z')from heq);omega)
 obtain⟨f1,f2⟩:=h.fixed (e1.le.trans l2) (b:=w.heap.size) (fun o ho=>by
  have:o<vs.size:=Nat.lt_of_lt_of_le ho h.1
  simp[Map.e7,Map.fK,this])
 refine⟨_, ?_,r2, ?_⟩
 ·exact .slice _ size rows w.heap.size 0 rows.length (Nat.le_refl _) h.2.1 f1 f2 ⟨by simp,fun n hn=>by
   simp at hn;subst hn
   exact⟨Nat.le_refl _,fun _=> .inr ⟨_,rfl,by simp[Map.e7,bz]⟩⟩⟩
 ·refine⟨e1.le.trans l2,e1.kept,e1.tU,fun q b c z' hl heq=> ?_,e1.sj,e1.size,e1.os,e1.tape,e1.output⟩
  obtain⟨k,hk⟩:=hl
  rcases Nat.lt_or_ge q s.aw.length with h'|h'
  ·have JH:M.be q=some (b,c,z'):=by
    have:((M.fK w.heap.size vs.size vs).e7 s.aw.length (some (w.heap.size,rows.length,size))).be q=M.be q:=by simp[Map.e7,Map.fK];omega
    rw[this]at heq;exact heq
   simp only[List.getElem?_append_left h']at hk
   exact .inl ⟨⟨k,hk⟩,c,z',JH⟩
  ·have:=(List.getElem?_eq_some_iff.1 hk).1
   simp at this
   have:q=s.aw.length:=by omega
   subst this
   have:((M.fK w.heap.size vs.size vs).e7 s.aw.length (some (w.heap.size,rows.length,size))).be s.aw.length=some (w.heap.size,rows.length,size):=by simp[Map.e7]
   rw[this]at heq;cases heq
   exact .inr (Nat.le_refl _)
end
end Go.Abs
namespace Go.Abs
open Go.MapKept
section
variable {P:Program} {M:Map} {s:St} {w:World}
theorem wE : ∀ (a b:List MapEntry),gM (a++b)=gM a++gM b
 | [],b=>rfl
 |e::a,b=>by simp only[List.cons_append,gM,wE a b]
theorem Hk : ∀ (a:List MapEntry) (j:Nat) (e:MapEntry) (k v:Value),a[j]? = some e→e.key=k→gM (a.set j {e with key:=k,val:=v})=(gM a).set (2*j+1) v
 | [],j,e,k,v,h,_=>by simp at h
 |x::a,0,e,k,v,h,hk=>by
  simp at h;subst h;subst hk
  simp[gM]
 |x::a,j+1,e,k,v,h,hk=>by
  have:=Hk a j e k v (by simpa using h) hk
  simp only[List.set_cons_succ,gM,this]
  rw[show 2*(j+1)=(2*j+1)+1 by omega,List.set_cons_succ]
theorem Vg (a b:List UInt8):((⟨⟨a⟩⟩:ByteArray) == ⟨⟨b⟩⟩)=(a==b):=by
 show((⟨a⟩:Array UInt8) == ⟨b⟩)=(a==b)
 simp
theorem find_spec {key:List UInt8} : ∀ (es:List MapEntry) (cs:List D) (i:Nat),(gM es).length=cs.length→(∀ (i:Nat) (d:D) (v:Value),cs[i]? = some d→(gM es)[i]? = some v→RD M s d v)→
 (∀ z d,za key z cs=some d→(Instr.findNow .string (.string ⟨⟨key⟩⟩) es i=some none∧d=z)∨∃ (j:Nat) (e:MapEntry),Instr.findNow .string (.string ⟨⟨key⟩⟩) es i=some (some (i+j,e.val))∧RD M s d e.val)∧
 (∀ d pT,xj key d cs=some pT→(Instr.findNow .string (.string ⟨⟨key⟩⟩) es i=some none∧pT=cs++ [.str key,d])∨
  ∃ (j:Nat) (e:MapEntry),Instr.findNow .string (.string ⟨⟨key⟩⟩) es i=some (some (i+j,e.val))∧es[j]? = some e∧e.key = .string ⟨⟨key⟩⟩∧pT=cs.set (2*j+1) d)
 | [],cs,i,hl,hr=>by
  have:cs = []:=by cases cs<;>simp[gM]at hl;rfl
  subst this
  refine⟨fun z d h=> .inl ⟨rfl,by simp[za]at h;exact h.symm⟩,fun d pT h=> .inl ⟨rfl,by simp[xj]at h;simp[← h]⟩⟩
 | x::es,cs,i,hl,hr=>by
  match cs,hl with
  | [],hl=>simp[gM]at hl
  | [_],hl=>simp[gM]at hl
  | c0::c1::r,hl=>
   simp only[gM,List.length_cons]at hl hr
   have h0:=hr 0 c0 x.key rfl rfl
   have h1:=hr 1 c1 x.val rfl rfl
   obtain⟨ih1,ih2⟩:=find_spec es r (i+1) (by omega) (fun j d v e1 e2=>hr (j+2) d v (by simpa using e1) (by simpa using e2))
   have hky : ∀ k,c0 = .str k→x.key = .string ⟨⟨k⟩⟩∧Instr.findNow .string (.string ⟨⟨key⟩⟩) (x::es) i=if key==k then some (some (i,x.val))else Instr.findNow .string (.string ⟨⟨key⟩⟩) es (i+1):=by
    intro k hk
    subst hk
    have hx:=h0.lx
    refine⟨hx, ?_⟩
    simp only[Instr.findNow,hx,Instr.sameNow,Vg]
    cases hb:key==k<;>simp
   refine⟨fun z d h=>?_,fun d pT h=>?_⟩
   ·cases c0 <;> simp only [za]at h <;> try (cases h;done)
    rename_i k
    obtain⟨k1,k2⟩:=hky k rfl
    rw[k2]
    by_cases Ak:k=key
    ·subst Ak
     simp at h
     subst h
     exact .inr ⟨0,x,by simp,h1⟩
    ·have e1:(k==key)=false:=by simpa using Ak
     have e2:(key==k)=false:=by simpa using fun e:key=k=>Ak (Eq.symm e)
     rw[e1]at h
     rw[e2]
     simp only[Bool.false_eq_true,↓reduceIte]at h ⊢
     rcases ih1 z d h with h2|⟨j,e,h2,h3⟩
     ·exact .inl h2
     ·exact .inr ⟨j+1,e,by rw[h2];congr 3;omega,h3⟩
   ·cases c0 <;> simp only [xj]at h <;> try (cases h;done)
    rename_i k
    obtain⟨k1,k2⟩:=hky k rfl
    rw[k2]
    by_cases Ak:k=key
    ·subst Ak
     simp at h
     subst h
     exact .inr ⟨0,x,by simp,rfl,k1,by simp⟩
    ·have e1:(k==key)=false:=by simpa using Ak
     have e2:(key==k)=false:=by simpa using fun e:key=k=>Ak (Eq.symm e)
     rw[e1]at h
     rw[e2]
     simp only[Bool.false_eq_true,↓reduceIte]at h ⊢
     split at h
     ·rename_i r' JE
      cases h
      rcases ih2 d r' JE with ⟨h2,h3⟩|⟨j,e,h2,h3,h4,h5⟩
      ·exact .inl ⟨h2,by rw[h3];rfl⟩
      ·refine .inr ⟨j+1,e,by rw [h2];congr 3;omega,by simpa using h3,h4, ?_⟩
       rw[h5,show 2*(j+1)+1=(2*j+1)+1+1 by omega]
       simp only[List.set_cons_succ]
     ·cases h
theorem Rel.ua (r:Rel M s w) {o:Nat} {cs pT:List D} (he:s.ah[o]? = some cs) (hk:M.ob o = .map) (Bh:Array MapEntry) (ck:Nat) (hl:(gM Bh.toList).length=pT.length)
 (h1 : ∀ v∈gM Bh.toList,v.oneCell'=true) (h2 : ∀ (i:Nat) (d:D) (v:Value),pT[i]? = some d→(gM Bh.toList)[i]? = some v→RD M s d v) :
 Rel M {s with ah:=s.ah.set o pT} {w with heap:=w.heap.setIfInBounds (M.mu o) (.map Bh ck)}∧Ext M s w M {s with ah:=s.ah.set o pT} {w with heap:=w.heap.setIfInBounds (M.mu o) (.map Bh ck)}:=by
 obtain⟨vs,T,hh,hs,⟨ic,Yh⟩,jC⟩:=r.obj o cs he
 obtain⟨es,ck0,(hh:w.heap[M.mu o]? = _),tv⟩:=hh.N5 hk
 have ho:o<s.ah.length:=(List.getElem?_eq_some_iff.1 he).1
 obtain⟨uS,lZ⟩:=heap_set (w:=w) (o':= .map Bh ck) hh
 have le:Le M s M {s with ah:=s.ah.set o pT}:=
  ⟨fun _ _ _ h=>h,by simp,fun _ _=> .refl _,Nat.le_refl _,fun t n _ h=>⟨n,h,Nat.le_refl _,fun _=>rfl⟩⟩
 refine⟨⟨fun b q v e=>?_,fun o' ds e=>?_,fun q hq xl=>r.jZ q (by simpa using hq) xl,fun q q' hq mJ e=>r.inj q q' (by simpa using hq) (by simpa using mJ) e,fun t n e=>?_,
  fun t b c z q hl e hq=>r.fh t b c z q hl e (by simpa using hq),fun t t' b c z c' z' h h' e e'=>r.fX t t' b c z c' z' h h' e e'⟩, ?_⟩
 ·obtain⟨h3,h4⟩:=r.comm b q v e
  refine⟨?_,h4⟩
  have hb:b≠M.mu o:=fun eq=>by subst eq;rw[r.jZ o ho q]at e;cases e
  rw[← h3]
  simp[World.cell?,lZ b hb]
 ·rw [List.getElem?_set]at e
  split at e
  ·rename_i heq
   subst heq
   simp at e
   obtain⟨_,rfl⟩:=e
   refine⟨⟨gM Bh.toList⟩,0, ?_,by simpa using hl,⟨fun v hv=>h1 v (by simpa using hv),fun T' h=>?_⟩,fun i d v e1 e2=>(h2 i d v e1 (by simpa using e2)).mono le⟩
   ·exact iM.ofMap hk ⟨Bh,ck,uS,rfl⟩
   ·have:M.ty o=none:=by
     have:(M.loc o).2 = .map:=hk
     simp[Map.ty,this,Ob.ty?]
    rw[this]at h;cases h
  ·rename_i fl
   obtain⟨fD,T',h3,h4,h5,h6⟩:=r.obj o' ds e
   have nL:o'<s.ah.length:=(List.getElem?_eq_some_iff.1 e).1
   refine⟨fD,T', ?_,h4,h5,fun i d v e1 e2=>(h6 i d v e1 e2).mono le⟩
   exact h3.keep (lZ _ (fun eq=>fl (r.inj o o' ho nL eq.symm)))
 ·rcases r.tok t n e with h3 | ⟨b,cap,size,fD,T',h3,h4,h5⟩
  ·exact .inl h3
  ·refine .inr ⟨b,cap,size,fD,T',h3, ?_,h5⟩
   show(w.heap.setIfInBounds (M.mu o) (.map Bh ck))[b]? = _
   rw[lZ b (fun eq=>r.fh t b cap size o ⟨n,e⟩ h3 ho eq.symm)];exact h4
 ·refine⟨le,fun b hb h3 _=>lZ b (fun eq=>h3 o ho eq.symm),fun q h3 h4=> ?_,fun t b c z h e=> .inl ⟨h,c,z,e⟩,fun _ _ h=>(h rfl).elim,by simp,rfl,rfl,rfl⟩
  simp at h4;rcases h3 with h3|h3;omega;exact(h3 rfl).elim
theorem tw (l:List UInt8):IsKey .string (.string ⟨⟨l⟩⟩):=by simp[IsKey]
theorem OA (r:Rel M s w) {t kt e:TypeId} (ht:P.underlying t=some (.map kt e)):df P M s w (do pure (.value (← Instr.makeMap t none))) (.fW s.ah.length) {s with ah:=s.ah++ [[]]}:=by
 obtain⟨r',e'⟩:=r.Jy [] (.map #[] 0) #[] 0 .map (fun hp e=>⟨#[],0,e,rfl⟩) (fun _ h=>by cases h) rfl (by simp) (by simp)
 have hm:(M.ei s.ah.length w.heap.size .map).mu s.ah.length=w.heap.size:=by simp[Map.ei,Map.mu]
 have hv:=RD.fW (M:=M.ei s.ah.length w.heap.size .map) (s:= {s with ah:=s.ah++ [[]]}) s.ah.length (by simp) (by simp[Map.ei,Map.ob])
 rw[hm]at hv
 refine⟨_,_,_, .inl ?_,r',hv,e'⟩
 simp only[Instr.makeMap,newObj,Sem.run_bind,Sem.run_pure,Sem.run,Result.andThen_ok]
 rfl
theorem OB (r:Rel M s w) {t kt e:TypeId} {i:TypeInfo} {z:Value} {zd:D} (ht:P.underlying t=some (.map kt e)) (hk:P.underlying kt=some .string) (hi:P.info? e=some i) (hz:i.zero=some z) (hzd:sk z=some zd)
 {o:Nat} {key:List UInt8} {cs:List D} {d:D} (x7:M.ob o = .map) (ho:s.ah[o]? = some cs) (hg:za key zd cs=some d) :
 df P M s w (do pure (.value (← Instr.lookup t (.map (some (M.mu o))) (.string ⟨⟨key⟩⟩) false))) d s:=by
 obtain⟨vs,T,hh,hs,⟨ic,Yh⟩,jC⟩:=r.obj o cs ho
 obtain⟨es,ck,(hh:w.heap[M.mu o]? = _),tv⟩:=hh.N5 x7
 have DL : ∀ (i:Nat) (d:D) (v:Value),cs[i]? = some d→(gM es.toList)[i]? = some v→RD M s d v:=fun i d v e1 e2=>jC i d v e1 (by rw[← tv]at e2;simpa using e2)
 have hzv:(zeroValue e).run P w = .ok z w:=by simp[zeroValue,fZ P hi,hz]
 rcases(find_spec es.toList cs 0 (by rw[← tv];simpa using hs) DL).1 zd d hg with ⟨h1,rfl⟩|⟨j,en,h1,h2⟩
 ·refine df.pure (v:=z) r ?_ (qx hzd).1
  simp[Instr.lookup,run_underlying ht,MapKept.run_getObj_map hh,run_checkKey hk (tw key),run_findKey hk h1,hzv]
 ·refine df.pure (v:=en.val) r ?_ h2
  simp[Instr.lookup,run_underlying ht,MapKept.run_getObj_map hh,run_checkKey hk (tw key),run_findKey hk h1]
theorem R8 (r:Rel M s w) {t kt e:TypeId} (ht:P.underlying t=some (.map kt e)) (hk:P.underlying kt=some .string)
 {o:Nat} {key:List UInt8} {cs pT:List D} {d:D} {v:Value} (x7:M.ob o = .map) (ho:s.ah[o]? = some cs) (hv:RD M s d v) (EB:v.oneCell'=true) (hg:xj key d cs=some pT) :
 df P M s w (do Instr.mapUpdate t (.map (some (M.mu o))) (.string ⟨⟨key⟩⟩) v;pure .skip) (.tuple []) {s with ah:=s.ah.set o pT}:=by
 obtain⟨vs,T,hh,hs,⟨ic,Yh⟩,jC⟩:=r.obj o cs ho
 obtain⟨es,ck,(hh:w.heap[M.mu o]? = _),tv⟩:=hh.N5 x7
 have DL : ∀ (i:Nat) (d:D) (v:Value),cs[i]? = some d→(gM es.toList)[i]? = some v→RD M s d v:=fun i d v e1 e2=>jC i d v e1 (by rw[← tv]at e2;simpa using e2)
 have hl:(gM es.toList).length=cs.length:=by rw[← tv];simpa using hs
 have Yo : ∀ v∈gM es.toList,v.oneCell'=true:=fun v hv=>ic v (by rw[← tv]at hv;simpa using hv)
 rcases(find_spec es.toList cs 0 hl DL).2 d pT hg with ⟨h1,rfl⟩|⟨j,en,h1,h2,h3,rfl⟩
 ·obtain⟨r',e'⟩:=r.ua (pT:=cs++ [.str key,d]) ho x7 (es.push {key:= .string ⟨⟨key⟩⟩,val:=v,born:=ck}) (ck+1) (by simp [wE,gM,hl]) (fun u hu=>by
   simp only[Array.toList_push,wE,gM,List.mem_append,List.mem_cons,List.not_mem_nil,or_false]at hu
   rcases hu with hu|rfl|rfl
   ·exact Yo u hu
   ·rfl
   ·exact EB) (fun i d' u e1 e2=>by
   simp only[Array.toList_push,wE,gM]at e2
   rcases Nat.lt_or_ge i cs.length with hi|hi
   ·rw [List.getElem?_append_left hi]at e1
    rw[List.getElem?_append_left (by omega)]at e2
    exact DL i d' u e1 e2
   ·rw [List.getElem?_append_right hi]at e1
    rw[List.getElem?_append_right (by omega),hl]at e2
    match i - cs.length,e1,e2 with
    | 0,e1,e2=>simp at e1 e2;subst e1 e2;exact .str _
    | 1,e1,e2=>simp at e1 e2;subst e1 e2;exact hv
    |k+2,e1,e2=>simp at e1)
  refine⟨Go.undef,_,M, .inr ⟨?_,rfl⟩,r', .undef,e'⟩
  simp[Instr.mapUpdate,run_underlying ht,MapKept.run_getObj_map hh,run_checkKey hk (tw key),run_findKey hk h1,MapKept.run_setObj_map _ hh]
 ·simp only [Nat.zero_add]at h1
  have hj:es[j]? = some en:=by simpa using h2
  have Vh:(es.modify j fun e=> {e with key:= .string ⟨⟨key⟩⟩,val:=v}).toList=es.toList.set j {en with key:= .string ⟨⟨key⟩⟩,val:=v}:=by
   apply List.ext_getElem?
   intro i
   rw[Array.getElem?_toList,Array.getElem?_modify,List.getElem?_set]
   by_cases Yp:j=i
   ·subst Yp
    have:j<es.size:=by have:=(List.getElem?_eq_some_iff.1 h2).1;simpa using this
    simp[hj,this]
    have:=(Array.getElem?_eq_some_iff.1 hj).2
    rw[this]
   ·simp[Yp]
  have jo:=Hk es.toList j en (.string ⟨⟨key⟩⟩) v h2 h3
  obtain⟨r',e'⟩:=r.ua (pT:=cs.set (2*j+1) d) ho x7 (es.modify j fun e=> {e with key:= .string ⟨⟨key⟩⟩,val:=v}) ck (by rw[Vh,jo];simp[hl]) (fun u hu=>by
   rw[Vh,jo]at hu
   rcases List.mem_or_eq_of_mem_set hu with hu|rfl
   ·exact Yo u hu
   ·exact EB) (fun i d' u e1 e2=>by
   rw[Vh,jo,List.getElem?_set]at e2
   rw[List.getElem?_set]at e1
   by_cases hi:2*j+1=i
   ·rw [if_pos hi]at e1 e2
    split at e1
    ·split at e2
     ·cases e1;cases e2;exact hv
     ·cases e2
    ·cases e1
   ·rw [if_neg hi]at e1 e2
    exact DL i d' u e1 e2)
  refine⟨Go.undef,_,M, .inr ⟨?_,rfl⟩,r', .undef,e'⟩
  simp[Instr.mapUpdate,run_underlying ht,MapKept.run_getObj_map hh,run_checkKey hk (tw key),run_findKey hk h1,hj,h3,run_keyThatStays (tw key),MapKept.run_setObj_map _ hh]
end
end Go.Abs
namespace Go.Abs
section
variable {M:Map} {s:St} {w:World}
theorem EC {o g:Nat} {cells:List D} (h:nS s o g=some cells):s.ah[o]? = some (.int .i64 g::cells):=by
 unfold nS at h
 split at h
 ·rename_i n cs e
  split at h
  ·rename_i hn;cases h;rw[e,hn]
  ·cases h
 ·cases h
theorem Rel.JM (r:Rel M s w) {o z g:Nat} {A:Nat→Option (Nat×Nat)} {cells:List D} (hm:M.ob o = .arr z A) (ha:nS s o g=some cells) :
 ∃ (us:Array Value) (T:TypeId) (cap:Nat),w.heap[M.mu o]? = some (.cells us T (0,0))∧A g=some (M.mu o,cap)∧(∀ g',g<g'→A g'=none)∧us.size=cap*z∧cells.length≤us.size∧
  (∀ u∈us,u.oneCell'=true)∧∀ (i:Nat) (d:D) (u:Value),cells[i]? = some d→us[i]? = some u→RD M s d u:=by
 obtain⟨vs,T,hh,hs,_,jC⟩:=r.obj o _ (EC ha)
 obtain⟨us,g0,n,cap,h1,h2,h3,h4,h5,h6,h7⟩ : ∃ (us:Array Value) (g n cap:Nat),w.heap[(M.loc o).1]? = some (.cells us T (0,0))∧A g=some ((M.loc o).1,cap)∧(∀ g',g<g'→A g'=none)∧us.size=cap*z∧n≤us.size∧
  vs.toList = .int .i64 g::us.toList.take n∧∀ u∈us,u.oneCell'=true:=by
  unfold iM at hh
  rw[show(M.loc o).2 = .arr z A from hm]at hh
  exact hh
 have hE : ∀ i,vs[i]? = (Value.int .i64 g0::us.toList.take n)[i]? :=fun i=>by rw[← h6,Array.getElem?_toList]
 have hg:g0=g:=by
  have:=(jC 0 (.int .i64 g) (.int .i64 g0) rfl (by rw[hE];rfl))
  cases this
  rfl
 subst hg
 have hn:n=cells.length:=by
  have:vs.toList.length=(Value.int .i64 g0::us.toList.take n).length:=by rw[h6]
  simp at this hs
  omega
 subst hn
 refine⟨us,T,cap,h1,h2,h3,h4,h5,h7,fun i d u e1 e2=>jC (i+1) d u (by simpa using e1) ?_⟩
 rw[hE,List.getElem?_cons_succ,List.getElem?_take,if_pos (List.getElem?_eq_some_iff.1 e1).1]
 simpa using e2
def Map.rr (M:Map) (o:Nat) (l:Nat×Ob):Map:= {M with loc:=fun q=>if q=o then l else M.loc q}
theorem Rel.Vi (r:Rel M s w) {o z g:Nat} {A:Nat→Option (Nat×Nat)} {cells:List D} (hm:M.ob o = .arr z A) (ha:nS s o g=some cells) (b' g' qJ:Nat) (A':Nat→Option (Nat×Nat))
 (hA : ∀ g x,A g=some x→A' g=some x) (ye:A' g'=some (b',qJ)) (Dj : ∀ M5,g'<M5→A' M5=none) (w':World) (us:Array Value) (T:TypeId) (hh:w'.heap[b']? = some (.cells us T (0,0))) (ej:us.size=qJ*z)
 (vr:List D) (hl:vr.length≤us.size) (ic : ∀ u∈us,u.oneCell'=true) (jC : ∀ (i:Nat) (d:D) (u:Value),vr[i]? = some d→us[i]? = some u→RD M s d u)
 (hb:b'=M.mu o∨w.heap.size≤b') (IM : ∀ b,b<w.heap.size→b≠M.mu o→w'.heap[b]? = w.heap[b]?) (sO:w.heap.size≤w'.heap.size) (h1:w'.os=w.os) (h2:w'.tape=w.tape) (h3:w'.output=w.output) :
 Rel (M.rr o (b', .arr z A')) {s with ah:=s.ah.set o (.int .i64 g'::vr)} w'∧Ext M s w (M.rr o (b', .arr z A')) {s with ah:=s.ah.set o (.int .i64 g'::vr)} w':=by
 have ho:o<s.ah.length:=(List.getElem?_eq_some_iff.1 (EC ha)).1
 have Ah:(M.loc o).2 = .arr z A:=hm
 have uS:(M.rr o (b', .arr z A')).loc o=(b', .arr z A'):=by simp[Map.rr]
 have OC : ∀ q,q≠o→(M.rr o (b', .arr z A')).loc q=M.loc q:=fun q hq=>by simp[Map.rr,hq]
 have mX:(M.rr o (b', .arr z A')).mu o=b':=congrArg Prod.fst uS
 have DM : ∀ q,q≠o→(M.rr o (b', .arr z A')).mu q=M.mu q:=fun q hq=>congrArg Prod.fst (OC q hq)
 have le:Le M s (M.rr o (b', .arr z A')) {s with ah:=s.ah.set o (.int .i64 g'::vr)}:=by
  refine⟨fun _ _ _ h=>h,by simp,fun q _=>?_,Nat.le_refl _,fun t n _ h=>⟨n,h,Nat.le_refl _,fun _=>rfl⟩⟩
  by_cases hq:q=o
  ·subst hq
   rw[uS,show M.loc q=((M.loc q).1, .arr z A) by rw[← Ah]]
   exact .arr _ _ z A A' hA
  ·rw[OC q hq];exact .refl _
 have fl : ∀ q,q<s.ah.length→q≠o→M.mu q≠b':=fun q hq vt e=>by
  rcases hb with hb|hb
  ·exact vt (r.inj q o hq ho (e.trans hb))
  ·have:=r.qw hq;omega
 have hG : ∀ off,M.G b' off=none:=fun off=>by
  rcases hb with hb|hb
  ·rw[hb];exact r.jZ o ho off
  ·exact r.Oa hb off
 refine⟨⟨fun b q v e=>?_,fun q ds e=>?_,fun q hq off=>?_,fun q q' hq mJ e=>?_,fun t n e=>?_,fun t b c z' q hl e hq=>?_,fun t t' b c z c' z' h h' e e'=>r.fX t t' b c z c' z' h h' e e'⟩, ?_⟩
 ·obtain⟨h4,h5⟩:=r.comm b q v e
  refine⟨?_,h5⟩
  have hbo:b≠M.mu o:=fun eq=>by subst eq;have e0:M.G (M.mu o) q=some v:=e;rw[r.jZ o ho q]at e0;cases e0
  rw[← h4]
  simp[World.cell?,IM b (r.A5 e) hbo]
 ·simp only [List.getElem?_set]at e
  split at e
  ·rename_i hq
   subst hq
   cases e
   refine⟨⟨.int .i64 g'::us.toList.take vr.length⟩,T, ?_,by simp;omega,⟨fun v hv=>?_,fun T' hT=>?_⟩,fun i d v e1 e2=>?_⟩
   ·unfold iM
    rw[uS]
    exact⟨us,g',vr.length,qJ,hh,ye,Dj,ej,hl,rfl,ic⟩
   ·simp at hv
    rcases hv with rfl|hv
    ·rfl
    ·exact ic v (Array.mem_toList_iff.1 (List.mem_of_mem_take hv))
   ·have:(M.rr o (b', .arr z A')).ty o=none:=by unfold Map.ty;rw [uS];rfl
    rw[this]at hT;cases hT
   ·cases i with
    |zero=>simp at e1 e2;subst e1 e2;exact .int _ _
    |succ i=>
     simp at e1 e2
     rw[List.getElem?_take]at e2
     split at e2
     ·exact(jC i d v e1 (by simpa using e2)).mono le
     ·cases e2
  ·rename_i hq
   have hq:q≠o:=fun e=>hq e.symm
   obtain⟨fD,T',h4,h5,h6,h7⟩:=r.obj q ds e
   have JI:q<s.ah.length:=(List.getElem?_eq_some_iff.1 e).1
   refine⟨fD,T', ?_,h5,⟨h6.1,by unfold Map.ty;rw[OC q hq];exact h6.2⟩,fun i d v e1 e2=>(h7 i d v e1 e2).mono le⟩
   rw[OC q hq]
   exact h4.keep (IM _ h4.lt fun e=>hq (r.inj q o JI ho e))
 ·simp at hq
  by_cases vt:q=o
  ·subst vt;rw[mX];exact hG off
  ·rw[DM q vt];exact r.jZ q hq off
 ·simp at hq mJ
  by_cases h4:q=o<;>by_cases h5:q'=o
  ·omega
  ·subst h4;rw[mX,DM q' h5]at e;exact(fl q' mJ h5 e.symm).elim
  ·subst h5;rw[mX,DM q h4]at e;exact(fl q hq h4 e).elim
  ·rw[DM q h4,DM q' h5]at e;exact r.inj q q' hq mJ e
 ·rcases r.tok t n e with h4 | ⟨b,cap,size,fD,T',h4,h5,h6⟩
  ·exact .inl h4
  ·refine .inr ⟨b,cap,size,fD,T',h4, ?_,h6⟩
   rw[IM b (kv h5) (fun eq=>r.fh t b cap size o ⟨n,e⟩ h4 ho eq.symm)];exact h5
 ·simp at hq
  by_cases vt:q=o
  ·subst vt;rw [mX]
   rcases hb with hb|hb
   ·rw[hb];exact r.fh t b c z' q hl e hq
   ·have:=r.sM hl e;omega
  ·rw[DM q vt];exact r.fh t b c z' q hl e hq
 ·refine⟨le,fun b sg h4 _=>IM b sg (fun e=>h4 o ho e.symm),fun q h4 h5=> ?_,fun t b c z h e=> .inl ⟨h,c,z,e⟩,fun _ _ h=>(h rfl).elim,sO,h1,h2,h3⟩
  simp at h5
  by_cases vt:q=o
  ·subst vt
   rw[mX]at h4 ⊢
   rcases hb with hb|hb
   ·rcases h4 with h4 | h4
    ·omega
    ·exact(h4 hb).elim
   ·exact hb
  ·rw [DM q vt]at h4
   rcases h4 with h4|h4
   ·omega
   ·exact(h4 rfl).elim
theorem Rel.acF (r:Rel M s w) (z cap:Nat) (us:Array Value) (T:TypeId) (ej:us.size=cap*z) (cells:List D) (hl:cells.length≤us.size) (ic : ∀ u∈us,u.oneCell'=true)
 (jC : ∀ (i:Nat) (d:D) (u:Value),cells[i]? = some d→us[i]? = some u→RD M s d u) :
 ∃ M',Rel M' {s with ah:=s.ah++ [.int .i64 ((0:Nat):Int)::cells]} (w.alloc (.cells us T))∧Ext M s w M' {s with ah:=s.ah++ [.int .i64 ((0:Nat):Int)::cells]} (w.alloc (.cells us T))∧
  ∀ len,len≤cap→RD M' {s with ah:=s.ah++ [.int .i64 ((0:Nat):Int)::cells]} (.eJ z s.ah.length 0 len) (.slice (some ⟨w.heap.size,0,none⟩) len cap):=by
 obtain⟨r',e'⟩:=r.Jy (.int .i64 ((0:Nat):Int)::cells) (.cells us T) ⟨.int .i64 ((0:Nat):Int)::us.toList.take cells.length⟩ T (.arr z fun g=>if g=0 then some (w.heap.size,cap)else none)
  (fun hp e=>⟨us,0,cells.length,cap,e,rfl,fun g' h=>if_neg (by omega),ej,hl,rfl,ic⟩) (fun _ h=>by cases h) (by simp;omega) (fun v hv=>by
   simp at hv
   rcases hv with rfl|hv
   ·rfl
   ·exact ic v (Array.mem_toList_iff.1 (List.mem_of_mem_take hv))) (fun i d v e1 e2=>by
   cases i with
   |zero=>simp at e1 e2;subst e1 e2;exact .int _ _
   |succ i=>
    simp at e1 e2
    rw[List.getElem?_take]at e2
    split at e2
    ·exact(jC i d v e1 (by simpa using e2)).mono (sm s w.heap.size _ _)
    ·cases e2)
 exact⟨_,r',e',fun len h=> .eJ z _ 0 len w.heap.size cap _ (by simp) (by simp[Map.ei,Map.ob];rfl) (if_pos rfl) h⟩
end
end Go.Abs
namespace Go.Abs
section
variable {P:Program} {M:Map} {s:St} {w:World}
theorem M6 (r:Rel M s w) {o g off:Nat} {v:Value} {cells:List D} (hx:RD M s (.fv o g off) v) (ha:nS s o g=some cells) :
 ∃ z A,M.ob o = .arr z A∧v = .pointer (some ⟨M.mu o,off,none⟩):=by
 obtain⟨z,b,cap,A,hv,ho,hm,hg⟩:=hx.DG
 obtain⟨us,T,qJ,h1,h2,_⟩:=r.JM hm ha
 rw[hg]at h2;cases h2
 exact⟨z,A,hm,hv⟩
theorem Mb (r:Rel M s w) {t:TypeId} {i:TypeInfo} {agg:Bool} (hi:P.info? t=some i) (hag:ri P t=some agg) {x d:D} {v:Value} {s':St} (hx:RD M s x v) (h:zb x agg i.size s=some (d,s')) :
 df P M s w (do pure (.value (← Instr.loadAt t v))) d s':=by
 unfold zb at h
 split at h
 case h_2=>cases h
 rename_i o g off
 split at h
 case h_2=>cases h
 rename_i cells ha
 split at h
 case h_2=>cases h
 rename_i d' hp
 cases h
 obtain⟨z,A,hm,rfl⟩:=M6 r hx ha
 obtain⟨us,T,cap,hh,_,_,_,hl,ic,jC⟩:=r.JM hm ha
 let n:=if agg then i.size else 1
 have jx:off+n≤us.size:=by
  rcases qV hp with ⟨rfl,h1,_⟩|⟨rfl,h1⟩
  ·simp[n];omega
  ·have:=(List.getElem?_eq_some_iff.1 h1).1;simp[n];omega
 have hlen:((us.toList.drop off).take n).length=n:=by simp;omega
 have hE : ∀ (j:Nat) (u:Value),((us.toList.drop off).take n)[j]? = some u→us[off+j]? = some u:=by
  intro j u h
  rw[List.getElem?_take]at h
  split at h
  ·rw[List.getElem?_drop]at h;simpa using h
  ·cases h
 have dK:=zh (w:=w) P hi hag (M.mu o) off ((us.toList.drop off).take n) hlen (fun j u h=>by rw[jm hh];exact hE j u h)
 refine df.pure (v:=if agg then .agg ((us.toList.drop off).take n).toArray else((us.toList.drop off).take n).getD 0 Go.undef) r (by simp[Instr.loadAt,Instr.sureAddr,dK]) ?_
 refine rm hp _ hlen (fun _ u hu=>ic u ?_) (fun j d u e1 e2=>jC _ d u e1 (hE j u e2))
 exact Array.mem_toList_iff.1 (List.mem_of_mem_drop (List.mem_of_mem_take hu))
theorem yh {vs:Array Value} {off:Nat} {us:List Value} {n:Nat} (hu:us.length=n) (h:off+n≤vs.size) (i:Nat) :
 (vs.toList.take off++us++vs.toList.drop (off+us.length)).toArray[i]? = if i<off then vs[i]? else if i<off+n then us[i - off]? else vs[i]? :=by
 subst hu
 simp only[List.getElem?_toArray]
 have hl:(vs.toList.take off).length=off:=by simp;omega
 split
 ·rename_i h3
  rw[List.append_assoc,List.getElem?_append_left (by omega),List.getElem?_take_of_lt h3];simp
 ·rename_i h3
  rw[List.append_assoc,List.getElem?_append_right (by omega),hl]
  split
  ·rename_i h4
   rw[List.getElem?_append_left (by omega)]
  ·rename_i h4
   rw[List.getElem?_append_right (by omega),List.getElem?_drop]
   rw[show off+us.length+(i - off - us.length)=i by omega];simp
theorem yi {vs:Array Value} {off k:Nat} {us:List Value} (h1 : ∀ v∈vs,v.oneCell'=true) (h2 : ∀ u∈us,u.oneCell'=true) : ∀ v∈(vs.toList.take off++us++vs.toList.drop k).toArray,v.oneCell'=true:=by
 intro v hv
 simp at hv
 rcases hv with hv|hv|hv
 ·exact h1 v (Array.mem_toList_iff.1 (List.mem_of_mem_take hv))
 ·exact h2 v hv
 ·exact h1 v (Array.mem_toList_iff.1 (List.mem_of_mem_drop hv))
theorem JN (r:Rel M s w) {t:TypeId} {i:TypeInfo} (hi:P.info? t=some i) {x y d:D} {v u:Value} {s':St} (hx:RD M s x v) (hy:RD M s y u) (h:A2 x y.row i.size s=some (d,s')) :
 df P M s w (do Instr.storeAt t v u;pure .skip) d s':=by
 unfold A2 at h
 split at h
 case h_2=>cases h
 rename_i o g off row hr
 split at h
 case h_2=>cases h
 rename_i cells ha
 split at h
 case isFalse=>cases h
 rename_i hc
 obtain⟨hl,jx⟩:=hc
 cases h
 obtain⟨z,A,hm,rfl⟩:=M6 r hx ha
 obtain⟨us,T,cap,hh,ye,Dj,ej,hle,ic,jC⟩:=r.JM hm ha
 obtain⟨h1,h2,h3⟩:=hy.row hr
 have hu:u.cells.toList.length=row.length:=by simpa using h1
 have jV:=run_storeCells_at P (M.mu o) off T u.cells.toList 0 us w hh (by omega) (fun u hu=>h2 u (by simpa using hu))
 simp only[Nat.add_zero]at jV
 generalize dv:(us.toList.take off++u.cells.toList++us.toList.drop (off+u.cells.toList.length)).toArray=ja at jV
 have rl:ja.size=us.size:=by rw[← dv];simp;omega
 have hE : ∀ i,ja[i]? = if i<off then us[i]? else if i<off+row.length then u.cells.toList[i - off]? else us[i]? :=fun i=>by rw[← dv];exact yh hu (by omega) i
 have hlc:(iG cells off row).length=cells.length:=tV cells off row (by omega)
 obtain⟨r',e'⟩:=r.Vi hm ha (M.mu o) g cap A (fun _ _ h=>h) ye Dj (w.setRow (M.mu o) ja) ja T (setRow_heap w (M.mu o) us ja T (0,0) hh) (by rw[rl,ej]) (iG cells off row) (by omega)
  (by rw [← dv];exact yi ic (fun u hu=>h2 u (by simpa using hu))) (fun i d v e1 e2=>by
   rw[rk cells off row (by omega)]at e1
   rw[hE]at e2
   split at e1
   ·rename_i h4;simp only[h4,if_true]at e2;exact jC i d v e1 e2
   ·rename_i h4
    simp only[h4,if_false]at e2
    split at e1
    ·rename_i h5;simp only[h5,if_true]at e2;exact h3 _ d v e1 (by simpa using e2)
    ·rename_i h5;simp only[h5,if_false]at e2;exact jC i d v e1 e2) (.inl rfl) (fun b _ hb=>setRow_other w (M.mu o) b _ hb) (by simp) rfl rfl rfl
 refine⟨Go.undef,_,_, .inr ⟨?_,rfl⟩,r', .undef,e'⟩
 have akh:u.cells.size=i.size:=by omega
 simp[Instr.storeAt,Instr.sureAddr,storeVar,sizeOf,fZ P hi,akh,jV]
theorem JO (r:Rel M s w) {t e:TypeId} {i:TypeInfo} (ht:P.underlying t=some (.slice e)) (hi:P.info? e=some i) {x y d:D} {v u:Value} (hx:RD M s x v) (hy:RD M s y u) (h:xZ x y i.size=some d) :
 df P M s w (do pure (.value (← Instr.indexAt t v u))) d s:=by
 unfold xZ at h
 split at h
 case h_2=>cases h
 rename_i z o g len k n
 split at h
 case isFalse=>cases h
 rename_i hc
 obtain⟨h0,h1,rfl⟩:=hc
 cases h
 obtain⟨b,cap,A,rfl,ho,hm,hg,hl⟩:=hx.ya
 rw[hy.iB]
 refine df.pure (v:= .pointer (some ⟨b,n.toNat*i.size,none⟩)) r ?_ (.fv _ _ _ _ b cap A ho hm hg)
 simp[Instr.indexAt,asIntOf,run_underlying ht,h0,h1,sizeOf,fZ P hi,my]
theorem OD (r:Rel M s w) {t e:TypeId} {i:TypeInfo} {lv hv:Option Value} {lo hi:Option D} (ht:P.underlying t=some (.slice e)) (Eu:P.info? e=some i) {x d:D} {v:Value} (hx:RD M s x v)
 (h1 : ∀ l,tf lo=some l→RX lv l) (h2 : ∀ len l,ti hi len=some l→RY hv len l) (h:xk x lo hi=some d) :
 df P M s w (do pure (.value (← Instr.sliceAt t v lv hv none))) d s:=by
 unfold xk at h
 split at h
 ·rename_i z o g len
  split at h
  case h_2=>cases h
  rename_i l hh el eh
  split at h
  case isFalse=>cases h
  rename_i hc
  obtain⟨rfl,h0,hle⟩:=hc
  cases h
  obtain⟨b,cap,A,rfl,ho,hm,hg,hl⟩:=hx.ya
  have hb:=pI (P:=P) (w:=w) (isSlice:=true) (cap:=cap) (h1 _ el) (h2 _ _ eh) (Int.le_refl 0) h0 hle hl
  refine df.pure (v:= .slice (some ⟨b,0,none⟩) hh.toNat cap) r ?_ (.eJ z o g _ b cap A ho hm hg (by omega))
  simp[Instr.sliceAt,run_underlying ht,Instr.slice,hb,sizeOf,fZ P Eu,my]
 ·rename_i z
  split at h
  case h_2=>cases h
  rename_i l hh el eh
  split at h
  case isFalse=>cases h
  rename_i hc
  obtain⟨rfl,rfl⟩:=hc
  cases h
  obtain⟨a,rfl⟩:=hx.DH
  have hb:=pI (P:=P) (w:=w) (isSlice:=true) (len:=0) (cap:=0) (h1 _ el) (h2 _ _ eh) (Int.le_refl 0) (Int.le_refl 0) (Int.le_refl 0) (Nat.le_refl 0)
  refine df.pure (v:= .slice a 0 0) r ?_ (.eH z a)
  cases a<;>simp[Instr.sliceAt,run_underlying ht,Instr.slice,hb,sizeOf,fZ P Eu,my]
 ·cases h
theorem OE (r:Rel M s w) {t ty e:TypeId} (ht:P.underlying t=some (.slice e)) {x d:D} {v:Value} (hx:RD M s x v) (h:F7 x=some d) :
 df P M s w (do pure (.value (← Builtin.len_ #[t] ty #[v]))) d s:=by
 unfold F7 at h
 split at h
 ·cases h
  obtain⟨b,cap,A,rfl,_⟩:=hx.ya
  exact mZ r ht
 ·cases h
  obtain⟨a,rfl⟩:=hx.DH
  exact mZ r ht
 ·cases h
theorem zk {size:Nat} : ∀ {rows:List (List D)},(∀ row∈rows,row.length=size)→rows.flatten.length=rows.length*size∧
 ∀ (k:Nat) (d:D),rows.flatten[k]? = some d→∃ (i:Nat) (row:List D) (j:Nat),rows[i]? = some row∧row[j]? = some d∧k=i*size+j
 | [],_=>by simp
 | row::rows,h=>by
  have hr:=h row (List.mem_cons_self ..)
  obtain⟨h1,h2⟩:=zk fun q hq=>h q (List.mem_cons_of_mem _ hq)
  refine⟨by simp only[List.flatten_cons,List.length_append,h1,hr,List.length_cons,Nat.add_mul];omega,fun k d e=>?_⟩
  rw[List.flatten_cons]at e
  rcases Nat.lt_or_ge k row.length with hk|hk
  ·rw [List.getElem?_append_left hk]at e
   exact⟨0,row,k,rfl,e,by omega⟩
  ·rw [List.getElem?_append_right hk]at e
   obtain⟨i,jy,j,g1,g2,g3⟩:=h2 _ d e
   exact⟨i+1,jy,j,by simpa using g1,g2,by rw[Nat.add_mul];omega⟩
theorem OF (r:Rel M s w) {t u ty e e':TypeId} {i:TypeInfo} {z:Value} (ht:P.underlying t=some (.slice e)) (hu:P.underlying u=some (.slice e')) (hi:P.info? e=some i) (hz:i.zero=some z)
 (yf:z.cells.size=i.size) (Dk : ∀ v∈z.cells,v.oneCell'=true) {dx dy d:D} {x y:Value} {s':St} (hx:RD M s dx x) (hy:RD M s dy y) (sv:0<i.size) (he:A3 i.size i.bytes dx dy s=some (d,s')) :
 ∃ v w' M',(Builtin.append_ #[t,u] ty #[x,y]).run P w = .ok v w'∧Rel M' s' w'∧RD M' s' d v∧Ext M s w M' s' w':=by
 have src:=Gd (i:=i) r hu hy
 unfold A3 at he
 split at he
 ·-- behind an array
  rename_i z0 o g len g' zy new
  split at he
  case isFalse=>cases he
  rename_i hc
  obtain⟨rfl,JF,wD⟩:=hc
  obtain⟨b,cap,A,rfl,ho,hm,hg,hlc⟩:=hx.ya
  cases new with
  |nil=>
   simp only at he
   cases he
   exact⟨_,w,M,lD ht hi ((src _ _ _ rfl).1 rfl) hlc,r,hx,Ext.refl M s w⟩
  |cons n0 new=>
  have fl:(n0::new)≠ []:=by simp
  generalize dv:n0::new=ez at *
  have R3:zy=i.size:=JF.resolve_left fl
  subst R3
  obtain⟨Hj,news,hs,Cn⟩:=(src _ _ _ rfl).2 fl rfl
  have Ah:0<ez.length:=List.length_pos_iff.2 fl
  simp only[← dv]at he
  simp only[dv]at he
  split at he
  case h_2=>cases he
  rename_i cells ha
  split at he
  case isFalse=>cases he
  rename_i nM
  cases he
  obtain⟨us,T,qJ,hh,ye,Dj,ej,hle,ic,jC⟩:=r.JM hm ha
  rw[hg]at ye
  simp only[Option.some.injEq,Prod.mk.injEq]at ye
  obtain⟨rfl,rfl⟩:=ye
  obtain⟨jo,R9⟩:=zk Hj
  have JP:(cells.take (len*i.size)).length=len*i.size:=by simp;omega
  have hA : ∀ (b' c':Nat) (g0:Nat) (x:Nat×Nat),A g0=some x→(if g0=g+1 then some (b',c')else A g0)=some x:=fun b' c' g0 x h=>by
   rw[if_neg]
   ·exact h
   ·rintro rfl
    rw[Dj (g+1) (by omega)]at h;cases h
  have tu:(len+ez.length)*i.bytes≤140737488355328:=by rw[Nat.mul_succ]at wD;simp only[bA]at wD;omega
  have R4:len+ez.length≤1099511627776:=by rw[Nat.mul_succ]at wD;simp only[bA]at wD;omega
  have Sb:=hs.newsLen
  -- what is laid there
  have Yq : ∀ (vs:Array Value),(∀ k,k<len*i.size→vs[k]? = us[k]?)→(∀ k,k<news.length→vs[len*i.size+k]? = news[k]?)→∀ (k:Nat) (d:D) (v:Value),
   (cells.take (len*i.size)++ez.flatten)[k]? = some d→vs[k]? = some v→RD M s d v:=fun vs g1 g2 k d v e1 e2=>by
   rcases Nat.lt_or_ge k (len*i.size)with hk|hk
   ·rw [List.getElem?_append_left (by omega),List.getElem?_take_of_lt hk]at e1
    rw[g1 k hk]at e2
    exact jC k d v e1 e2
   ·rw [List.getElem?_append_right (by omega),JP]at e1
    have cp:=(List.getElem?_eq_some_iff.1 e1).1
    have:=g2 (k - len*i.size) (by omega)
    rw[show len*i.size+(k - len*i.size)=k by omega]at this
    rw[this]at e2
    obtain⟨a,row,j,f1,f2,f3⟩:=R9 _ d e1
    rw[f3]at e2
    exact Cn a row j d v f1 f2 e2
  by_cases fP:len+ez.length≤cap
  ·have jx:len*i.size+news.length≤us.size:=by rw [Sb,ej, ← Nat.add_mul];exact Nat.mul_le_mul_right _ fP
   have jV:=run_storeCells_at P (M.mu o) (len*i.size) T news 0 us w hh (by simpa using jx) hs.one
   simp only[Nat.add_zero]at jV
   have dK:(Builtin.append_ #[t,u] ty #[.slice (some ⟨M.mu o,0,none⟩) len cap,y]).run P w = .ok (.slice (some ⟨M.mu o,0,none⟩) (len+ez.length) cap) (w.setRow (M.mu o) (us.toList.take (len*i.size)++news++us.toList.drop (len*i.size+news.length)).toArray):=by
    rcases hs.kind with ⟨M3,hk⟩|hk<;>simp[Builtin.append_,run_underlying ht,run_underlying hk,sizeOf,typeInfo,hi,hs.len,fP,hs.cells,Addr.add_lit,jV]
   have hE:=yh (vs:=us) (off:=len*i.size) (us:=news) rfl jx
   generalize ry:(us.toList.take (len*i.size)++news++us.toList.drop (len*i.size+news.length)).toArray=ja at dK hE
   have rl:ja.size=us.size:=by rw[← ry];simp;omega
   obtain⟨r',e'⟩:=r.Vi hm ha (M.mu o) (g+1) cap (fun g0=>if g0=g+1 then some (M.mu o,cap)else A g0) (hA _ _) (if_pos rfl) (fun M5 h=>by rw[if_neg (by omega)];exact Dj M5 (by omega))
    (w.setRow (M.mu o) ja) ja T (setRow_heap w (M.mu o) us ja T (0,0) hh) (by rw[rl,ej]) (cells.take (len*i.size)++ez.flatten) (by rw[List.length_append,JP,jo,rl];omega)
    (by rw[← ry];exact yi ic hs.one) (Yq ja (fun k hk=>by rw[hE,if_pos hk]) (fun k hk=>by rw[hE,if_neg (by omega),if_pos (by omega)];congr 1;omega)) (.inl rfl) (fun b _ hb=>setRow_other w (M.mu o) b _ hb) (by simp) rfl rfl rfl
   refine⟨_,_,_,dK,r', ?_,e'⟩
   exact .eJ i.size o (g+1) _ (M.mu o) cap _ (by simpa using ho) (by simp[Map.ob,Map.rr];rfl) (if_pos rfl) fP
  ·have JQ:cap<len+ez.length:=by omega
   have eL:=grownCap_ge w (len+ez.length) cap e
   have M7:(Builtin.firstCells i.size len (.slice (some ⟨M.mu o,0,none⟩) len cap)).run P w.drew = .ok (us.toList.take (len*i.size)).toArray w.drew:=
    (Src.ofSlice w ht ⟨M.mu o,0,none⟩ len cap (us.toList.take (len*i.size)) (by simp;omega) (fun j v hj=>by
     rw[my,Nat.zero_add,jm hh]
     rw[List.getElem?_take]at hj
     split at hj
     ·simpa using hj
     ·cases hj) (fun v hv=>ic v (Array.mem_toList_iff.1 (List.mem_of_mem_take hv)))).cellsD
   have dK:=run_append_grow_src (P:=P) w t u ty e i z ht hi hz (some ⟨M.mu o,0,none⟩) len cap (us.toList.take (len*i.size)) M7 y ez.length news hs JQ (by omega) (growslice_fits JQ tu)
   generalize ry:(us.toList.take (len*i.size)++news).toArray++Builtin.zeroCells z.cells (grownCap w (len+ez.length) cap e - (len+ez.length))=ja at dK
   have x8:(us.toList.take (len*i.size)).length=len*i.size:=by simp;omega
   have rl:ja.size=grownCap w (len+ez.length) cap e*i.size:=by
    rw[← ry]
    simp only[Array.size_append,List.size_toArray,List.length_append,size_zeroCells,yf,x8,Sb, ← Nat.add_mul]
    congr 1;omega
   have OG : ∀ v∈ja,v.oneCell'=true:=fun v hv=>by
    rw[← ry,Array.mem_append]at hv
    rcases hv with hv|hv
    ·simp at hv
     rcases hv with hv|hv
     ·exact ic v (Array.mem_toList_iff.1 (List.mem_of_mem_take hv))
     ·exact hs.one v hv
    ·exact tY Dk _ v hv
   have agQ : ∀ k,k<len*i.size→ja[k]? = us[k]? :=fun k hk=>by
    rw[← ry,Array.getElem?_append_left (by simp;omega),List.getElem?_toArray,List.getElem?_append_left (by omega),List.getElem?_take_of_lt hk];simp
   have l9 : ∀ k,k<news.length→ja[len*i.size+k]? = news[k]? :=fun k hk=>by
    rw[← ry,Array.getElem?_append_left (by simp;omega),List.getElem?_toArray,List.getElem?_append_right (by omega),x8]
    congr 1;omega
   have Ge:(len+ez.length)*i.size≤ja.size:=by rw[rl];exact Nat.mul_le_mul_right _ eL
   have acG:w.heap.size≤(w.drew.alloc (.cells ja e)).heap.size:=by
    have e1:w.drew.heap.size=w.heap.size:=rfl
    have e2:(w.drew.alloc (.cells ja e)).heap.size=w.drew.heap.size+1:=by simp
    omega
   obtain⟨r',e'⟩:=r.Vi hm ha w.heap.size (g+1) (grownCap w (len+ez.length) cap e) (fun g0=>if g0=g+1 then some (w.heap.size,grownCap w (len+ez.length) cap e)else A g0) (hA _ _) (if_pos rfl) (fun M5 h=>by rw[if_neg (by omega)];exact Dj M5 (by omega))
    (w.drew.alloc (.cells ja e)) ja e (heap_alloc_new w.drew _) rl (cells.take (len*i.size)++ez.flatten) (by rw[List.length_append,JP,jo];rw[Nat.add_mul]at Ge;omega)
    OG (Yq ja agQ l9) (.inr (Nat.le_refl _)) (fun b hb _=>heap_alloc_old w.drew _ b hb) acG rfl rfl rfl
   refine⟨_,_,_,dK,r', ?_,e'⟩
   exact .eJ i.size o (g+1) _ w.heap.size _ _ (by simpa using ho) (by simp[Map.ob,Map.rr];rfl) (if_pos rfl) eL
 ·-- the first array
  rename_i z0 g' zy new
  split at he
  case isFalse=>cases he
  rename_i hc
  obtain⟨rfl,JF,wD⟩:=hc
  obtain⟨a,rfl⟩:=hx.DH
  cases new with
  |nil=>
   simp only at he
   cases he
   exact⟨_,w,M,lD ht hi ((src _ _ _ rfl).1 rfl) (Nat.le_refl 0),r,hx,Ext.refl M s w⟩
  |cons n0 new=>
  have fl:(n0::new)≠ []:=by simp
  generalize dv:n0::new=ez at *
  have R3:zy=i.size:=JF.resolve_left fl
  subst R3
  obtain⟨Hj,news,hs,Cn⟩:=(src _ _ _ rfl).2 fl rfl
  have Ah:0<ez.length:=List.length_pos_iff.2 fl
  simp only[← dv]at he
  simp only[dv]at he
  cases he
  obtain⟨jo,R9⟩:=zk Hj
  have Sb:=hs.newsLen
  have tu:(0+ez.length)*i.bytes≤140737488355328:=by rw[Nat.mul_succ]at wD;simp only[bA]at wD;rw[Nat.zero_add];omega
  have R4:ez.length≤1099511627776:=by rw[Nat.mul_succ]at wD;simp only[bA]at wD;omega
  have JQ:0<0+ez.length:=by omega
  have eL:=grownCap_ge w (0+ez.length) 0 e
  have M7:(Builtin.firstCells i.size 0 (.slice a 0 0)).run P w.drew = .ok ([] : List Value).toArray w.drew:=by
   cases a with
   |none=>simp[Builtin.firstCells]
   |some a=>simp[Builtin.firstCells,loadCells,loadCellsFrom]
  have dK:=run_append_grow_src (P:=P) w t u ty e i z ht hi hz a 0 0 [] M7 y ez.length news hs JQ (by omega) (growslice_fits JQ tu)
  generalize ry:(([] : List Value)++news).toArray++Builtin.zeroCells z.cells (grownCap w (0+ez.length) 0 e - (0+ez.length))=ja at dK
  have rl:ja.size=grownCap w (0+ez.length) 0 e*i.size:=by
   rw[← ry]
   simp only[Array.size_append,List.size_toArray,List.nil_append,size_zeroCells,yf,Sb, ← Nat.add_mul]
   congr 1;omega
  have OG : ∀ v∈ja,v.oneCell'=true:=fun v hv=>by
   rw[← ry,Array.mem_append]at hv
   rcases hv with hv|hv
   ·exact hs.one v (by simpa using hv)
   ·exact tY Dk _ v hv
  have l9 : ∀ k,k<news.length→ja[k]? = news[k]? :=fun k hk=>by
   rw[← ry,Array.getElem?_append_left (by simpa using hk)];simp
  have Ge:ez.length*i.size≤ja.size:=by rw[rl];exact Nat.mul_le_mul_right _ (by omega)
  have rd:Rel M s w.drew:=r.of_heap rfl
  obtain⟨M',r',e',f'⟩:=rd.acF i.size (grownCap w (0+ez.length) 0 e) ja e rl ez.flatten (by omega) OG (fun k d v e1 e2=>by
   have hk:=(List.getElem?_eq_some_iff.1 e1).1
   rw[l9 k (by omega)]at e2
   obtain⟨a,row,j,f1,f2,f3⟩:=R9 _ d e1
   rw[f3]at e2
   exact Cn a row j d v f1 f2 e2)
  refine⟨_,_,M',dK,r', ?_,(Ext.of_heap (M:=M) (s:=s) (w:=w) (w':=w.drew) rfl rfl rfl rfl).trans e'⟩
  have:=f' ez.length (by omega)
  simpa using this
 ·cases he
theorem OH (r:Rel M s w) {t e:TypeId} {i:TypeInfo} {z:List D} (ht:P.underlying t=some (.slice e)) (hi:P.info? e=some i) (hz:zeroOf P e=some z) (sv:0<i.size) {n:Int} (h0:0≤n) (h1:n*((i.bytes:Int)+1)≤bA) :
 df P M s w (do pure (.value (← Instr.makeSlice t (.int .i64 n) (.int .i64 n)))) (.eJ i.size s.ah.length 0 n.toNat) {s with ah:=s.ah++ [.int .i64 ((0:Nat):Int)::(fY z n.toNat).flatten]}:=by
 obtain⟨i',v,g1,g2,g3,g4⟩:=sN hz
 rw[hi]at g1;cases g1
 have Hl:=rp (M:=M) (s:=s) g4
 have hmul:n*((i.bytes:Int)+1)=(i.bytes:Int)*n+n:=by rw[Int.mul_add,Int.mul_one,Int.mul_comm]
 have hnb:0≤(i.bytes:Int)*n:=Int.mul_nonneg (by omega) h0
 have hmx:(bA:Int)=1099511627776:=rfl
 have dK:=run_make (P:=P) w t e i v ht hi g2 .i64 .i64 n n h0 (Int.le_refl _) (by omega) (by omega)
 have Yn:z.length=i.size:=by have:=Hl.1;omega
 obtain⟨q1,q2,q3,q4⟩:=l6.zero Hl (by omega) n.toNat
 obtain⟨jo,R9⟩:=zk (rows:=fY z n.toNat) (size:=z.length) (fun row hr=>by rw[o4 z _ row hr])
 rw[l7]at jo
 have Hn:madeCells v.cells (n.toNat*i.size)=(Array.range (n.toNat*z.length)).map (v.cells[· % v.cells.size]!):=by rw[Yn];rfl
 obtain⟨M',r',e',f'⟩:=r.acF i.size n.toNat (madeCells v.cells (n.toNat*i.size)) e (by rw[Hn];simp[Yn]) (fY z n.toNat).flatten (by rw[jo,Hn];simp) (by rw[Hn];exact q3) (fun k d u e1 e2=>by
  obtain⟨a,row,j,f1,f2,f3⟩:=R9 k d e1
  rw[Hn,f3]at e2
  exact q4 a row j d u f1 f2 e2)
 refine⟨_,_,M', .inl ?_,r',f' n.toNat (Nat.le_refl _),e'⟩
 simp only[Sem.run_bind,dK,Result.andThen_ok,Sem.run_pure]
end
end Go.Abs
namespace Go.Abs
section
variable {P:Program} {M:Map} {s:St} {w:World}
theorem M8 {tm:Tm} {act:Act} (hr:l5 M s tm act.tmps) : ∀ {l:List Operand} {xs:List X},x0 l=some xs→
 xs.length=l.length∧∀ (i:Nat) (d:D) (v:Value),(xs.map (·.ev tm))[i]? = some d→(l.map act.eval)[i]? = some v→RD M s d v
 | [],xs,h=>by cases h;exact⟨rfl,by simp⟩
 | x::l,xs,h=>by
  unfold x0 at h
  split at h
  ·rename_i x' r' h1 h2
   cases h
   obtain⟨g1,g2⟩:=M8 hr h2
   refine⟨by simp[g1],fun i d v e1 e2=>?_⟩
   cases i with
   |zero=>simp at e1 e2;subst e1;subst e2;exact bZ h1 hr
   |succ i=>exact g2 i d v (by simpa using e1) (by simpa using e2)
  ·cases h
theorem JR {lo:Option Operand} {Ho:Option X} {tm:Tm} {act:Act} (hr:l5 M s tm act.tmps) (h:Ye lo=some Ho) {l:Int} (hl:tf (Ho.map (·.ev tm))=some l):RX (lo.map act.eval) l:=by
 cases lo with
 |none=>cases h;simp only[Option.map_none,tf,Option.some.injEq]at hl;exact .inl ⟨rfl,hl.symm⟩
 |some x=>
  obtain⟨y,hy,rfl⟩:=map_some (f:=some) h
  have:=bZ hy hr
  simp only[Option.map_some]at hl ⊢
  cases hd:y.ev tm<;>rw[hd]at hl this<;>simp only[tf]at hl<;>try (cases hl;done)
  cases hl
  rw[this.iB]
  exact .inr ⟨_,rfl⟩
theorem JS {hi:Option Operand} {ig:Option X} {tm:Tm} {act:Act} (hr:l5 M s tm act.tmps) (h:Ye hi=some ig) {len:Nat} {l:Int} (hl:ti (ig.map (·.ev tm)) len=some l):RY (hi.map act.eval) len l:=by
 cases hi with
 |none=>cases h;simp only[Option.map_none,ti,Option.some.injEq]at hl;exact .inl ⟨rfl,hl.symm⟩
 |some x=>
  obtain⟨y,hy,rfl⟩:=map_some (f:=some) h
  have:=bZ hy hr
  simp only[Option.map_some]at hl ⊢
  cases hd:y.ev tm<;>rw[hd]at hl this<;>simp only[ti]at hl<;>try (cases hl;done)
  cases hl
  rw[this.iB]
  exact .inr ⟨_,rfl⟩
theorem OI {t:TypeId} {f off size:Nat} {agg:Bool} (h:mw P t f=some (off,size,agg)) {cs:List D} {vs:Array Value} (hl:cs.length=vs.size) (h1 : ∀ v∈vs,v.oneCell'=true)
 (h2 : ∀ (i:Nat) (d:D) (v:Value),cs[i]? = some d→vs[i]? = some v→RD M s d v) {d:D} (hp:part cs off agg size=some d) (r:Rel M s w) :
 df P M s w (do pure (.value (← Instr.field t (.agg vs) f))) d s:=by
 let n:=if agg then size else 1
 have jx:off+n≤vs.size:=by
  rcases qV hp with ⟨rfl,h1,_⟩|⟨rfl,h1⟩
  ·simp[n];omega
  ·have:=(List.getElem?_eq_some_iff.1 h1).1;simp[n];omega
 have hlen:((vs.toList.drop off).take n).length=n:=by simp;omega
 have hE : ∀ (j:Nat),j<((vs.toList.drop off).take n).length→vs[off+j]? = ((vs.toList.drop off).take n)[j]? :=by
  intro j h
  rw[hlen]at h
  rw[List.getElem?_take,if_pos h,List.getElem?_drop];simp
 refine df.pure (v:=if agg then .agg ((vs.toList.drop off).take n).toArray else((vs.toList.drop off).take n).getD 0 Go.undef) r (by simp only[Sem.run_bind,RQ h vs _ hlen hE,Result.andThen_ok,Sem.run_pure]) ?_
 refine rm hp _ hlen (fun _ u hu=>h1 u (Array.mem_toList_iff.1 (List.mem_of_mem_drop (List.mem_of_mem_take hu)))) (fun j d u e1 e2=>h2 _ d u e1 ?_)
 rw[hE j (List.getElem?_eq_some_iff.1 e2).1];exact e2
theorem sP {o:Oper} {ao:AO} {tm:Tm} {act:Act} {d:D} {s':St} (hc:Es P o=some ao) (r:Rel M s w) (hr:l5 M s tm act.tmps) (he:aO ao tm s=some (d,s')) :
 df P M s w (execOp act.eval o) d s':=by
 obtain⟨dst,op,type,pos,after,guard⟩:=o
 unfold Es at hc
 simp only at hc
 cases op with
 |move x=>
  obtain⟨y,hy,rfl⟩:=map_some hc
  cases he
  exact df.pure r rfl (bZ hy hr)
 |assign x=>
  obtain⟨y,hy,rfl⟩:=map_some hc
  cases he
  exact df.pure r rfl (bZ hy hr)
 | pick c a b=>
  simp only at hc
  split at hc
  ·rename_i c' a' b' h1 h2 h3
   cases hc
   simp only[aO]at he
   split at he
   ·rename_i t ht
    cases he
    have hcb:=bZ h1 hr
    rw[ht]at hcb
    have:=hcb.nU
    refine df.pure (v:=if t then act.eval a else act.eval b) r ?_ ?_
    ·simp only [execOp,this,asBool]
     simp
    ·cases t
     ·exact bZ h3 hr
     ·exact bZ h2 hr
   ·cases he
  ·cases hc
 | alloc t=>
  simp only at hc
  split at hc
  ·obtain⟨z,hz,rfl⟩:=map_some hc
   simp only[aO]at he
   split at he
   ·cases he;exact L9 r hz
   ·cases he
  ·obtain⟨z,hz,rfl⟩:=map_some hc
   cases he
   exact Og r hz
 | box t x=>
  simp only at hc
  split at hc
  ·obtain⟨y,hy,rfl⟩:=map_some hc
   simp only[aO]at he
   split at he
   ·rename_i row eD
    cases he
    exact RP r (bZ hy hr) eD
   ·cases he
  ·obtain⟨y,hy,rfl⟩:=map_some hc
   simp only[aO]at he
   split at he
   ·rename_i row eD
    cases he
    exact U7 r (bZ hy hr) eD
   ·cases he
 | build t parts=>
  simp only at hc
  split at hc
  ·rename_i fs z ps h1 h2 h3
   split at hc
   ·rename_i JK
    cases hc
    simp only[aO]at he
    split at he
    ·rename_i cs qX
     cases he
     have:=Oy r hr h1 JK h2 h3 qX
     simpa[execOp]using this
    ·cases he
   ·cases hc
  ·cases hc
 | buildSlice t n parts=>
  simp only at hc
  split at hc
  ·rename_i e hu
   split at hc
   ·rename_i i z ps h1 h2 h3
    split at hc
    ·rename_i lE
     cases hc
     simp only[aO]at he
     split at he
     ·rename_i rows ky
      cases he
      obtain⟨vs,T,g1,g2,g3,g4⟩:=Dl r hr hu h1 h2 lE.1 lE.2 h3 ky
      obtain⟨f1,f2,f3⟩:=Ot r T g1
      refine⟨_,_,_, .inl ?_,f2,f1,f3⟩
      simp only[Array.toArray_toList]at g4
      simp only[execOp,Sem.run_bind,g4,Result.andThen_ok,Sem.run_pure]
      rw[g2]
     ·cases he
    ·cases hc
   ·cases hc
  ·cases hc
 | load t x=>
  simp only at hc
  split at hc
  ·rename_i y a i h1 h2 h3
   cases hc
   have hx:=bZ h1 hr
   simp only[aO]at he
   split at he
   ·rename_i o off ho
    rw[ho]at hx
    have JT:=hx.A6
    obtain⟨hv,_⟩:=hx.sq
    split at he
    ·rename_i cs qX
     split at he
     ·rename_i d' lj
      cases he
      have:=Ih r h3 h2 qX JT lj
      simp only[execOp,hv]
      exact this
     ·cases he
    ·cases he
   ·rename_i row off ho
    rw[ho]at hx
    obtain⟨b,k,hv,g1,g2⟩:=hx.zf
    split at he
    ·rename_i d' lj
     cases he
     have:=Ii r h3 h2 g1 g2 lj
     simp only[execOp,hv]
     exact this
    ·cases he
   ·exact Mb r h3 h2 hx he
  ·cases hc
 | store t a x=>
  simp only at hc
  split at hc
  ·rename_i a' x' i h1 h2 h3
   cases hc
   have ha:=bZ h1 hr
   have hx:=bZ h2 hr
   simp only[aO]at he
   split at he
   ·rename_i o off row ho eD
    rw[ho]at ha
    have JT:=ha.A6
    obtain⟨hv,_⟩:=ha.sq
    split at he
    ·rename_i cs qX
     split at he
     ·rename_i jx
      cases he
      have:=Oh r h3 qX JT hx eD jx.1 jx.2
      simp only[execOp,hv]
      exact this
     ·cases he
    ·cases he
   ·exact JN r h3 ha hx he
  ·cases hc
 | nilCheck x=>
  obtain⟨y,hy,rfl⟩:=map_some hc
  have hx:=bZ hy hr
  simp only[aO]at he
  split at he
  ·rename_i o off ho
   cases he
   rw[ho]at hx
   have hv:=hx.sq.1
   rw[hv]at hx
   simp only[execOp,hv]
   exact zj r hx
  ·rename_i row off ho
   cases he
   rw[ho]at hx
   obtain⟨b,k,hv,_⟩:=hx.zf
   rw[hv]at hx
   simp only[execOp,hv]
   exact zj r hx
  ·split at he
   case h_2=>cases he
   rename_i d' tx
   cases he
   unfold N6 at tx
   split at tx
   ·rename_i o g off hq
    cases tx
    rw[hq]at hx
    obtain⟨z,b,cap,A,hv,_⟩:=hx.DG
    rw[hv]at hx
    simp only[execOp,hv]
    exact zj r hx
   ·cases tx
 | binOp op t x y yt=>
  simp only at hc
  split at hc
  ·rename_i x' y' h1 h2
   have hx:=bZ h1 hr
   have hy:=bZ h2 hr
   have fin : ∀ d',xi op (x'.ev tm) (y'.ev tm)=some d'→(d',s)=(d,s')→df P M s w (execOp act.eval ⟨dst, .binOp op t x y yt,type,pos,after,guard⟩) d s':=by
    intro d' lj heq
    cases heq
    exact U8 r hx hy lj
   have acH:(match xi op (x'.ev tm) (y'.ev tm)with|some d=>some (d,s)|none=>none)=some (d,s')→df P M s w (execOp act.eval ⟨dst, .binOp op t x y yt,type,pos,after,guard⟩) d s':=by
    intro h
    split at h
    ·rename_i d' lj
     exact fin d' lj (by cases h;rfl)
    ·cases h
   have Vk : ∀ o:FO,((o = .eq∧op = .eql)∨(o = .Jt∧op = .add)∨(o = .RK∧op = .eql))→aO (.rf o x' y') tm s=some (d,s')→df P M s w (execOp act.eval ⟨dst, .binOp op t x y yt,type,pos,after,guard⟩) d s':=by
    intro o ho h
    simp only[aO]at h
    split at h
    ·rename_i d' lj
     cases h
     exact RU r ho hx hy lj
    ·cases h
   have acI : ∀ neg,op=(if neg then .neq else .eql)→P.underlying t=some .bool→aO (.Dg neg x' y') tm s=some (d,s')→df P M s w (execOp act.eval ⟨dst, .binOp op t x y yt,type,pos,after,guard⟩) d s':=by
    intro neg mL ht h
    simp only[aO]at h
    split at h
    ·rename_i p q hp hq
     cases h
     rw[hp]at hx;rw[hq]at hy
     simp only[execOp,hx.nU,hy.nU,mL]
     exact U9 r ht
    ·cases h
   have acJ : ∀ neg e,op=(if neg then .neq else .eql)→P.underlying t=some (.pointer e)→aO (.He neg x' y') tm s=some (d,s')→df P M s w (execOp act.eval ⟨dst, .binOp op t x y yt,type,pos,after,guard⟩) d s':=by
    intro neg e mL ht h
    simp only[aO]at h
    split at h
    ·rename_i hp hq
     cases h
     rw[hp]at hx;rw[hq]at hy
     simp only[execOp,hx.sn,hy.sn,mL]
     have:=DI r (neg:=neg) (x:=x) (y:=y) (a:=none) ht
     cases neg<;>simpa using this
    ·rename_i o off hp hq
     cases h
     rw[hp]at hx;rw[hq]at hy
     simp only[execOp,hx.sq.1,hy.sn,mL]
     have:=DI r (neg:=neg) (x:=x) (y:=y) (a:=some ⟨M.mu o,off,none⟩) ht
     cases neg<;>simpa using this
    ·rename_i row off hp hq
     cases h
     rw[hp]at hx;rw[hq]at hy
     obtain⟨b,k,hv,_⟩:=hx.zf
     simp only[execOp,hv,hy.sn,mL]
     have:=DI r (neg:=neg) (x:=x) (y:=y) (a:=some ⟨b,k+off,none⟩) ht
     cases neg<;>simpa using this
    ·cases h
   have acK : ∀ neg ks,op=(if neg then .neq else .eql)→qg P t=some ks→aO (.eqs neg ks x' y') tm s=some (d,s')→df P M s w (execOp act.eval ⟨dst, .binOp op t x y yt,type,pos,after,guard⟩) d s':=by
    intro neg ks mL ht h
    simp only[aO]at h
    split at h
    ·rename_i p q hp hq
     split at h
     ·rename_i e' tx
      cases h
      rw[hp]at hx;rw[hq]at hy
      simp only[execOp,mL]
      exact Vb r ht hx hy tx
     ·cases h
    ·cases h
   split at hc
   ·cases hc;exact acH he
   ·cases hc;exact acH he
   ·rename_i hu;cases hc;exact acI false rfl hu he
   ·rename_i hu;cases hc;exact acI true rfl hu he
   ·rename_i hu;cases hc;exact acJ false _ rfl hu he
   ·rename_i hu;cases hc;exact acJ true _ rfl hu he
   ·obtain⟨ks,hk,rfl⟩:=map_some hc;exact acK false ks rfl hk he
   ·obtain⟨ks,hk,rfl⟩:=map_some hc;exact acK true ks rfl hk he
   ·cases hc;exact Vk .eq (.inl ⟨rfl,rfl⟩) he
   ·cases hc;exact Vk .Jt (.inr (.inl ⟨rfl,rfl⟩)) he
   ·cases hc;exact Vk .RK (.inr (.inr ⟨rfl,rfl⟩)) he
   ·cases hc
  ·cases hc
 | unOp op t x=>
  obtain⟨y,hy,rfl⟩:=map_some hc
  have hx:=bZ hy hr
  simp only[aO]at he
  split at he
  ·rename_i d' lj
   cases he
   unfold Jw at lj
   split at lj
   ·rename_i k n hk
    cases lj
    rw[hk]at hx
    exact df.pure (v:= .int k (k.wrap (0 - n))) r (by simp[execOp,hx.iB,Op.unary,Op.intArith]) (.int _ _)
   ·rename_i b hb
    cases lj
    rw[hb]at hx
    exact df.pure (v:= .bool (!b)) r (by simp[execOp,hx.nU,Op.unary]) (.bool _)
   ·cases lj
  ·cases he
 | convert src aAk x=>
  simp only at hc
  split at hc
  ·rename_i y k1 k h1 h2 h3
   cases hc
   have hx:=bZ h1 hr
   simp only[aO]at he
   split at he
   ·rename_i k2 n hn
    cases he
    rw[hn]at hx
    refine df.pure (v:= .int k (k.wrap n)) r ?_ (.int _ _)
    simp[execOp,hx.iB,convert,run_underlying h2,run_underlying h3,Conv.intToInt]
   ·cases he
  ·rename_i y e h1 h2 h3
   split at hc
   ·rename_i h4
    cases hc
    have hx:=bZ h1 hr
    simp only[aO]at he
    split at he
    ·rename_i g z rows ky
     split at he
     ·rename_i b hb
      cases he
      rw[ky]at hx
      exact Oz r h2 h4 h3 hx hb
     ·cases he
    ·cases he
   ·cases hc
  ·rename_i y e e2 h1 h2 h3
   split at hc
   ·rename_i h4
    split at hc
    ·rename_i sh
     cases hc
     subst sh
     have hx:=bZ h1 hr
     simp only[aO]at he
     split at he
     ·rename_i t z rows ky
      split at he
      ·rename_i lE
       cases he
       rw[ky]at hx
       exact Ve r h2 h4 hx lE.1 lE.2
      ·cases he
     ·cases he
    ·cases hc
   ·cases hc
  ·rename_i y e h1 h2 h3
   split at hc
   ·rename_i i h4 h5
    split at hc
    ·cases hc
     have hx:=bZ h1 hr
     simp only[aO]at he
     split at he
     ·rename_i l hl
      cases he
      rw[hl]at hx
      simp only[execOp,hx.lx]
      exact JL r h2 h3 h4
     ·cases he
    ·cases hc
   ·cases hc
  ·rename_i y k0 k h1 h2 h3
   cases hc
   have hx:=bZ h1 hr
   simp only[aO]at he
   split at he
   ·rename_i d' lj
    cases he
    obtain⟨j,n,hn,rfl⟩:=Ol lj
    rw[hn]at hx
    refine df.pure (v:= .float k (k.nearest n)) r ?_ (.val _ rfl)
    simp[execOp,hx.iB,convert,run_underlying h2,run_underlying h3,Conv.intToFloat]
   ·cases he
  ·rename_i y k0 k h1 h2 h3
   cases hc
   have hx:=bZ h1 hr
   simp only[aO]at he
   split at he
   ·rename_i d' lj
    cases he
    obtain⟨f,b,n,hn,h4,h5,rfl⟩:=Om lj
    rw[hn]at hx
    refine df.pure (v:= .int k n) r ?_ (.int _ _)
    simp[execOp,hx.mY,convert,run_underlying h2,run_underlying h3,Conv.floatToInt,h4,h5]
   ·cases he
  ·cases hc
 | slice t x lo hi mx=>
  cases mx with
  |some m=>cases hc
  | none=>
   simp only at hc
   split at hc
   ·rename_i y Ho ig h1 h2 h3 h4
    cases hc
    have hx:=bZ h1 hr
    simp only[aO]at he
    split at he
    ·rename_i u hu
     rw[hu]at hx
     split at he
     ·rename_i l h hl hh
      split at he
      ·rename_i lE
       cases he
       have:=RZ r h4 (JR hr h2 hl) (JS hr h3 hh) lE.1 lE.2.1 lE.2.2
       simp only[execOp,hx.lx,Option.map_none]
       exact this
      ·cases he
     ·cases he
    ·cases he
   ·rename_i y Ho ig e h1 h2 h3 h4
    split at hc
    ·rename_i i Eu
     cases hc
     have hx:=bZ h1 hr
     simp only[aO]at he
     split at he
     ·rename_i g z rows ky
      rw[ky]at hx
      split at he
      ·rename_i l h hl hh
       split at he
       ·rename_i lE
        cases he
        have:=Vd r h4 Eu lE.1 hx (JR hr h2 hl) (JS hr h3 hh) lE.2.1 lE.2.2.1 lE.2.2.2
        simp only[execOp,Option.map_none]
        exact this
       ·cases he
      ·cases he
     ·split at he
      case h_2=>cases he
      rename_i d' tx
      cases he
      have:=OD r h4 Eu hx (fun l e=>JR hr h2 e) (fun len l e=>JS hr h3 e) tx
      simp only[execOp,Option.map_none]
      exact this
    ·cases hc
   ·cases hc
 | fieldAddr t x f=>
  simp only at hc
  split at hc
  ·rename_i y off size a h1 h2
   cases hc
   have hx:=bZ h1 hr
   simp only[aO]at he
   split at he
   ·rename_i o k ho
    cases he
    rw[ho]at hx
    have JT:=hx.A6
    obtain⟨hv,hC⟩:=hx.sq
    refine df.pure (v:= .pointer (some ⟨M.mu o,k+off,none⟩)) r ?_ (.ptr _ _ hC JT)
    simp only[execOp,hv,Sem.run_bind,A9 h2,Result.andThen_ok,Sem.run_pure]
   ·rename_i row k ho
    cases he
    rw[ho]at hx
    obtain⟨b,q,hv,g1,g2⟩:=hx.zf
    refine df.pure (v:= .pointer (some ⟨b,q+(k+off),none⟩)) r ?_ (.dO _ _ _ _ g1 g2)
    simp only[execOp,hv,Sem.run_bind,A9 h2,Result.andThen_ok,Sem.run_pure,Nat.add_assoc]
   ·split at he
    case h_2=>cases he
    rename_i d' tx
    cases he
    unfold Er at tx
    split at tx
    ·rename_i o g k hq
     cases tx
     rw[hq]at hx
     obtain⟨z,b,cap,A,hv,ho,hm,hg⟩:=hx.DG
     refine df.pure (v:= .pointer (some ⟨b,k+off,none⟩)) r ?_ (.fv _ _ _ _ b cap A ho hm hg)
     simp only[execOp,hv,Sem.run_bind,A9 h2,Result.andThen_ok,Sem.run_pure]
    ·cases tx
  ·cases hc
 | field t x f=>
  simp only at hc
  split at hc
  ·rename_i y off size a h1 h2
   cases hc
   have hx:=bZ h1 hr
   simp only[aO]at he
   split at he
   ·rename_i cs qX
    split at he
    ·rename_i d' lj
     cases he
     rw[qX]at hx
     obtain⟨vs,hv,g1,g2,g3⟩:=hx.Ga
     simp only[execOp,hv]
     exact OI h2 g1 g2 g3 lj r
    ·cases he
   ·cases he
  ·cases hc
 | indexAddr t x i=>
  simp only at hc
  split at hc
  ·rename_i y j e h1 h2 h3
   split at hc
   ·rename_i inf ON
    split at hc
    ·cases hc
     have hx:=bZ h1 hr
     have hj:=bZ h2 hr
     simp only[aO]at he
     split at he
     ·rename_i g z rows k n ky hn
      split at he
      ·rename_i lE
       obtain⟨JU,hz⟩:=lE
       subst hz
       split at he
       ·rename_i row eD
        cases he
        rw[ky]at hx;rw[hn]at hj
        simp only[execOp,hj.iB]
        exact Oq r h3 ON hx JU eD
       ·cases he
      ·cases he
     ·split at he
      case h_2=>cases he
      rename_i d' tx
      cases he
      exact JO r h3 ON hx hj tx
    ·cases hc
   ·cases hc
  ·cases hc
 | index t x i=>
  simp only at hc
  split at hc
  ·rename_i y j h1 h2 h3
   cases hc
   have hx:=bZ h1 hr
   have hj:=bZ h2 hr
   simp only[aO]at he
   split at he
   ·rename_i l k n hl hn
    split at he
    ·rename_i JU
     split at he
     ·rename_i c hcc
      cases he
      rw[hl]at hx;rw[hn]at hj
      simp only[execOp,hj.iB,hx.lx]
      exact RW r h3 JU hcc
     ·cases he
    ·cases he
   ·cases he
  ·cases hc
 | extract x i=>
  obtain⟨y,hy,rfl⟩:=map_some hc
  have hx:=bZ hy hr
  simp only[aO]at he
  split at he
  ·rename_i ds Bi
   split at he
   ·rename_i d' lj
    cases he
    rw[Bi]at hx
    obtain⟨vs,hv,g1,g2⟩:=hx.Hg
    have hC:=(List.getElem?_eq_some_iff.1 lj).1
    have JV:vs[i]? = some vs[i]:=Array.getElem?_eq_getElem (by omega)
    refine df.pure (v:=vs[i]) r ?_ (g2 i _ _ lj JV)
    simp[execOp,hv,Instr.extract,JV]
   ·cases he
  ·cases he
 | call c=>
  obtain⟨callee,args,mM⟩:=c
  cases callee with
  |value f=>cases hc
  |invoke f m=>cases hc
  | builtin bi=>
   have two : ∀ {x y:Operand} {x' y':X} {isMax:Bool},cX x=some x'→cX y=some y'→bi=(if isMax then .max else .min)→args.toList = [x,y]→aO (.mm isMax x' y') tm s=some (d,s')→
    df P M s w (execOp act.eval ⟨dst, .call ⟨.builtin bi,args,mM⟩,type,pos,after,guard⟩) d s':=by
    intro x y x' y' isMax h1 h2 hb ha h
    have ij:args = #[x,y]:=by rw[← Array.toArray_toList (xs:=args),ha]
    subst ij
    have hx:=bZ h1 hr
    have hy:=bZ h2 hr
    simp only[aO]at h
    split at h
    ·rename_i k a k' b Hp JT
     split at h
     ·rename_i Ak
      subst Ak
      cases h
      rw[Hp]at hx;rw[JT]at hy
      refine df.pure (v:= .int k (if isMax then(if b > a then b else a)else(if b<a then b else a))) r ?_ (.int _ _)
      subst hb
      cases isMax
      ·simp[execOp,resolve,invoke,builtin,Builtin.min_,Builtin.min2,hx.iB,hy.iB]
      ·simp[execOp,resolve,invoke,builtin,Builtin.max_,Builtin.max2,hx.iB,hy.iB]
     ·cases h
    ·cases h
   cases bi<;>simp only at hc<;>try (cases hc;done)
   case append=>
    split at hc
    ·rename_i x y t u ha rz
     split at hc
     ·rename_i e e' x' y' h1 h2 h3 h4
      split at hc
      ·rename_i i z hi hz
       split at hc
       ·rename_i sv
        cases hc
        have ij:args = #[x,y]:=by rw[← Array.toArray_toList (xs:=args),ha]
        have JW:mM = #[t,u]:=by rw[← Array.toArray_toList (xs:=mM),rz]
        subst ij;subst JW
        obtain⟨i',v,g1,g2,g3,g4⟩:=sN hz
        rw[hi]at g1;cases g1
        have Hl:=rp (M:=M) (s:=s) g4
        split at he
        ·rename_i hb
         obtain⟨rfl,JX,hb2⟩:=hb
         obtain⟨v',w',M',f1,f2,f3,f4⟩:=Ov (ty:=type) r h1 h2 hi g2 JX hb2 g3 Hl.2.1 (bZ h3 hr) (bZ h4 hr) he
         refine⟨v',w',M', .inl ?_,f2,f3,f4⟩
         simp[execOp,resolve,invoke,builtin,f1]
        ·have hxx:=bZ h3 hr
         simp only[aO]at he
         split at he
         ·rename_i gq zq rq hq
          rw[hq]at hxx
          obtain⟨v',w',M',f1,f2,f3,f4⟩:=R5 (ty:=type) r h1 h2 hi g2 g3 Hl.2.1 hxx (bZ h4 hr) sv he
          refine⟨v',w',M', .inl ?_,f2,f3,f4⟩
          simp[execOp,resolve,invoke,builtin,f1]
         ·obtain⟨v',w',M',f1,f2,f3,f4⟩:=OF (ty:=type) r h1 h2 hi g2 g3 Hl.2.1 hxx (bZ h4 hr) sv he
          refine⟨v',w',M', .inl ?_,f2,f3,f4⟩
          simp[execOp,resolve,invoke,builtin,f1]
       ·cases hc
      ·cases hc
     ·rename_i e x' y' h1 h2 h3 h4
      split at hc
      ·rename_i i z hi hz
       split at hc
       ·rename_i hb
        cases hc
        obtain⟨rfl,JX,hb2⟩:=hb
        have ij:args = #[x,y]:=by rw[← Array.toArray_toList (xs:=args),ha]
        have JW:mM = #[t,u]:=by rw[← Array.toArray_toList (xs:=mM),rz]
        subst ij;subst JW
        obtain⟨i',v,g1,g2,g3,g4⟩:=sN hz
        rw[hi]at g1;cases g1
        have Hl:=rp (M:=M) (s:=s) g4
        have hy:=bZ h4 hr
        simp only[aO]at he
        split at he
        ·rename_i l hl
         rw[hl]at hy
         obtain⟨v',w',M',f1,f2,f3,f4⟩:=Ow (ty:=type) r h1 h2 hi g2 JX hb2 g3 Hl.2.1 (bZ h3 hr) he
         refine⟨v',w',M', .inl ?_,f2,f3,f4⟩
         simp[execOp,resolve,invoke,builtin,hy.lx,f1]
        ·cases he
       ·cases hc
      ·cases hc
     ·cases hc
    ·cases hc
   case len=>
    split at hc
    ·rename_i x t ha rz
     have ij:args = #[x]:=by rw[← Array.toArray_toList (xs:=args),ha]
     have JW:mM = #[t]:=by rw[← Array.toArray_toList (xs:=mM),rz]
     subst ij;subst JW
     have hex:execOp act.eval ⟨dst, .call ⟨.builtin .len, #[x], #[t]⟩,type,pos,after,guard⟩=(do pure (.value (← Builtin.len_ #[t] type #[act.eval x]))):=by
      simp[execOp,resolve,invoke,builtin]
     rw[hex]
     split at hc
     ·rename_i ht
      obtain⟨y,hy,rfl⟩:=map_some hc
      have hx:=bZ hy hr
      simp only[aO]at he
      split at he
      ·rename_i l hl
       cases he
       rw[hl]at hx
       rw[hx.lx]
       exact JB r ht
      ·cases he
     ·rename_i e ht
      obtain⟨y,hy,rfl⟩:=map_some hc
      have hx:=bZ hy hr
      simp only[aO]at he
      split at he
      ·rename_i g z rows ky
       cases he
       rw[ky]at hx
       rcases hx.jn with ⟨h0,hv,_⟩|⟨h0,_,a,cap,hv⟩|⟨b,q,cap,hv,_⟩
       ·rw[hv,h0];exact mZ r ht
       ·rw[hv,h0];exact mZ r ht
       ·rw[hv];exact mZ r ht
      ·split at he
       case h_2=>cases he
       rename_i d' tx
       cases he
       exact OE r ht hx tx
     ·cases hc
    ·cases hc
   case max=>
    split at hc
    ·rename_i x y ha
     split at hc
     ·rename_i x' y' h1 h2
      cases hc
      exact two (isMax:=true) h1 h2 rfl ha he
     ·cases hc
    ·cases hc
   case min=>
    split at hc
    ·rename_i x y ha
     split at hc
     ·rename_i x' y' h1 h2
      cases hc
      exact two (isMax:=false) h1 h2 rfl ha he
     ·cases hc
    ·cases hc
   case complex=>
    split at hc
    ·rename_i x y ha
     split at hc
     ·rename_i x' y' h1 h2
      cases hc
      have ij:args = #[x,y]:=by rw[← Array.toArray_toList (xs:=args),ha]
      subst ij
      have hx:=bZ h1 hr
      have hy:=bZ h2 hr
      simp only[aO]at he
      split at he
      ·rename_i d' lj
       cases he
       obtain⟨k,a,b,wF,sg,rfl⟩:=RR lj
       rw[wF]at hx;rw[sg]at hy
       refine df.pure (v:= .complex k a b) r ?_ (.val _ rfl)
       have hb:Builtin.complex_ mM type #[.float k a, .float k b] = pure (.complex k a b):=if_pos rfl
       simp[execOp,resolve,invoke,builtin,hb,hx.mY,hy.mY]
      ·cases he
     ·cases hc
    ·cases hc
   case real=>
    split at hc
    ·rename_i x ha
     obtain⟨x',h1,rfl⟩:=map_some hc
     have ij:args = #[x]:=by rw[← Array.toArray_toList (xs:=args),ha]
     subst ij
     have hx:=bZ h1 hr
     simp only[aO]at he
     split at he
     ·rename_i d' lj
      cases he
      obtain⟨k,a,b,wF,rfl⟩:=RS lj
      rw[wF]at hx
      refine df.pure (v:= .float k a) r ?_ (.val _ rfl)
      have hb:Builtin.real_ mM type #[.complex k a b] = pure (.float k a):=rfl
      simp[execOp,resolve,invoke,builtin,hb,hx.mY]
     ·cases he
    ·cases hc
   case imag=>
    split at hc
    ·rename_i x ha
     obtain⟨x',h1,rfl⟩:=map_some hc
     have ij:args = #[x]:=by rw[← Array.toArray_toList (xs:=args),ha]
     subst ij
     have hx:=bZ h1 hr
     simp only[aO]at he
     split at he
     ·rename_i d' lj
      cases he
      obtain⟨k,a,b,wF,rfl⟩:=RT lj
      rw[wF]at hx
      refine df.pure (v:= .float k b) r ?_ (.val _ rfl)
      have hb:Builtin.imag_ mM type #[.complex k a b] = pure (.float k b):=rfl
      simp[execOp,resolve,invoke,builtin,hb,hx.mY]
     ·cases he
    ·cases hc
 | makeFunc fn first captured=>
  cases fn<;>simp only at hc<;>try (cases hc;done)
  split at hc
  ·rename_i f h0
   obtain⟨xs,oO,rfl⟩:=map_some hc
   simp only[aO,Option.some.injEq,Prod.mk.injEq]at he
   obtain⟨rfl,rfl⟩:=he
   obtain⟨c1,c2⟩:=M8 hr oO
   have hf:first = #[]:=Array.eq_empty_of_size_eq_zero h0
   subst hf
   refine df.pure (v:= .func (.func f) #[] (captured.map act.eval)) r ?_ (.gn _ _ _ (by simp[c1]) (fun i d v e1 e2=>c2 i d v e1 (by simpa using e2)))
   simp[execOp,Instr.makeFunc]
  ·cases hc
 | makeMap t rv=>
  cases rv with
  | none=>
   simp only at hc
   split at hc
   ·rename_i ht
    cases hc
    simp only[aO,Option.some.injEq,Prod.mk.injEq]at he
    obtain⟨rfl,rfl⟩:=he
    simp only[execOp,Option.map_none]
    exact OA r ht
   ·cases hc
  |some x=>cases hc
 | makeSlice t l c=>
  simp only at hc
  split at hc
  ·rename_i l' c' e h1 h2 ht
   split at hc
   ·rename_i i z hi hz
    split at hc
    ·rename_i sv
     cases hc
     have hl:=bZ h1 hr
     have hcx:=bZ h2 hr
     simp only[aO]at he
     split at he
     ·rename_i n m hn hm
      split at he
      ·rename_i lE
       obtain⟨rfl,h0,hmx⟩:=lE
       cases he
       rw[hn]at hl;rw[hm]at hcx
       simp only[execOp,hl.iB,hcx.iB]
       exact OH r ht hi hz sv h0 hmx
      ·cases he
     ·cases he
    ·cases hc
   ·cases hc
  ·cases hc
 | mapUpdate t m k v=>
  simp only at hc
  split at hc
  ·rename_i kt et m' k' v' ht h1 h2 h3
   split at hc
   ·rename_i hkt
    cases hc
    have hm:=bZ h1 hr
    have hk:=bZ h2 hr
    have hv:=bZ h3 hr
    simp only[aO]at he
    split at he
    ·rename_i o key g z rows ho Vl ky
     rw[ho]at hm;rw[Vl]at hk;rw[ky]at hv
     obtain⟨hmv,hC,x7⟩:=hm.JA
     split at he
     ·rename_i cs qX
      split at he
      ·rename_i pT akl
       cases he
       have EB:(act.eval v).oneCell'=true:=by
        rcases hv.jn with ⟨_,h,_⟩|⟨_,_,a,cap,h⟩|⟨b,q,cap,h,_⟩<;>rw[h]<;>rfl
       simp only[execOp,hmv,hk.lx]
       exact R8 r ht hkt x7 qX hv EB akl
      ·cases he
     ·cases he
    ·cases he
   ·cases hc
  ·cases hc
 | lookup t m k ok=>
  cases ok<;>simp only at hc<;>try (cases hc;done)
  split at hc
  ·rename_i kt et m' k' ht h1 h2
   split at hc
   ·rename_i i hkt hi
    split at hc
    ·rename_i z hz
     obtain⟨zd,hzd,rfl⟩:=map_some hc
     have hm:=bZ h1 hr
     have hk:=bZ h2 hr
     simp only[aO]at he
     split at he
     ·rename_i o key ho Vl
      rw[ho]at hm;rw[Vl]at hk
      obtain⟨hmv,hC,x7⟩:=hm.JA
      split at he
      ·rename_i cs qX
       split at he
       ·rename_i d' lj
        cases he
        simp only[execOp,hmv,hk.lx]
        exact OB r ht hkt hi hz hzd x7 qX lj
       ·cases he
      ·cases he
     ·cases he
    ·cases hc
   ·cases hc
  ·cases hc
 |_=>cases hc
theorem zl {o:Oper} {z:List D} {k n:Nat} {ps:List (Nat×X)} {tm:Tm} {act:Act} {d:D} {s':St} (hc:Es P o=some (.cf z k n ps)) (r:Rel M s w) (hr:l5 M s tm act.tmps) (he:aO (.vi z k n ps) tm s=some (d,s')) :
 df P M s w (execOp act.eval o) d s':=by
 obtain⟨dst,op,type,pos,after,guard⟩:=o
 unfold Es at hc
 simp only at hc
 cases op with
 | buildSlice t n' parts=>
  simp only at hc
  split at hc
  ·rename_i e hu
   split at hc
   ·rename_i i z ps h1 h2 h3
    split at hc
    ·rename_i lE
     cases hc
     simp only[aO]at he
     split at he
     ·rename_i rows ky
      cases he
      obtain⟨vs,T,g1,g2,g3,g4⟩:=Dl r hr hu h1 h2 lE.1 lE.2 h3 ky
      obtain⟨M',f1,f2,f3⟩:=R7 r T g1 (by rw[g3,g2]) lE.1
      refine⟨_,_,_, .inl ?_,f2,f1,f3⟩
      simp only[Array.toArray_toList]at g4
      simp only[execOp,Sem.run_bind,g4,Result.andThen_ok,Sem.run_pure]
      rw[g2]
     ·cases he
    ·cases hc
   ·cases hc
  ·cases hc
 |_=>
  exfalso
  revert hc
  try simp only
  repeat' split
  all_goals (first|(intro h;cases h;done)|(intro h;obtain⟨_,_,h⟩:=map_some h;cases h;done)|contradiction|(simp;done)|(intro h;simp_all;done))
end
end Go.Abs
namespace Go.Abs
structure fa where
 M:Map
 s:St
 w:World
 laid:Laid M s w
 Dm : ∀ b o v,M.G b o=some v→b<w.heap.size
def Holds (B:fa) (nt:Nat) (tm:Tm) (s:St) (act:Act) (w:World):Prop:=
 ∃ M,Ext B.M B.s B.w M s w∧Rel M s w∧l5 M s tm act.tmps∧act.tmps.size=nt∧act.defers = []
def p7 (B:fa) (nt:Nat) (Q:Exit→Tm→St→Prop):Exit→Act→World→Prop:=fun e act w=>∃ tm s,Q e tm s∧Holds B nt tm s act w
def bL (P:Program) (f:FuncId) (args:List D) (s:St) (Q:D→St→Prop):Prop:=
 ∀ (M:Map) (w:World) (fL:Array Value),Rel M s w→Laid M s w→fL.size=args.length→(∀ (i:Nat) (d:D) (v:Value),args[i]? = some d→fL[i]? = some v→RD M s d v)→
  Calls P f fL w fun e w'=>∃ M' d v s',e = .returned v∧Q d s'∧Ext M s w M' s' w'∧Rel M' s' w'∧RD M' s' d v
theorem bL.mono {P:Program} {f:FuncId} {args:List D} {s:St} {Q Q':D→St→Prop} (h:bL P f args s Q) (hq : ∀ d s',Q d s'→Q' d s'):bL P f args s Q':=
 fun M w fL r hd hl ha=>(h M w fL r hd hl ha).mono fun _ _ ⟨M',d,v,s',h1,h2,h3⟩=>⟨M',d,v,s',h1,hq _ _ h2,h3⟩
def guarded (g:Option (Nat×Bool)) (tm:Tm) (A B:Prop):Prop:=
 match g with
 |none=>A
 |some (t,want)=>
  match tm.get t with
  | .bool b=>(b=want→A)∧(b=(!want)→B)
  | .tuple _=>B
  |_=>False
def jb (P:Program):List AI→(Tm→St→Prop)→Tm→St→Prop
 | [],K,tm,s=>K tm s
 | .op dst g o::r,K,tm,s=>
  guarded g tm (match aO o tm s with|some (d,s')=>jb P r K (tm.put dst d) s'|none=>False) (jb P r K (tm.put dst (.tuple [])) s)
 | .call dst g f xs::r,K,tm,s=>
  guarded g tm (bL P f (xs.map (·.ev tm)) s fun d s'=>jb P r K (tm.put dst d) s') (jb P r K (tm.put dst (.tuple [])) s)
 | .nil dst g neg x::r,K,tm,s=>
  guarded g tm (match x.ev tm with
   | .slice _ _ rows=>∀ b:Bool,(rows≠ []→b=false)→jb P r K (tm.put dst (.bool (if neg then !b else b))) s
   |_=>False) (jb P r K (tm.put dst (.tuple [])) s)
 | .jA dst g t xs::r,K,tm,s=>
  guarded g tm (match tm.get t with
   | .gn f nQ=>enters P f=true∧bL P f (xs.map (·.ev tm)++nQ) s fun d s'=>jb P r K (tm.put dst d) s'
   |_=>False) (jb P r K (tm.put dst (.tuple [])) s)
section
variable {P:Program}
theorem Bj {f:FuncId} (h:enters P f=true) (args:Array Value) (w:World):(callFunc f args).run P w = .ok (.enter f args) w:=by
 unfold enters at h
 split at h
 ·rename_i fn hf
  simp only[Bool.and_eq_true,Bool.not_eq_true']at h
  obtain⟨h1,h2⟩:=h
  have h3:fn.body.isNone=false:=by cases hb:fn.body<;>simp_all
  simp only[callFunc,Sem.run_bind,run_program,Result.andThen_ok,hf,h2,h3]
  simp
 ·cases h
theorem xm (ρ:Operand→Value) (dst:Option Tmp) (f:FuncId) (args:Array Operand) (mM:Array TypeId) (ty:TypeId) (pos:String) (after:Array Edge) (g:Option (Nat×Bool))
 (hρ:ρ (.func f) = .func (.func f) #[] #[]) (h:enters P f=true) (w:World) :
 (execOp ρ ⟨dst, .call ⟨.value (.func f),args,mM⟩,ty,pos,after,g⟩).run P w = .ok (.enter f (args.map ρ)) w:=by
 simp[execOp,resolve,hρ,Deferred.ofValue,invoke,Bj h]
theorem Bk (ρ:Operand→Value) (dst:Option Tmp) (x:Operand) (f:FuncId) (nQ:Array Value) (args:Array Operand) (mM:Array TypeId) (ty:TypeId) (pos:String) (after:Array Edge) (g:Option (Nat×Bool))
 (hρ:ρ x = .func (.func f) #[] nQ) (h:enters P f=true) (w:World) :
 (execOp ρ ⟨dst, .call ⟨.value x,args,mM⟩,ty,pos,after,g⟩).run P w = .ok (.enter f (args.map ρ++nQ)) w:=by
 simp[execOp,resolve,hρ,Deferred.ofValue,invoke,Bj h]
theorem wG {M:Map} {s:St} {tm:Tm} {act:Act} (hr:l5 M s tm act.tmps) : ∀ {l:List Operand} {xs:List X},x0 l=some xs→
 xs.length=l.length∧∀ (i:Nat) (d:D) (v:Value),(xs.map (·.ev tm))[i]? = some d→(l.map act.eval)[i]? = some v→RD M s d v
 | [],xs,h=>by cases h;exact⟨rfl,by simp⟩
 | x::l,xs,h=>by
  unfold x0 at h
  split at h
  ·rename_i x' r' h1 h2
   cases h
   obtain⟨g1,g2⟩:=wG hr h2
   refine⟨by simp[g1],fun i d v e1 e2=>?_⟩
   cases i with
   |zero=>simp at e1 e2;subst e1;subst e2;exact bZ h1 hr
   |succ i=>exact g2 i d v (by simpa using e1) (by simpa using e2)
  ·cases h
theorem Hq {M:Map} {s:St} {tm:Tm} {act:Act} {args:Array Operand} {xs:List X} {nQ:List D} {vs:Array Value} (oO:x0 args.toList=some xs) (ht:l5 M s tm act.tmps) (hlen:nQ.length=vs.size)
 (ED : ∀ (i:Nat) (d:D) (v:Value),nQ[i]? = some d→vs[i]? = some v→RD M s d v) :
 (args.map act.eval++vs).size=(xs.map (·.ev tm)++nQ).length∧∀ (i:Nat) (d:D) (v:Value),(xs.map (·.ev tm)++nQ)[i]? = some d→(args.map act.eval++vs)[i]? = some v→RD M s d v:=by
 obtain⟨c1,c2⟩:=wG ht oO
 refine⟨by simp[c1,hlen],fun i d v e1 e2=>?_⟩
 rcases Nat.lt_or_ge i args.size with o8|o8
 ·rw [List.getElem?_append_left (by simp [c1];exact o8)]at e1
  rw[Array.getElem?_append_left (by simp;exact o8)]at e2
  exact c2 i d v e1 (by simpa using e2)
 ·rw [List.getElem?_append_right (by simp [c1];exact o8)]at e1
  rw[Array.getElem?_append_right (by simp;exact o8)]at e2
  simp only[List.length_map,c1,Array.size_map,Array.length_toList]at e1 e2
  exact ED _ d v e1 e2
theorem Al {M:Map} {s:St} {w:World} {o:Oper} {neg:Bool} {x:X} {tm:Tm} {act:Act} (hc:F9 P o=some (neg,x)) (hr:l5 M s tm act.tmps) {g:Tag} {z:Nat} {rows:List (List D)} (hx:x.ev tm = .slice g z rows) :
 ∃ b:Bool,(rows≠ []→b=false)∧(execOp act.eval o).run P w = .ok (.value (.bool (if neg then !b else b))) w:=by
 obtain⟨dst,op,type,pos,after,guard⟩:=o
 unfold F9 at hc
 split at hc
 ·rename_i op t y yt heq
  simp only at heq
  subst heq
  have fin : ∀ e,P.underlying t=some (.slice e)→cX y=some x→op=(if neg then .neq else .eql)→∃ b:Bool,(rows≠ []→b=false)∧
   (execOp act.eval ⟨dst, .binOp op t y (.const (.slice none 0 0)) yt,type,pos,after,guard⟩).run P w = .ok (.value (.bool (if neg then !b else b))) w:=by
   intro e ht hy mL
   have hv:=bZ hy hr
   rw[hx]at hv
   have key : ∀ (a:Option Addr) (n c:Nat),act.eval y = .slice a n c→(execOp act.eval ⟨dst, .binOp op t y (.const (.slice none 0 0)) yt,type,pos,after,guard⟩).run P w = .ok (.value (.bool (if neg then !a.isNone else a.isNone))) w:=by
    intro a n c sx
    have hg:=jW (P:=P) (w:=w) (op:=op) (t:=t) (x:=y) (y:= .const (.slice none 0 0)) (a:= .slice a n c) (b:= .slice none 0 0) ⟨by simp,by simp⟩
    have he:(Op.equal t (.slice a n c) (.slice none 0 0)).run P w = .ok a.isNone w:=by
     have : ∀ d,(Op.equalIn (d+1) t (.slice a n c) (.slice none 0 0)).run P w = .ok a.isNone w:=by
      intro d
      cases a<;>simp[Op.equalIn,run_underlying ht]
     exact this 9999
    have akn:act.eval (.const (.slice none 0 0)) = .slice none 0 0:=rfl
    simp only[execOp,sx,akn]
    rw[mL]at hg ⊢
    cases neg
    ·simp only [Bool.false_eq_true,if_false]at hg ⊢
     simp[hg,binOp,he]
    ·simp only [if_true]at hg ⊢
     simp[hg,binOp,he]
   rcases hv.jn with ⟨h0,sx,_⟩|⟨_,_,a,cap,sx⟩|⟨b,q,cap,sx,_⟩
   ·exact⟨true,fun h=>(h h0).elim,key none 0 0 sx⟩
   ·exact⟨false,fun _=>rfl,key _ _ _ sx⟩
   ·exact⟨false,fun _=>rfl,key _ _ _ sx⟩
  split at hc
  ·cases hc
   exact fin _ ‹_› ‹_› rfl
  ·cases hc
   exact fin _ ‹_› ‹_› rfl
  ·cases hc
 ·cases hc
variable {B:fa} {nt:Nat}
theorem Holds.put {tm:Tm} {s:St} {act:Act} {w:World} {M':Map} {s':St} {w':World} {M:Map} (e:Ext B.M B.s B.w M s w) (ht:l5 M s tm act.tmps) (hn:act.tmps.size=nt) (hd:act.defers = [])
 {dst:Option Nat} (qK : ∀ t,dst=some t→t<nt) {d:D} {v:Value} (e':Ext M s w M' s' w') (r':Rel M' s' w') (hv:RD M' s' d v):Holds B nt (tm.put dst d) s' (act.put dst v) w':=by
 refine⟨M',e.trans e',r',(ht.mono e'.le).put (fun t h=>by rw[hn];exact qK t h) hv, ?_, ?_⟩
 ·cases dst<;>simp[Act.put,hn]
 ·cases dst<;>simp[Act.put,hd]
theorem yk {ops:Array Oper} {o:Oper} {ai:AI} (h:cI P nt ops o=some ai) : ∀ t,o.dst=some t→t<nt:=by
 intro t ht
 unfold cI at h
 split at h
 ·cases h
 ·split at h
  ·rename_i hC;rw[ht]at hC;simpa[Yf]using hC
  ·cases h
theorem kz {ops:Array Oper} {o:Oper} {g:Option (Nat×Bool)} (hg:vk ops o.guard=some g) {M:Map} {s:St} {tm:Tm} {act:Act} (hr:l5 M s tm act.tmps) {A C:Prop} (h:guarded g tm A C) :
 (Region.wanted o (yielded ops act.tmps)=true∧A)∨(Region.wanted o (yielded ops act.tmps)=false∧C):=by
 unfold vk at hg
 split at hg
 ·rename_i hn
  cases hg
  exact .inl ⟨by simp[Region.wanted,hn],h⟩
 ·rename_i j want hn
  split at hg
  ·rename_i t ht
   cases hg
   have Yr:=hr t
   unfold guarded at h
   simp only at h
   split at h
   ·rename_i b hb
    rw[hb]at Yr
    have hv:=Yr.nU
    have agR:act.tmps[t]? = some (.bool b):=by
     cases hc:act.tmps[t]? with
     |none=>simp[Array.getD_eq_getD_getElem?,hc,Go.undef]at hv
     |some v=>simp[Array.getD_eq_getD_getElem?,hc]at hv;rw[hv]
    have hy:yielded ops act.tmps j=some b:=by simp[yielded,ht,agR]
    have hw:Region.wanted o (yielded ops act.tmps)=(some b==some want):=by simp[Region.wanted,hn,hy]
    by_cases hbw:b=want
    ·exact .inl ⟨by rw[hw,hbw];simp,h.1 hbw⟩
    ·refine .inr ⟨by rw [hw];simp [hbw],h.2 ?_⟩
     cases b<;>cases want<;>simp_all
   ·rename_i ds Bi
    rw[Bi]at Yr
    obtain⟨vs,hv,_⟩:=Yr.Hg
    refine .inr ⟨?_,h⟩
    have hy:yielded ops act.tmps j=none:=by
     unfold yielded
     rw[ht]
     cases hc:act.tmps[t]? with
     |none=>simp[hc]
     |some v=>simp[Array.getD_eq_getD_getElem?,hc]at hv;simp[hc,hv]
    simp[Region.wanted,hn,hy]
   ·exact h.elim
  ·cases hg
theorem Bl {ops:Array Oper} {Q:Exit→Tm→St→Prop} : ∀ (l:List Nat) (ol:List Oper) (is:List AI),l.map (ops[·]?)=ol.map some→rj P nt ops ol=some is→
 ∀ (tm:Tm) (s:St) (act:Act) (w:World),jb P is (Q .normal) tm s→Holds B nt tm s act w→wpOps P ops (p7 B nt Q) l act w
 | [],[],is,_,hc,tm,s,act,w,h,hh=>by cases hc;exact⟨tm,s,h,hh⟩
 | [],_::_,_,hl,_,_,_,_,_,_,_=>by simp at hl
 |_::_,[],_,hl,_,_,_,_,_,_,_=>by simp at hl
 | i::l,o::ol,is,hl,hc,tm,s,act,w,h,hh=>by
  simp only[List.map_cons,List.cons.injEq]at hl
  obtain⟨hi,hl⟩:=hl
  unfold rj at hc
  split at hc
  ·rename_i ai Sd h1 h2
   cases hc
   obtain⟨M,e,r,ht,hn,hd⟩:=hh
   have qK:=yk h1
   have ih:=fun tm s act w=>Bl (Q:=Q) l ol Sd hl h2 tm s act w
   have skip : ∀ (x:Prop),jb P Sd (Q .normal) (tm.put o.dst (.tuple [])) s→wpOps P ops (p7 B nt Q) l (act.put o.dst Go.undef) w:=fun _ hk=>
    ih _ _ _ _ hk (Holds.put e ht hn hd qK (Ext.refl M s w) r .undef)
   simp only[wpOps,hi]
   unfold cI at h1
   split at h1
   ·cases h1
   ·rename_i g hg
    split at h1
    ·unfold sL at h1
     split at h1
     ·-- a call
      rename_i f args mM mL
      split at h1
      ·rename_i zm
       obtain⟨xs,oO,rfl⟩:=map_some h1
       unfold jb at h
       rcases kz hg ht h with ⟨hw,hA⟩|⟨hw,hB⟩
       ·simp only [hw,if_true]
        left
        have hex:(execOp act.eval o).run P w = .ok (.enter f (args.map act.eval)) w:=by
         obtain⟨dst,op,type,pos,after,guard⟩:=o
         simp only at mL
         subst mL
         exact xm act.eval dst f args mM type pos after guard rfl zm w
        obtain⟨c1,c2⟩:=wG ht oO
        unfold Oper.wp
        rw[hex,Oper.upon_enter]
        refine(hA M w (args.map act.eval) r (B.laid.ext e) (by simp[c1]) (fun i d v e1 e2=>c2 i d v e1 (by simpa using e2))).mono ?_
        rintro en w' ⟨M',d,v,s',rfl,hk,e',r',hv⟩
        exact ih _ _ _ _ hk (Holds.put e ht hn hd qK e' r' hv)
       ·simp only [hw]
        exact skip True hB
      ·cases h1
     ·-- what a slot holds is called
      rename_i t args mM mL
      obtain⟨xs,oO,rfl⟩:=map_some h1
      unfold jb at h
      rcases kz hg ht h with ⟨hw,hA⟩|⟨hw,hB⟩
      ·simp only [hw,if_true]
       left
       split at hA
       ·rename_i f nQ nM
        obtain⟨zm,hA⟩:=hA
        have Se:=ht t
        rw[nM]at Se
        obtain⟨vs,tv,hlen,ED⟩:=Se.M4
        have hex:(execOp act.eval o).run P w = .ok (.enter f (args.map act.eval++vs)) w:=by
         obtain⟨dst,op,type,pos,after,guard⟩:=o
         simp only at mL
         subst mL
         exact Bk act.eval dst (.tmp t) f vs args mM type pos after guard tv zm w
        unfold Oper.wp
        rw[hex,Oper.upon_enter]
        have cc:=Hq oO ht hlen ED
        refine(hA M w (args.map act.eval++vs) r (B.laid.ext e) cc.1 cc.2).mono ?_
        rintro en w' ⟨M',d,v,s',rfl,hk,e',r',hv⟩
        exact ih _ _ _ _ hk (Holds.put e ht hn hd qK e' r' hv)
       ·exact hA.elim
      ·simp only [hw]
       exact skip True hB
     ·split at h1
      ·-- a slice held against nil
       rename_i neg x DN
       cases h1
       unfold jb at h
       rcases kz hg ht h with ⟨hw,hA⟩|⟨hw,hB⟩
       ·simp only [hw,if_true]
        left
        split at hA
        ·rename_i g' z rows hx
         obtain⟨b,hb,hex⟩:=Al (w:=w) DN ht hx
         unfold Oper.wp
         rw[hex,Oper.upon_value]
         exact ih _ _ _ _ (hA b hb) (Holds.put e ht hn hd qK (Ext.refl M s w) r (.bool _))
        ·exact hA.elim
       ·simp only [hw]
        exact skip True hB
      ·-- any other operation
       have fin : ∀ ao,ai = .op o.dst g ao→(∀ d s',aO ao tm s=some (d,s')→df P M s w (execOp act.eval o) d s')→
        (if Region.wanted o (yielded ops act.tmps)=true then o.wp P act w (wpOps P ops (p7 B nt Q) l) (p7 B nt Q)∨(o.asks P act w∧LetsOut (p7 B nt Q))else wpOps P ops (p7 B nt Q) l (act.put o.dst Go.undef) w):=by
        intro ao wH hdo
        subst wH
        unfold jb at h
        rcases kz hg ht h with ⟨hw,hA⟩|⟨hw,hB⟩
        ·simp only [hw,if_true]
         left
         split at hA
         ·rename_i d s' qY
          obtain⟨v,w',M',dK,r',hv,e'⟩:=hdo d s' qY
          unfold Oper.wp
          rcases dK with dK|⟨dK,rfl⟩
          ·rw [dK,Oper.upon_value]
           exact ih _ _ _ _ hA (Holds.put e ht hn hd qK e' r' hv)
          ·rw [dK,Oper.upon_skip]
           exact ih _ _ _ _ hA (Holds.put e ht hn hd qK e' r' hv)
         ·exact hA.elim
        ·simp only [hw]
         exact skip True hB
       split at h1
       ·rename_i z k n ps om
        cases h1
        refine fin _ rfl (fun d s' qY=>?_)
        split at qY
        ·exact zl om r ht qY
        ·exact sP om r ht qY
       ·rename_i ao om
        cases h1
        exact fin _ rfl (fun d s' qY=>sP om r ht qY)
       ·cases h1
    ·cases h1
  ·cases hc
end
end Go.Abs
namespace Go.Abs
def Turned (P:Program) (nt:Nat):AC→Code→Prop
 | .skip,c=>c = .skip
 | .run is,c=>∃ id ops,c = .region id ops false∧rj P nt ops ops.toList=some is
 | .par is lR,c=>∃ id ops,c = .region id ops true∧rj P nt ops ops.toList=some is∧P.follows .mixedOrders=true∧∃ pt,Ju is (ops.toList.map mV) pt lR=true
 | .seq a b,c=>∃ x y,c = .seq x y∧cC P nt x=some a∧cC P nt y=some b
 | .cond x a b,c=>∃ o p q,c = .cond o p q∧cX o=some x∧cC P nt p=some a∧cC P nt q=some b
 | .block id a,c=>∃ x,c = .block id x∧cC P nt x=some a
 | .loop a,c=>∃ x,c = .loop x∧cC P nt x=some a
 | .exit id,c=>c = .exit id
 | .scope a,c=>∃ x,c = .scope x∧cC P nt x=some a
 | .label l,c=>c = .label l
 | .goto l,c=>c = .goto l
 | .ret,c=>c = .ret
theorem lF {P:Program} {nt:Nat} {c:Code} {ac:AC} (h:cC P nt c=some ac):Turned P nt ac c:=by
 cases c with
 |skip=>cases h;rfl
 | region id ops draw=>
  cases draw
  ·obtain⟨is,h1,rfl⟩:=map_some (x:=rj P nt ops ops.toList) (f:=AC.run) (by simpa [cC]using h)
   exact⟨id,ops,rfl,h1⟩
  ·simp only [cC]at h
   split at h
   ·rename_i hm
    obtain⟨is,h1,h2⟩:=Option.bind_eq_some_iff.1 h
    unfold Yg at h2
    split at h2
    ·rename_i hp
     cases h2
     exact⟨id,ops,rfl,h1,hm,_,hp⟩
    ·cases h2
   ·cases h
 |seq a b=>
  simp only[cC]at h
  split at h
  ·rename_i a' b' h1 h2;cases h;exact⟨a,b,rfl,h1,h2⟩
  ·cases h
 |cond x a b=>
  simp only[cC]at h
  split at h
  ·rename_i x' a' b' h1 h2 h3;cases h;exact⟨x,a,b,rfl,h1,h2,h3⟩
  ·cases h
 |block id a=>
  obtain⟨a',h1,rfl⟩:=map_some (x:=cC P nt a) (f:=AC.block id) (by simpa[cC]using h)
  exact⟨a,rfl,h1⟩
 |loop a=>
  obtain⟨a',h1,rfl⟩:=map_some (x:=cC P nt a) (f:=AC.loop) (by simpa[cC]using h)
  exact⟨a,rfl,h1⟩
 |rangeFunc f p a b=>simp[cC]at h
 |exit id=>cases h;rfl
 |scope a=>
  obtain⟨a',h1,rfl⟩:=map_some (x:=cC P nt a) (f:=AC.scope) (by simpa[cC]using h)
  exact⟨a,rfl,h1⟩
 |label l=>cases h;rfl
 |goto l=>cases h;rfl
 |ret=>cases h;rfl
 |refuse w=>simp[cC]at h
def Sem (P:Program) (B:fa) (nt:Nat) (ac:AC) (Q:Exit→Tm→St→Prop) (tm:Tm) (s:St):Prop:=
 ∀ c,cC P nt c=some ac→∀ act w,Holds B nt tm s act w→c.wp P (p7 B nt Q) act w
def kO (next:Tm→St→Prop) (Q:Exit→Tm→St→Prop):Exit→Tm→St→Prop
 | .normal,tm,s=>next tm s
 |e,tm,s=>Q e tm s
def iH (id:Nat) (Q:Exit→Tm→St→Prop):Exit→Tm→St→Prop
 | .exit i,tm,s=>if i=id then Q .normal tm s else Q (.exit i) tm s
 |e,tm,s=>Q e tm s
section
variable {P:Program} {B:fa} {nt:Nat} {Q:Exit→Tm→St→Prop} {tm:Tm} {s:St}
theorem Sem.mono {ac:AC} {Q':Exit→Tm→St→Prop} (h:Sem P B nt ac Q tm s) (hq : ∀ e tm s,Q e tm s→Q' e tm s):Sem P B nt ac Q' tm s:=
 fun c hc act w hh=>wp_mono (h c hc act w hh) fun _ _ _ ⟨tm,s,h1,h2⟩=>⟨tm,s,hq _ _ _ h1,h2⟩
theorem Sem.skip (h:Q .normal tm s):Sem P B nt .skip Q tm s:=by
 intro c hc act w hh
 cases lF hc
 exact wp_skip ⟨tm,s,h,hh⟩
theorem Sem.label {l:Nat} (h:Q .normal tm s):Sem P B nt (.label l) Q tm s:=by
 intro c hc act w hh
 cases lF hc
 exact wp_label ⟨tm,s,h,hh⟩
theorem Sem.exit {id:Nat} (h:Q (.exit id) tm s):Sem P B nt (.exit id) Q tm s:=by
 intro c hc act w hh
 cases lF hc
 exact wp_exit ⟨tm,s,h,hh⟩
theorem Sem.goto {l:Nat} (h:Q (.goto l) tm s):Sem P B nt (.goto l) Q tm s:=by
 intro c hc act w hh
 cases lF hc
 exact wp_goto ⟨tm,s,h,hh⟩
theorem Sem.ret (h:Q .ret tm s):Sem P B nt .ret Q tm s:=by
 intro c hc act w hh
 cases lF hc
 exact wp_ret ⟨tm,s,h,hh⟩
theorem Bm (ops:Array Oper):(List.range ops.size).map (ops[·]?)=ops.toList.map some:=by
 apply List.ext_getElem?
 intro i
 by_cases h:i<ops.size
 ·simp[h]
 ·simp[h]
theorem Sem.run {is:List AI} (h:jb P is (Q .normal) tm s):Sem P B nt (.run is) Q tm s:=by
 intro c hc act w hh
 obtain⟨id,ops,rfl,hi⟩:=lF hc
 exact wp_region (Bl (Q:=Q) (List.range ops.size) ops.toList is (Bm ops) hi tm s act w h hh)
theorem Sem.seq {a b:AC} (h:Sem P B nt a (kO (Sem P B nt b Q) Q) tm s):Sem P B nt (.seq a b) Q tm s:=by
 intro c hc act w hh
 obtain⟨x,y,rfl,h1,h2⟩:=lF hc
 refine wp_seq (wp_mono (h x h1 act w hh) fun e act w hp=>?_)
 obtain⟨bF,s',hq,ku⟩:=hp
 cases e with
 |normal=>exact hq y h2 act w ku
 |exit id=>exact⟨bF,s',hq,ku⟩
 |goto l=>exact⟨bF,s',hq,ku⟩
 |ret=>exact⟨bF,s',hq,ku⟩
 |panic ch=>exact⟨bF,s',hq,ku⟩
 |outgrown=>exact⟨bF,s',hq,ku⟩
theorem Sem.cond {x:X} {a b:AC} {t:Bool} (hx:x.ev tm = .bool t) (h1:t=true→Sem P B nt a Q tm s) (h2:t=false→Sem P B nt b Q tm s):Sem P B nt (.cond x a b) Q tm s:=by
 intro c hc act w hh
 obtain⟨o,p,q,rfl,g1,g2,g3⟩:=lF hc
 have ku:=hh
 obtain⟨M,e,r,ht,hn,hd⟩:=hh
 have hv:=bZ g1 ht
 rw[hx]at hv
 exact wp_cond_split hv.nU (fun h=>h1 h p g2 act w ku) (fun h=>h2 h q g3 act w ku)
theorem Sem.block {id:Nat} {a:AC} (h:Sem P B nt a (iH id Q) tm s):Sem P B nt (.block id a) Q tm s:=by
 intro c hc act w hh
 obtain⟨x,rfl,h1⟩:=lF hc
 refine wp_block (wp_mono (h x h1 act w hh) fun e act w hp=>?_)
 obtain⟨bF,s',hq,ku⟩:=hp
 cases e with
 |exit i=>
  simp only[iH]at hq
  simp only[Exit.inBlock]
  split at hq
  ·rename_i h;rw[if_pos h];exact⟨bF,s',hq,ku⟩
  ·rename_i h;rw[if_neg h];exact⟨bF,s',hq,ku⟩
 |normal=>exact⟨bF,s',hq,ku⟩
 |goto l=>exact⟨bF,s',hq,ku⟩
 |ret=>exact⟨bF,s',hq,ku⟩
 |panic ch=>exact⟨bF,s',hq,ku⟩
 |outgrown=>exact⟨bF,s',hq,ku⟩
def zn (P:Program) (c:Code) (Q:Exit→Act→World→Prop) (a:Act) (w:World):Prop:=
 ∀ (b:Frame) (k:List Item) (cs:List Frame),∃ e a' w',Q e a' w'∧Arrives P (lone (b.at a (.code c:: .inLoop c::k)) cs w) b k cs e a' w'
theorem zn.wp {c:Code} {Q:Exit→Act→World→Prop} {a:Act} {w:World} (h:zn P c Q a w):(Code.loop c).wp P Q a w:=fun b k cs=>
 let ⟨e,a',w',hq,ij⟩:=h b k cs
 ⟨e,a',w',hq, .of_steps (.one step_loop) ij⟩
theorem zn.once {c:Code} {Q:Exit→Act→World→Prop} {a:Act} {w:World} (h:c.wp P (Exit.then (zn P c Q) Q) a w):zn P c Q a w:=by
 intro b k cs
 obtain⟨e,a₁,w₁,hq,ij⟩:=h b (.inLoop c::k) cs
 cases e with
 |normal=>
  obtain⟨e₂,a₂,w₂,hq₂,OO⟩:=hq b k cs
  exact⟨e₂,a₂,w₂,hq₂, .of_steps (Steps.trans ij (.one step_inLoop)) OO⟩
 |exit id=>exact⟨_,a₁,w₁,hq, .pass (x:= .inLoop c) rfl (fun _ _=> .inl (by simp)) ij⟩
 |goto l=>exact⟨_,a₁,w₁,hq, .pass (x:= .inLoop c) rfl (fun _ _=> .inl (by simp)) ij⟩
 |ret=>exact⟨_,a₁,w₁,hq, .pass (x:= .inLoop c) rfl (fun _ _=> .inl (by simp)) ij⟩
 |panic ch=>exact⟨_,a₁,w₁,hq, .pass (x:= .inLoop c) rfl (fun _ _=> .inl (by simp)) ij⟩
 |outgrown=>exact⟨_,a₁,w₁,hq, .pass (x:= .inLoop c) rfl (fun _ _=> .inl (by simp)) ij⟩
def bg (P:Program) (B:fa) (nt:Nat) (ac:AC) (Q:Exit→Tm→St→Prop) (tm:Tm) (s:St):Prop:=
 ∀ c,cC P nt c=some ac→∀ act w,Holds B nt tm s act w→zn P c (p7 B nt Q) act w
theorem Sem.loop {a:AC} (h:bg P B nt a Q tm s):Sem P B nt (.loop a) Q tm s:=by
 intro c hc act w hh
 obtain⟨x,rfl,h1⟩:=lF hc
 exact(h x h1 act w hh).wp
theorem bg.once {a:AC} (h:Sem P B nt a (kO (bg P B nt a Q) Q) tm s):bg P B nt a Q tm s:=by
 intro c hc act w hh
 refine zn.once (wp_mono (h c hc act w hh) fun e act w hp=>?_)
 obtain⟨bF,s',hq,ku⟩:=hp
 cases e with
 |normal=>exact hq c hc act w ku
 |exit id=>exact⟨bF,s',hq,ku⟩
 |goto l=>exact⟨bF,s',hq,ku⟩
 |ret=>exact⟨bF,s',hq,ku⟩
 |panic ch=>exact⟨bF,s',hq,ku⟩
 |outgrown=>exact⟨bF,s',hq,ku⟩
def vu (P:Program) (c r:Code) (Q:Exit→Act→World→Prop) (a:Act) (w:World):Prop:=
 ∀ (b:Frame) (k:List Item) (cs:List Frame),∃ e a' w',Q e a' w'∧Arrives P (lone (b.at a (.code r:: .inScope c::k)) cs w) b k cs e a' w'
def agS (P:Program) (c:Code) (Q:Exit→Act→World→Prop):Exit→Act→World→Prop
 | .goto l,a,w=>∃ rest,findLabel c l=some rest∧vu P c rest Q a w
 |e,a,w=>Q e a w
theorem vu.wp {c:Code} {Q:Exit→Act→World→Prop} {a:Act} {w:World} (h:vu P c c Q a w):(Code.scope c).wp P Q a w:=fun b k cs=>
 let ⟨e,a',w',hq,ij⟩:=h b k cs
 ⟨e,a',w',hq, .of_steps (.one step_scope) ij⟩
theorem vu.once {c r:Code} {Q:Exit→Act→World→Prop} {a:Act} {w:World} (h:r.wp P (agS P c Q) a w):vu P c r Q a w:=by
 intro b k cs
 obtain⟨e,a₁,w₁,hq,ij⟩:=h b (.inScope c::k) cs
 cases e with
 |normal=>exact⟨.normal,a₁,w₁,hq,Steps.trans ij (.one step_inScope)⟩
 |exit id=>exact⟨.exit id,a₁,w₁,hq,fun k' hk=>ij k' (by simp[exitTo,hk])⟩
 |goto l=>
  obtain⟨rest,hf,hs⟩:=hq
  obtain⟨e₂,a₂,w₂,hq₂,OO⟩:=hs b k cs
  exact⟨e₂,a₂,w₂,hq₂, .of_steps (ij _ (by simp[gotoIn,hf])) OO⟩
 |ret=>exact⟨_,a₁,w₁,hq,ij⟩
 |panic ch=>exact⟨_,a₁,w₁,hq,ij⟩
 |outgrown=>exact⟨_,a₁,w₁,hq,ij⟩
def sQ:AC→Nat→Option AC
 | .seq a b,l=>
  match sQ a l with
  |some r=>some (.seq r b)
  |none=>sQ b l
 | .label l',l=>if l'==l then some .skip else none
 |_,_=>none
theorem Me : ∀ {c:Code} {ac:AC},cC P nt c=some ac→∀ l,(sQ ac l=none→findLabel c l=none)∧∀ r,sQ ac l=some r→∃ rest,findLabel c l=some rest∧cC P nt rest=some r:=by
 intro c
 induction c with
 | seq a b Sg Si=>
  intro ac h l
  simp only[cC]at h
  split at h
  ·rename_i a' b' h1 h2
   cases h
   obtain⟨n1,s1⟩:=Sg h1 l
   obtain⟨n2,s2⟩:=Si h2 l
   simp only[sQ,findLabel]
   cases hf:sQ a' l with
   |none=>
    rw[n1 hf]
    exact⟨n2,s2⟩
   |some r=>
    obtain⟨rest,g1,g2⟩:=s1 r hf
    rw[g1]
    refine⟨(by intro h;cases h),fun r' h=>?_⟩
    cases h
    exact⟨_,rfl,by simp[cC,g2,h2]⟩
  ·cases h
 |label l'=>
  intro ac h l
  cases h
  simp only[sQ,findLabel]
  split
  ·exact⟨(by intro h;cases h),(by intro r h;cases h;exact⟨_,rfl,rfl⟩)⟩
  ·exact⟨fun _=>rfl,(by intro r h;cases h)⟩
 | _=>
  intro ac h l
  have:=lF h
  cases ac<;>simp only[Turned]at this<;>first
   |(exfalso;obtain⟨_,_,this⟩:=this;cases this.1;done)
   |exact⟨fun _=>rfl,(by intro r h;cases h)⟩
   |(exfalso;cases this;done)
   |(exfalso;obtain⟨_,this⟩:=this;cases this.1;done)
   |(exfalso;obtain⟨_,_,_,_,this⟩:=this;cases this.1;done)
def je (P:Program) (B:fa) (nt:Nat) (ac r:AC) (Q:Exit→Tm→St→Prop) (tm:Tm) (s:St):Prop:=
 ∀ c rest,cC P nt c=some ac→cC P nt rest=some r→∀ act w,Holds B nt tm s act w→vu P c rest (p7 B nt Q) act w
def kd (P:Program) (B:fa) (nt:Nat) (ac:AC) (Q:Exit→Tm→St→Prop):Exit→Tm→St→Prop
 | .goto l,tm,s=>∃ r,sQ ac l=some r∧je P B nt ac r Q tm s
 |e,tm,s=>Q e tm s
theorem Sem.scope {a:AC} (h:je P B nt a a Q tm s):Sem P B nt (.scope a) Q tm s:=by
 intro c hc act w hh
 obtain⟨x,rfl,h1⟩:=lF hc
 exact(h x x h1 h1 act w hh).wp
theorem je.once {a r:AC} (h:Sem P B nt r (kd P B nt a Q) tm s):je P B nt a r Q tm s:=by
 intro c rest hc IN act w hh
 refine vu.once (wp_mono (h rest IN act w hh) fun e act w hp=>?_)
 obtain⟨bF,s',hq,ku⟩:=hp
 cases e with
 |normal=>exact⟨bF,s',hq,ku⟩
 |exit id=>exact⟨bF,s',hq,ku⟩
 |goto l=>
  obtain⟨r',hf,hs⟩:=hq
  obtain⟨qy,g1,g2⟩:=(Me hc l).2 r' hf
  exact⟨qy,g1,hs c qy hc g2 act w ku⟩
 |ret=>exact⟨bF,s',hq,ku⟩
 |panic ch=>exact⟨bF,s',hq,ku⟩
 |outgrown=>exact⟨bF,s',hq,ku⟩
def Tag.fg (m:Nat):Tag→Tag
 | .tok t y=>if t<m then .tok t y else .shared
 |g=>g
mutual
def D.fg (n m:Nat):D→D
 | .ptr o off=>if o<n then .ptr o off else .junk
 | .dO row off=> .dO (D.gA n m row) off
 | .slice g z rows=> .slice (g.fg m) z (D.kP n m rows)
 | .agg cs=> .agg (D.gA n m cs)
 | .tuple ds=> .tuple (D.gA n m ds)
 | .junk=> .junk
 | .int k x=> .int k x
 | .bool b=> .bool b
 | .str l=> .str l
 | .ew=> .ew
 | .val v=> .val v
 | .fu T o=>if o<n then .fu T o else .junk
 | .gn f cs=> .gn f (D.gA n m cs)
 | .fW o=>if o<n then .fW o else .junk
 | .eJ z o g len=>if o<n then .eJ z o g len else .junk
 | .fv o g off=>if o<n then .fv o g off else .junk
 | .eH z=> .eH z
def D.gA (n m:Nat):List D→List D
 | []=> []
 |d::r=>D.fg n m d::D.gA n m r
def D.kP (n m:Nat):List (List D)→List (List D)
 | []=> []
 |d::r=>D.gA n m d::D.kP n m r
end
theorem ng (n m:Nat) : ∀ l,D.gA n m l=l.map (D.fg n m)
 | []=>by simp[D.gA]
 |d::r=>by simp[D.gA,ng n m r]
theorem Sj (n m:Nat) : ∀ l,D.kP n m l=l.map (D.gA n m)
 | []=>by simp[D.kP]
 |d::r=>by simp[D.kP,Sj n m r]
def St.cut (s:St) (n m:Nat):St:=⟨(s.ah.take n).map (D.gA n m),s.aw.take m⟩
def Tm.fg (n m:Nat) (tm:Tm):Tm:=tm.map fun p=>(p.1,p.2.fg n m)
def Tm.keep (ks:List Nat) (tm:Tm):Tm:=tm.filter fun p=>ks.contains p.1
theorem nV (s:St) (n m:Nat):(s.cut n m).ah.length=min n s.ah.length:=by simp[St.cut]
theorem iU.fg {M:Map} {g:Tag} {z len cap:Nat} {base:Option (Nat×Nat)} (n m:Nat) (h:iU M s g z len base cap):iU M (s.cut n m) (g.fg m) z len base cap:=by
 cases g with
 |full=>exact h
 |shared=>exact h
 | tok t y=>
  simp only[Tag.fg]
  split
  ·rename_i ht
   obtain⟨h1,h2⟩:=h
   refine⟨by simp[St.cut];omega,fun k hk=>h2 k ?_⟩
   simpa[St.cut,List.getElem?_take_of_lt ht]using hk
  ·trivial
theorem RD.fg {M:Map} {d:D} {v:Value} (n m:Nat) (h:RD M s d v):RD M (s.cut n m) (d.fg n m) v:=by
 induction h with
 |junk v=>simp only[D.fg];exact .junk v
 |int k x=>simp only[D.fg];exact .int k x
 |bool b=>simp only[D.fg];exact .bool b
 |str l=>simp only[D.fg];exact .str l
 |ew=>simp only[D.fg];exact .ew
 |val v hv=>simp only[D.fg];exact .val v hv
 |fu T o v h ht hv=>
  simp only[D.fg]
  split
  ·exact .fu T o v (by rw[nV];omega) ht hv
  ·exact .junk _
 |fW o h hm=>
  simp only[D.fg]
  split
  ·exact .fW o (by rw[nV];omega) hm
  ·exact .junk _
 |eH z a=>simp only[D.fg];exact .eH z a
 |eJ z o g len b cap A h hm ha hl=>
  simp only[D.fg]
  split
  ·exact .eJ z o g len b cap A (by rw[nV];omega) hm ha hl
  ·exact .junk _
 |fv z o g off b cap A h hm ha=>
  simp only[D.fg]
  split
  ·exact .fv z o g off b cap A (by rw[nV];omega) hm ha
  ·exact .junk _
 |gn f ds vs hl _ ih=>
  simp only[D.fg,ng]
  refine .gn f _ vs (by simpa using hl) (fun i d v e1 e2=>?_)
  simp only[List.getElem?_map,Option.map_eq_some_iff]at e1
  obtain⟨d',e1,rfl⟩:=e1
  exact ih i d' v e1 e2
 |ptr o off h hm=>
  simp only[D.fg]
  split
  ·exact .ptr o off (by rw[nV];omega) hm
  ·exact .junk _
 | dO row off b k h1 h2 ih=>
  simp only[D.fg,ng]
  refine .dO _ off b k (fun i d e=>?_) (fun i d u e eu=>?_)
  ·simp only [List.getElem?_map,Option.map_eq_some_iff]at e
   obtain⟨d',e,rfl⟩:=e
   exact h1 i d' e
  ·simp only [List.getElem?_map,Option.map_eq_some_iff]at e
   obtain⟨d',e,rfl⟩:=e
   exact ih i d' u e eu
 |jv g z cap hc ht=>simp only[D.fg,D.kP];exact .jv _ z cap hc (ht.fg n m)
 |mr z a cap=>simp only[D.fg,D.kP,Tag.fg];exact .mr z a cap
 | slice g z rows b k cap hl hs h1 h2 ht ih=>
  simp only[D.fg,Sj]
  have hlen:(rows.map (D.gA n m)).length=rows.length:=by simp
  have key:=RD.slice (M:=M) (s:=s.cut n m) (g.fg m) z (rows.map (D.gA n m)) b k cap (by rw[hlen];exact hl) (fun row hr=>by
   obtain⟨jy,h',rfl⟩:=List.mem_map.1 hr
   rw[ng,List.length_map];exact hs jy h')
   (fun i row j d e1 e2=>by
    simp only[List.getElem?_map,Option.map_eq_some_iff]at e1
    obtain⟨jy,e1,rfl⟩:=e1
    rw[ng]at e2
    simp only[List.getElem?_map,Option.map_eq_some_iff]at e2
    obtain⟨d',e2,rfl⟩:=e2
    exact h1 i jy j d' e1 e2)
   (fun i row j d u e1 e2 eu=>by
    simp only[List.getElem?_map,Option.map_eq_some_iff]at e1
    obtain⟨jy,e1,rfl⟩:=e1
    rw[ng]at e2
    simp only[List.getElem?_map,Option.map_eq_some_iff]at e2
    obtain⟨d',e2,rfl⟩:=e2
    exact ih i jy j d' u e1 e2 eu)
   (by rw[hlen];exact ht.fg n m)
  rw[hlen]at key
  exact key
 |agg cells vs hl h1 _ ih=>
  simp only[D.fg,ng]
  refine .agg _ vs (by simpa using hl) h1 (fun i d v e1 e2=>?_)
  simp only[List.getElem?_map,Option.map_eq_some_iff]at e1
  obtain⟨d',e1,rfl⟩:=e1
  exact ih i d' v e1 e2
 |tuple ds vs hl _ ih=>
  simp only[D.fg,ng]
  refine .tuple _ vs (by simpa using hl) (fun i d v e1 e2=>?_)
  simp only[List.getElem?_map,Option.map_eq_some_iff]at e1
  obtain⟨d',e1,rfl⟩:=e1
  exact ih i d' v e1 e2
theorem Gf {t k n m:Nat} (h:(s.cut n m).aw[t]? = some (some k)):s.aw[t]? = some (some k):=by
 simp only[St.cut,List.getElem?_take]at h
 split at h
 ·exact h
 ·cases h
theorem vv {t n m:Nat} (h:(s.cut n m).live t):s.live t:=by
 obtain⟨k,hk⟩:=h
 exact⟨k,Gf hk⟩
theorem Rel.cut {M:Map} {w:World} (n m:Nat) (r:Rel M s w):Rel M (s.cut n m) w:=by
 have hC : ∀ o,o<(s.cut n m).ah.length→o<s.ah.length:=fun o h=>by rw[nV]at h;omega
 refine⟨r.comm,fun o ds e=>?_,fun o ho=>r.jZ o (hC o ho),fun o o' h h'=>r.inj o o' (hC o h) (hC o' h'),fun t k e=>r.tok t k (Gf e),
  fun t b c z o hl e ho=>r.fh t b c z o (vv hl) e (hC o ho),fun t t' b c z c' z' h h' e e'=>r.fX t t' b c z c' z' (vv h) (vv h') e e'⟩
 simp only[St.cut,List.getElem?_map,Option.map_eq_some_iff,List.getElem?_take]at e
 obtain⟨tn,e,rfl⟩:=e
 split at e
 ·obtain⟨vs,T,h1,h2,h3,h4⟩:=r.obj o tn e
  refine⟨vs,T,h1,by rw[ng];simpa using h2,h3,fun i d v e1 e2=>?_⟩
  rw[ng]at e1
  simp only[List.getElem?_map,Option.map_eq_some_iff]at e1
  obtain⟨d',e1,rfl⟩:=e1
  exact(h4 i d' v e1 e2).fg n m
 ·cases e
theorem Ext.cut {M0 M:Map} {s0:St} {w0 w:World} {n m:Nat} (e:Ext M0 s0 w0 M s w) (hn:s0.ah.length≤n) (hm:s0.aw.length≤m):Ext M0 s0 w0 M (s.cut n m) w:=by
 have hC : ∀ o,o<(s.cut n m).ah.length→o<s.ah.length:=fun o h=>by rw[nV]at h;omega
 refine⟨⟨e.le.G,by rw[nV];have:=e.le.n;omega,e.le.loc,by simp[St.cut];have:=e.le.t;omega,fun t k h1 h2=>e.le.tk t k h1 (Gf h2)⟩,e.kept,fun o h1 h2=>e.tU o h1 (hC o h2),fun t b c z h=>e.qG t b c z (vv h),e.sj,e.size,e.os,e.tape,e.output⟩
end
end Go.Abs
namespace Go.Abs
def mS:Nat→List D→Tm
 |_,[]=> []
 |n,d::r=>(n,d)::mS (n+1) r
def aR:List (Nat×Option (Bool×Nat))→Tm→St→Option (List D)
 | [],_,_=>some []
 |(t,none)::r,tm,s=>match aR r tm s with|some l=>some (tm.get t::l)|none=>none
 | (t,some (agg,size))::r,tm,s=>
  match tm.get t with
  | .ptr o off=>
   match s.ah[o]? with
   |some cs=>match part cs off agg size,aR r tm s with|some d,some l=>some (d::l)|_,_=>none
   |none=>none
  |_=>none
def aS:List D→D
 | [d]=>d
 |l=> .tuple l
def akr (B:fa) (res:List (Nat×Option (Bool×Nat))) (Q:D→St→Prop):Exit→Tm→St→Prop
 | .normal,tm,s| .ret,tm,s=>∃ l,aR res tm s=some l∧∃ n m,B.s.ah.length≤n∧B.s.aw.length≤m∧Q ((aS l).fg n m) (s.cut n m)
 |_,_,_=>False
section
variable {P:Program} {M:Map} {s:St} {w:World}
theorem Hr : ∀ (l:List D) (n t:Nat),(mS n l).get t=if n≤t then(l[t - n]?).getD .junk else .junk
 | [],n,t=>by simp[mS,Tm.get]
 | d::r,n,t=>by
  simp only[mS,Tm.get,Hr r (n+1) t]
  by_cases h:n=t
  ·subst h;simp
  ·rw [if_neg h]
   by_cases h2:n+1≤t
   ·rw[if_pos h2,if_pos (by omega),show t - n=(t - (n+1))+1 by omega];simp
   ·rw[if_neg h2,if_neg (by omega)]
def Bn (tmps:Array Value):ResultVar→Go.Sem Value
 | .tmp t=>pure (tmps.getD t Go.undef)
 | .cell a t=>do loadVar t (← asAddr (tmps.getD a Go.undef))
theorem DO (r:Rel M s w) {tm:Tm} {tmps:Array Value} (ht:l5 M s tm tmps) : ∀ {rs:List ResultVar} {res:List (Nat×Option (Bool×Nat))} {l:List D},DF P rs=some res→aR res tm s=some l→
 ∃ vs:List Value,(rs.mapM (Bn tmps)).run P w = .ok vs w∧vs.length=l.length∧
  ∀ (i:Nat) (d:D) (v:Value),l[i]? = some d→vs[i]? = some v→RD M s d v
 | [],res,l,hc,hl=>by cases hc;cases hl;exact⟨[],rfl,rfl,by simp⟩
 | .tmp t::rs,res,l,hc,hl=>by
  obtain⟨aks,h1,rfl⟩:=map_some (by simpa[DF]using hc)
  simp only[aR]at hl
  split at hl
  ·rename_i l' mK
   cases hl
   obtain⟨vs,g1,g2,g3⟩:=DO r ht h1 mK
   refine⟨tmps.getD t Go.undef::vs, ?_,by simp[g2],fun i d v e1 e2=>?_⟩
   ·rw [List.mapM_cons]
    simp only[Bn,Go.Sem.run_bind,Go.Sem.run_pure,Result.andThen_ok,g1]
   ·cases i with
    |zero=>simp only[List.getElem?_cons_zero,Option.some.injEq]at e1 e2;subst e1;subst e2;exact ht t
    |succ i=>exact g3 i d v (by simpa using e1) (by simpa using e2)
  ·cases hl
 | .cell a t::rs,res,l,hc,hl=>by
  simp only[DF]at hc
  split at hc
  ·rename_i g i aks h1 h2 h3
   cases hc
   simp only[aR]at hl
   split at hl
   ·rename_i o off ho
    split at hl
    ·rename_i cs qX
     split at hl
     ·rename_i d l' hd mK
      cases hl
      obtain⟨vs,g1,g2,g3⟩:=DO r ht h3 mK
      have hv:=ht a
      rw[ho]at hv
      have hk:=hv.A6
      obtain⟨hv,_⟩:=hv.sq
      have agT : ∃ v,(loadVar t ⟨M.mu o,off,none⟩).run P w = .ok v w∧RD M s d v:=by
       obtain⟨fD,T,hh,ej,⟨ic,_⟩,DL⟩:=r.obj o cs qX
       replace hh:w.heap[M.mu o]? = some (.cells fD T (0,0)):=hh.cells hk
       let n:=if g then i.size else 1
       have jx:off+n≤fD.size:=by
        rcases qV hd with ⟨rfl,hq,_⟩|⟨rfl,hq⟩
        ·simp[n];omega
        ·have:=(List.getElem?_eq_some_iff.1 hq).1;simp[n];omega
       have hlen:((fD.toList.drop off).take n).length=n:=by simp;omega
       have hE : ∀ (j:Nat) (u:Value),((fD.toList.drop off).take n)[j]? = some u→fD[off+j]? = some u:=by
        intro j u h
        rw[List.getElem?_take]at h
        split at h
        ·rw[List.getElem?_drop]at h;simpa using h
        ·cases h
       refine⟨_,zh (w:=w) P h2 h1 (M.mu o) off ((fD.toList.drop off).take n) hlen (fun j u h=>by rw[jm hh];exact hE j u h), ?_⟩
       exact rm hd _ hlen (fun _ u hu=>ic u (Array.mem_toList_iff.1 (List.mem_of_mem_drop (List.mem_of_mem_take hu)))) (fun j d u e1 e2=>DL _ d u e1 (hE j u e2))
      obtain⟨v,hlv,hvd⟩:=agT
      refine⟨v::vs, ?_,by simp[g2],fun i d' v' e1 e2=>?_⟩
      ·rw [List.mapM_cons]
       have ic:(Bn tmps (.cell a t)).run P w = .ok v w:=by
        simp only[Bn,Go.Sem.run_bind,hv,asAddr,Go.Sem.run_pure,Result.andThen_ok,hlv]
       simp only[Go.Sem.run_bind,ic,Result.andThen_ok,g1,Go.Sem.run_pure]
      ·cases i with
       |zero=>simp only[List.getElem?_cons_zero,Option.some.injEq]at e1 e2;subst e1;subst e2;exact hvd
       |succ i=>exact g3 i d' v' (by simpa using e1) (by simpa using e2)
     ·cases hl
    ·cases hl
   ·cases hl
  ·cases hc
theorem Il (r:Rel M s w) {tm:Tm} {tmps:Array Value} (ht:l5 M s tm tmps) {fn:Func} {res:List (Nat×Option (Bool×Nat))} {l:List D} (hc:DF P fn.results.toList=some res) (hl:aR res tm s=some l) :
 ∃ v,(results fn tmps).run P w = .ok v w∧RD M s (aS l) v:=by
 obtain⟨vs,g1,g2,g3⟩:=DO (P:=P) r ht hc hl
 have dK:(results fn tmps).run P w = .ok (if h:vs.toArray.size=1 then vs.toArray[0]else .tuple vs.toArray) w:=by
  have e:results fn tmps=(do let vs ← fn.results.mapM (Bn tmps);pure (if h:vs.size=1 then vs[0]else .tuple vs)):=by
   unfold results
   rfl
  rw[e,Array.mapM_eq_mapM_toList]
  simp only[Go.Sem.run_bind,Go.Sem.run_map,g1,Result.andThen_ok,Go.Sem.run_pure]
 refine⟨_,dK, ?_⟩
 clear dK g1 hl
 match l,vs,g2,g3 with
 | [],[],_,_=>exact .tuple [] #[] rfl (by simp)
 | [d],[v],_,g3=>exact g3 0 d v rfl rfl
 |d::d'::l,v::v'::vs,h,g3=>
  have : ¬ ((v::v'::vs).toArray.size=1):=by simp
  rw[dif_neg this]
  exact .tuple _ _ (by simpa using h.symm) (fun i d v e1 e2=>g3 i d v e1 (by simpa using e2))
def Vm (res:List (Nat×Option (Bool×Nat))) (Q:D→St→Prop):Exit→Tm→St→Prop
 | .normal,tm,s| .ret,tm,s=>∃ l,aR res tm s=some l∧Q (aS l) s
 |_,_,_=>False
theorem bL.Sl {f:FuncId} {fn:Func} {af:AF} {args:List D} {Q:D→St→Prop} (hf:P.funcs[f]? = some fn) (hc:cF P fn=some af) (hl:args.length≤af.ntmps)
 (h : ∀ B:fa,B.s=s→Sem P B af.ntmps af.body (Vm af.results Q) (mS 0 args) s):bL P f args s Q:=by
 intro M w fL r kQ ej ha
 unfold cF at hc
 split at hc
 ·rename_i c Co
  split at hc
  ·rename_i b res h1 h2
   cases hc
   simp only at h hl
   refine calls_of_wp hf Co ?_
   have hs:=h ⟨M,s,w,kQ,fun b o v e=>r.A5 e⟩ rfl c h1 {tmps:=fL++Array.replicate (fn.ntmps - fL.size) Go.undef,defers:= []} w
    ⟨M,Ext.refl M s w,r,fun t=>by
     rw[Hr]
     simp only[Nat.zero_le,if_true,Nat.sub_zero]
     cases hd:args[t]? with
     |none=>exact .junk _
     | some d=>
      have hC:=(List.getElem?_eq_some_iff.1 hd).1
      have hv:fL[t]? = some fL[t]:=Array.getElem?_eq_getElem (by omega)
      have:(fL++Array.replicate (fn.ntmps - fL.size) Go.undef).getD t Go.undef=fL[t]:=by
       rw[Array.getD_eq_getD_getElem?,Array.getElem?_append_left (by omega),hv];rfl
      rw[this]
      exact ha t d _ hd hv,by simp;omega,rfl⟩
   refine wp_mono hs fun e act w' hp=>?_
   obtain⟨tm,s',hq,M',akt,r',ht,_,hdf⟩:=hp
   have fin:(∃ l,aR res tm s'=some l∧Q (aS l) s')→act.defers = []∧∃ v,(results fn act.tmps).run P w' = .ok v w'∧
    ∃ M' d v' s',Ending.returned v = .returned v'∧Q d s'∧Ext M s w M' s' w'∧Rel M' s' w'∧RD M' s' d v':=by
    rintro⟨l,hl,hQ⟩
    obtain⟨v,dK,jC⟩:=Il (P:=P) r' ht h2 hl
    exact⟨hdf,v,dK,M',_,v,_,rfl,hQ,akt,r',jC⟩
   cases e with
   |normal=>exact fin hq
   |ret=>exact fin hq
   |exit id=>exact hq.elim
   |goto l=>exact hq.elim
   |panic ch=>exact hq.elim
   |outgrown=>exact hq.elim
  ·cases hc
 ·cases hc
theorem bL.intro {f:FuncId} {fn:Func} {af:AF} {args:List D} {Q:D→St→Prop} (hf:P.funcs[f]? = some fn) (hc:cF P fn=some af) (hl:args.length≤af.ntmps)
 (h : ∀ B:fa,B.s=s→Sem P B af.ntmps af.body (akr B af.results Q) (mS 0 args) s):bL P f args s Q:=by
 intro M w fL r kQ ej ha
 refine(bL.Sl (Q:=fun d s'=>∃ n m,s.ah.length≤n∧s.aw.length≤m∧Q (d.fg n m) (s'.cut n m)) hf hc hl (fun B hB=>(h B hB).mono fun e tm s' hq=>?_) M w fL r kQ ej ha).mono ?_
 ·subst hB
  cases e<;>exact hq
 ·rintro e w' ⟨M',d,v,s',h1,⟨n,m,hn,hm,hQ⟩,h3,h4,h5⟩
  exact⟨M',_,v,_,h1,hQ,h3.cut hn hm,h4.cut n m,h5.fg n m⟩
end
end Go.Abs
