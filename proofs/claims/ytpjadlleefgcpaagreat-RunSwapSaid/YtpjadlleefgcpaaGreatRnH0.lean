/-
  What is proved here: part 0 of the road to the claim (Globs, Abs, Lang, Rel, Sound, Sound2, Sound3, Sound4, Sound5, Sound6, Sound7, SoundM, RelA, SoundA, Sound8, Code, Flow, Call).
  No conditions.
-/
import GoSem.Core.Value
import Derived.Orders
import Derived.Calls
import Derived.Below
import Derived.Laws.AppendOwn
import Derived.Deep.AppendSrc
import Derived.Laws.StructEq
import Derived.Laws.Slices
import Derived.Laws.Strings
import Derived.Laws.IdiomStrings
import Derived.Laws.BytesString
import Derived.MapKept
import Derived.Laws.MakeOwn
import Derived.Scope

set_option linter.unusedSimpArgs false
set_option linter.unusedVariables false
namespace Go.Abs
def acS:Nat→Option (Array Value):=fun _=>none
def qh:TypeId:=1000000
inductive Tag where
 |full
 |shared
 |tok (t:Nat) (byte:Bool:=false) -- 'byte': its row's block bears the bytes' type
inductive D where
 |junk
 |int (k:IntKind) (n:Int)
 |bool (b:Bool)
 |str (s:List UInt8)
 |ew
 |ptr (o off:Nat)
 |dI (row:List D) (off:Nat)
 |slice (g:Tag) (size:Nat) (rows:List (List D))
 |agg (cells:List D)
 |tuple (vs:List D)
 |val (v:Value)
 |fF (T:TypeId) (o:Nat)
 |gw (f:Nat) (oi:List D) -- a function value with what it captured
 |gb (o:Nat) -- a map, kept as an object: keys and values by turns
 |eQ (z o g len:Nat) -- a slice from an array's beginning: the object, its generation
 |fG (o g off:Nat) -- a pointer into an array
 |eJ (z:Nat) -- an empty slice without room: what is laid behind it becomes an array
instance:Inhabited D:=⟨.junk⟩
inductive Ob where
 |any
 |ty (T:TypeId)
 |map
 |arr (z:Nat) (A:Nat→Option (Nat×Nat))
def Ob.plain:Ob→Prop
 | .any=>True
 | .ty _=>True
 |_=>False
inductive vD:Nat×Ob→Nat×Ob→Prop where
 |refl (x:Nat×Ob):vD x x
 |arr (b b' z:Nat) (A A':Nat→Option (Nat×Nat)) (h : ∀ g x,A g=some x→A' g=some x):vD (b, .arr z A) (b', .arr z A')
theorem vD.trans {x y z:Nat×Ob} (h:vD x y) (k:vD y z):vD x z:=by
 cases h with
 |refl=>exact k
 |arr b b' z A A' h=>
  cases k with
  |refl=>exact .arr b b' z A A' h
  |arr _ b'' _ _ A'' h'=>exact .arr b b'' z A A'' fun g x e=>h' g x (h g x e)
structure Map where
 G:Nat→Nat→Option Value
 loc:Nat→Nat×Ob
 be:Nat→Option (Nat×Nat×Nat)
def Map.mu (M:Map) (o:Nat):Nat:=(M.loc o).1
def Ob.ty? : Ob→Option TypeId
 | .ty T=>some T
 |_=>none
def Map.ob (M:Map) (o:Nat):Ob:=(M.loc o).2
def Map.ty (M:Map) (o:Nat):Option TypeId:=(M.loc o).2.ty?
structure St where
 ah:List (List D)
 ay:List (Option Nat)
def zs (z:Nat):Nat:=if z=0 then 1 else z
def bz (byte:Bool) (size:Nat):Nat:=match byte with|true=>0|false=>size
def jg (M:Map) (s:St) (g:Tag) (size len:Nat) (base:Option (Nat×Nat)) (cap:Nat):Prop:=
 match g with
 | .full=>cap=len
 | .shared=>True
 | .tok t y=>t<s.ay.length∧∀ n,s.ay[t]? = some (some n)→len≤n∧
  (len=n→(M.be t=none∧cap=0∧(y=true→base=none))∨∃ b,base=some (b,0)∧M.be t=some (b,cap,bz y size))
inductive RD (M:Map) (s:St):D→Value→Prop where
 |junk (v:Value):RD M s .junk v
 |int (k:IntKind) (n:Int):RD M s (.int k n) (.int k n)
 |bool (b:Bool):RD M s (.bool b) (.bool b)
 |str (l:List UInt8):RD M s (.str l) (.string ⟨⟨l⟩⟩)
 |ew:RD M s .ew (.pointer none)
 |ptr (o off:Nat) (h:o<s.ah.length) (hm:(M.ob o).plain):RD M s (.ptr o off) (.pointer (some ⟨M.mu o,off,none⟩))
 |dI (row:List D) (off b k:Nat) (h1 : ∀ (i:Nat) (d:D),row[i]? = some d→∃ u,M.G b (k+i)=some u)
  (h2 : ∀ (i:Nat) (d:D) (u:Value),row[i]? = some d→M.G b (k+i)=some u→RD M s d u) :
  RD M s (.dI row off) (.pointer (some ⟨b,k+off,none⟩))
 |jb (g:Tag) (size cap:Nat) (hc:cap=0) (ht:jg M s g size 0 none cap):RD M s (.slice g size []) (.slice none 0 cap)
 |mg (size:Nat) (a:Addr) (cap:Nat):RD M s (.slice .shared size []) (.slice (some a) 0 cap)
 |slice (g:Tag) (size:Nat) (rows:List (List D)) (b k cap:Nat) (hl:rows.length≤cap)
  (hs : ∀ row∈rows,row.length=size)
  (h1 : ∀ (i:Nat) (row:List D) (j:Nat) (d:D),rows[i]? = some row→row[j]? = some d→∃ u,M.G b (k+(i*size+j))=some u)
  (h2 : ∀ (i:Nat) (row:List D) (j:Nat) (d:D) (u:Value),rows[i]? = some row→row[j]? = some d→M.G b (k+(i*size+j))=some u→RD M s d u)
  (ht:jg M s g size rows.length (some (b,k)) cap) :
  RD M s (.slice g size rows) (.slice (some ⟨b,k,none⟩) rows.length cap)
 |agg (cells:List D) (vs:Array Value) (hl:cells.length=vs.size) (h1 : ∀ v∈vs,v.oneCell'=true)
  (h : ∀ (i:Nat) (d:D) (v:Value),cells[i]? = some d→vs[i]? = some v→RD M s d v):RD M s (.agg cells) (.agg vs)
 |tuple (ds:List D) (vs:Array Value) (hl:ds.length=vs.size)
  (h : ∀ (i:Nat) (d:D) (v:Value),ds[i]? = some d→vs[i]? = some v→RD M s d v):RD M s (.tuple ds) (.tuple vs)
 |val (v:Value) (h:v.oneCell'=true):RD M s (.val v) v
 |fF (T:TypeId) (o:Nat) (v:Value) (h:o<s.ah.length) (ht:M.ty o=some T) (hv:v = .pointer none∨v = .pointer (some ⟨M.mu o,0,none⟩)):RD M s (.fF T o) v
 |gw (f:Nat) (ds:List D) (vs:Array Value) (hl:ds.length=vs.size)
  (h : ∀ (i:Nat) (d:D) (v:Value),ds[i]? = some d→vs[i]? = some v→RD M s d v):RD M s (.gw f ds) (.func (.func f) #[] vs)
 |gb (o:Nat) (h:o<s.ah.length) (hm:M.ob o = .map):RD M s (.gb o) (.map (some (M.mu o)))
 |eQ (z o g len b cap:Nat) (A:Nat→Option (Nat×Nat)) (h:o<s.ah.length) (hm:M.ob o = .arr z A) (ha:A g=some (b,cap)) (hl:len≤cap):RD M s (.eQ z o g len) (.slice (some ⟨b,0,none⟩) len cap)
 |fG (z o g off b cap:Nat) (A:Nat→Option (Nat×Nat)) (h:o<s.ah.length) (hm:M.ob o = .arr z A) (ha:A g=some (b,cap)):RD M s (.fG o g off) (.pointer (some ⟨b,off,none⟩))
 |eJ (z:Nat) (a:Option Addr):RD M s (.eJ z) (.slice a 0 0)
structure Le (M:Map) (s:St) (M':Map) (s':St):Prop where
 G : ∀ b o v,M.G b o=some v→M'.G b o=some v
 n:s.ah.length≤s'.ah.length
 loc : ∀ o,o<s.ah.length→vD (M.loc o) (M'.loc o)
 t:s.ay.length≤s'.ay.length
 tk : ∀ t n',t<s.ay.length→s'.ay[t]? = some (some n')→∃ n,s.ay[t]? = some (some n)∧n≤n'∧(n'=n→M'.be t=M.be t)
theorem Le.same {M:Map} {s:St} {M':Map} {s':St} (h:Le M s M' s') {o:Nat} (ho:o<s.ah.length) (hk : ∀ z A,M.ob o≠ .arr z A):M'.loc o=M.loc o:=by
 have:=h.loc o ho
 have vl : ∀ z A,(M.loc o).2≠ .arr z A:=hk
 generalize M.loc o=x at *
 generalize M'.loc o=y at *
 cases this with
 |refl=>rfl
 |arr b b' z A A' h=>exact(vl z A rfl).elim
theorem Ob.HQ {x:Ob} (h:x.plain) : ∀ z A,x≠ .arr z A:=fun z A e=>by subst e;exact h
theorem Le.mu {M:Map} {s:St} {M':Map} {s':St} (h:Le M s M' s') {o:Nat} (ho:o<s.ah.length) (hk : ∀ z A,M.ob o≠ .arr z A):M'.mu o=M.mu o:=congrArg Prod.fst (h.same ho hk)
theorem Le.ob {M:Map} {s:St} {M':Map} {s':St} (h:Le M s M' s') {o:Nat} (ho:o<s.ah.length) (hk : ∀ z A,M.ob o≠ .arr z A):M'.ob o=M.ob o:=congrArg Prod.snd (h.same ho hk)
theorem vD.ty {x y:Nat×Ob} (h:vD x y):y.2.ty? = x.2.ty? :=by cases h<;>rfl
theorem Le.ty {M:Map} {s:St} {M':Map} {s':St} (h:Le M s M' s') : ∀ o,o<s.ah.length→M'.ty o=M.ty o:=fun o ho=>(h.loc o ho).ty
theorem Le.arr {M:Map} {s:St} {M':Map} {s':St} (h:Le M s M' s') {o z:Nat} {A:Nat→Option (Nat×Nat)} (ho:o<s.ah.length) (hm:M.ob o = .arr z A) : ∃ A',M'.ob o = .arr z A'∧∀ g x,A g=some x→A' g=some x:=by
 have:=h.loc o ho
 have Bh:(M.loc o).2 = .arr z A:=hm
 show ∃ A',(M'.loc o).2=_∧_
 generalize M.loc o=x at *
 generalize M'.loc o=y at *
 cases this with
 |refl=>exact⟨A,Bh,fun _ _ h=>h⟩
 |arr b b' z A A' h=>cases Bh;exact⟨A',rfl,h⟩
theorem Le.refl (M:Map) (s:St):Le M s M s:=⟨fun _ _ _ h=>h,Nat.le_refl _,fun _ _=> .refl _,Nat.le_refl _,fun _ n _ h=>⟨n,h,Nat.le_refl _,fun _=>rfl⟩⟩
theorem Le.trans {M M' No:Map} {s s' R3:St} (h:Le M s M' s') (k:Le M' s' No R3):Le M s No R3:=
 ⟨fun b o v e=>k.G b o v (h.G b o v e),Nat.le_trans h.n k.n,fun o ho=>(h.loc o ho).trans (k.loc o (Nat.lt_of_lt_of_le ho h.n)),Nat.le_trans h.t k.t,
  fun t n'' ht e=>by
   obtain⟨n',e',l,b⟩:=k.tk t n'' (Nat.lt_of_lt_of_le ht h.t) e
   obtain⟨n,Np,l',b'⟩:=h.tk t n' ht e'
   refine⟨n,Np,Nat.le_trans l' l,fun eq=>?_⟩
   have h1:n'=n:=by omega
   have h2:n''=n':=by omega
   rw[b h2,b' h1]⟩
theorem jg.mono {M M':Map} {s s':St} (h:Le M s M' s') {g:Tag} {size len cap:Nat} {base:Option (Nat×Nat)} (ht:jg M s g size len base cap) :
 jg M' s' g size len base cap:=by
 cases g with
 |full=>exact ht
 |shared=>trivial
 |tok t y=>
  obtain⟨hD,ht⟩:=ht
  refine⟨Nat.lt_of_lt_of_le hD h.t,fun n' e'=>?_⟩
  obtain⟨n,e,l,b⟩:=h.tk t n' hD e'
  obtain⟨l',b'⟩:=ht n e
  refine⟨Nat.le_trans l' l,fun eq=>?_⟩
  have h1:n'=n:=by omega
  have h2:len=n:=by omega
  rw[b h1]
  exact b' h2
theorem RD.mono {M M':Map} {s s':St} (h:Le M s M' s') {d:D} {v:Value} (r:RD M s d v):RD M' s' d v:=by
 induction r with
 |junk v=>exact .junk v
 |int k n=>exact .int k n
 |bool b=>exact .bool b
 |str l=>exact .str l
 |ew=>exact .ew
 |ptr o off ho hm=>rw[← h.mu ho (Ob.HQ hm)];exact .ptr o off (Nat.lt_of_lt_of_le ho h.n) (by rw[h.ob ho (Ob.HQ hm)];exact hm)
 | dI row off b k h1 h2 ih=>
  refine .dI row off b k (fun i d e=>?_) (fun i d u e eu=>?_)
  ·obtain⟨u,hu⟩:=h1 i d e;exact⟨u,h.G _ _ _ hu⟩
  ·obtain⟨u',hu⟩:=h1 i d e
   have:=h.G _ _ _ hu
   rw[eu]at this
   cases this
   exact ih i d u e hu
 |jb g size cap hc ht=>exact .jb g size cap hc (ht.mono h)
 |mg size a cap=>exact .mg size a cap
 | slice g size rows b k cap hl hs h1 h2 ht ih=>
  refine .slice g size rows b k cap hl hs (fun i row j d e e2=>?_) (fun i row j d u e e2 eu=>?_) (ht.mono h)
  ·obtain⟨u,hu⟩:=h1 i row j d e e2;exact⟨u,h.G _ _ _ hu⟩
  ·obtain⟨u',hu⟩:=h1 i row j d e e2
   have:=h.G _ _ _ hu
   rw[eu]at this
   cases this
   exact ih i row j d u e e2 hu
 |agg cells vs hl h1 _ ih=>exact .agg cells vs hl h1 ih
 |tuple ds vs hl _ ih=>exact .tuple ds vs hl ih
 |val v hv=>exact .val v hv
 |fF T o v ho ht hv=>exact .fF T o v (Nat.lt_of_lt_of_le ho h.n) (by rw[h.ty o ho];exact ht) (by rw[h.mu ho (fun z A e=>by rw[Map.ty,show(M.loc o).2=_ from e]at ht;cases ht)];exact hv)
 |gw f ds vs hl _ ih=>exact .gw f ds vs hl ih
 |gb o ho hm=>
  have hk : ∀ z A,M.ob o≠ .arr z A:=fun z A e=>by rw[hm]at e;cases e
  rw[← h.mu ho hk];exact .gb o (Nat.lt_of_lt_of_le ho h.n) (by rw[h.ob ho hk];exact hm)
 |eQ z o g len b cap A ho hm ha hl=>
  obtain⟨A',h1,h2⟩:=h.arr ho hm
  exact .eQ z o g len b cap A' (Nat.lt_of_lt_of_le ho h.n) h1 (h2 g _ ha) hl
 |fG z o g off b cap A ho hm ha=>
  obtain⟨A',h1,h2⟩:=h.arr ho hm
  exact .fG z o g off b cap A' (Nat.lt_of_lt_of_le ho h.n) h1 (h2 g _ ha)
 |eJ z a=>exact .eJ z a
def St.live (s:St) (t:Nat):Prop:=∃ n,s.ay[t]? = some (some n)
def gS:List MapEntry→List Value
 | []=> []
 |e::l=>e.key::e.val::gS l
def iT (hp:Array Obj) (l:Nat×Ob) (vs:Array Value) (T:TypeId):Prop:=
 match l.2 with
 | .map=>∃ es ck,hp[l.1]? = some (.map es ck)∧vs.toList=gS es.toList
 | .arr z A=>∃ (us:Array Value) (g n cap:Nat),hp[l.1]? = some (.cells us T (0,0))∧A g=some (l.1,cap)∧(∀ g',g<g'→A g'=none)∧us.size=cap*z∧n≤us.size∧
  vs.toList = .int .i64 g::us.toList.take n∧∀ u∈us,u.oneCell'=true
 |_=>hp[l.1]? = some (.cells vs T (0,0))
theorem iT.cells {hp:Array Obj} {l:Nat×Ob} {vs:Array Value} {T:TypeId} (h:iT hp l vs T) (hk:l.2.plain):hp[l.1]? = some (.cells vs T (0,0)):=by
 obtain⟨b,k⟩:=l
 cases k with
 |map=>exact hk.elim
 |arr _ _=>exact hk.elim
 |any=>exact h
 |ty _=>exact h
theorem iT.of {hp:Array Obj} {l:Nat×Ob} {vs:Array Value} {T:TypeId} (h:hp[l.1]? = some (.cells vs T (0,0))) (hk:l.2.plain):iT hp l vs T:=by
 obtain⟨b,k⟩:=l
 cases k with
 |map=>exact hk.elim
 |arr _ _=>exact hk.elim
 |any=>exact h
 |ty _=>exact h
theorem iT.OM {hp:Array Obj} {l:Nat×Ob} {vs:Array Value} {T:TypeId} (h:iT hp l vs T) (hk:l.2 = .map) : ∃ es ck,hp[l.1]? = some (.map es ck)∧vs.toList=gS es.toList:=by
 unfold iT at h
 rw[hk]at h
 exact h
theorem iT.ofMap {hp:Array Obj} {l:Nat×Ob} {vs:Array Value} {T:TypeId} (hk:l.2 = .map) (h : ∃ es ck,hp[l.1]? = some (.map es ck)∧vs.toList=gS es.toList):iT hp l vs T:=by
 unfold iT
 rw[hk]
 exact h
theorem iT.some {hp:Array Obj} {l:Nat×Ob} {vs:Array Value} {T:TypeId} (h:iT hp l vs T) : ∃ o,hp[l.1]? = some o:=by
 obtain⟨b,k⟩:=l
 cases k with
 |map=>obtain⟨es,ck,h,_⟩:=h;exact⟨_,h⟩
 |arr _ _=>obtain⟨us,g,n,cap,h,_⟩:=h;exact⟨_,h⟩
 |any=>exact⟨_,h⟩
 |ty _=>exact⟨_,h⟩
theorem iT.lt {hp:Array Obj} {l:Nat×Ob} {vs:Array Value} {T:TypeId} (h:iT hp l vs T):l.1<hp.size:=by
 obtain⟨o,h⟩:=h.some
 exact(Array.getElem?_eq_some_iff.1 h).1
theorem iT.keep {hp nD:Array Obj} {l:Nat×Ob} {vs:Array Value} {T:TypeId} (h:iT hp l vs T) (e:nD[l.1]? = hp[l.1]?):iT nD l vs T:=by
 unfold iT at h ⊢
 rw[e];exact h
structure Rel (M:Map) (s:St) (w:World):Prop where
 comm : ∀ b o v,M.G b o=some v→w.cell? ⟨b,o,none⟩=some v∧v.oneCell'=true
 obj : ∀ (o:Nat) (ds:List D),s.ah[o]? = some ds→∃ (vs:Array Value) (T:TypeId),iT w.heap (M.loc o) vs T∧vs.size=ds.length∧
  ((∀ v∈vs,v.oneCell'=true)∧∀ T',M.ty o=some T'→T'=T)∧∀ (i:Nat) (d:D) (v:Value),ds[i]? = some d→vs[i]? = some v→RD M s d v
 ki : ∀ o,o<s.ah.length→∀ off,M.G (M.mu o) off=none
 inj : ∀ o o',o<s.ah.length→o'<s.ah.length→M.mu o=M.mu o'→o=o'
 tok : ∀ t n,s.ay[t]? = some (some n)→(M.be t=none∧n=0)∨∃ (b cap z:Nat) (vs:Array Value) (T:TypeId),M.be t=some (b,cap,z)∧
  w.heap[b]? = some (.cells vs T (0,0))∧vs.size=cap*zs z∧n≤cap∧(∀ off,n*zs z≤off→M.G b off=none)∧(z=0→T=qh)
 fy : ∀ t b c z o,s.live t→M.be t=some (b,c,z)→o<s.ah.length→M.mu o≠b
 gd : ∀ t t' b c z c' z',s.live t→s.live t'→M.be t=some (b,c,z)→M.be t'=some (b,c',z')→t=t'
structure Ext (M:Map) (s:St) (w:World) (M':Map) (s':St) (w':World):Prop where
 le:Le M s M' s'
 kept : ∀ b,b<w.heap.size→(∀ o,o<s.ah.length→M.mu o≠b)→(∀ t c z,s.live t→M.be t≠some (b,c,z))→w'.heap[b]? = w.heap[b]?
 uI : ∀ o,(s.ah.length≤o∨M'.mu o≠M.mu o)→o<s'.ah.length→w.heap.size≤M'.mu o
 rf : ∀ t b c z,s'.live t→M'.be t=some (b,c,z)→(s.live t∧∃ c' z',M.be t=some (b,c',z'))∨w.heap.size≤b
 sY : ∀ b o,M'.G b o≠M.G b o→w.heap.size≤b∨∃ t c z,s.live t∧M.be t=some (b,c,z)
 size:w.heap.size≤w'.heap.size
 os:w'.os=w.os
 tape:w'.tape=w.tape
 output:w'.output=w.output
theorem Ext.refl (M:Map) (s:St) (w:World):Ext M s w M s w:=
 ⟨Le.refl M s,fun _ _ _ _=>rfl,fun o h h'=>by rcases h with h|h;omega;exact(h rfl).elim,fun t b c z h e=> .inl ⟨h,c,z,e⟩,fun _ _ h=>(h rfl).elim,Nat.le_refl _,rfl,rfl,rfl⟩
theorem Ext.mo {M M':Map} {s s':St} {w w':World} (h:Ext M s w M' s' w') {o:Nat} (ho:o<s'.ah.length):(o<s.ah.length∧M'.mu o=M.mu o)∨w.heap.size≤M'.mu o:=by
 by_cases h1:s.ah.length≤o
 ·exact .inr (h.uI o (.inl h1) ho)
 ·by_cases h2:M'.mu o=M.mu o
  ·exact .inl ⟨by omega,h2⟩
  ·exact .inr (h.uI o (.inr h2) ho)
theorem Ext.trans {M M' No:Map} {s s' R3:St} {w w' w'':World} (h:Ext M s w M' s' w') (k:Ext M' s' w' No R3 w''):Ext M s w No R3 w'':=by
 refine⟨h.le.trans k.le,fun b hb ho ht=>?_,fun o h1 h2=>?_,fun t b c z h1 e=>?_,fun b o eW=>?_,Nat.le_trans h.size k.size,
  k.os.trans h.os,k.tape.trans h.tape,k.output.trans h.output⟩
 ·rw [k.kept b (Nat.lt_of_lt_of_le hb h.size) (fun o hD e=> ?_) (fun t c z hD e=> ?_),h.kept b hb ho ht]
  ·rcases h.mo hD with ⟨h1,h2⟩ | h1
   ·exact ho o h1 (h2.symm.trans e)
   ·omega
  ·rcases h.rf t b c z hD e with ⟨h1,c',z',e'⟩ | h1
   ·exact ht t c' z' h1 e'
   ·omega
 ·rcases k.mo h2 with ⟨h3,h4⟩ | h3
  ·rw [h4]
   refine h.uI o ?_ h3
   rcases h1 with h1|h1
   ·exact .inl h1
   ·exact .inr (by rw[h4]at h1;exact h1)
  ·exact Nat.le_trans h.size h3
 ·rcases k.rf t b c z h1 e with ⟨h2,c',z',e'⟩ | h2
  ·exact h.rf t b c' z' h2 e'
  ·exact .inr (Nat.le_trans h.size h2)
 ·by_cases e:M'.G b o=M.G b o
  ·have:No.G b o≠M'.G b o:=fun e'=>eW (e'.trans e)
   rcases k.sY b o this with h1|⟨t,c,z,h1,h2⟩
   ·exact .inl (Nat.le_trans h.size h1)
   ·rcases h.rf t b c z h1 h2 with ⟨h3,c',z',e'⟩ | h3
    ·exact .inr ⟨t,c',z',h3,e'⟩
    ·exact .inl h3
  ·exact h.sY b o e
def Laid (M:Map) (s:St) (w:World):Prop:=∀ g cs,acS g=some cs→
 (∃ T fr,w.heap[g]? = some (.cells cs T fr))∧(∀ o,o<s.ah.length→M.mu o≠g)∧∀ t c z,s.live t→M.be t≠some (g,c,z)
theorem Laid.ext {M M':Map} {s s':St} {w w':World} (h:Laid M s w) (e:Ext M s w M' s' w'):Laid M' s' w':=by
 intro g cs hg
 obtain⟨⟨T,fr,h1⟩,h2,h3⟩:=h g cs hg
 have hD:g<w.heap.size:=(Array.getElem?_eq_some_iff.1 h1).1
 refine⟨⟨T,fr,by rw[e.kept g hD h2 h3];exact h1⟩,fun o ho=>?_,fun t c z hl hb=>?_⟩
 ·rcases e.mo ho with ⟨h4,h5⟩ | h4
  ·rw[h5];exact h2 o h4
  ·omega
 ·rcases e.rf t g c z hl hb with ⟨h4,c',z',h5⟩ | h4
  ·exact h3 t c' z' h4 h5
  ·omega
abbrev Tm:=List (Nat×D)
def Tm.get:Tm→Nat→D
 | [],_=> .junk
 |(k,d)::r,t=>if k=t then d else Tm.get r t
def Tm.set:Tm→Nat→D→Tm
 | [],t,d=> [(t,d)]
 |(k,e)::r,t,d=>if k=t then(k,d)::r else(k,e)::Tm.set r t d
def Tm.put (tm:Tm) (dst:Option Nat) (d:D):Tm:=
 match dst with
 |some t=>tm.set t d
 |none=>tm
inductive X where
 |s (t:Nat)
 |k (d:D)
def X.ev (tm:Tm):X→D
 | .s t=>tm.get t
 | .k d=>d
inductive FO where
 |ofInt (k:FloatKind)
 |toInt (k:IntKind)
 |JW
 |real
 |imag
 |eq
 |JX
 |R4
inductive AO where
 |mv (x:X)
 |pick (c a b:X)
 |alloc (zero:List D)
 |box (x:X)
 |build (zero:List D) (parts:List (Nat×Nat×X))
 |dq (zero:List D) (size n:Nat) (parts:List (Nat×X))
 |vX (zero:List D) (size n:Nat) (parts:List (Nat×X))
 |BI (x:X)
 |load (x:X) (agg:Bool) (size:Nat)
 |store (p x:X) (size:Nat)
 |bY (x:X)
 |bin (op:BinOp) (x y:X)
 |HR (neg:Bool) (x y:X)
 |eqs (neg:Bool) (ks:List Nat) (x y:X) -- the fields' kinds: 0 an integer, 1 a bool, 2 a text
 |HS (neg:Bool) (x y:X)
 |un (op:UnOp) (x:X)
 |conv (k:IntKind) (x:X)
 |E8 (x:X)
 |yO (x:X)
 |E9 (size:Nat) (x:X) (lo hi:Option X)
 |JY (x:X) (lo hi:Option X)
 |aq (x:X) (off:Nat)
 |DW (x:X) (off:Nat) (agg:Bool) (size:Nat)
 |bZ (x i:X) (size:Nat)
 |BJ (x i:X)
 |ext (x:X) (i:Nat)
 |len (x:X)
 |vY (x:X)
 |app (size bytes:Nat) (x y:X)
 |mm (isMax:Bool) (x y:X)
 |tV (zero:List D) (T:TypeId) -- a new object whose first cell is to hold its own address
 |BK (x:X) (T:TypeId)
 |BL (x y:X) -- bytes behind others
 |apps (x y:X) -- a text's bytes behind others
 |vE (f:Nat) (xs:List X) -- a function value
 |vF
 |zR (m k v:X) -- a text's slice in a map
 |xd (m k:X) (zero:D)
 |BM (size bytes:Nat) (zero:List D) (l c:X) -- a new array of zeros
 |rO (o:FO) (x y:X)
inductive AI where
 |jM (dst:Option Nat) (g:Option (Nat×Bool)) (t:Nat) (xs:List X) -- what a slot holds is called
 |nil (dst:Option Nat) (g:Option (Nat×Bool)) (neg:Bool) (x:X) -- is a slice nil? (of an empty one nothing is known)
 |op (dst:Option Nat) (g:Option (Nat×Bool)) (o:AO)
 |call (dst:Option Nat) (g:Option (Nat×Bool)) (f:Nat) (xs:List X)
inductive AC where
 |skip
 |run (is:List AI)
 |par (is:List AI) (mF:List (Nat×Nat))
 |seq (a b:AC)
 |cond (x:X) (a b:AC)
 |block (id:Nat) (a:AC)
 |loop (a:AC)
 |exit (id:Nat)
 |scope (a:AC)
 |label (l:Nat)
 |goto (l:Nat)
 |ret
structure AF where
 ntmps:Nat
 results:List (Nat×Option (Bool×Nat)) -- a slot; or a slot that holds the address, whether an aggregate, how many cells
 body:AC
inductive AK where
 |pure
 |load
 |alloc
 |core
 deriving DecidableEq
def AO.kind:AO→AK
 | .alloc _=> .core
 | .box _=> .core
 | .vX .. => .core
 | .BI _=> .core
 | .store .. => .core
 | .app .. => .core
 | .tV .. => .core
 | .BK .. => .core
 | .BL .. => .core
 | .apps .. => .core
 | .vF=> .core
 | .zR .. => .core
 | .BM .. => .core
 | .xd .. => .load
 | .load .. => .load
 |_=> .pure
def AI.kind:AI→AK
 | .op (some _) none (.alloc _)=> .alloc
 | .op _ _ o=>o.kind
 |_=> .core
def AI.dst:AI→Option Nat
 | .op d _ _=>d
 | .call d _ _ _=>d
 | .nil d _ _ _=>d
 | .jM d _ _ _=>d
def X.reads:X→List Nat
 | .s t=> [t]
 | .k _=> []
def oN:List X→List Nat
 | []=> []
 |x::r=>x.reads++oN r
def BN:Option X→List Nat
 |none=> []
 |some x=>x.reads
def AO.reads:AO→List Nat
 | .mv x=>x.reads
 | .pick c a b=>c.reads++(a.reads++b.reads)
 | .alloc _=> []
 | .box x=>x.reads
 | .build _ ps=>oN (ps.map (·.2.2))
 | .dq _ _ _ ps=>oN (ps.map (·.2))
 | .vX _ _ _ ps=>oN (ps.map (·.2))
 | .BI x=>x.reads
 | .load x _ _=>x.reads
 | .store p x _=>p.reads++x.reads
 | .bY x=>x.reads
 | .bin _ x y=>x.reads++y.reads
 | .HR _ x y=>x.reads++y.reads
 | .eqs _ _ x y=>x.reads++y.reads
 | .HS _ x y=>x.reads++y.reads
 | .un _ x=>x.reads
 | .conv _ x=>x.reads
 | .E8 x=>x.reads
 | .yO x=>x.reads
 | .E9 _ x lo hi=>x.reads++(BN lo++BN hi)
 | .JY x lo hi=>x.reads++(BN lo++BN hi)
 | .aq x _=>x.reads
 | .DW x _ _ _=>x.reads
 | .bZ x i _=>x.reads++i.reads
 | .BJ x i=>x.reads++i.reads
 | .ext x _=>x.reads
 | .len x=>x.reads
 | .vY x=>x.reads
 | .app _ _ x y=>x.reads++y.reads
 | .mm _ x y=>x.reads++y.reads
 | .tV _ _=> []
 | .BK x _=>x.reads
 | .BL x y=>x.reads++y.reads
 | .apps x y=>x.reads++y.reads
 | .vE _ xs=>oN xs
 | .vF=> []
 | .zR m k v=>m.reads++(k.reads++v.reads)
 | .xd m k _=>m.reads++k.reads
 | .BM _ _ _ l c=>l.reads++c.reads
 | .rO _ x y=>x.reads++y.reads
def vZ:Option (Nat×Bool)→List Nat
 |none=> []
 |some (t,_)=> [t]
def AI.reads:AI→List Nat
 | .op _ g o=>vZ g++o.reads
 | .call _ g _ xs=>vZ g++oN xs
 | .nil _ g _ x=>vZ g++x.reads
 | .jM _ g t xs=>vZ g++(t::oN xs)
def Fb (d:Option Nat) (l:List Nat):Bool:=
 match d with
 |none=>true
 |some t=> !l.contains t
def AI.apart (a q:AI):Bool:=
 Fb a.dst q.reads && Fb q.dst a.reads && (match a.dst,q.dst with|some x,some y=>x != y|_,_=>true)
def iy (l:List (List Nat)) (i:Nat):List Nat:=l.getD i []
def jN (is:List AI) (i:Nat):AK:=
 match is[i]? with
 |some a=>a.kind
 |none=> .core
def lW (is:List AI) (i j:Nat):Bool:=
 match is[i]?,is[j]? with
 |some a,some b=>a.apart b
 |_,_=>false
def gT:AK→Bool
 | .core=>true
 | .alloc=>true
 |_=>false
def j9 (is:List AI) (l:List Nat):Nat:=(l.filter fun i=>gT (jN is i)).length
def lN (is:List AI) (pq:List Nat):List Nat→Bool
 | []=>true
 |a::r=>(!(jN is a == .alloc && pq.contains a) ||r.all pq.contains) && lN is pq r
def pN (is:List AI) (pt:List (List Nat)) (pre:List Nat) (q b:Nat):Bool:=
 match jN is q with
 | .core=>pre.all (iy pt q).contains
 | .alloc=>pre.all fun a=>lW is a q
 | .pure=>(pre.all fun a=>(iy pt q).contains a ||lW is a q) && lN is (iy pt q) pre
 | .load=>(pre.all fun a=>(iy pt q).contains a ||lW is a q) && lN is (iy pt q) pre &&
  decide (j9 is (pre.filter fun a=> !(iy pt q).contains a)≤b)
def vm (is:List AI) (af pt:List (List Nat)):List Nat→List (Nat×Nat)→Bool
 |_,[]=>true
 |pre,(q,b)::r=>pN is pt pre q b && !pre.contains q && ((iy af q).all fun j=>j != q && !(r.map (·.1)).contains j) && vm is af pt (q::pre) r
def yP (af pt:List (List Nat)):Nat→Bool
 | 0=>true
 |i+1=>((iy pt i).all fun j=>(iy af i).contains j ||(iy af i).any fun k=>(iy pt k).contains j) && yP af pt i
def JZ (is:List AI) (af pt:List (List Nat)) (mF:List (Nat×Nat)):Bool:=
 yP af pt is.length && vm is af pt [] mF && (List.range is.length).all (mF.map (·.1)).contains && mF.all (fun p=>decide (p.1<is.length)) &&
  (List.range is.length).all fun i=>(iy af i).all fun j=>decide (j<is.length)
def nE (o:Oper):List Nat:=(o.after.toList.filter (Region.binds .any)).map (·.on)
def J0:List (List Nat)→List (List Nat)→List (List Nat)
 |done,[]=>done
 |done,es::r=>J0 (done++ [(es.flatMap fun k=>iy done k).foldl (fun l j=>if l.contains j then l else l++ [j]) es]) r
def Ys (is:List AI) (pt:List (List Nat)):List Nat→List Nat→List Nat→List Nat
 | [],rest,out=>out++((rest.filter fun j=>jN is j == .alloc)++rest.filter fun j=> !(jN is j == .alloc))
 |c::cs,rest,out=>
  let Vl:=rest.filter fun j=>(iy pt c).contains j
  Ys is pt cs (rest.filter fun j=> !(Vl.contains j) && j != c) (out++((Vl.filter fun j=>jN is j == .alloc)++(Vl.filter fun j=> !(jN is j == .alloc))++ [c]))
def Yt (is:List AI) (pt:List (List Nat)):List Nat→List Nat→List (Nat×Nat)
 |_,[]=> []
 |pre,q::r=>(q,if jN is q == .load then j9 is (pre.filter fun a=> !(iy pt q).contains a)else 0)::Yt is pt (q::pre) r
def R5 (is:List AI) (af:List (List Nat)):List (Nat×Nat):=
 let pt:=J0 [] af
 let all:=List.range is.length
 Yt is pt [] (Ys is pt (all.filter fun i=>jN is i == .core) all [])
def D.row:D→Option (List D)
 | .agg cs=>some cs
 | .junk=>none
 | .tuple _=>none
 |d=>some [d]
def part (cs:List D) (off:Nat) (agg:Bool) (size:Nat):Option D:=
 match agg with
 |true=>if off+size≤cs.length then some (.agg ((cs.drop off).take size))else none
 |false=>cs[off]?
def iO (cs:List D) (off:Nat) (r:List D):List D:=cs.take off++r++cs.drop (off+r.length)
def rP (cells:List D):List (Nat×Nat×D)→Option (List D)
 | []=>some cells
 |(off,size,d)::rest=>
  match d.row with
  |none=>none
  |some r=>if r.length=size∧off+size≤cells.length then rP (iO cells off r) rest else none
def gf (zero:List D):Nat→List (List D)
 | 0=> []
 |n+1=>zero::gf zero n
def ky (size:Nat) (rows:List (List D)):List (Nat×D)→Option (List (List D))
 | []=>some rows
 |(i,d)::rest=>
  match d.row with
  |none=>none
  |some r=>if r.length=size∧i<rows.length then ky size (rows.set i r) rest else none
def bytesLess:List UInt8→List UInt8→Bool:=Op.bytesLess
def bx:Nat:=1099511627776
def gx (op:BinOp) (k:IntKind) (a b:Int):Option D:=
 match op with
 | .add=>some (.int k (k.wrap (a+b)))
 | .sub=>some (.int k (k.wrap (a - b)))
 | .mul=>some (.int k (k.wrap (a*b)))
 | .quo=>if b=0 then none else some (.int k (k.wrap (a.tdiv b)))
 | .rem=>if b=0 then none else some (.int k (a.tmod b))
 | .eql=>some (.bool (a==b))
 | .neq=>some (.bool (a != b))
 | .lss=>some (.bool (decide (a<b)))
 | .leq=>some (.bool (decide (a≤b)))
 | .gtr=>some (.bool (decide (a > b)))
 | .geq=>some (.bool (decide (a≥b)))
 |_=>none
def oO (op:BinOp) (a b:List UInt8):Option D:=
 match op with
 | .add=>if a.length+b.length≤bx then some (.str (a++b))else none
 | .eql=>some (.bool (a==b))
 | .neq=>some (.bool (!(a==b)))
 | .lss=>some (.bool (bytesLess a b))
 |_=>none
def xY (op:BinOp) (x y:D):Option D:=
 match x,y with
 | .int k a, .int k' b=>if k=k' then gx op k a b else none
 | .str a, .str b=>oO op a b
 |_,_=>none
def nF:Nat→D→D→Option Bool
 | 0, .int k a, .int k' b=>if k=k' then some (a==b)else none
 | 1, .bool a, .bool b=>some (a==b)
 | 2, .str a, .str b=>some (a==b)
 |_,_,_=>none
def lX:List Nat→List D→List D→Option Bool
 | [],[],[]=>some true
 |k::ks,x::xs,y::ys=>
  match nF k x y with
  |none=>none
  |some true=>lX ks xs ys
  |some false=>some false
 |_,_,_=>none
def J1 (op:UnOp) (x:D):Option D:=
 match op,x with
 | .neg, .int k n=>some (.int k (k.wrap (0 - n)))
 | .not, .bool b=>some (.bool (!b))
 |_,_=>none
def HT:List D→Option UInt8
 | [.int .u8 n]=>some (UInt8.ofNat n.toNat)
 |_=>none
def o5:List (List D)→Option (List UInt8)
 | []=>some []
 |r::rs=>
  match HT r,o5 rs with
  |some b,some bs=>some (b::bs)
  |_,_=>none
def Tag.cut (g:Tag) (whole:Bool):Tag:=
 match g with
 | .full=>if whole then .full else .shared
 |g=>g
def tW (lo:Option D):Option Int:=
 match lo with
 |none=>some 0
 |some (.int _ n)=>some n
 |_=>none
def tX (hi:Option D) (len:Nat):Option Int:=
 match hi with
 |none=>some len
 |some (.int _ n)=>some n
 |_=>none
def iP (size bytes:Nat) (x y:D) (s:St):Option (D×St):=
 match x,y with
 | .slice g z rows, .slice _ z' new=>
  if(rows = []∨z=size)∧(new = []∨z'=size)∧(rows.length+new.length)*(bytes+1)≤bx then
   match new with
   | []=>some (.slice g z rows,s)
   |_::_=>
    match g with
    | .full=>some (.slice (.tok s.ay.length) size (rows++new),{s with ay:=s.ay++ [some (rows.length+new.length)]})
    | .shared=>none
    | .tok _ true=>none
    | .tok t false=>if z=size∧s.ay[t]? = some (some rows.length)then some (.slice (.tok t) size (rows++new),{s with ay:=s.ay.set t (some (rows.length+new.length))})else none
  else none
 |_,_=>none
def BO (x y:D) (s:St):Option (D×St):=
 match x,y with
 | .slice g z rows, .slice _ z' new=>
  if(rows = []∨z=1)∧(new = []∨z'=1)∧(rows.length+new.length)*2≤bx then
   match new with
   | []=>some (.slice g z rows,s)
   |_::_=>
    match g with
    | .full=>some (.slice (.tok s.ay.length true) 1 (rows++new),{s with ay:=s.ay++ [some (rows.length+new.length)]})
    | .shared=>none
    | .tok t y=>if z=1∧s.ay[t]? = some (some rows.length)then some (.slice (.tok t y) 1 (rows++new),{s with ay:=s.ay.set t (some (rows.length+new.length))})else none
  else none
 |_,_=>none
def zS (key:List UInt8) (zero:D):List D→Option D
 | []=>some zero
 | .str k::d::r=>if k==key then some d else zS key zero r
 |_=>none
def xZ (key:List UInt8) (v:D):List D→Option (List D)
 | []=>some [.str key,v]
 | .str k::d::r=>if k==key then some (.str k::v::r)else match xZ key v r with|some r'=>some (.str k::d::r')|none=>none
 |_=>none
def oj (s:St) (o g:Nat):Option (List D):=
 match s.ah[o]? with
 |some (.int .i64 n::cells)=>if n=(g:Int)then some cells else none
 |_=>none
def zT (d:D) (agg:Bool) (size:Nat) (s:St):Option (D×St):=
 match d with
 | .fG o g off=>
  match oj s o g with
  |some cells=>(match part cells off agg size with|some d=>some (d,s)|none=>none)
  |none=>none
 |_=>none
def BP (d:D) (r:Option (List D)) (size:Nat) (s:St):Option (D×St):=
 match d,r with
 | .fG o g off,some r=>match oj s o g with
  |some cells=>if r.length=size∧off+size≤cells.length then some (.tuple [],{s with ah:=s.ah.set o (.int .i64 g::iO cells off r)})else none
  |none=>none
 |_,_=>none
def ON (d:D):Option D:=
 match d with
 | .fG o g off=>some (.fG o g off)
 |_=>none
def Fc (d:D) (off:Nat):Option D:=
 match d with
 | .fG o g k=>some (.fG o g (k+off))
 |_=>none
def yQ (d e:D) (size:Nat):Option D:=
 match d,e with
 | .eQ z o g len, .int _ n=>if 0≤n∧n<len∧z=size then some (.fG o g (n.toNat*z))else none
 |_,_=>none
def x7 (d:D) (lo hi:Option D):Option D:=
 match d with
 | .eQ z o g len=>
  match tW lo,tX hi len with
  |some l,some h=>if l=0∧0≤h∧h≤len then some (.eQ z o g h.toNat)else none
  |_,_=>none
 | .eJ z=>
  match tW lo,tX hi 0 with
  |some l,some h=>if l=0∧h=0 then some (.eJ z)else none
  |_,_=>none
 |_=>none
def GM (d:D):Option D:=
 match d with
 | .eQ _ _ _ len=>some (.int .i64 len)
 | .eJ _=>some (.int .i64 0)
 |_=>none
def BQ (size bytes:Nat) (x y:D) (s:St):Option (D×St):=
 match x,y with
 | .eQ z o g len, .slice _ z' new=>
  if z=size∧(new = []∨z'=size)∧(len+new.length)*(bytes+1)≤bx then
   match new with
   | []=>some (.eQ z o g len,s)
   |_::_=>match oj s o g with
    |some cells=>if len*z≤cells.length then some (.eQ z o (g+1) (len+new.length),{s with ah:=s.ah.set o (.int .i64 ((g+1:Nat):Int)::(cells.take (len*z)++new.flatten))})else none
    |none=>none
  else none
 | .eJ z, .slice _ z' new=>
  if z=size∧(new = []∨z'=size)∧new.length*(bytes+1)≤bx then
   match new with
   | []=>some (.eJ z,s)
   |_::_=>some (.eQ z s.ah.length 0 new.length,{s with ah:=s.ah++ [.int .i64 ((0:Nat):Int)::new.flatten]})
  else none
 |_,_=>none
def Vm (k:FloatKind) (a b:Nat):Option Nat:=k.format.add a b
def rh (o:FO) (x y:D):Option D:=
 match o,x,y with
 | .ofInt k, .int _ n,_=>some (.val (.float k (k.nearest n)))
 | .toInt k, .val (.float s b),_=>match (s.decode b).toInt .zero with|some n=>if k.min≤n∧n≤k.max then some (.int k n)else none|none=>none
 | .JW, .val (.float k a), .val (.float k' b)=>if k=k' then some (.val (.complex k a b))else none
 | .real, .val (.complex k a _),_=>some (.val (.float k a))
 | .imag, .val (.complex k _ b),_=>some (.val (.float k b))
 | .eq, .val (.float k a), .val (.float k' b)=>if k=k' then some (.bool (k.format.order a b==some .eq))else none
 | .JX, .val (.complex k a b), .val (.complex k' c d)=>if k=k' then(match Vm k a c,Vm k b d with|some e,some f=>some (.val (.complex k e f))|_,_=>none)else none
 | .R4, .val (.complex k a b), .val (.complex k' c d)=>if k=k' then some (.bool (k.format.order a c==some .eq && k.format.order b d==some .eq))else none
 |_,_,_=>none
def aM (o:AO) (tm:Tm) (s:St):Option (D×St):=
 match o with
 | .mv x=>some (x.ev tm,s)
 | .pick c a b=>
  match c.ev tm with
  | .bool t=>some (if t then a.ev tm else b.ev tm,s)
  |_=>none
 | .alloc zero=>some (.ptr s.ah.length 0,{s with ah:=s.ah++ [zero]})
 | .box x=>
  match (x.ev tm).row with
  |some r=>some (.ptr s.ah.length 0,{s with ah:=s.ah++ [r]})
  |none=>none
 | .build zero parts=>
  match rP zero (parts.map fun p=>(p.1,p.2.1,p.2.2.ev tm))with
  |some cs=>some (.agg cs,s)
  |none=>none
 | .dq zero size n parts=>
  match ky size (gf zero n) (parts.map fun p=>(p.1,p.2.ev tm))with
  |some rows=>some (.slice .full size rows,s)
  |none=>none
 | .vX zero size n parts=>
  match ky size (gf zero n) (parts.map fun p=>(p.1,p.2.ev tm))with
  |some rows=>some (.slice (.tok s.ay.length) size rows,{s with ay:=s.ay++ [some rows.length]})
  |none=>none
 | .BI x=>
  match x.ev tm with
  | .slice (.tok t _) z rows=>if rows≠ []∧s.ay[t]? = some (some rows.length)then some (.slice .shared z rows,{s with ay:=s.ay.set t none})else none
  |_=>none
 | .load x agg size=>
  match x.ev tm with
  | .ptr o off=>
   match s.ah[o]? with
   |some cs=>match part cs off agg size with|some d=>some (d,s)|none=>none
   |none=>none
  | .dI row off=>match part row off agg size with|some d=>some (d,s)|none=>none
  |d=>zT d agg size s
 | .store p x size=>
  match p.ev tm,(x.ev tm).row with
  | .ptr o off,some r=>
   match s.ah[o]? with
   |some cs=>if r.length=size∧off+size≤cs.length then some (.tuple [],{s with ah:=s.ah.set o (iO cs off r)})else none
   |none=>none
  |d,r=>BP d r size s
 | .bY x=>
  match x.ev tm with
  | .ptr o off=>some (.ptr o off,s)
  | .dI row off=>some (.dI row off,s)
  |d=>match ON d with|some d=>some (d,s)|none=>none
 | .bin op x y=>match xY op (x.ev tm) (y.ev tm)with|some d=>some (d,s)|none=>none
 | .HR neg x y=>
  match x.ev tm,y.ev tm with
  | .bool a, .bool b=>some (.bool (if neg then !(a==b)else a==b),s)
  |_,_=>none
 | .eqs neg ks x y=>
  match x.ev tm,y.ev tm with
  | .agg a, .agg b=>match lX ks a b with|some e=>some (.bool (if neg then !e else e),s)|none=>none
  |_,_=>none
 | .HS neg x y=>
  match x.ev tm,y.ev tm with
  | .ew, .ew=>some (.bool (!neg),s)
  | .ptr _ _, .ew=>some (.bool neg,s)
  | .dI _ _, .ew=>some (.bool neg,s)
  |_,_=>none
 | .un op x=>match J1 op (x.ev tm)with|some d=>some (d,s)|none=>none
 | .conv k x=>match x.ev tm with| .int _ n=>some (.int k (k.wrap n),s)|_=>none
 | .E8 x=>
  match x.ev tm with
  | .slice _ _ rows=>match o5 rows with|some b=>some (.str b,s)|none=>none
  |_=>none
 | .yO x=>
  match x.ev tm with
  | .str l=>some (.slice .shared 1 (l.map fun c=> [.int .u8 c.toNat]),s)
  |_=>none
 | .E9 size x lo hi=>
  match x.ev tm with
  | .slice g z rows=>
   match tW (lo.map (·.ev tm)),tX (hi.map (·.ev tm)) rows.length with
   | some l,some h=>
    if(rows = []∨z=size)∧0≤l∧l≤h∧h≤rows.length then
     some (.slice (if l=0 then g.cut (h=rows.length)else .shared) z ((rows.take h.toNat).drop l.toNat),s)else none
   |_,_=>none
  |d=>match x7 d (lo.map (·.ev tm)) (hi.map (·.ev tm))with|some d=>some (d,s)|none=>none
 | .JY x lo hi=>
  match x.ev tm with
  | .str t=>
   match tW (lo.map (·.ev tm)),tX (hi.map (·.ev tm)) t.length with
   |some l,some h=>if 0≤l∧l≤h∧h≤t.length then some (.str ((t.take h.toNat).drop l.toNat),s)else none
   |_,_=>none
  |_=>none
 | .aq x off=>
  match x.ev tm with
  | .ptr o k=>some (.ptr o (k+off),s)
  | .dI row k=>some (.dI row (k+off),s)
  |d=>match Fc d off with|some d=>some (d,s)|none=>none
 | .DW x off agg size=>
  match x.ev tm with
  | .agg cs=>match part cs off agg size with|some d=>some (d,s)|none=>none
  |_=>none
 | .bZ x i size=>
  match x.ev tm,i.ev tm with
  | .slice _ z rows, .int _ n=>
   if 0≤n∧z=size then
    match rows[n.toNat]? with
    |some row=>some (.dI row 0,s)
    |none=>none
   else none
  |d,e=>match yQ d e size with|some d=>some (d,s)|none=>none
 | .BJ x i=>
  match x.ev tm,i.ev tm with
  | .str t, .int _ n=>
   if 0≤n then
    match t[n.toNat]? with
    |some c=>some (.int .u8 c.toNat,s)
    |none=>none
   else none
  |_,_=>none
 | .ext x i=>
  match x.ev tm with
  | .tuple ds=>match ds[i]? with|some d=>some (d,s)|none=>none
  |_=>none
 | .vY x=>
  match x.ev tm with
  | .str t=>some (.int .i64 t.length,s)
  |_=>none
 | .len x=>
  match x.ev tm with
  | .slice _ _ rows=>some (.int .i64 rows.length,s)
  |d=>match GM d with|some d=>some (d,s)|none=>none
 | .app size bytes x y=>
  match x.ev tm with
  | .slice g z rows=>iP size bytes (.slice g z rows) (y.ev tm) s
  |d=>BQ size bytes d (y.ev tm) s
 | .mm isMax x y=>
  match x.ev tm,y.ev tm with
  | .int k a, .int k' b=>if k=k' then some (.int k (if isMax then(if b > a then b else a)else(if b<a then b else a)),s)else none
  |_,_=>none
 | .tV zero T=>
  match zero with
  | .ew::r=>some (.ptr s.ah.length 0,{s with ah:=s.ah++ [.fF T s.ah.length::r]})
  |_=>none
 | .BK x T=>
  match (x.ev tm).row with
  |some (.ew::r)=>some (.ptr s.ah.length 0,{s with ah:=s.ah++ [.fF T s.ah.length::r]})
  |_=>none
 | .BL x y=>BO (x.ev tm) (y.ev tm) s
 | .apps x y=>
  match y.ev tm with
  | .str l=>BO (x.ev tm) (.slice .shared 1 (l.map fun c=> [.int .u8 c.toNat])) s
  |_=>none
 | .vE f xs=>some (.gw f (xs.map (·.ev tm)),s)
 | .vF=>some (.gb s.ah.length,{s with ah:=s.ah++ [[]]})
 | .zR m k v=>
  match m.ev tm,k.ev tm,v.ev tm with
  | .gb o, .str key, .slice g z rows=>
   match s.ah[o]? with
   |some cs=>match xZ key (.slice g z rows) cs with|some kg=>some (.tuple [],{s with ah:=s.ah.set o kg})|none=>none
   |none=>none
  |_,_,_=>none
 | .xd m k zero=>
  match m.ev tm,k.ev tm with
  | .gb o, .str key=>
   match s.ah[o]? with
   |some cs=>match zS key zero cs with|some d=>some (d,s)|none=>none
   |none=>none
  |_,_=>none
 | .BM size bytes zero l c=>
  match l.ev tm,c.ev tm with
  | .int .i64 n, .int .i64 m=>if n=m∧0≤n∧n*((bytes:Int)+1)≤bx then some (.eQ size s.ah.length 0 n.toNat,{s with ah:=s.ah++ [.int .i64 ((0:Nat):Int)::(gf zero n.toNat).flatten]})else none
  |_,_=>none
 | .rO o x y=>match rh o (x.ev tm) (y.ev tm)with|some d=>some (d,s)|none=>none
def Vn (b:ByteArray):List UInt8:=b.data.toList
def sZ:Value→Option D
 | .int k n=>some (.int k n)
 | .bool b=>some (.bool b)
 | .string b=>some (.str (Vn b))
 | .pointer none=>some .ew
 | .slice none 0 0=>some (.slice .full 0 [])
 | .nilIface=>some (.val .nilIface)
 | .float k b=>some (.val (.float k b))
 | .complex k a b=>some (.val (.complex k a b))
 |_=>none
def om:List Value→Option (List D)
 | []=>some []
 |v::r=>match sZ v,om r with|some d,some ds=>some (d::ds)|_,_=>none
def Em:Value→Option D
 | .slice none 0 0=>some (.val (.slice none 0 0))
 |v=>sZ v
def xe:List Value→Option (List D)
 | []=>some []
 |v::r=>match Em v,xe r with|some d,some ds=>some (d::ds)|_,_=>none
def OO:Value→Option D
 | .agg cs=>(om cs.toList).map .agg
 | .tuple ⟨[]⟩=>some (.tuple [])
 |v=>sZ v
def cX:Operand→Option X
 | .tmp t=>some (.s t)
 | .const v=>(OO v).map .k
 | .func f=>some (.k (.gw f []))
 |_=>none
def yR:List Operand→Option (List X)
 | []=>some []
 |x::r=>match cX x,yR r with|some d,some ds=>some (d::ds)|_,_=>none
def Yu:Option Operand→Option (Option X)
 |none=>some none
 |some x=>(cX x).map some
section
variable (P:Program)
def rQ (t:TypeId):Option Bool:=
 match P.underlying t with
 |some (.struct _)|some (.array _ _)=>some true
 |some _=>some false
 |none=>none
def zeroOf (t:TypeId):Option (List D):=
 match P.info? t with
 |some i=>match i.zero with|some z=>if z.cells.size=i.size then om z.cells.toList else none|none=>none
 |none=>none
def na (t:TypeId) (f:Nat):Option (Nat×Nat×Bool):=
 match P.underlying t with
 | some (.struct fs)=>
  match fs[f]? with
  |some fd=>match P.info? fd.type,rQ P fd.type with
   |some i,some a=>if i.size=0 then none else some (fd.offset,i.size,a)
   |_,_=>none
  |none=>none
 |_=>none
def R6 (t u:TypeId):Bool:=
 match P.underlying u with
 |some (.pointer e)=>e==t
 |_=>false
def acT (t:TypeId):Bool:=
 match P.underlying t with
 |some (.struct fs)=>
  match fs[0]? with
  |some f=>R6 P t f.type
  |none=>false
 |_=>false
def OP (t:TypeId):Bool:=
 match P.underlying t with
 |some (.struct fs)=>
  match fs[0]? with
  |some f=>R6 P t f.type ||acT P f.type
  |none=>false
 |_=>false
def OQ (self:Bool) (l:List Value):Option (List D):=if self then xe l else om l
def zU (t:TypeId):Option (List D):=
 match P.info? t with
 |some i=>match i.zero with|some z=>if z.cells.size=i.size then OQ (OP P t) z.cells.toList else none|none=>none
 |none=>none
def BR (t:TypeId):List (Nat×Operand)→Option (List (Nat×Nat×X))
 | []=>some []
 |(i,x)::r=>match na P t i,cX x,BR t r with
  |some (off,size,_),some x',some r'=>some ((off,size,x')::r')
  |_,_,_=>none
def J2:List (Nat×Operand)→Option (List (Nat×X))
 | []=>some []
 |(i,x)::r=>match cX x,J2 r with
  |some x',some r'=>some ((i,x')::r')
  |_,_=>none
def kp (t:TypeId):Option Nat:=
 match P.underlying t with
 |some (.int _)=>some 0
 |some .bool=>some 1
 |some .string=>some 2
 |_=>none
def Dc:Nat→List Field→Option (List Nat)
 |_,[]=>some []
 | n,f::fs=>
  if f.offset=n∧f.name≠ "_" then
   match kp P f.type,Dc (n+1) fs with
   |some k,some ks=>some (k::ks)
   |_,_=>none
  else none
def qO (t:TypeId):Option (List Nat):=
 match P.underlying t with
 |some (.struct fs)=>if P.eqGuardType P.depth t=false∧P.stoodInHeld t=false then Dc P 0 fs.toList else none
 |_=>none
def Fe (o:Oper):Option AO:=
 match o.op with
 | .move x| .assign x=>(cX x).map .mv
 | .pick c a b=>match cX c,cX a,cX b with|some c,some a,some b=>some (.pick c a b)|_,_,_=>none
 | .alloc t=>if OP P t then(zU P t).map (.tV · t)else(zeroOf P t).map .alloc
 | .box t x=>if OP P t then(cX x).map (.BK · t)else(cX x).map .box
 | .build t parts=>
  match P.underlying t,zU P t,BR P t parts.toList with
  |some (.struct fs),some z,some ps=>if fs.toList.all fun f=>(P.info? f.type).isSome then some (.build z ps)else none
  |_,_,_=>none
 | .buildSlice t n parts=>
  match P.underlying t with
  |some (.slice e)=>
   match P.info? e,zeroOf P e,J2 parts.toList with
   |some i,some z,some ps=>if 0<i.size∧n*i.size≤65536 then some (.dq z i.size n ps)else none
   |_,_,_=>none
  |_=>none
 | .load t x=>
  match cX x,rQ P t,P.info? t with
  |some x,some a,some i=>some (.load x a i.size)
  |_,_,_=>none
 | .store t a x=>
  match cX a,cX x,P.info? t with
  |some a,some x,some i=>some (.store a x i.size)
  |_,_,_=>none
 | .nilCheck x=>(cX x).map .bY
 | .binOp op t x y _=>
  match cX x,cX y with
  |some x,some y=>
   match P.underlying t,op with
   |some (.int _),_=>some (.bin op x y)
   |some .string,_=>some (.bin op x y)
   |some .bool, .eql=>some (.HR false x y)
   |some .bool, .neq=>some (.HR true x y)
   |some (.pointer _), .eql=>some (.HS false x y)
   |some (.pointer _), .neq=>some (.HS true x y)
   |some (.struct _), .eql=>(qO P t).map (.eqs false · x y)
   |some (.struct _), .neq=>(qO P t).map (.eqs true · x y)
   |some (.float _), .eql=>some (.rO .eq x y)
   |some (.complex _), .add=>some (.rO .JX x y)
   |some (.complex _), .eql=>some (.rO .R4 x y)
   |_,_=>none
  |_,_=>none
 | .unOp op _ x=>(cX x).map (.un op)
 | .convert src dst x=>
  match cX x,P.underlying src,P.underlying dst with
  |some x,some (.int _),some (.int k)=>some (.conv k x)
  |some x,some (.slice e),some .string=>match P.underlying e with|some (.int .u8)=>some (.E8 x)|_=>none
  |some x,some (.slice e),some (.slice _)=>match P.underlying e with|some (.int .u8)=>if src=dst then some (.BI x)else none|_=>none
  |some x,some .string,some (.slice e)=>match P.underlying e,P.info? e with|some (.int .u8),some i=>if i.size=1 then some (.yO x)else none|_,_=>none
  |some x,some (.int _),some (.float k)=>some (.rO (.ofInt k) x x)
  |some x,some (.float _),some (.int k)=>some (.rO (.toInt k) x x)
  |_,_,_=>none
 | .slice t x lo hi none=>
  match cX x,Yu lo,Yu hi,P.underlying t with
  |some x,some lo,some hi,some .string=>some (.JY x lo hi)
  |some x,some lo,some hi,some (.slice e)=>match P.info? e with|some i=>some (.E9 i.size x lo hi)|none=>none
  |_,_,_,_=>none
 | .fieldAddr t x f=>match cX x,na P t f with|some x,some (off,_,_)=>some (.aq x off)|_,_=>none
 | .field t x f=>match cX x,na P t f with|some x,some (off,size,a)=>some (.DW x off a size)|_,_=>none
 | .indexAddr t x i=>
  match cX x,cX i,P.underlying t with
  |some x,some i,some (.slice e)=>match P.info? e with|some j=>if 0<j.size then some (.bZ x i j.size)else none|none=>none
  |_,_,_=>none
 | .index t x i=>match cX x,cX i,P.underlying t with|some x,some i,some .string=>some (.BJ x i)|_,_,_=>none
 | .extract x i=>(cX x).map (.ext · i)
 | .call {callee:= .builtin .len,args,argTypes}=>
  match args.toList,argTypes.toList with
  | [x],[t]=>match P.underlying t with
   |some .string=>(cX x).map .vY
   |some (.slice _)=>(cX x).map .len
   |_=>none
  |_,_=>none
 | .call {callee:= .builtin .append,args,argTypes}=>
  match args.toList,argTypes.toList with
  | [x,y],[t,u]=>match P.underlying t,P.underlying u,cX x,cX y with
   |some (.slice e),some (.slice _),some x,some y=>match P.info? e,zeroOf P e with
    |some i,some _=>if 0<i.size then some (if e=qh∧i.size=1∧i.bytes=1 then .BL x y else .app i.size i.bytes x y)else none
    |_,_=>none
   |some (.slice e),some .string,some x,some y=>match P.info? e,zeroOf P e with
    |some i,some _=>if e=qh∧i.size=1∧i.bytes=1 then some (.apps x y)else none
    |_,_=>none
   |_,_,_,_=>none
  |_,_=>none
 | .call {callee:= .builtin .max,args, ..}=>
  match args.toList with
  | [x,y]=>match cX x,cX y with|some x,some y=>some (.mm true x y)|_,_=>none
  |_=>none
 | .call {callee:= .builtin .min,args, ..}=>
  match args.toList with
  | [x,y]=>match cX x,cX y with|some x,some y=>some (.mm false x y)|_,_=>none
  |_=>none
 | .call {callee:= .builtin .complex,args, ..}=>
  match args.toList with
  | [x,y]=>match cX x,cX y with|some x,some y=>some (.rO .JW x y)|_,_=>none
  |_=>none
 | .call {callee:= .builtin .real,args, ..}=>
  match args.toList with
  | [x]=>(cX x).map fun x=> .rO .real x x
  |_=>none
 | .call {callee:= .builtin .imag,args, ..}=>
  match args.toList with
  | [x]=>(cX x).map fun x=> .rO .imag x x
  |_=>none
 | .makeSlice t l c=>
  match cX l,cX c,P.underlying t with
  |some l,some c,some (.slice e)=>match P.info? e,zeroOf P e with
   |some i,some z=>if 0<i.size then some (.BM i.size i.bytes z l c)else none
   |_,_=>none
  |_,_,_=>none
 | .makeFunc (.func f) first captured=>if first.size=0 then(yR captured.toList).map (.vE f)else none
 | .makeMap t none=>match P.underlying t with|some (.map _ _)=>some .vF|_=>none
 | .mapUpdate t m k v=>
  match P.underlying t,cX m,cX k,cX v with
  |some (.map kt _),some m,some k,some v=>match P.underlying kt with|some .string=>some (.zR m k v)|_=>none
  |_,_,_,_=>none
 | .lookup t m k false=>
  match P.underlying t,cX m,cX k with
  |some (.map kt e),some m,some k=>
   match P.underlying kt,P.info? e with
   |some .string,some i=>match i.zero with|some z=>(sZ z).map (.xd m k)|none=>none
   |_,_=>none
  |_,_,_=>none
 |_=>none
def v7 (ops:Array Oper):Option (Nat×Bool)→Option (Option (Nat×Bool))
 |none=>some none
 |some (j,b)=>
  match (ops[j]?).bind (·.dst)with
  |some t=>some (some (t,b))
  |none=>none
def enters (f:FuncId):Bool:=
 match P.funcs[f]? with
 |some fn=>fn.body.isSome && !(fn.name == "runtime.NumGoroutine")
 |none=>false
def frozenIn (ops:Array Oper) (dst:Option Nat):Bool:=
 ops.toList.any fun o=>match o.op,dst with
  | .convert s d (.tmp t),some t'=>t==t' && s==d
  |_,_=>false
def GO (o:Oper):Option (Bool×X):=
 match o.op with
 | .binOp op t x (.const (.slice none 0 0)) _=>
  match P.underlying t,op,cX x with
  |some (.slice _), .eql,some x=>some (false,x)
  |some (.slice _), .neq,some x=>some (true,x)
  |_,_,_=>none
 |_=>none
def Yv (nt:Nat) (dst:Option Nat):Bool:=
 match dst with
 |some d=>decide (d<nt)
 |none=>true
def tA (ops:Array Oper) (o:Oper) (g:Option (Nat×Bool)):Option AI:=
 match o.op with
 | .call {callee:= .value (.func f),args, ..}=>if enters P f then(yR args.toList).map (.call o.dst g f)else none
 | .call {callee:= .value (.tmp t),args, ..}=>(yR args.toList).map (.jM o.dst g t)
 | _=>
  match GO P o with
  |some (neg,x)=>some (.nil o.dst g neg x)
  |none=>
   match Fe P o with
   |some (.dq z k n ps)=>some (.op o.dst g (if frozenIn ops o.dst then .vX z k n ps else .dq z k n ps))
   |some ao=>some (.op o.dst g ao)
   |none=>none
def cI (nt:Nat) (ops:Array Oper) (o:Oper):Option AI:=
 match v7 ops o.guard with
 |none=>none
 |some g=>if Yv nt o.dst=true then tA P ops o g else none
def rR (nt:Nat) (ops:Array Oper):List Oper→Option (List AI)
 | []=>some []
 |o::r=>match cI P nt ops o,rR nt ops r with|some i,some is=>some (i::is)|_,_=>none
def Yw (is:List AI) (af:List (List Nat)):Option AC:=
 if JZ is af (J0 [] af) (R5 is af)then some (.par is (R5 is af))else none
def cC (nt:Nat):Code→Option AC
 | .skip=>some .skip
 | .region _ ops false=>(rR P nt ops ops.toList).map .run
 | .region _ ops true=>if P.follows .mixedOrders then(rR P nt ops ops.toList).bind (Yw · (ops.toList.map nE))else none
 | .seq a b=>match cC nt a,cC nt b with|some a,some b=>some (.seq a b)|_,_=>none
 | .cond x a b=>match cX x,cC nt a,cC nt b with|some x,some a,some b=>some (.cond x a b)|_,_,_=>none
 | .block id a=>(cC nt a).map (.block id)
 | .loop a=>(cC nt a).map .loop
 | .exit id=>some (.exit id)
 | .scope a=>(cC nt a).map .scope
 | .label l=>some (.label l)
 | .goto l=>some (.goto l)
 | .ret=>some .ret
 |_=>none
def En:List ResultVar→Option (List (Nat×Option (Bool×Nat)))
 | []=>some []
 | .tmp t::r=>(En r).map ((t,none):: ·)
 | .cell a t::r=>match rQ P t,P.info? t,En r with
  |some g,some i,some r'=>some ((a,some (g,i.size))::r')
  |_,_,_=>none
def cF (fn:Func):Option AF:=
 match fn.body with
 |some c=>match cC P fn.ntmps c,En P fn.results.toList with
  |some b,some r=>some ⟨fn.ntmps,r,b⟩
  |_,_=>none
 |none=>none
end
end Go.Abs
namespace Go.Abs
theorem jx {w:World} {b:Nat} {vs:Array Value} {T:TypeId} {fr:Nat×Nat} (h:w.heap[b]? = some (.cells vs T fr)) (o:Nat):w.cell? ⟨b,o,none⟩=vs[o]? :=by
 simp[World.cell?,h]
theorem kM {w:World} {b:Nat} {o:Obj} (h:w.heap[b]? = some o):b<w.heap.size:=(Array.getElem?_eq_some_iff.1 h).1
section
variable {M:Map} {s:St} {w:World}
theorem Rel.BS (r:Rel M s w) {b o:Nat} {v:Value} (h:M.G b o=some v):b<w.heap.size:=World.block_lt_of_cell? w _ (r.comm b o v h).1
theorem Rel.OR (r:Rel M s w) {b:Nat} (h:w.heap.size≤b) (o:Nat):M.G b o=none:=by
 cases e:M.G b o with
 |none=>rfl
 |some v=>have:=r.BS e;omega
theorem Rel.qX (r:Rel M s w) {o:Nat} (h:o<s.ah.length):M.mu o<w.heap.size:=by
 obtain⟨vs,T,hh,_⟩:=r.obj o _ (List.getElem?_eq_getElem h)
 exact hh.lt
theorem Rel.tB (r:Rel M s w) {t b c z:Nat} (h:s.live t) (e:M.be t=some (b,c,z)):b<w.heap.size:=by
 obtain⟨n,hn⟩:=h
 rcases r.tok t n hn with ⟨h1,_⟩|⟨b',cap,size,vs,T,h1,h2,_⟩
 ·rw[e]at h1;cases h1
 ·rw[e]at h1;cases h1;exact kM h2
theorem Rel.of_heap (r:Rel M s w) {w':World} (h:w'.heap=w.heap):Rel M s w':=by
 refine⟨fun b o v e=>?_,fun o ds e=>?_,r.ki,r.inj,fun t n e=>?_,r.fy,r.gd⟩
 ·obtain⟨h1,h2⟩:=r.comm b o v e
  refine⟨?_,h2⟩
  rw[← h1];simp[World.cell?,h]
 ·rw[h];exact r.obj o ds e
 ·rw[h];exact r.tok t n e
theorem Ext.of_heap {w':World} (h:w'.heap=w.heap) (h1:w'.os=w.os) (h2:w'.tape=w.tape) (h3:w'.output=w.output):Ext M s w M s w':=
 ⟨Le.refl M s,fun _ _ _ _=>by rw[h],fun o h h'=>by rcases h with h|h;omega;exact(h rfl).elim,fun t b c z h e=> .inl ⟨h,c,z,e⟩,fun _ _ h=>(h rfl).elim,by rw[h];exact Nat.le_refl _,h1,h2,h3⟩
def Map.dZ (M:Map) (n b:Nat) (x:Ob:= .any):Map:= {M with loc:=fun o=>if o=n then(b,x)else M.loc o}
theorem tY (M:Map) {n:Nat} (b:Nat) (x:Ob) {o:Nat} (ho:o<n):(M.dZ n b x).loc o=M.loc o:=by simp[Map.dZ];omega
theorem s5 (s:St) (b:Nat) (ds:List D) (x:Ob:= .any):Le M s (M.dZ s.ah.length b x) {s with ah:=s.ah++ [ds]}:=
 ⟨fun _ _ _ h=>h,by simp,fun o ho=>by rw[tY M b x ho];exact .refl _,Nat.le_refl _,fun t n _ h=>⟨n,h,Nat.le_refl _,fun _=>rfl⟩⟩
theorem Rel.J3 (r:Rel M s w) (ds:List D) (ob:Obj) (vs:Array Value) (T:TypeId) (x:Ob) (yS : ∀ hp:Array Obj,hp[w.heap.size]? = some ob→iT hp (w.heap.size,x) vs T) (hx : ∀ T',x.ty? = some T'→T'=T) (hl:vs.size=ds.length) (h1 : ∀ v∈vs,v.oneCell'=true)
 (h2 : ∀ (i:Nat) (d:D) (v:Value),ds[i]? = some d→vs[i]? = some v→RD (M.dZ s.ah.length w.heap.size x) {s with ah:=s.ah++ [ds]} d v) :
 Rel (M.dZ s.ah.length w.heap.size x) {s with ah:=s.ah++ [ds]} (w.alloc ob)∧
 Ext M s w (M.dZ s.ah.length w.heap.size x) {s with ah:=s.ah++ [ds]} (w.alloc ob):=by
 have le:=s5 (M:=M) s w.heap.size ds x
 have jH : ∀ o,o<s.ah.length→(M.dZ s.ah.length w.heap.size x).loc o=M.loc o:=fun o ho=>tY M _ x ho
 have nG : ∀ o,o<s.ah.length→(M.dZ s.ah.length w.heap.size x).mu o=M.mu o:=fun o ho=>congrArg Prod.fst (jH o ho)
 have dw:(M.dZ s.ah.length w.heap.size x).mu s.ah.length=w.heap.size:=by simp[Map.dZ,Map.mu]
 have ahe:(M.dZ s.ah.length w.heap.size x).ty s.ah.length=x.ty? :=by simp[Map.dZ,Map.ty]
 have ahf:(M.dZ s.ah.length w.heap.size x).loc s.ah.length=(w.heap.size,x):=by simp[Map.dZ]
 refine⟨⟨fun b o v e=>?_,fun o oc e=>?_,fun o ho off=>?_,fun o o' ho od e=>?_,fun t n e=>?_,fun t b c z o hl e ho=>?_,fun t t' b c z c' z' h h' e e'=>r.gd t t' b c z c' z' h h' e e'⟩, ?_⟩
 ·obtain⟨h3,h4⟩:=r.comm b o v e
  refine⟨?_,h4⟩
  rw[World.cell?_alloc_lt]
  ·exact h3
  ·exact r.BS e
 ·rcases Nat.lt_or_ge o s.ah.length with ho | ho
  ·rw [List.getElem?_append_left ho]at e
   obtain⟨fO,T',h3,h4,h5,h6⟩:=r.obj o oc e
   refine⟨fO,T', ?_,h4,⟨h5.1,by rw[le.ty o ho];exact h5.2⟩,fun i d v e1 e2=>(h6 i d v e1 e2).mono le⟩
   rw[jH o ho];exact h3.keep (heap_alloc_old w _ _ h3.lt)
  ·rw [List.getElem?_append_right ho]at e
   have:o=s.ah.length:=by
    have:=(List.getElem?_eq_some_iff.1 e).1
    simp at this;omega
   subst this
   simp at e;subst e
   refine⟨vs,T, ?_,hl,⟨h1,by rw[ahe];exact hx⟩,fun i d v e1 e2=>h2 i d v e1 e2⟩
   rw[ahf];exact yS _ (heap_alloc_new w _)
 ·simp at ho
  rcases Nat.lt_or_ge o s.ah.length with h3|h3
  ·rw[nG o h3];exact r.ki o h3 off
  ·have:o=s.ah.length:=by omega
   subst this
   rw[dw];exact r.OR (Nat.le_refl _) off
 ·simp at ho od
  rcases Nat.lt_or_ge o s.ah.length with h3|h3<;>rcases Nat.lt_or_ge o' s.ah.length with h4|h4
  ·rw[nG o h3,nG o' h4]at e;exact r.inj o o' h3 h4 e
  ·have:o'=s.ah.length:=by omega
   subst this
   rw[nG o h3,dw]at e
   have:=r.qX h3;omega
  ·have:o=s.ah.length:=by omega
   subst this
   rw[nG o' h4,dw]at e
   have:=r.qX h4;omega
  ·omega
 ·rcases r.tok t n e with h3 | ⟨b,cap,size,fO,T',h3,h4,h5⟩
  ·exact .inl h3
  ·exact .inr ⟨b,cap,size,fO,T',h3,by rw[heap_alloc_old w _ _ (kM h4)];exact h4,h5⟩
 ·simp at ho
  rcases Nat.lt_or_ge o s.ah.length with h3|h3
  ·rw[nG o h3];exact r.fy t b c z o hl e h3
  ·have:o=s.ah.length:=by omega
   subst this
   rw[dw]
   have:=r.tB hl e;omega
 ·refine⟨le,fun b hb _ _=>heap_alloc_old w _ b hb,fun o h3 h4=> ?_,fun t b c z h e=> .inl ⟨h,c,z,e⟩,fun _ _ h=>(h rfl).elim,by simp,rfl,rfl,rfl⟩
  simp at h4
  rcases Nat.lt_or_ge o s.ah.length with h5|h5
  ·rcases h3 with h3 | h3
   ·omega
   ·exact(h3 (nG o h5)).elim
  have:o=s.ah.length:=by omega
  subst this
  rw[dw];exact Nat.le_refl _
theorem Rel.J4 (r:Rel M s w) (ds:List D) (vs:Array Value) (T:TypeId) (x:Ob) (hk:x.plain) (hx : ∀ T',x.ty? = some T'→T'=T) (hl:vs.size=ds.length) (h1 : ∀ v∈vs,v.oneCell'=true)
 (h2 : ∀ (i:Nat) (d:D) (v:Value),ds[i]? = some d→vs[i]? = some v→RD (M.dZ s.ah.length w.heap.size x) {s with ah:=s.ah++ [ds]} d v) :
 Rel (M.dZ s.ah.length w.heap.size x) {s with ah:=s.ah++ [ds]} (w.alloc (.cells vs T))∧
 Ext M s w (M.dZ s.ah.length w.heap.size x) {s with ah:=s.ah++ [ds]} (w.alloc (.cells vs T)):=
 r.J3 ds _ vs T x (fun hp e=>iT.of e hk) hx hl h1 h2
theorem Rel.dZ (r:Rel M s w) (ds:List D) (vs:Array Value) (T:TypeId) (hl:vs.size=ds.length) (h1 : ∀ v∈vs,v.oneCell'=true)
 (h2 : ∀ (i:Nat) (d:D) (v:Value),ds[i]? = some d→vs[i]? = some v→RD M s d v) :
 Rel (M.dZ s.ah.length w.heap.size) {s with ah:=s.ah++ [ds]} (w.alloc (.cells vs T))∧
 Ext M s w (M.dZ s.ah.length w.heap.size) {s with ah:=s.ah++ [ds]} (w.alloc (.cells vs T)):=
 r.J4 ds vs T .any trivial (fun _ h=>by cases h) hl h1 fun i d v e1 e2=>(h2 i d v e1 e2).mono (s5 s w.heap.size ds)
theorem rS (cs:List D) (off:Nat) (r:List D) (h:off+r.length≤cs.length) (i:Nat) :
 (iO cs off r)[i]? = if i<off then cs[i]? else if i<off+r.length then r[i - off]? else cs[i]? :=by
 unfold iO
 have hl:(cs.take off).length=off:=by simp;omega
 split
 ·rename_i h1
  rw[List.append_assoc,List.getElem?_append_left (by omega),List.getElem?_take_of_lt h1]
 ·rename_i h1
  rw[List.append_assoc,List.getElem?_append_right (by omega),hl]
  split
  ·rename_i h2
   rw[List.getElem?_append_left (by omega)]
  ·rename_i h2
   rw[List.getElem?_append_right (by omega),List.getElem?_drop]
   congr 1;omega
theorem uJ (cs:List D) (off:Nat) (r:List D) (h:off+r.length≤cs.length):(iO cs off r).length=cs.length:=by
 unfold iO;simp;omega
theorem Rel.OS (P:Program) (r:Rel M s w) {o off:Nat} {cs:List D} (he:s.ah[o]? = some cs) (hk:(M.ob o).plain) (row:List D) (us:List Value) (hu:us.length=row.length) (jI:off+row.length≤cs.length)
 (h1 : ∀ u∈us,u.oneCell'=true) (h2 : ∀ (i:Nat) (d:D) (v:Value),row[i]? = some d→us[i]? = some v→RD M s d v) :
 ∃ w',(storeCells (⟨M.mu o,off,none⟩:Addr) us).run P w = .ok () w'∧Rel M {s with ah:=s.ah.set o (iO cs off row)} w'∧Ext M s w M {s with ah:=s.ah.set o (iO cs off row)} w':=by
 obtain⟨vs,T,hh,hs,⟨iz,Yx⟩,jO⟩:=r.obj o cs he
 replace hh:=hh.cells hk
 have ho:o<s.ah.length:=(List.getElem?_eq_some_iff.1 he).1
 have jy:=run_storeCells_at P (M.mu o) off T us 0 vs w hh (by omega) h1
 simp only[Nat.add_zero]at jy
 have le:Le M s M {s with ah:=s.ah.set o (iO cs off row)}:=
  ⟨fun _ _ _ h=>h,by simp,fun _ _=> .refl _,Nat.le_refl _,fun t n _ h=>⟨n,h,Nat.le_refl _,fun _=>rfl⟩⟩
 generalize dw:(vs.toList.take off++us++vs.toList.drop (off+us.length)).toArray=jl at jy
 have rT:jl.size=vs.size:=by rw[← dw];simp;omega
 have hY : ∀ i,jl[i]? = if i<off then vs[i]? else if i<off+row.length then us[i - off]? else vs[i]? :=by
  intro i
  rw[← dw]
  simp only[List.getElem?_toArray]
  have hl:(vs.toList.take off).length=off:=by simp;omega
  split
  ·rename_i h3
   rw[List.append_assoc,List.getElem?_append_left (by omega),List.getElem?_take_of_lt h3];simp
  ·rename_i h3
   rw[List.append_assoc,List.getElem?_append_right (by omega),hl]
   split
   ·rename_i h4
    rw[List.getElem?_append_left (by omega)]
   ·rename_i h4
    rw[List.getElem?_append_right (by omega),List.getElem?_drop]
    rw[show off+us.length+(i - off - us.length)=i by omega];simp
 have mL : ∀ b,b≠M.mu o→(w.setRow (M.mu o) jl).heap[b]? = w.heap[b]? :=fun b hb=>setRow_other w (M.mu o) b _ hb
 refine⟨_,jy,⟨fun b q v e=>?_,fun o' ds e=>?_,fun q hq x8=>r.ki q (by simpa using hq) x8,fun q q' hq np e=>r.inj q q' (by simpa using hq) (by simpa using np) e,fun t n e=>?_,
  fun t b c z q hl e hq=>r.fy t b c z q hl e (by simpa using hq),fun t t' b c z c' z' h h' e e'=>r.gd t t' b c z c' z' h h' e e'⟩, ?_⟩
 ·obtain⟨h3,h4⟩:=r.comm b q v e
  refine⟨?_,h4⟩
  have hb:b≠M.mu o:=fun eq=>by subst eq;rw[r.ki o ho q]at e;cases e
  rw[← h3]
  simp[World.cell?,mL b hb]
 ·rw [List.getElem?_set]at e
  split at e
  ·rename_i heq
   subst heq
   simp at e
   obtain⟨_,rfl⟩:=e
   refine⟨jl,T,iT.of (l:=M.loc o) (setRow_heap w (M.mu o) vs jl T (0,0) hh) hk,by rw[rT,hs,uJ cs off row jI],⟨fun v hv=>?_,Yx⟩,fun i d v e1 e2=>?_⟩
   ·rw [← dw]at hv
    simp at hv
    rcases hv with hv|hv|hv
    ·exact iz v (Array.mem_toList_iff.1 (List.mem_of_mem_take hv))
    ·exact h1 v hv
    ·exact iz v (Array.mem_toList_iff.1 (List.mem_of_mem_drop hv))
   ·rw [rS cs off row jI]at e1
    rw[hY]at e2
    split at e1
    ·rename_i h3;simp only[h3,if_true]at e2;exact(jO i d v e1 e2).mono le
    ·rename_i h3
     simp only[h3,if_false]at e2
     split at e1
     ·rename_i h4;simp only[h4,if_true]at e2;exact(h2 _ d v e1 e2).mono le
     ·rename_i h4;simp only[h4,if_false]at e2;exact(jO i d v e1 e2).mono le
  ·rename_i eW
   obtain⟨fO,T',h3,h4,h5,h6⟩:=r.obj o' ds e
   have od:o'<s.ah.length:=(List.getElem?_eq_some_iff.1 e).1
   refine⟨fO,T', ?_,h4,h5,fun i d v e1 e2=>(h6 i d v e1 e2).mono le⟩
   exact h3.keep (mL _ (fun eq=>eW (r.inj o o' ho od eq.symm)))
 ·rcases r.tok t n e with h3 | ⟨b,cap,size,fO,T',h3,h4,h5⟩
  ·exact .inl h3
  ·refine .inr ⟨b,cap,size,fO,T',h3, ?_,h5⟩
   rw[mL b (fun eq=>r.fy t b cap size o ⟨n,e⟩ h3 ho eq.symm)];exact h4
 ·refine⟨le,fun b hb h3 _=>mL b (fun eq=>h3 o ho eq.symm),fun q h3 h4=> ?_,fun t b c z h e=> .inl ⟨h,c,z,e⟩,fun _ _ h=>(h rfl).elim,by simp,rfl,rfl,rfl⟩
  simp at h4;rcases h3 with h3|h3;omega;exact(h3 rfl).elim
def Map.fR (M:Map) (b n:Nat) (vs:Array Value):Map:= {M with G:=fun b' o=>if b'=b then(if o<n then vs[o]? else none)else M.G b' o}
theorem R7 (r:Rel M s w) (n:Nat) (vs:Array Value):Le M s (M.fR w.heap.size n vs) s:=
 ⟨fun b o v h=>by
  have hb:b≠w.heap.size:=fun e=>by have:=r.BS h;omega
  simp[Map.fR,hb,h],Nat.le_refl _,fun _ _=> .refl _,Nat.le_refl _,fun t n _ h=>⟨n,h,Nat.le_refl _,fun _=>rfl⟩⟩
theorem Rel.fR (r:Rel M s w) (n:Nat) (vs:Array Value) (T:TypeId) (fr:Nat×Nat) (h1 : ∀ v∈vs,v.oneCell'=true) :
 Rel (M.fR w.heap.size n vs) s (w.alloc (.cells vs T fr))∧Ext M s w (M.fR w.heap.size n vs) s (w.alloc (.cells vs T fr)):=by
 have le:=R7 r n vs
 have hold : ∀ b,b<w.heap.size→∀ o,(M.fR w.heap.size n vs).G b o=M.G b o:=fun b hb o=>by
  have:b≠w.heap.size:=by omega
  simp[Map.fR,this]
 refine⟨⟨fun b o v e=>?_,fun o ds e=>?_,fun o ho off=>?_,r.inj,fun t k e=>?_,r.fy,r.gd⟩, ?_⟩
 ·by_cases hb:b=w.heap.size
  ·subst hb
   simp[Map.fR]at e
   obtain⟨_,e⟩:=e
   refine⟨by rw[jx (heap_alloc_new w _)];exact e,h1 v (Array.mem_of_getElem? e)⟩
  ·simp [Map.fR,hb]at e
   obtain⟨h3,h4⟩:=r.comm b o v e
   refine⟨?_,h4⟩
   rw[World.cell?_alloc_lt]
   ·exact h3
   ·exact r.BS e
 ·obtain⟨fO,T',h3,h4,h5,h6⟩:=r.obj o ds e
  exact⟨fO,T',h3.keep (heap_alloc_old w _ _ h3.lt),h4,h5,fun i d v e1 e2=>(h6 i d v e1 e2).mono le⟩
 ·rw [hold]
  ·exact r.ki o ho off
  ·exact r.qX ho
 ·rcases r.tok t k e with h3 | ⟨b,cap,size,fO,T',h3,h4,h5,h6,h7⟩
  ·exact .inl h3
  ·exact .inr ⟨b,cap,size,fO,T',h3,by rw[heap_alloc_old w _ _ (kM h4)];exact h4,h5,h6,fun off ho=>by rw[hold b (kM h4)];exact h7.1 off ho,h7.2⟩
 ·refine⟨le,fun b hb _ _=>heap_alloc_old w _ b hb,fun o h3 h4=>by rcases h3 with h3 | h3;omega;exact(h3 rfl).elim,fun t b c z h e=> .inl ⟨h,c,z,e⟩,fun b o h=> ?_,by simp,rfl,rfl,rfl⟩
  rcases Nat.lt_or_ge b w.heap.size with hb|hb
  ·exact(h (hold b hb o)).elim
  ·exact .inl hb
def Map.fi (M:Map) (t:Nat) (x:Option (Nat×Nat×Nat)):Map:= {M with be:=fun t'=>if t'=t then x else M.be t'}
theorem Rel.Yy (r:Rel M s w) (n b cap size:Nat) (vs:Array Value) (T:TypeId) (hb:w.heap[b]? = some (.cells vs T (0,0))) (dP:vs.size=cap*zs size) (hn:n≤cap) (hy:size=0→T=qh)
 (hG : ∀ off,n*zs size≤off→M.G b off=none) (ho : ∀ o,o<s.ah.length→M.mu o≠b) (ht : ∀ t c z,s.live t→M.be t≠some (b,c,z)) :
 Rel (M.fi s.ay.length (some (b,cap,size))) {s with ay:=s.ay++ [some n]} w∧Le M s (M.fi s.ay.length (some (b,cap,size))) {s with ay:=s.ay++ [some n]}:=by
 have iU : ∀ t,St.live {s with ay:=s.ay++ [some n]} t→s.live t∨t=s.ay.length:=by
  rintro t ⟨k,hk⟩
  rcases Nat.lt_or_ge t s.ay.length with h|h
  ·rw[List.getElem?_append_left h]at hk;exact .inl ⟨k,hk⟩
  ·have:=(List.getElem?_eq_some_iff.1 hk).1
   simp at this;exact .inr (by omega)
 have hD : ∀ t,s.live t→t<s.ay.length:=fun t ⟨k,hk⟩=>(List.getElem?_eq_some_iff.1 hk).1
 have hold : ∀ t,t<s.ay.length→(M.fi s.ay.length (some (b,cap,size))).be t=M.be t:=fun t h=>by simp[Map.fi];omega
 have dw:(M.fi s.ay.length (some (b,cap,size))).be s.ay.length=some (b,cap,size):=by simp[Map.fi]
 have le:Le M s (M.fi s.ay.length (some (b,cap,size))) {s with ay:=s.ay++ [some n]}:=
  ⟨fun _ _ _ h=>h,Nat.le_refl _,fun _ _=> .refl _,by simp,fun t k h e=>by
   rw[List.getElem?_append_left h]at e
   exact⟨k,e,Nat.le_refl _,fun _=>hold t h⟩⟩
 refine⟨⟨r.comm,fun o ds e=>?_,r.ki,r.inj,fun t k e=>?_,fun t b' c z o hl e od=>?_,fun t t' b' c z c' z' h h' e e'=>?_⟩,le⟩
 ·obtain⟨fO,T',h3,h4,h5,h6⟩:=r.obj o ds e
  exact⟨fO,T',h3,h4,h5,fun i d v e1 e2=>(h6 i d v e1 e2).mono le⟩
 ·rcases Nat.lt_or_ge t s.ay.length with h | h
  ·rw [List.getElem?_append_left h]at e
   rw[hold t h];exact r.tok t k e
  ·have:=(List.getElem?_eq_some_iff.1 e).1
   simp at this
   have:t=s.ay.length:=by omega
   subst this
   simp at e;subst e
   exact .inr ⟨b,cap,size,vs,T,dw,hb,dP,hn,hG,hy⟩
 ·rcases iU t hl with h | h
  ·rw[hold t (hD t h)]at e;exact r.fy t b' c z o h e od
  ·subst h;rw[dw]at e;cases e;exact ho o od
 ·rcases iU t h with h | h <;> rcases iU t' h' with h' | h'
  ·rw[hold t (hD t h)]at e;rw[hold t' (hD t' h')]at e';exact r.gd t t' b' c z c' z' h h' e e'
  ·subst h';rw[dw]at e';cases e';rw[hold t (hD t h)]at e;exact(ht t c z h e).elim
  ·subst h;rw[dw]at e;cases e;rw[hold t' (hD t' h')]at e';exact(ht t' c' z' h' e').elim
  ·omega
theorem Rel.ahg (r:Rel M s w) (t n n' b cap size:Nat) (vs:Array Value) (T:TypeId) (Fg:s.ay[t]? = some (some n)) (hnn:n<n') (hb:w.heap[b]? = some (.cells vs T (0,0))) (dP:vs.size=cap*zs size) (hn:n'≤cap) (hy:size=0→T=qh)
 (hG : ∀ off,n'*zs size≤off→M.G b off=none) (ho : ∀ o,o<s.ah.length→M.mu o≠b) (ht : ∀ t c z,s.live t→M.be t≠some (b,c,z)) :
 Rel (M.fi t (some (b,cap,size))) {s with ay:=s.ay.set t (some n')} w∧Le M s (M.fi t (some (b,cap,size))) {s with ay:=s.ay.set t (some n')}:=by
 have vn:t<s.ay.length:=(List.getElem?_eq_some_iff.1 Fg).1
 have iU : ∀ q,St.live {s with ay:=s.ay.set t (some n')} q→s.live q:=by
  rintro q ⟨k,hk⟩
  rw[List.getElem?_set]at hk
  split at hk
  ·rename_i h;subst h;exact⟨n,Fg⟩
  ·exact⟨k,hk⟩
 have hold : ∀ q,q≠t→(M.fi t (some (b,cap,size))).be q=M.be q:=fun q h=>by simp[Map.fi,h]
 have dw:(M.fi t (some (b,cap,size))).be t=some (b,cap,size):=by simp[Map.fi]
 have le:Le M s (M.fi t (some (b,cap,size))) {s with ay:=s.ay.set t (some n')}:=
  ⟨fun _ _ _ h=>h,Nat.le_refl _,fun _ _=> .refl _,by simp,fun q k h e=>by
   rw[List.getElem?_set]at e
   split at e
   ·rename_i h2;subst h2
    simp at e;subst e
    exact⟨n,Fg,by omega,fun h=>by omega⟩
   ·rename_i h2
    exact⟨k,e,Nat.le_refl _,fun _=>hold q (fun h=>h2 h.symm)⟩⟩
 refine⟨⟨r.comm,fun o ds e=>?_,r.ki,r.inj,fun q k e=>?_,fun q b' c z o hl e od=>?_,fun q q' b' c z c' z' h h' e e'=>?_⟩,le⟩
 ·obtain⟨fO,T',h3,h4,h5,h6⟩:=r.obj o ds e
  exact⟨fO,T',h3,h4,h5,fun i d v e1 e2=>(h6 i d v e1 e2).mono le⟩
 ·rw [List.getElem?_set]at e
  split at e
  ·rename_i h2;subst h2
   simp at e;subst e
   exact .inr ⟨b,cap,size,vs,T,dw,hb,dP,hn,hG,hy⟩
  ·rename_i h2
   rw[hold q (fun h=>h2 h.symm)];exact r.tok q k e
 ·by_cases h:q=t
  ·subst h;rw[dw]at e;cases e;exact ho o od
  ·rw[hold q h]at e;exact r.fy q b' c z o (iU q hl) e od
 ·by_cases h1:q=t <;> by_cases h2:q'=t
  ·omega
  ·subst h1;rw[dw]at e;cases e;rw[hold q' h2]at e';exact(ht q' c' z' (iU q' h') e').elim
  ·subst h2;rw[dw]at e';cases e';rw[hold q h1]at e;exact(ht q c z (iU q h) e).elim
  ·rw[hold q h1]at e;rw[hold q' h2]at e';exact r.gd q q' b' c z c' z' (iU q h) (iU q' h') e e'
def Map.fix (M:Map) (b lo:Nat) (us:List Value):Map:=
 {M with G:=fun b' o=>if b'=b∧lo≤o∧o<lo+us.length then us[o - lo]? else M.G b' o}
theorem Rel.ahh (r:Rel M s w) (t n m b cap z size:Nat) (us:List Value) (hz:zs z=size) (Fg:s.ay[t]? = some (some n)) (lr:M.be t=some (b,cap,z)) (DX:us.length=m*size) (kY:n+m≤cap) (hm:0<m)
 (h1 : ∀ u∈us,u.oneCell'=true) (vs:Array Value) (T:TypeId) (hh:w.heap[b]? = some (.cells vs T (0,0))) (dP:vs.size=cap*size) (hy:z=0→T=qh) :
 Rel (M.fix b (n*size) us) {s with ay:=s.ay.set t (some (n+m))} (w.setRow b (vs.toList.take (n*size)++us++vs.toList.drop (n*size+us.length)).toArray)∧
 Ext M s w (M.fix b (n*size) us) {s with ay:=s.ay.set t (some (n+m))} (w.setRow b (vs.toList.take (n*size)++us++vs.toList.drop (n*size+us.length)).toArray):=by
 have vn:t<s.ay.length:=(List.getElem?_eq_some_iff.1 Fg).1
 have yT:s.live t:=⟨n,Fg⟩
 have OT : ∀ off,n*size≤off→M.G b off=none:=by
  rcases r.tok t n Fg with ⟨h3,_⟩|⟨b',ri,zV,fO,T',h3,h4,h5,h6,h7⟩
  ·rw[lr]at h3;cases h3
  ·rw[lr]at h3;cases h3;rw[← hz];exact h7.1
 have jI:n*size+us.length≤vs.size:=by rw[DX,dP, ← Nat.add_mul];exact Nat.mul_le_mul_right _ kY
 have iU : ∀ q,St.live {s with ay:=s.ay.set t (some (n+m))} q→s.live q:=by
  rintro q ⟨k,hk⟩
  rw[List.getElem?_set]at hk
  split at hk
  ·rename_i h;subst h;exact yT
  ·exact⟨k,hk⟩
 generalize dw:(vs.toList.take (n*size)++us++vs.toList.drop (n*size+us.length)).toArray=jl
 have rT:jl.size=vs.size:=by rw[← dw];simp;omega
 have hY : ∀ i,jl[i]? = if i<n*size then vs[i]? else if i<n*size+us.length then us[i - n*size]? else vs[i]? :=by
  intro i
  rw[← dw]
  simp only[List.getElem?_toArray]
  have hl:(vs.toList.take (n*size)).length=n*size:=by simp;omega
  split
  ·rename_i h3
   rw[List.append_assoc,List.getElem?_append_left (by omega),List.getElem?_take_of_lt h3];simp
  ·rename_i h3
   rw[List.append_assoc,List.getElem?_append_right (by omega),hl]
   split
   ·rename_i h4
    rw[List.getElem?_append_left (by omega)]
   ·rename_i h4
    rw[List.getElem?_append_right (by omega),List.getElem?_drop]
    rw[show n*size+us.length+(i - n*size - us.length)=i by omega];simp
 have eH:(w.setRow b jl).heap[b]? = some (.cells jl T (0,0)):=setRow_heap w b vs jl T (0,0) hh
 have mL : ∀ q,q≠b→(w.setRow b jl).heap[q]? = w.heap[q]? :=fun q hq=>setRow_other w b q _ hq
 have le:Le M s (M.fix b (n*size) us) {s with ay:=s.ay.set t (some (n+m))}:=by
  refine⟨fun b' o v h=>?_,Nat.le_refl _,fun _ _=> .refl _,by simp,fun q k h e=>?_⟩
  ·show(if b'=b∧n*size≤o∧o<n*size+us.length then us[o - n*size]? else M.G b' o)=some v
   rw[if_neg]
   ·exact h
   ·rintro⟨rfl,h3,_⟩;rw[OT o h3]at h;cases h
  ·rw [List.getElem?_set]at e
   split at e
   ·rename_i h2;subst h2
    simp at e;subst e
    exact⟨n,Fg,by omega,fun h=>by omega⟩
   ·exact⟨k,e,Nat.le_refl _,fun _=>rfl⟩
 have qP : ∀ b' o,b'≠b→(M.fix b (n*size) us).G b' o=M.G b' o:=fun b' o h=>by simp[Map.fix,h]
 refine⟨⟨fun b' o v e=>?_,fun o ds e=>?_,fun o ho off=>?_,r.inj,fun q k e=>?_,fun q b' c z o hl e od=>r.fy q b' c z o (iU q hl) e od,
  fun q q' b' c z c' z' h h' e e'=>r.gd q q' b' c z c' z' (iU q h) (iU q' h') e e'⟩, ?_⟩
 ·by_cases hb:b'=b
  ·subst hb
   rw[jx eH,hY]
   have e':(if b'=b'∧n*size≤o∧o<n*size+us.length then us[o - n*size]? else M.G b' o)=some v:=e
   by_cases h3:n*size≤o
   ·by_cases h4:o<n*size+us.length
    ·rw [if_pos ⟨rfl,h3,h4⟩]at e'
     rw[if_neg (by omega),if_pos h4]
     exact⟨e',h1 v (List.mem_of_getElem? e')⟩
    ·rw[if_neg (fun h=>h4 h.2.2),OT o h3]at e';cases e'
   ·rw [if_neg (fun h=>h3 h.2.1)]at e'
    obtain⟨h5,h6⟩:=r.comm b' o v e'
    rw[jx hh]at h5
    rw[if_pos (by omega)]
    exact⟨h5,h6⟩
  ·rw [qP b' o hb]at e
   obtain⟨h5,h6⟩:=r.comm b' o v e
   refine⟨?_,h6⟩
   rw[← h5]
   simp[World.cell?,mL b' hb]
 ·obtain⟨fO,T',h3,h4,h5,h6⟩:=r.obj o ds e
  have ho:o<s.ah.length:=(List.getElem?_eq_some_iff.1 e).1
  refine⟨fO,T', ?_,h4,h5,fun i d v e1 e2=>(h6 i d v e1 e2).mono le⟩
  exact h3.keep (mL _ (r.fy t b cap z o yT lr ho))
 ·show(M.fix b (n*size) us).G (M.mu o) off=none
  rw[qP _ _ (r.fy t b cap z o yT lr ho)];exact r.ki o ho off
 ·rw [List.getElem?_set]at e
  split at e
  ·rename_i h2;subst h2
   simp at e;subst e
   refine .inr ⟨b,cap,z,jl,T,lr,eH,by rw[rT,dP,hz],kY,fun off ho=>?_,hy⟩
   rw[hz]at ho
   show(if b=b∧n*size≤off∧off<n*size+us.length then us[off - n*size]? else M.G b off)=none
   rw[Nat.add_mul]at ho
   rw[if_neg (by rintro⟨_,_,h⟩;omega)]
   exact OT off (by omega)
  ·rename_i h2
   rcases r.tok q k e with h3|⟨b',ri,zV,fO,T',h3,h4,h5,h6,h7⟩
   ·exact .inl h3
   ·have eW:b'≠b:=fun h=>h2 (r.gd t q b cap z ri zV yT ⟨k,e⟩ lr (by rw [h3,h]))
    exact .inr ⟨b',ri,zV,fO,T',h3,by rw[mL b' eW];exact h4,h5,h6,fun off ho=>by rw[qP b' off eW];exact h7.1 off ho,h7.2⟩
 ·refine⟨le,fun q _ _ h4=>mL q (fun h=>h4 t cap z yT (by rw [lr,h])),fun o h3 h4=>by simp at h4;rcases h3 with h3 | h3;omega;exact(h3 rfl).elim,fun q b' c z h e=> .inl ⟨iU q h,c,z,e⟩,fun b' o h=> ?_,by simp,rfl,rfl,rfl⟩
  by_cases hb:b'=b
  ·exact .inr ⟨t,cap,z,yT,by rw[lr,hb]⟩
  ·exact(h (qP b' o hb)).elim
theorem Rel.freeze (r:Rel M s w) {b:Nat} (off n:Nat) (ho : ∀ o,o<s.ah.length→M.mu o≠b) (ht : ∀ t c z,s.live t→M.be t≠some (b,c,z)) :
 Rel M s (w.freeze ⟨b,off,none⟩ n)∧(∀ q,q≠b→(w.freeze ⟨b,off,none⟩ n).heap[q]? = w.heap[q]?)∧(w.freeze ⟨b,off,none⟩ n).heap.size=w.heap.size∧
 (w.freeze ⟨b,off,none⟩ n).os=w.os∧(w.freeze ⟨b,off,none⟩ n).tape=w.tape∧(w.freeze ⟨b,off,none⟩ n).output=w.output:=by
 by_cases hn:n=0
 ·simp[World.freeze,hn,r]
 ·have hh : ∀ q,q≠b→(w.freeze ⟨b,off,none⟩ n).heap[q]? = w.heap[q]? :=fun q hq=>by
   simp[World.freeze,hn,Array.getElem?_modify,Ne.symm hq]
  have iV : ∀ q o,(w.freeze ⟨b,off,none⟩ n).cell? ⟨q,o,none⟩=w.cell? ⟨q,o,none⟩:=by
   intro q o
   by_cases hq:q=b
   ·subst hq
    unfold World.cell?
    simp only[World.freeze,hn,if_false,Array.getElem?_modify,if_true]
    cases h:w.heap[q]? with
    |none=>rfl
    |some x=>cases x<;>rfl
   ·simp[World.cell?,hh q hq]
  refine⟨⟨fun q o v e=>?_,fun o ds e=>?_,r.ki,r.inj,fun t k e=>?_,r.fy,r.gd⟩,hh,by simp[World.freeze,hn],by simp[World.freeze,hn],by simp[World.freeze,hn],by simp[World.freeze,hn]⟩
  ·rw[iV];exact r.comm q o v e
  ·obtain⟨vs,T,h1,h2⟩:=r.obj o ds e
   exact⟨vs,T,h1.keep (hh _ (ho o (List.getElem?_eq_some_iff.1 e).1)),h2⟩
  ·rcases r.tok t k e with h3 | ⟨b',cap,size,vs,T,h3,h4,h5⟩
   ·exact .inl h3
   ·refine .inr ⟨b',cap,size,vs,T,h3, ?_,h5⟩
    rw[hh]
    ·exact h4
    ·rintro rfl;exact ht t cap size ⟨k,e⟩ h3
theorem Rel.ahi (r:Rel M s w) (t:Nat):Rel M {s with ay:=s.ay.set t none} w∧Le M s M {s with ay:=s.ay.set t none}:=by
 have iU : ∀ q,St.live {s with ay:=s.ay.set t none} q→s.live q:=by
  rintro q ⟨k,hk⟩
  rw[List.getElem?_set]at hk
  split at hk
  ·split at hk<;>simp at hk
  ·exact⟨k,hk⟩
 have uK : ∀ (q k:Nat),(s.ay.set t none)[q]? = some (some k)→s.ay[q]? = some (some k):=by
  intro q k e
  rw[List.getElem?_set]at e
  split at e
  ·split at e<;>simp at e
  ·exact e
 have le:Le M s M {s with ay:=s.ay.set t none}:=
  ⟨fun _ _ _ h=>h,Nat.le_refl _,fun _ _=> .refl _,by simp,fun q k _ e=>⟨k,uK q k e,Nat.le_refl _,fun _=>rfl⟩⟩
 refine⟨⟨r.comm,fun o ds e=>?_,r.ki,r.inj,fun q k e=>r.tok q k (uK q k e),fun q b' c z o hl e od=>r.fy q b' c z o (iU q hl) e od,
  fun q q' b' c z c' z' h h' e e'=>r.gd q q' b' c z c' z' (iU q h) (iU q' h') e e'⟩,le⟩
 obtain⟨fO,T',h3,h4,h5,h6⟩:=r.obj o ds e
 exact⟨fO,T',h3,h4,h5,fun i d v e1 e2=>(h6 i d v e1 e2).mono le⟩
end
end Go.Abs
namespace Go.Abs
section
variable {M:Map} {s:St} {w:World}
theorem RD.iL {k:IntKind} {n:Int} {v:Value} (h:RD M s (.int k n) v):v = .int k n:=by cases h;rfl
theorem RD.oo {b:Bool} {v:Value} (h:RD M s (.bool b) v):v = .bool b:=by cases h;rfl
theorem RD.lY {l:List UInt8} {v:Value} (h:RD M s (.str l) v):v = .string ⟨⟨l⟩⟩:=by cases h;rfl
theorem RD.s6 {v:Value} (h:RD M s .ew v):v = .pointer none:=by cases h;rfl
theorem RD.s8 {o off:Nat} {v:Value} (h:RD M s (.ptr o off) v):v = .pointer (some ⟨M.mu o,off,none⟩)∧o<s.ah.length:=by
 cases h with|ptr _ _ h hm=>exact⟨rfl,h⟩
theorem RD.BT {o off:Nat} {v:Value} (h:RD M s (.ptr o off) v):(M.ob o).plain:=by cases h with|ptr _ _ h hm=>exact hm
theorem RD.J5 {o:Nat} {v:Value} (h:RD M s (.gb o) v):v = .map (some (M.mu o))∧o<s.ah.length∧M.ob o = .map:=by cases h with|gb _ h hm=>exact⟨rfl,h,hm⟩
theorem RD.yU {z o g len:Nat} {v:Value} (h:RD M s (.eQ z o g len) v) : ∃ b cap A,v = .slice (some ⟨b,0,none⟩) len cap∧o<s.ah.length∧M.ob o = .arr z A∧A g=some (b,cap)∧len≤cap:=by
 cases h with|eQ _ _ _ _ b cap A h hm ha hl=>exact⟨b,cap,A,rfl,h,hm,ha,hl⟩
theorem RD.Eo {o g off:Nat} {v:Value} (h:RD M s (.fG o g off) v) : ∃ z b cap A,v = .pointer (some ⟨b,off,none⟩)∧o<s.ah.length∧M.ob o = .arr z A∧A g=some (b,cap):=by
 cases h with|fG z _ _ _ b cap A h hm ha=>exact⟨z,b,cap,A,rfl,h,hm,ha⟩
theorem RD.Ep {z:Nat} {v:Value} (h:RD M s (.eJ z) v) : ∃ a,v = .slice a 0 0:=by cases h with|eJ _ a=>exact⟨a,rfl⟩
theorem RD.Nq {f:Nat} {ds:List D} {v:Value} (h:RD M s (.gw f ds) v) : ∃ vs:Array Value,v = .func (.func f) #[] vs∧ds.length=vs.size∧
 ∀ (i:Nat) (d:D) (v:Value),ds[i]? = some d→vs[i]? = some v→RD M s d v:=by
 cases h with|gw _ _ vs h1 h2=>exact⟨vs,rfl,h1,h2⟩
theorem RD.zW {row:List D} {off:Nat} {v:Value} (h:RD M s (.dI row off) v) : ∃ b k,v = .pointer (some ⟨b,k+off,none⟩)∧
 (∀ (i:Nat) (d:D),row[i]? = some d→∃ u,M.G b (k+i)=some u)∧(∀ (i:Nat) (d:D) (u:Value),row[i]? = some d→M.G b (k+i)=some u→RD M s d u):=by
 cases h with|dI _ _ b k h1 h2=>exact⟨b,k,rfl,h1,h2⟩
theorem RD.GQ {ds:List D} {v:Value} (h:RD M s (.agg ds) v) : ∃ vs:Array Value,v = .agg vs∧ds.length=vs.size∧(∀ v∈vs,v.oneCell'=true)∧
 ∀ (i:Nat) (d:D) (v:Value),ds[i]? = some d→vs[i]? = some v→RD M s d v:=by
 cases h with|agg _ vs h1 h2 h3=>exact⟨vs,rfl,h1,h2,h3⟩
theorem RD.HU {ds:List D} {v:Value} (h:RD M s (.tuple ds) v) : ∃ vs:Array Value,v = .tuple vs∧ds.length=vs.size∧
 ∀ (i:Nat) (d:D) (v:Value),ds[i]? = some d→vs[i]? = some v→RD M s d v:=by
 cases h with|tuple _ vs h1 h2=>exact⟨vs,rfl,h1,h2⟩
theorem RD.undef:RD M s (.tuple []) Go.undef:= .tuple [] #[] rfl (fun i d v h=>by simp at h)
theorem RD.jz {g:Tag} {z:Nat} {rows:List (List D)} {v:Value} (h:RD M s (.slice g z rows) v) :
 (rows = []∧v = .slice none 0 0∧jg M s g z 0 none 0)∨(rows = []∧g = .shared∧∃ a cap,v = .slice (some a) 0 cap)∨
 ∃ b k cap,v = .slice (some ⟨b,k,none⟩) rows.length cap∧rows.length≤cap∧(∀ row∈rows,row.length=z)∧
  (∀ (i:Nat) (row:List D) (j:Nat) (d:D),rows[i]? = some row→row[j]? = some d→∃ u,M.G b (k+(i*z+j))=some u)∧
  (∀ (i:Nat) (row:List D) (j:Nat) (d:D) (u:Value),rows[i]? = some row→row[j]? = some d→M.G b (k+(i*z+j))=some u→RD M s d u)∧
  jg M s g z rows.length (some (b,k)) cap:=by
 cases h with
 |jb _ _ cap hc ht=>subst hc;exact .inl ⟨rfl,rfl,ht⟩
 |mg _ a cap=>exact .inr (.inl ⟨rfl,rfl,a,cap,rfl⟩)
 |slice _ _ _ b k cap hl hs h1 h2 ht=>exact .inr (.inr ⟨b,k,cap,rfl,hl,hs,h1,h2,ht⟩)
theorem RD.row {d:D} {v:Value} (h:RD M s d v) {r:List D} (hr:d.row=some r):v.cells.size=r.length∧(∀ u∈v.cells,u.oneCell'=true)∧
 ∀ (i:Nat) (d':D) (u:Value),r[i]? = some d'→v.cells[i]? = some u→RD M s d' u:=by
 have one : ∀ (x:Value),x.oneCell'=true→x.cells = #[x]:=by intro x hx;cases x<;>first|rfl|(simp[Value.oneCell']at hx)
 have go : ∀ (x:Value),x.oneCell'=true→RD M s d x→d.row=some [d]→x.cells.size=r.length∧(∀ u∈x.cells,u.oneCell'=true)∧
  ∀ (i:Nat) (d':D) (u:Value),r[i]? = some d'→x.cells[i]? = some u→RD M s d' u:=by
  intro x hx hd h1
  rw[h1]at hr;cases hr
  rw[one x hx]
  refine⟨rfl,by simp[hx],fun i d' u e1 e2=>?_⟩
  cases i with
  |zero=>simp at e1 e2;subst e1;subst e2;exact hd
  |succ i=>simp at e1
 cases h with
 |junk v=>cases hr
 |int k n=>exact go _ rfl (.int k n) rfl
 |bool b=>exact go _ rfl (.bool b) rfl
 |str l=>exact go _ rfl (.str l) rfl
 |ew=>exact go _ rfl .ew rfl
 |val v hv=>exact go _ hv (.val v hv) rfl
 |fF T o v h ht hv=>exact go _ (by rcases hv with rfl|rfl<;>rfl) (.fF T o v h ht hv) rfl
 |ptr o off h hm=>exact go _ rfl (.ptr o off h hm) rfl
 |gw f ds vs hl h=>exact go _ rfl (.gw f ds vs hl h) rfl
 |gb o h hm=>exact go _ rfl (.gb o h hm) rfl
 |dI row off b k h1 h2=>exact go _ rfl (.dI row off b k h1 h2) rfl
 |jb g z cap hc ht=>exact go _ rfl (.jb g z cap hc ht) rfl
 |mg z a cap=>exact go _ rfl (.mg z a cap) rfl
 |slice g z rows b k cap hl hs h1 h2 ht=>exact go _ rfl (.slice g z rows b k cap hl hs h1 h2 ht) rfl
 |eQ z o g len b cap A h hm ha hl=>exact go _ rfl (.eQ z o g len b cap A h hm ha hl) rfl
 |fG z o g off b cap A h hm ha=>exact go _ rfl (.fG z o g off b cap A h hm ha) rfl
 |eJ z a=>exact go _ rfl (.eJ z a) rfl
 |agg cells vs hl h1 h2=>cases hr;exact⟨hl.symm,h1,h2⟩
 |tuple ds vs hl h1=>cases hr
theorem qY {v:Value} {d:D} (h:sZ v=some d):RD M s d v∧v.oneCell'=true:=by
 unfold sZ at h
 split at h<;>first|(cases h;done)|skip
 ·cases h;exact⟨.int _ _,rfl⟩
 ·cases h;exact⟨.bool _,rfl⟩
 ·cases h;exact⟨.str _,rfl⟩
 ·cases h;exact⟨.ew,rfl⟩
 ·cases h;exact⟨.jb _ _ 0 rfl rfl,rfl⟩
 ·cases h;exact⟨.val _ rfl,rfl⟩
 ·cases h;exact⟨.val _ rfl,rfl⟩
 ·cases h;exact⟨.val _ rfl,rfl⟩
theorem lZ : ∀ {vs:List Value} {ds:List D},om vs=some ds→ds.length=vs.length∧(∀ v∈vs,v.oneCell'=true)∧
 ∀ (i:Nat) (d:D) (v:Value),ds[i]? = some d→vs[i]? = some v→RD M s d v
 | [],ds,h=>by cases h;exact⟨rfl,by simp,by simp⟩
 | v::r,ds,h=>by
  unfold om at h
  split at h
  ·rename_i d oc h1 h2
   cases h
   obtain⟨a,b⟩:=qY (M:=M) (s:=s) h1
   obtain⟨i1,i2,i3⟩:=lZ h2
   refine⟨by simp[i1],fun u hu=>?_,fun i d' u e1 e2=>?_⟩
   ·rcases List.mem_cons.1 hu with rfl | hu
    ·exact b
    ·exact i2 u hu
   ·cases i with
    |zero=>simp at e1 e2;subst e1;subst e2;exact a
    |succ i=>simp at e1 e2;exact i3 i d' u e1 e2
  ·cases h
theorem GR {v:Value} {d:D} (h:Em v=some d):RD M s d v∧v.oneCell'=true:=by
 unfold Em at h
 split at h
 ·cases h;exact⟨.val _ rfl,rfl⟩
 ·exact qY h
theorem xf : ∀ {vs:List Value} {ds:List D},xe vs=some ds→ds.length=vs.length∧(∀ v∈vs,v.oneCell'=true)∧
 ∀ (i:Nat) (d:D) (v:Value),ds[i]? = some d→vs[i]? = some v→RD M s d v
 | [],ds,h=>by cases h;exact⟨rfl,by simp,by simp⟩
 | v::r,ds,h=>by
  unfold xe at h
  split at h
  ·rename_i d oc h1 h2
   cases h
   obtain⟨g1,g2⟩:=GR (M:=M) (s:=s) h1
   obtain⟨k1,k2,k3⟩:=xf h2
   refine⟨by simp[k1],fun u hu=>?_,fun i d' u e1 e2=>?_⟩
   ·rcases List.mem_cons.1 hu with rfl | hu
    ·exact g2
    ·exact k2 u hu
   ·cases i with
    |zero=>simp at e1 e2;subst e1;subst e2;exact g1
    |succ i=>exact k3 i d' u (by simpa using e1) (by simpa using e2)
  ·cases h
theorem DY {b:Bool} {vs:List Value} {ds:List D} (h:OQ b vs=some ds):ds.length=vs.length∧(∀ v∈vs,v.oneCell'=true)∧
 ∀ (i:Nat) (d:D) (v:Value),ds[i]? = some d→vs[i]? = some v→RD M s d v:=by
 unfold OQ at h
 split at h
 ·exact xf h
 ·exact lZ h
theorem OU {v:Value} {d:D} (h:OO v=some d):RD M s d v:=by
 unfold OO at h
 split at h
 ·rename_i cs
  cases hc:om cs.toList with
  |none=>rw[hc]at h;cases h
  |some ds=>
   rw[hc]at h;cases h
   obtain⟨h1,h2,h3⟩:=lZ (M:=M) (s:=s) hc
   exact .agg ds cs (by simpa using h1) (fun v hv=>h2 v (by simpa using hv)) (fun i d v e1 e2=>h3 i d v e1 (by simpa using e2))
 ·cases h;exact .undef
 ·exact(qY h).1
def mM (M:Map) (s:St) (tm:Tm) (tmps:Array Value):Prop:=∀ t,RD M s (tm.get t) (tmps.getD t Go.undef)
theorem mM.mono {M':Map} {s':St} {tm:Tm} {tmps:Array Value} (h:mM M s tm tmps) (le:Le M s M' s'):mM M' s' tm tmps:=fun t=>(h t).mono le
theorem bV {x:Operand} {y:X} (h:cX x=some y) {tm:Tm} {act:Act} (hr:mM M s tm act.tmps):RD M s (y.ev tm) (act.eval x):=by
 unfold cX at h
 split at h
 ·cases h;exact hr _
 ·rename_i v
  cases hv:OO v with
  |none=>rw[hv]at h;cases h
  |some d=>rw[hv]at h;cases h;exact OU hv
 ·cases h;exact .gw _ [] #[] rfl (by simp)
 ·cases h
theorem Tm.GU (tm:Tm) (t:Nat) (d:D) (u:Nat):(tm.set t d).get u=if u=t then d else tm.get u:=by
 induction tm with
 |nil=>
  simp only[Tm.set,Tm.get]
  by_cases h:t=u
  ·simp[h]
  ·rw[if_neg h,if_neg (fun e=>h e.symm)]
 | cons p r ih=>
  obtain⟨k,e⟩:=p
  simp only[Tm.set]
  split
  ·rename_i h
   subst h
   simp only[Tm.get]
   by_cases h:k=u
   ·simp[h]
   ·rw[if_neg h,if_neg (fun e=>h e.symm),if_neg h]
  ·rename_i h
   simp only[Tm.get,ih]
   by_cases h1:k=u
   ·subst h1;simp[h]
   ·simp[h1]
theorem mM.put {tm:Tm} {act:Act} (h:mM M s tm act.tmps) {dst:Option Nat} (hd : ∀ t,dst=some t→t<act.tmps.size) {d:D} {v:Value} (hv:RD M s d v) :
 mM M s (tm.put dst d) (act.put dst v).tmps:=by
 intro u
 cases dst with
 |none=>exact h u
 | some t=>
  simp only[Tm.put,Act.put,Tm.GU]
  have ht:=hd t rfl
  by_cases hu:u=t
  ·subst hu
   simp[ht];exact hv
  ·rw [if_neg hu]
   have:=h u
   simpa[Array.getElem?_setIfInBounds_ne (fun e=>hu e.symm)]using this
theorem gh (P:Program) {t:TypeId} {i:TypeInfo} (h:P.info? t=some i) (w:World):(typeInfo t).run P w = .ok i w:=by
 simp[typeInfo,h]
theorem nc (b o n:Nat):Addr.add ⟨b,o,none⟩ n = ⟨b,o+n,none⟩:=Addr.add_lit b o n
theorem zX (P:Program) {t:TypeId} {i:TypeInfo} {agg:Bool} (hi:P.info? t=some i) (ha:rQ P t=some agg) (b k:Nat) (us:List Value)
 (hl:us.length=if agg then i.size else 1) (h : ∀ (j:Nat) (u:Value),us[j]? = some u→w.cell? ⟨b,k+j,none⟩=some u) :
 (loadVar t ⟨b,k,none⟩).run P w = .ok (if agg then .agg us.toArray else us.getD 0 Go.undef) w:=by
 have BU:(isAgg t).run P w = .ok agg w:=by
  unfold rQ at ha
  unfold isAgg
  cases hu:P.underlying t with
  |none=>rw[hu]at ha;cases ha
  |some d=>
   rw[hu]at ha
   simp only[Sem.run_bind,run_underlying hu,Result.andThen_ok]
   cases d<;>simp_all
 cases agg with
 |true=>
  simp only[if_true]at hl ⊢
  have hc:=run_loadCells_list (P:=P) w ⟨b,k,none⟩ us (fun j v e=>by rw[nc];exact h j v e)
  simp[loadVar,BU,sizeOf,gh P hi, ← hl,hc]
 | false=>
  simp only[Bool.false_eq_true,if_false]at hl ⊢
  match us,hl with
  | [u],_=>
   have:=h 0 u rfl
   simp only[Nat.add_zero]at this
   simp[loadVar,BU,this]
theorem rD {cs:List D} {off:Nat} {agg:Bool} {size:Nat} {d:D} (h:part cs off agg size=some d) :
 (agg=true∧off+size≤cs.length∧d = .agg ((cs.drop off).take size))∨(agg=false∧cs[off]? = some d):=by
 unfold part at h
 split at h
 ·split at h
  ·cases h;exact .inl ⟨rfl, ‹_›,rfl⟩
  ·cases h
 ·exact .inr ⟨rfl,h⟩
theorem rU {cs:List D} {off size:Nat} {agg:Bool} {d:D} (h:part cs off agg size=some d) (us:List Value) (hl:us.length=if agg then size else 1)
 (iz:agg=true→∀ u∈us,u.oneCell'=true)
 (hr : ∀ (j:Nat) (d:D) (u:Value),cs[off+j]? = some d→us[j]? = some u→RD M s d u):RD M s d (if agg then .agg us.toArray else us.getD 0 Go.undef):=by
 rcases rD h with ⟨rfl,h1,rfl⟩|⟨rfl,h1⟩
 ·simp only [if_true]at hl ⊢
  refine .agg _ _ (by simp[hl];omega) (fun v hv=>iz rfl v (by simpa using hv)) (fun i d v e1 e2=>?_)
  rw[List.getElem?_take]at e1
  split at e1
  ·rw [List.getElem?_drop]at e1
   exact hr i d v e1 (by simpa using e2)
  ·cases e1
 ·simp only [Bool.false_eq_true,if_false]at hl ⊢
  match us,hl with
  | [u],_=>exact hr 0 d u (by simpa using h1) rfl
end
end Go.Abs
namespace Go.Abs
def dg (P:Program) (M:Map) (s:St) (w:World) (x:Sem Next) (d:D) (s':St):Prop:=
 ∃ v w' M',(x.run P w = .ok (.value v) w'∨(x.run P w = .ok .skip w'∧v=Go.undef))∧Rel M' s' w'∧RD M' s' d v∧Ext M s w M' s' w'
section
variable {P:Program} {M:Map} {s:St} {w:World}
theorem dg.pure {x:Sem Next} {d:D} {v:Value} (r:Rel M s w) (h:x.run P w = .ok (.value v) w) (hd:RD M s d v):dg P M s w x d s:=
 ⟨v,w,M, .inl h,r,hd,Ext.refl M s w⟩
theorem OV (r:Rel M s w) {t:TypeId} {z:List D} (hz:zeroOf P t=some z) :
 dg P M s w (do pure (.value (← Instr.alloc t true (.tuple #[])))) (.ptr s.ah.length 0) {s with ah:=s.ah++ [z]}:=by
 unfold zeroOf at hz
 split at hz
 ·rename_i i hi
  split at hz
  ·rename_i v hv
   split at hz
   ·rename_i dP
    obtain⟨h1,h2,h3⟩:=lZ (M:=M) (s:=s) hz
    obtain⟨r',e'⟩:=r.dZ z v.cells t (by rw[h1];simp) (fun u hu=>h2 u (by simpa using hu)) (fun i d u e1 e2=>h3 i d u e1 (by simpa using e2))
    refine⟨_,_,_, .inl ?_,r', .ptr _ _ (by simp) (by simp[Map.dZ,Map.ob,Ob.plain]),e'⟩
    simp[Instr.alloc,zeroValue,gh P hi,hv,newVar,newRow,Map.dZ,Map.mu]
   ·cases hz
  ·cases hz
 ·cases hz
theorem Mw (r:Rel M s w) {t:TypeId} {z:List D} (hz:zU P t=some (.ew::z)) :
 dg P M s w (do pure (.value (← Instr.alloc t true (.tuple #[])))) (.ptr s.ah.length 0) {s with ah:=s.ah++ [.fF t s.ah.length::z]}:=by
 unfold zU at hz
 split at hz
 ·rename_i i hi
  split at hz
  ·rename_i v hv
   split at hz
   ·rename_i dP
    obtain⟨h1,h2,h3⟩:=DY (M:=M) (s:=s) hz
    obtain⟨r',e'⟩:=r.J4 (.fF t s.ah.length::z) v.cells t (.ty t) trivial (fun _ h=>by cases h;rfl) (by simp at h1 ⊢;omega) (fun u hu=>h2 u (by simpa using hu)) (fun i d u e1 e2=>by
     cases i with
     |zero=>
      simp at e1;subst e1
      have:=(h3 0 .ew u rfl (by simpa using e2)).s6
      exact .fF t _ u (by simp) (by simp[Map.dZ,Map.ty,Ob.ty?]) (.inl this)
     |succ i=>exact(h3 (i+1) d u (by simpa using e1) (by simpa using e2)).mono (s5 s w.heap.size _ _))
    refine⟨_,_,_, .inl ?_,r', .ptr _ _ (by simp) (by simp[Map.dZ,Map.ob,Ob.plain]),e'⟩
    simp[Instr.alloc,zeroValue,gh P hi,hv,newVar,newRow,Map.dZ,Map.mu]
   ·cases hz
  ·cases hz
 ·cases hz
theorem Vp (r:Rel M s w) {t:TypeId} {d:D} {v:Value} {row:List D} (hd:RD M s d v) (hr:d.row=some row) :
 dg P M s w (do pure (.value (← Instr.box t v))) (.ptr s.ah.length 0) {s with ah:=s.ah++ [row]}:=by
 obtain⟨h1,h2,h3⟩:=hd.row hr
 obtain⟨r',e'⟩:=r.dZ row v.cells t h1 h2 h3
 refine⟨_,_,_, .inl ?_,r', .ptr _ _ (by simp) (by simp[Map.dZ,Map.ob,Ob.plain]),e'⟩
 simp[Instr.box,newVar,newRow,Map.dZ,Map.mu]
theorem R8 (r:Rel M s w) {t:TypeId} {d:D} {v:Value} {row:List D} (hd:RD M s d v) (hr:d.row=some (.ew::row)) :
 dg P M s w (do pure (.value (← Instr.box t v))) (.ptr s.ah.length 0) {s with ah:=s.ah++ [.fF t s.ah.length::row]}:=by
 obtain⟨h1,h2,h3⟩:=hd.row hr
 obtain⟨r',e'⟩:=r.J4 (.fF t s.ah.length::row) v.cells t (.ty t) trivial (fun _ h=>by cases h;rfl) (by simp at h1 ⊢;omega) h2 (fun i d u e1 e2=>by
  cases i with
  |zero=>
   simp at e1;subst e1
   have:=(h3 0 .ew u rfl e2).s6
   exact .fF t _ u (by simp) (by simp[Map.dZ,Map.ty,Ob.ty?]) (.inl this)
  |succ i=>exact(h3 (i+1) d u (by simpa using e1) e2).mono (s5 s w.heap.size _ _))
 refine⟨_,_,_, .inl ?_,r', .ptr _ _ (by simp) (by simp[Map.dZ,Map.ob,Ob.plain]),e'⟩
 simp[Instr.box,newVar,newRow,Map.dZ,Map.mu]
theorem Je (r:Rel M s w) {t:TypeId} {i:TypeInfo} {agg:Bool} (hi:P.info? t=some i) (ha:rQ P t=some agg) {o off:Nat} {cs:List D} {d:D}
 (ho:s.ah[o]? = some cs) (hk:(M.ob o).plain) (hp:part cs off agg i.size=some d) :
 dg P M s w (do pure (.value (← Instr.loadAt t (.pointer (some ⟨M.mu o,off,none⟩))))) d s:=by
 obtain⟨vs,T,hh,dP,⟨iz,_⟩,jO⟩:=r.obj o cs ho
 replace hh:w.heap[M.mu o]? = some (.cells vs T (0,0)):=hh.cells hk
 let n:=if agg then i.size else 1
 have jI:off+n≤vs.size:=by
  rcases rD hp with ⟨rfl,h1,_⟩|⟨rfl,h1⟩
  ·simp[n];omega
  ·have:=(List.getElem?_eq_some_iff.1 h1).1;simp[n];omega
 have hlen:((vs.toList.drop off).take n).length=n:=by simp;omega
 have hY : ∀ (j:Nat) (u:Value),((vs.toList.drop off).take n)[j]? = some u→vs[off+j]? = some u:=by
  intro j u h
  rw[List.getElem?_take]at h
  split at h
  ·rw[List.getElem?_drop]at h;simpa using h
  ·cases h
 have dM:=zX (w:=w) P hi ha (M.mu o) off ((vs.toList.drop off).take n) hlen (fun j u h=>by rw[jx hh];exact hY j u h)
 refine dg.pure (v:=if agg then .agg ((vs.toList.drop off).take n).toArray else((vs.toList.drop off).take n).getD 0 Go.undef) r (by simp[Instr.loadAt,Instr.sureAddr,dM]) ?_
 refine rU hp _ hlen (fun _ u hu=>iz u ?_) (fun j d u e1 e2=>jO _ d u e1 (hY j u e2))
 exact Array.mem_toList_iff.1 (List.mem_of_mem_drop (List.mem_of_mem_take hu))
theorem zY {b:Nat} : ∀ (n k:Nat),(∀ j,j<n→∃ u,M.G b (k+j)=some u)→∃ us:List Value,us.length=n∧∀ (j:Nat) (u:Value),us[j]? = some u→M.G b (k+j)=some u
 | 0,_,_=>⟨[],rfl,fun j u h=>by simp at h⟩
 |n+1,k,h=>by
  obtain⟨u0,h0⟩:=h 0 (by omega)
  obtain⟨us,h1,h2⟩:=zY n (k+1) (fun j hj=>by obtain⟨u,hu⟩:=h (j+1) (by omega);exact⟨u,by rw[show k+1+j=k+(j+1) by omega];exact hu⟩)
  refine⟨u0::us,by simp[h1],fun j u hj=>?_⟩
  cases j with
  |zero=>simp at hj;subst hj;exact h0
  |succ j=>simp at hj;have:=h2 j u hj;rw[show k+(j+1)=k+1+j by omega];exact this
theorem Jf (r:Rel M s w) {t:TypeId} {i:TypeInfo} {agg:Bool} (hi:P.info? t=some i) (ha:rQ P t=some agg) {row:List D} {off b k:Nat} {d:D}
 (h1 : ∀ (i:Nat) (d:D),row[i]? = some d→∃ u,M.G b (k+i)=some u) (h2 : ∀ (i:Nat) (d:D) (u:Value),row[i]? = some d→M.G b (k+i)=some u→RD M s d u)
 (hp:part row off agg i.size=some d) :
 dg P M s w (do pure (.value (← Instr.loadAt t (.pointer (some ⟨b,k+off,none⟩))))) d s:=by
 let n:=if agg then i.size else 1
 have jI:off+n≤row.length:=by
  rcases rD hp with ⟨rfl,h1,_⟩|⟨rfl,h1⟩
  ·simp[n];omega
  ·have:=(List.getElem?_eq_some_iff.1 h1).1;simp[n];omega
 obtain⟨us,hl,DX⟩:=zY (M:=M) (b:=b) n (k+off) (fun j hj=>by
  obtain⟨d,hd⟩ : ∃ d,row[off+j]? = some d:=⟨_,List.getElem?_eq_getElem (by omega)⟩
  obtain⟨u,hu⟩:=h1 _ d hd
  exact⟨u,by rw[show k+off+j=k+(off+j) by omega];exact hu⟩)
 have dM:=zX (w:=w) P hi ha b (k+off) us hl (fun j u h=>(r.comm _ _ _ (DX j u h)).1)
 refine dg.pure (v:=if agg then .agg us.toArray else us.getD 0 Go.undef) r (by simp[Instr.loadAt,Instr.sureAddr,dM]) ?_
 refine rU hp us hl (fun _ u hu=>?_) (fun j d u e1 e2=>h2 _ d u e1 (by rw[show k+(off+j)=k+off+j by omega];exact DX j u e2))
 obtain⟨j,hj⟩:=List.mem_iff_getElem?.1 hu
 exact(r.comm _ _ _ (DX j u hj)).2
theorem OW (r:Rel M s w) {t:TypeId} {i:TypeInfo} (hi:P.info? t=some i) {o off:Nat} {cs row:List D} {d:D} {v:Value} (ho:s.ah[o]? = some cs) (hk:(M.ob o).plain)
 (hd:RD M s d v) (hr:d.row=some row) (hl:row.length=i.size) (jI:off+i.size≤cs.length) :
 dg P M s w (do Instr.storeAt t (.pointer (some ⟨M.mu o,off,none⟩)) v;pure .skip) (.tuple []) {s with ah:=s.ah.set o (iO cs off row)}:=by
 obtain⟨h1,h2,h3⟩:=hd.row hr
 obtain⟨w',dM,r',e'⟩:=r.OS P ho hk row v.cells.toList (by simpa using h1) (by rw[hl];exact jI) (fun u hu=>h2 u (by simpa using hu)) (fun i d u e1 e2=>h3 i d u e1 (by simpa using e2))
 refine⟨Go.undef,w',M, .inr ⟨?_,rfl⟩,r', .undef,e'⟩
 have dP:v.cells.size=i.size:=by omega
 simp[Instr.storeAt,Instr.sureAddr,storeVar,sizeOf,gh P hi,dP,dM]
theorem zZ (r:Rel M s w) {d:D} {a:Addr} (hd:RD M s d (.pointer (some a))) :
 dg P M s w (pure (.value (.pointer (some a)))) d s:=dg.pure r rfl hd
theorem BV {t:TypeId} {f off size:Nat} {agg:Bool} (h:na P t f=some (off,size,agg)) (b k:Nat) :
 (Instr.fieldAt t (.pointer (some ⟨b,k,none⟩)) f).run P w = .ok (.pointer (some ⟨b,k+off,none⟩)) w:=by
 unfold na at h
 split at h
 ·rename_i fs hu
  split at h
  ·rename_i fd hf
   split at h
   ·rename_i i a hi ha
    split at h
    ·cases h
    ·rename_i eW
     cases h
     simp[Instr.fieldAt,run_underlying hu,hf,Instr.sureAddr,fieldPlace,sizeOf,gh P hi,eW,nc]
   ·cases h
  ·cases h
 ·cases h
theorem R9 {t:TypeId} {f off size:Nat} {agg:Bool} (h:na P t f=some (off,size,agg)) (vs:Array Value) (us:List Value) (hl:us.length=if agg then size else 1)
 (hg : ∀ j,j<us.length→vs[off+j]? = us[j]?) :
 (Instr.field t (.agg vs) f).run P w = .ok (if agg then .agg us.toArray else us.getD 0 Go.undef) w:=by
 unfold na at h
 split at h
 ·rename_i fs hu
  split at h
  ·rename_i fd hf
   split at h
   ·rename_i i a hi ha
    split at h
    ·cases h
    ·rename_i eW
     cases h
     have BU:(isAgg fd.type).run P w = .ok agg w:=by
      unfold rQ at ha
      unfold isAgg
      cases hu:P.underlying fd.type with
      |none=>rw[hu]at ha;cases ha
      |some d=>
       rw[hu]at ha
       simp only[Sem.run_bind,run_underlying hu,Result.andThen_ok]
       cases d<;>simp_all
     cases agg with
     | true=>
      simp only[if_true]at hl ⊢
      have:vs.extract fd.offset (fd.offset+i.size)=us.toArray:=by
       apply Array.ext_getElem?
       intro j
       rw[Array.getElem?_extract]
       by_cases hj:j<us.length
       ·rw [← hl,if_pos (by
         have h1:=hg j hj
         rw[List.getElem?_eq_getElem hj]at h1
         have:=(Array.getElem?_eq_some_iff.1 h1).1
         have h2:=hg (us.length - 1) (by omega)
         rw[List.getElem?_eq_getElem (by omega)]at h2
         have:=(Array.getElem?_eq_some_iff.1 h2).1
         omega),hg j hj]
        simp
       ·have hn:us.toArray[j]? = none:=by simp;omega
        rw[hn,if_neg (by omega)]
      simp[Instr.field,run_underlying hu,hf,asAgg,Go.part,BU,sizeOf,gh P hi,this]
     | false=>
      simp only[Bool.false_eq_true,if_false]at hl ⊢
      match us,hl with
      | [u],_=>
       have:=hg 0 (by simp)
       simp at this
       simp[Instr.field,run_underlying hu,hf,asAgg,Go.part,BU,this]
   ·cases h
  ·cases h
 ·cases h
end
end Go.Abs
namespace Go.Abs
section
variable {P:Program} {M:Map} {s:St} {w:World}
theorem OX {op : BinOp} {t : TypeId} {k : IntKind} {a b : Int} {d : D} (h : gx op k a b = some d) :
   ∃ v, (binOp op t (.int k a) (.int k b)).run P w = .ok v w ∧ RD M s d v := by
 cases op<;>simp only[gx]at h<;>first
   |(cases h; done)
   | (split at h
      · cases h
      · cases h
        exact ⟨_, by simp[binOp, Op.intDiv, *], .int _ _⟩)
   |(cases h; exact ⟨_, by simp[binOp, Op.intArith], .int _ _⟩)
   |(cases h; exact ⟨_, by simp[binOp, Op.intCmp], .bool _⟩)
theorem OY {op:BinOp} {t:TypeId} {a b:List UInt8} {d:D} (h:oO op a b=some d) :
 ∃ v,(binOp op t (.string ⟨⟨a⟩⟩) (.string ⟨⟨b⟩⟩)).run P w = .ok v w∧RD M s d v:=by
 have sz : ∀ l:List UInt8,(⟨⟨l⟩⟩:ByteArray).size=l.length:=fun _=>rfl
 cases op<;>simp only[oO]at h<;>first
  |(cases h;done)
  |skip
 case add=>
  split at h
  ·rename_i hl
   cases h
   refine⟨.string ⟨⟨a++b⟩⟩, ?_, .str _⟩
   have h1 : ¬ ((((⟨⟨a⟩⟩:ByteArray).size+(⟨⟨b⟩⟩:ByteArray).size:Nat):Int) > IntKind.i64.max):=by
    rw[sz,sz,IntKind.max_i64];simp only[bx]at hl;omega
   simp only[binOp,Op.stringOp,h1,if_false]
   simp only[Sem.run_pure]
   congr 2
  ·cases h
 case eql=>cases h;exact⟨_,by simp[binOp,Op.stringOp], .bool _⟩
 case neq=>cases h;exact⟨_,by simp[binOp,Op.stringOp], .bool _⟩
 case lss=>cases h;exact⟨_,by simp[binOp,Op.stringOp,bytesLess], .bool _⟩
theorem kh {op:BinOp} {t:TypeId} {x y:Operand} {a b:Value} (h:(∀ vs,a≠ .agg vs)∧a≠ .nilIface):(eqGuard op t x y a b).run P w = .ok () w:=by
 obtain⟨h1,h2⟩:=h
 cases a<;>first
  |exact(h2 rfl).elim
  |exact(h1 _ rfl).elim
  |(cases op<;>simp[eqGuard])
theorem Vq (r:Rel M s w) {op:BinOp} {t:TypeId} {x y:Operand} {dx dy d:D} {a b:Value} (ha:RD M s dx a) (hb:RD M s dy b) (h:xY op dx dy=some d) :
 dg P M s w (do pure (.value (← (do eqGuard op t x y a b;binOp op t a b)))) d s:=by
 unfold xY at h
 split at h
 ·rename_i k n k' m
  split at h
  ·rename_i hk;subst hk
   rw[ha.iL,hb.iL]
   obtain⟨v,hv,hd⟩:=OX (P:=P) (M:=M) (s:=s) (w:=w) (t:=t) h
   exact dg.pure r (by simp[kh (P:=P) (w:=w) (op:=op) (t:=t) (x:=x) (y:=y) (a:= .int k n) (b:= .int k m) ⟨by simp,by simp⟩,hv]) hd
  ·cases h
 ·rename_i l m
  rw[ha.lY,hb.lY]
  obtain⟨v,hv,hd⟩:=OY (P:=P) (M:=M) (s:=s) (w:=w) (t:=t) h
  exact dg.pure r (by simp[kh (P:=P) (w:=w) (op:=op) (t:=t) (x:=x) (y:=y) (a:= .string ⟨⟨l⟩⟩) (b:= .string ⟨⟨m⟩⟩) ⟨by simp,by simp⟩,hv]) hd
 ·cases h
theorem RD.nH {v u:Value} (h:RD M s (.val v) u):u=v:=by cases h;rfl
theorem OZ {k:FloatKind} {x y d:D} (h:rh (.ofInt k) x y=some d) : ∃ j n,x = .int j n∧d = .val (.float k (k.nearest n)):=by
 cases x<;>first|(cases h;done)|(cases h;exact⟨_,_,rfl,rfl⟩)
theorem O0 {k:IntKind} {x y d:D} (h:rh (.toInt k) x y=some d) : ∃ s b n,x = .val (.float s b)∧(s.decode b).toInt .zero=some n∧(k.min≤n∧n≤k.max)∧d = .int k n:=by
 cases x with
 | val v=>
  cases v with
  | float s b=>
   simp only[rh]at h
   split at h
   ·rename_i n hn
    split at h
    ·rename_i hr;cases h;exact⟨_,_,_,rfl,hn,hr,rfl⟩
    ·cases h
   ·cases h
  |_=>cases h
 |_=>cases h
theorem Sb {x y d:D} (h:rh .JW x y=some d) : ∃ k a b,x = .val (.float k a)∧y = .val (.float k b)∧d = .val (.complex k a b):=by
 unfold rh at h
 split at h<;>first|(cases h;done)|skip
 all_goals (first|(rename_i heq;cases heq;done)|skip)
 all_goals
  split at h
  ·rename_i hk;subst hk;cases h;first|exact⟨_,_,_,rfl,rfl,rfl⟩|(rename_i heq _ _;cases heq)
  ·cases h
theorem Sc {x y d:D} (h:rh .real x y=some d) : ∃ k a b,x = .val (.complex k a b)∧d = .val (.float k a):=by
 cases x with
 |val v=>cases v<;>first|(cases h;done)|(cases h;exact⟨_,_,_,rfl,rfl⟩)
 |_=>cases h
theorem Sd {x y d:D} (h:rh .imag x y=some d) : ∃ k a b,x = .val (.complex k a b)∧d = .val (.float k b):=by
 cases x with
 |val v=>cases v<;>first|(cases h;done)|(cases h;exact⟨_,_,_,rfl,rfl⟩)
 |_=>cases h
theorem Se (r:Rel M s w) {op:BinOp} {o:FO} (ho:(o = .eq∧op = .eql)∨(o = .JX∧op = .add)∨(o = .R4∧op = .eql)) {t:TypeId} {x y:Operand} {dx dy d:D} {a b:Value} (ha:RD M s dx a) (hb:RD M s dy b) (h:rh o dx dy=some d) :
 dg P M s w (do pure (.value (← (do eqGuard op t x y a b;binOp op t a b)))) d s:=by
 unfold rh at h
 split at h<;>(try simp only[reduceCtorEq,false_and,true_and,false_or,or_false]at ho)
 ·rename_i k p k' q
  split at h<;>cases h
  rename_i hk;subst hk;subst ho
  cases ha.nH;cases hb.nH
  exact dg.pure r (by simp[kh (P:=P) (w:=w) (op:= .eql) (t:=t) (x:=x) (y:=y) (a:= .float k p) (b:= .float k q) ⟨by simp,by simp⟩,binOp,Op.floatCmp]) (.bool _)
 ·rename_i k p p' k' q q'
  split at h
  ·rename_i hk;subst hk;subst ho
   cases ha.nH;cases hb.nH
   split at h
   ·rename_i e f h1 h2
    cases h
    simp only[Vm]at h1 h2
    exact dg.pure r (by simp[kh (P:=P) (w:=w) (op:= .add) (t:=t) (x:=x) (y:=y) (a:= .complex k p p') (b:= .complex k q q') ⟨by simp,by simp⟩,binOp,Op.complexOp,Op.Complex.arith,Op.floatArith,h1,h2]) (.val _ rfl)
   ·cases h
  ·cases h
 ·rename_i k p p' k' q q'
  split at h<;>cases h
  rename_i hk;subst hk;subst ho
  cases ha.nH;cases hb.nH
  exact dg.pure r (by simp[kh (P:=P) (w:=w) (op:= .eql) (t:=t) (x:=x) (y:=y) (a:= .complex k p p') (b:= .complex k q q') ⟨by simp,by simp⟩,binOp,Op.complexOp,Op.Complex.cmp,Op.floatCmp,asBool]) (.bool _)
 ·cases h
theorem Vr (r:Rel M s w) {neg:Bool} {t:TypeId} {x y:Operand} {p q:Bool} (ht:P.underlying t=some .bool) :
 dg P M s w (do pure (.value (← (do eqGuard (if neg then .neq else .eql) t x y (.bool p) (.bool q);binOp (if neg then .neq else .eql) t (.bool p) (.bool q))))) (.bool (if neg then !(p==q)else p==q)) s:=by
 refine dg.pure (v:= .bool (if neg then !(p==q)else p==q)) r ?_ (.bool _)
 have hg:=kh (P:=P) (w:=w) (op:=if neg then .neq else .eql) (t:=t) (x:=x) (y:=y) (a:= .bool p) (b:= .bool q) ⟨by simp,by simp⟩
 have he:(Op.equal t (.bool p) (.bool q)).run P w = .ok (p==q) w:=by
  exact run_equalIn_bool w 9999 t p q ht
 cases neg
 ·simp only [Bool.false_eq_true,if_false]at hg ⊢
  simp[hg,binOp,he]
 ·simp only [if_true]at hg ⊢
  simp[hg,binOp,he]
theorem Mx (n:Nat) {t e:TypeId} {a:Option Addr} (ht:P.underlying t=some (.pointer e)):(Op.equalIn (n+1) t (.pointer a) (.pointer none)).run P w = .ok a.isNone w:=by
 cases a<;>simp[Op.equalIn,run_underlying ht]
theorem Er (r:Rel M s w) {neg:Bool} {t e:TypeId} {x y:Operand} {a:Option Addr} (ht:P.underlying t=some (.pointer e)) :
 dg P M s w (do pure (.value (← (do eqGuard (if neg then .neq else .eql) t x y (.pointer a) (.pointer none);binOp (if neg then .neq else .eql) t (.pointer a) (.pointer none))))) (.bool (if neg then !a.isNone else a.isNone)) s:=by
 refine dg.pure (v:= .bool (if neg then !a.isNone else a.isNone)) r ?_ (.bool _)
 have hg:=kh (P:=P) (w:=w) (op:=if neg then .neq else .eql) (t:=t) (x:=x) (y:=y) (a:= .pointer a) (b:= .pointer none) ⟨by simp,by simp⟩
 have he:(Op.equal t (.pointer a) (.pointer none)).run P w = .ok a.isNone w:=by
  exact Mx 9999 ht
 cases neg
 ·simp only [Bool.false_eq_true,if_false]at hg ⊢
  simp[hg,binOp,he]
 ·simp only [if_true]at hg ⊢
  simp[hg,binOp,he]
theorem O1 (n:Nat) {t:TypeId} {k:Nat} (hk:kp P t=some k) {x y:D} {v u:Value} (rv:RD M s x v) (ru:RD M s y u) {b:Bool} (h:nF k x y=some b) :
 (Op.equalIn (n+1) t v u).run P w = .ok b w:=by
 unfold kp at hk
 split at hk<;>first|(cases hk;done)|skip
 ·rename_i kk hu
  cases hk
  cases x<;>cases y<;>simp[nF]at h
  obtain⟨rfl,rfl⟩:=h
  rw[rv.iL,ru.iL]
  exact run_equalIn_int w n t _ _ _ _ hu
 ·rename_i hu
  cases hk
  cases x<;>cases y<;>simp[nF]at h
  subst h
  rw[rv.oo,ru.oo]
  exact run_equalIn_bool w n t _ _ hu
 ·rename_i hu
  cases hk
  cases x<;>cases y<;>simp[nF]at h
  subst h
  rw[rv.lY,ru.lY]
  rw[run_equalIn_string w n t _ _ hu]
  simp
theorem BW (n:Nat) : ∀ (fs:List Field) (off:Nat) (ks:List Nat) (xs ys:List D) (vs us:Array Value) (e:Bool),
 Dc P off fs=some ks→(∀ (i:Nat) (d:D) (v:Value),xs[i]? = some d→vs[off+i]? = some v→RD M s d v)→(∀ i,i<xs.length→(vs[off+i]?).isSome)→
 (∀ (i:Nat) (d:D) (v:Value),ys[i]? = some d→us[off+i]? = some v→RD M s d v)→(∀ i,i<ys.length→(us[off+i]?).isSome)→
 lX ks xs ys=some e→(Op.eqFields (n+1) vs us fs).run P w = .ok e w
 | [],off,ks,xs,ys,vs,us,e,hk,_,_,_,_,h=>by
  cases hk
  cases xs<;>cases ys<;>simp[lX]at h
  subst h;rfl
 | f::fs,off,ks,xs,ys,vs,us,e,hk,h1,h2,h3,h4,h=>by
  unfold Dc at hk
  split at hk
  ·rename_i hf
   obtain⟨ho,ahj⟩:=hf
   split at hk
   ·rename_i k ks' xg bW
    cases hk
    match xs,ys with
    | [],[]=>cases h
    | [],_::_=>cases h
    |_::_,[]=>cases h
    | x::xs,y::ys=>
     obtain⟨v,hv⟩:=Option.isSome_iff_exists.1 (h2 0 (by simp))
     obtain⟨u,hu⟩:=Option.isSome_iff_exists.1 (h4 0 (by simp))
     simp only[Nat.add_zero]at hv hu
     have rv:=h1 0 x v rfl hv
     have ru:=h3 0 y u rfl hu
     have BU:(isAgg f.type).run P w = .ok false w:=by
      unfold isAgg
      unfold kp at xg
      cases hu:P.underlying f.type with
      |none=>rw[hu]at xg;simp at xg
      |some d=>simp only[Sem.run_bind,run_underlying hu,Result.andThen_ok];rw[hu]at xg;cases d<;>simp_all
     have pv:(Go.part f.type vs f.offset).run P w = .ok v w:=by simp[Go.part,BU,ho,hv]
     have pu:(Go.part f.type us f.offset).run P w = .ok u w:=by simp[Go.part,BU,ho,hu]
     cases hc:nF k x y with
     |none=>simp[lX,hc]at h
     | some b=>
      have hb:=O1 (w:=w) n xg rv ru hc
      simp only[lX,hc]at h
      simp only[Op.eqFields,if_pos ahj,Sem.run_bind,pv,pu,hb,Result.andThen_ok,Sem.run_ite,Sem.run_pure]
      cases b with
      |false=>cases h;rfl
      | true=>
       have:=BW n fs (off+1) ks' xs ys vs us e bW
        (fun i d v e1 e2=>h1 (i+1) d v (by simpa using e1) (by rw[show off+(i+1)=off+1+i by omega];exact e2))
        (fun i hi=>by have:=h2 (i+1) (by simpa using hi);rwa [show off+(i+1)=off+1+i by omega]at this)
        (fun i d v e1 e2=>h3 (i+1) d v (by simpa using e1) (by rw[show off+(i+1)=off+1+i by omega];exact e2))
        (fun i hi=>by have:=h4 (i+1) (by simpa using hi);rwa [show off+(i+1)=off+1+i by omega]at this) h
       simp[this]
   ·cases hk
  ·cases hk
theorem Vt (r:Rel M s w) {neg:Bool} {t:TypeId} {x y:Operand} {ks:List Nat} {xs ys:List D} {a b:Value} {e:Bool} (ht:qO P t=some ks) (ha:RD M s (.agg xs) a) (hb:RD M s (.agg ys) b) (he:lX ks xs ys=some e) :
 dg P M s w (do pure (.value (← (do eqGuard (if neg then .neq else .eql) t x y a b;binOp (if neg then .neq else .eql) t a b)))) (.bool (if neg then !e else e)) s:=by
 obtain⟨vs,rfl,hl,_,h1⟩:=ha.GQ
 obtain⟨us,rfl,mN,_,h2⟩:=hb.GQ
 unfold qO at ht
 split at ht
 ·rename_i fs hu
  split at ht
  ·rename_i hg
   obtain⟨yX,DZ⟩:=hg
   have hf:P.fieldsOf t=fs:=by simp[Program.fieldsOf,hu]
   have dM:(Op.equalIn 10000 t (.agg vs) (.agg us)).run P w = .ok e w:=by
    rw[run_equalIn_struct w 9999 t vs us (by rw[hf];exact hu) DZ,hf]
    exact BW 9998 fs.toList 0 ks xs ys vs us e ht (fun i d v e1 e2=>h1 i d v e1 (by simpa using e2)) (fun i hi=>by simp;omega)
     (fun i d v e1 e2=>h2 i d v e1 (by simpa using e2)) (fun i hi=>by simp;omega) he
   have HV:=run_eqGuard_agg (P:=P) w (if neg then .neq else .eql) t x y vs us yX
   refine dg.pure (v:= .bool (if neg then !e else e)) r ?_ (.bool _)
   cases neg
   ·simp only [Bool.false_eq_true,if_false]at HV ⊢
    simp only[Sem.run_bind,HV,Result.andThen_ok,run_eql_struct,dM,Sem.run_pure]
   ·simp only [if_true]at HV ⊢
    simp only[Sem.run_bind,HV,Result.andThen_ok,run_neq_struct,dM,Sem.run_pure]
  ·cases ht
 ·cases ht
end
end Go.Abs
namespace Go.Abs
section
variable {P:Program} {M:Map} {s:St} {w:World}
theorem Dd (l:List UInt8):(⟨⟨l⟩⟩:ByteArray).size=l.length:=rfl
theorem extract_mk (l:List UInt8) (a b:Nat):(⟨⟨l⟩⟩:ByteArray).extract a b = ⟨⟨(l.take b).drop a⟩⟩:=by
 apply ByteArray.ext
 rw[ByteArray.data_extract]
 apply Array.ext'
 simp[List.drop_take]
theorem getElem?_mk (l:List UInt8) (n:Nat):(⟨⟨l⟩⟩:ByteArray)[n]? = l[n]? :=by
 by_cases h:n<l.length
 ·rw[getElem?_pos (⟨⟨l⟩⟩:ByteArray) n h,List.getElem?_eq_getElem h];rfl
 ·rw [List.getElem?_eq_none (by omega)]
  rw[getElem?_neg (c:=(⟨⟨l⟩⟩:ByteArray)) (i:=n)]
  show ¬ n<(⟨⟨l⟩⟩:ByteArray).size
  rw[Dd];omega
theorem Sg (r:Rel M s w) {t:TypeId} {l:List UInt8} {k:IntKind} {n:Int} {c:UInt8} (ht:P.underlying t=some .string) (h0:0≤n) (hc:l[n.toNat]? = some c) :
 dg P M s w (do pure (.value (← Instr.index t (.string ⟨⟨l⟩⟩) (.int k n)))) (.int .u8 c.toNat) s:=by
 refine dg.pure (v:= .int .u8 c.toNat) r ?_ (.int _ _)
 simp[Instr.index,asIntOf,run_underlying ht,h0,getElem?_mk,hc]
theorem J6 (r:Rel M s w) {t ty:TypeId} {l:List UInt8} (ht:P.underlying t=some .string) :
 dg P M s w (do pure (.value (← Builtin.len_ #[t] ty #[.string ⟨⟨l⟩⟩]))) (.int .i64 l.length) s:=by
 refine dg.pure (v:= .int .i64 l.length) r ?_ (.int _ _)
 simp[Builtin.len_,run_underlying ht,goInt,Dd]
theorem nI (r:Rel M s w) {t ty e:TypeId} {a:Option Addr} {n c:Nat} (ht:P.underlying t=some (.slice e)) :
 dg P M s w (do pure (.value (← Builtin.len_ #[t] ty #[.slice a n c]))) (.int .i64 n) s:=by
 refine dg.pure (v:= .int .i64 n) r ?_ (.int _ _)
 simp[Builtin.len_,run_underlying ht,goInt]
theorem O2 (r:Rel M s w) {t e:TypeId} {i:TypeInfo} {g:Tag} {rows:List (List D)} {row:List D} {v:Value} {k:IntKind} {n:Int} (ht:P.underlying t=some (.slice e)) (hi:P.info? e=some i)
 (hd:RD M s (.slice g i.size rows) v) (h0:0≤n) (hr:rows[n.toNat]? = some row) :
 dg P M s w (do pure (.value (← Instr.indexAt t v (.int k n)))) (.dI row 0) s:=by
 have hD:=(List.getElem?_eq_some_iff.1 hr).1
 rcases hd.jz with ⟨rfl,_,_⟩|⟨rfl,_,_⟩|⟨b,q,cap,rfl,hl,hs,h1,h2,_⟩
 ·simp at hr
 ·simp at hr
 ·refine dg.pure (v:= .pointer (some ⟨b,q+n.toNat*i.size+0,none⟩)) r ?_ ?_
  ·have:n<(rows.length:Int):=by omega
   simp[Instr.indexAt,asIntOf,run_underlying ht,h0,this,sizeOf,gh P hi,nc]
  ·refine .dI row 0 b (q+n.toNat*i.size) (fun j d hj=> ?_) (fun j d u hj hu=> ?_)
   ·obtain⟨u,hu⟩:=h1 n.toNat row j d hr hj
    exact⟨u,by rw[Nat.add_assoc];exact hu⟩
   ·exact h2 n.toNat row j d u hr hj (by rw[← Nat.add_assoc];exact hu)
def Si (lv:Option Value) (l:Int):Prop:=(lv=none∧l=0)∨∃ k,lv=some (.int k l)
def Sj (hv:Option Value) (len:Nat) (h:Int):Prop:=(hv=none∧h=len)∨∃ k,hv=some (.int k h)
theorem qi {isSlice:Bool} {lv hv:Option Value} {len cap:Nat} {l h:Int} (h1:Si lv l) (h2:Sj hv len h) (a:0≤l) (b:l≤h) (c:h≤len) (d:len≤cap) :
 (Instr.sliceBounds isSlice len cap lv hv none).run P w = .ok (l.toNat,h.toNat,cap) w:=by
 have h0:0≤h:=by omega
 have hc:h≤cap:=by omega
 rcases h1 with ⟨rfl,rfl⟩|⟨k,rfl⟩<;>rcases h2 with ⟨rfl,rfl⟩|⟨k',rfl⟩
 ·simp[Instr.sliceBounds]
 ·simp[Instr.sliceBounds,run_sliceBound w _ _ _ _ h0 hc]
 ·simp[Instr.sliceBounds,run_sliceBound w _ _ _ _ a b]
 ·have e:(h.toNat:Int)=h:=Int.toNat_of_nonneg h0
  simp[Instr.sliceBounds,run_sliceBound w _ _ _ _ h0 hc,run_sliceBound w _ _ _ _ a (show l≤(h.toNat:Int) by omega)]
theorem Sk (r:Rel M s w) {t:TypeId} {lv hv:Option Value} {x:List UInt8} {l h:Int} (ht:P.underlying t=some .string) (h1:Si lv l) (h2:Sj hv x.length h) (a:0≤l) (b:l≤h) (c:h≤x.length) :
 dg P M s w (do pure (.value (← Instr.sliceAt t (.string ⟨⟨x⟩⟩) lv hv none))) (.str ((x.take h.toNat).drop l.toNat)) s:=by
 have hb:=qi (P:=P) (w:=w) (isSlice:=false) (cap:=x.length) h1 h2 a b c (Nat.le_refl _)
 refine dg.pure (v:= .string ⟨⟨(x.take h.toNat).drop l.toNat⟩⟩) r ?_ (.str _)
 simp[Instr.sliceAt,run_underlying ht,Instr.slice,Dd,hb,extract_mk]
theorem jg.cut {g:Tag} {z len Vu cap:Nat} {base:Option (Nat×Nat)} (h:jg M s g z len base cap) (hl:Vu≤len) (whole:Bool) (hw:whole=true→Vu=len):jg M s (g.cut whole) z Vu base cap:=by
 cases g with
 |full=>
  cases whole with
  |true=>rw[hw rfl];exact h
  |false=>trivial
 |shared=>trivial
 |tok t y=>
  obtain⟨x1,x2⟩:=h
  refine⟨x1,fun n hn=>⟨Nat.le_trans hl (x2 n hn).1,fun e=>?_⟩⟩
  have:len=n:=by have:=(x2 n hn).1;omega
  exact(x2 n hn).2 this
theorem Vv (r:Rel M s w) {t e:TypeId} {i:TypeInfo} {g:Tag} {z:Nat} {lv hv:Option Value} {rows:List (List D)} {v:Value} {l h:Int} (ht:P.underlying t=some (.slice e)) (Fh:P.info? e=some i) (hz:rows = []∨z=i.size)
 (hd:RD M s (.slice g z rows) v) (h1:Si lv l) (h2:Sj hv rows.length h) (a:0≤l) (b:l≤h) (c:h≤rows.length) :
 dg P M s w (do pure (.value (← Instr.sliceAt t v lv hv none))) (.slice (if l=0 then g.cut (h=rows.length)else .shared) z ((rows.take h.toNat).drop l.toNat)) s:=by
 have hlen:((rows.take h.toNat).drop l.toNat).length=h.toNat - l.toNat:=by simp;omega
 have tag : ∀ base cap,jg M s g z rows.length base cap→jg M s (if l=0 then g.cut (h=rows.length)else .shared) z ((rows.take h.toNat).drop l.toNat).length base cap:=by
  intro base cap pe
  split
  ·exact pe.cut (by omega) _ (fun hh=>by simp at hh;omega)
  ·trivial
 rcases hd.jz with ⟨rfl,rfl,pe⟩|⟨rfl,rfl,a',cap,rfl⟩|⟨b',q,cap,rfl,hl,hs,g1,g2,pe⟩
 ·have hb:=qi (P:=P) (w:=w) (isSlice:=true) (cap:=0) h1 h2 a b c (Nat.le_refl _)
  have rE:l=0:=by simp at c;omega
  have hh0:h=0:=by simp at c;omega
  subst rE;subst hh0
  refine dg.pure (v:= .slice none 0 0) r ?_ ?_
  ·simp at hb
   simp[Instr.sliceAt,run_underlying ht,Instr.slice,hb,sizeOf,gh P Fh]
  ·have:=tag _ _ pe
   simp only[Int.toNat_zero,List.take_nil,List.drop_nil,List.length_nil]at this ⊢
   exact .jb _ _ 0 rfl this
 ·have hb:=qi (P:=P) (w:=w) (isSlice:=true) (cap:=cap) h1 h2 a b c (Nat.zero_le _)
  have rE:l=0:=by simp at c;omega
  have hh0:h=0:=by simp at c;omega
  subst rE;subst hh0
  simp only[List.length_nil]at hb
  have dM : ∃ a2:Addr,(Instr.sliceAt t (.slice (some a') 0 cap) lv hv none).run P w = .ok (.slice (some a2) 0 cap) w:=by
   refine⟨if cap=(0:Int).toNat then a' else a'.add ((0:Int).toNat*i.size), ?_⟩
   simp only[Instr.sliceAt,Sem.run_bind,run_underlying ht,Result.andThen_ok,Instr.slice,hb,sizeOf,gh P Fh,Sem.run_pure]
   split<;>simp
  obtain⟨a2,dM⟩:=dM
  refine dg.pure (v:= .slice (some a2) 0 cap) r (by simp[dM]) ?_
  simp only[↓reduceIte,Int.toNat_zero,List.take_nil,List.drop_nil]
  have:Tag.cut .shared (decide ((0:Int)=(([] : List (List D)).length:Int))) = .shared:=rfl
  rw[this]
  exact .mg _ a2 cap
 ·have hb:=qi (P:=P) (w:=w) (isSlice:=true) (cap:=cap) h1 h2 a b c hl
  have dM:(Instr.sliceAt t (.slice (some ⟨b',q,none⟩) rows.length cap) lv hv none).run P w = .ok (.slice (some (if cap=l.toNat then⟨b',q,none⟩else⟨b',q+l.toNat*i.size,none⟩)) (h.toNat - l.toNat) (cap - l.toNat)) w:=by
   simp only[Instr.sliceAt,Sem.run_bind,run_underlying ht,Result.andThen_ok,Instr.slice,hb,sizeOf,gh P Fh,Sem.run_pure]
   split<;>simp[nc]
  by_cases rE:l=0
  ·subst rE
   have e:(if cap=(0:Int).toNat then(⟨b',q,none⟩:Addr)else⟨b',q+(0:Int).toNat*i.size,none⟩) = ⟨b',q,none⟩:=by simp
   rw[e]at dM
   refine dg.pure (v:= .slice (some ⟨b',q,none⟩) ((rows.take h.toNat).drop (0:Int).toNat).length cap) r (by simp[dM];omega) ?_
   refine .slice _ z _ b' q cap (by omega) (fun row hr=>hs row ?_) (fun i row j d e1 e2=>?_) (fun i row j d u e1 e2 eu=>?_) (tag _ _ pe)
   ·simp at hr;exact List.mem_of_mem_take hr
   ·simp[List.getElem?_take]at e1;exact g1 i row j d e1.2 e2
   ·simp[List.getElem?_take]at e1;exact g2 i row j d u e1.2 e2 eu
  ·rw [if_neg rE]
   by_cases uL:cap=l.toNat
   ·have:(rows.take h.toNat).drop l.toNat = []:=List.eq_nil_of_length_eq_zero (by omega)
    rw[this]
    rw[if_pos uL]at dM
    refine dg.pure (v:= .slice (some ⟨b',q,none⟩) ([] : List (List D)).length (cap - l.toNat)) r (by simp[dM];omega) ?_
    exact .slice _ z [] b' q _ (by simp) (by simp) (by simp) (by simp) trivial
   ·rw [if_neg uL]at dM
    refine dg.pure (v:= .slice (some ⟨b',q+l.toNat*i.size,none⟩) ((rows.take h.toNat).drop l.toNat).length (cap - l.toNat)) r (by simp[dM];omega) ?_
    have eH : ∀ (k:Nat) (row:List D),((rows.take h.toNat).drop l.toNat)[k]? = some row→rows[l.toNat+k]? = some row:=by
     intro k row e
     rw[List.getElem?_drop,List.getElem?_take]at e
     split at e
     ·exact e
     ·cases e
    have hzz : ∀ (k:Nat) (row:List D),((rows.take h.toNat).drop l.toNat)[k]? = some row→z=i.size:=by
     intro k row e
     rcases hz with rfl|hz
     ·simp at e
     ·exact hz
    refine .slice _ z _ b' _ _ (by omega) (fun row hr=>hs row (List.mem_of_mem_take (List.mem_of_mem_drop hr))) (fun k row j d e1 e2=>?_) (fun k row j d u e1 e2 eu=>?_) trivial
    ·obtain⟨u,hu⟩:=g1 _ row j d (eH k row e1) e2
     refine⟨u, ?_⟩
     rw[← hu, ← hzz k row e1]
     congr 1
     rw[Nat.add_mul];omega
    ·refine g2 _ row j d u (eH k row e1) e2 ?_
     rw[← eu, ← hzz k row e1]
     congr 1
     rw[Nat.add_mul];omega
theorem xh (off:Nat) : ∀ (l:List Value) (k:Nat) (cells:Array Value) (i:Nat),
 ((l.zipIdx k).foldl (fun cs p=>cs.setIfInBounds (off+p.2) p.1) cells).size=cells.size∧
 (off+k+l.length≤cells.size→((l.zipIdx k).foldl (fun cs p=>cs.setIfInBounds (off+p.2) p.1) cells)[i]? = if off+k≤i∧i<off+k+l.length then l[i - (off+k)]? else cells[i]?)
 | [],k,cells,i=>by simp;intro _ h1 h2;omega
 | v::l,k,cells,i=>by
  obtain⟨h1,h2⟩:=xh off l (k+1) (cells.setIfInBounds (off+k) v) i
  simp only[List.zipIdx_cons,List.foldl_cons]
  refine⟨by rw[h1];simp,fun jI=>?_⟩
  simp only[List.length_cons]at jI
  rw[h2 (by simp;omega)]
  rw[Array.getElem?_setIfInBounds]
  by_cases hi:off+k=i
  ·subst hi
   rw[if_neg (by omega),if_pos rfl,if_pos (by omega),if_pos (by simp)]
   simp
  ·rw [if_neg hi]
   by_cases hr:off+(k+1)≤i∧i<off+(k+1)+l.length
   ·rw [if_pos hr,if_pos (by simp;omega)]
    rw[show i - (off+k)=(i - (off+(k+1)))+1 by omega]
    simp
   ·rw[if_neg hr,if_neg (by simp;omega)]
def ub (M:Map) (s:St) (ds:List D) (vs:Array Value):Prop:=vs.size=ds.length∧(∀ v∈vs,v.oneCell'=true)∧∀ (i:Nat) (d:D) (v:Value),ds[i]? = some d→vs[i]? = some v→RD M s d v
theorem ub.iO {ds:List D} {vs:Array Value} (h:ub M s ds vs) {d:D} {v:Value} {row:List D} (hd:RD M s d v) (hr:d.row=some row) {off:Nat} (jI:off+row.length≤ds.length) :
 ub M s (iO ds off row) (v.cells.zipIdx.foldl (fun cs (p:Value×Nat)=>cs.setIfInBounds (off+p.2) p.1) vs):=by
 obtain⟨h1,h2,h3⟩:=hd.row hr
 obtain⟨g1,g2,g3⟩:=h
 have e:v.cells.zipIdx.foldl (fun cs (p:Value×Nat)=>cs.setIfInBounds (off+p.2) p.1) vs=(v.cells.toList.zipIdx 0).foldl (fun cs p=>cs.setIfInBounds (off+p.2) p.1) vs:=by
  rw[← Array.foldl_toList];simp
 rw[e]
 have hl:v.cells.toList.length=row.length:=by simpa using h1
 have fs:=fun i=>xh off v.cells.toList 0 vs i
 have get : ∀ i,((v.cells.toList.zipIdx 0).foldl (fun cs p=>cs.setIfInBounds (off+p.2) p.1) vs)[i]? = if off≤i∧i<off+row.length then v.cells.toList[i - off]? else vs[i]? :=by
  intro i
  have:=(fs i).2 (by omega)
  rw[hl]at this
  simpa using this
 refine⟨by rw[(fs 0).1,g1,uJ ds off row jI],fun u hu=>?_,fun i d' u e1 e2=>?_⟩
 ·obtain⟨i,hi⟩:=Array.mem_iff_getElem?.1 hu
  rw[get]at hi
  split at hi
  ·exact h2 u (Array.mem_toList_iff.1 (List.mem_of_getElem? hi))
  ·exact g2 u (Array.mem_of_getElem? hi)
 ·rw [rS ds off row jI]at e1
  rw[get]at e2
  by_cases h5:off≤i
  ·by_cases h6:i<off+row.length
   ·rw [if_pos ⟨h5,h6⟩]at e2
    rw[if_neg (by omega),if_pos h6]at e1
    exact h3 _ d' u e1 (by simpa using e2)
   ·rw [if_neg (fun h=>h6 h.2)]at e2
    rw[if_neg (by omega),if_neg h6]at e1
    exact g3 i d' u e1 e2
  ·rw [if_neg (fun h=>h5 h.1)]at e2
   rw[if_pos (by omega)]at e1
   exact g3 i d' u e1 e2
theorem J7 {place:Nat→Option (Nat×Nat)} : ∀ (vp:List (Nat×Value)) (dp:List (Nat×Nat×D)) (ds:List D) (vs:Array Value) (oc:List D),ub M s ds vs→
 dp.length=vp.length→(∀ (j:Nat) (i:Nat) (v:Value) (off size:Nat) (d:D),vp[j]? = some (i,v)→dp[j]? = some (off,size,d)→place i=some (off,size)∧RD M s d v)→
 rP ds dp=some oc→∃ fO,Instr.fill place vs vp=some fO∧ub M s oc fO
 | [],[],ds,vs,oc,h,_,_,e=>by cases e;exact⟨vs,rfl,h⟩
 | [],_::_,_,_,_,_,hl,_,_=>by simp at hl
 |_::_,[],_,_,_,_,hl,_,_=>by simp at hl
 | (i,v)::vp,(off,size,d)::dp,ds,vs,oc,h,hl,hp,e=>by
  obtain⟨h1,h2⟩:=hp 0 i v off size d rfl rfl
  unfold rP at e
  split at e
  ·cases e
  ·rename_i row hr
   split at e
   ·rename_i hc
    obtain⟨c1,c2⟩:=hc
    have dP:=(h2.row hr).1
    obtain⟨fO,f1,f2⟩:=J7 vp dp (iO ds off row) _ oc (h.iO h2 hr (by omega)) (by simpa using hl)
     (fun j i v off size d e1 e2=>hp (j+1) i v off size d (by simpa using e1) (by simpa using e2)) e
    refine⟨fO, ?_,f2⟩
    unfold Instr.fill
    simp only[h1]
    rw[if_neg]
    ·exact f1
    ·simp;exact⟨by omega,by have:=h.1;omega⟩
   ·cases e
end
end Go.Abs
namespace Go.Abs
section
variable {P:Program} {M:Map} {s:St} {w:World}
def mO (M:Map) (s:St) (size:Nat) (rows:List (List D)) (vs:Array Value):Prop:=
 rows.length*size≤vs.size∧(∀ row∈rows,row.length=size)∧(∀ v∈vs,v.oneCell'=true)∧
 ∀ (i:Nat) (row:List D) (j:Nat) (d:D) (v:Value),rows[i]? = some row→row[j]? = some d→vs[i*size+j]? = some v→RD M s d v
theorem BX {size:Nat} {rows:List (List D)} (hs : ∀ row∈rows,row.length=size) {i:Nat} {row:List D} {j:Nat} {d:D} (h1:rows[i]? = some row) (h2:row[j]? = some d):i*size+j<rows.length*size:=by
 have hi:=(List.getElem?_eq_some_iff.1 h1).1
 have hj:=(List.getElem?_eq_some_iff.1 h2).1
 have:=hs row (List.mem_of_getElem? h1)
 have:i*size+size≤rows.length*size:=by rw[← Nat.succ_mul];exact Nat.mul_le_mul_right _ hi
 omega
theorem mO.fixed {size:Nat} {rows:List (List D)} {vs:Array Value} (h:mO M s size rows vs) {M':Map} {s':St} (le:Le M s M' s') {b:Nat}
 (hG : ∀ o,o<rows.length*size→M'.G b o=vs[o]?) :
 (∀ (i:Nat) (row:List D) (j:Nat) (d:D),rows[i]? = some row→row[j]? = some d→∃ u,M'.G b (0+(i*size+j))=some u)∧
 (∀ (i:Nat) (row:List D) (j:Nat) (d:D) (u:Value),rows[i]? = some row→row[j]? = some d→M'.G b (0+(i*size+j))=some u→RD M' s' d u):=by
 obtain⟨h1,h2,h3,h4⟩:=h
 refine⟨fun i row j d e1 e2=>?_,fun i row j d u e1 e2 eu=>?_⟩
 ·have hD:=BX h2 e1 e2
  rw[Nat.zero_add,hG _ hD]
  exact⟨_,Array.getElem?_eq_getElem (by omega)⟩
 ·have hD:=BX h2 e1 e2
  rw[Nat.zero_add,hG _ hD]at eu
  exact(h4 i row j d u e1 e2 eu).mono le
theorem mP (z:List D) : ∀ n,(gf z n).length=n
 | 0=>rfl
 |n+1=>by simp[gf,mP z n]
theorem pO (z:List D) : ∀ n,∀ row∈gf z n,row=z
 | 0,_,h=>by cases h
 |n+1,row,h=>by
  rcases List.mem_cons.1 h with rfl|h
  ·rfl
  ·exact pO z n row h
theorem mO.zero {z:List D} {zs:Array Value} (h:ub M s z zs) (hp:0<z.length) (n:Nat):mO M s z.length (gf z n) ((Array.range (n*z.length)).map (zs[· % zs.size]!)):=by
 obtain⟨h1,h2,h3⟩:=h
 have get : ∀ q,q<n*z.length→((Array.range (n*z.length)).map (zs[· % zs.size]!))[q]? = zs[q % z.length]? :=by
  intro q hq
  have:q % z.length<zs.size:=by rw[h1];exact Nat.mod_lt _ hp
  simp only[Array.getElem?_map,Array.getElem?_range,hq,if_true,Option.map_some]
  rw[h1,getElem!_pos zs (q % z.length) this,Array.getElem?_eq_getElem this]
 refine⟨by simp[mP],fun row hr=>by rw[pO z n row hr],fun v hv=>?_,fun i row j d v e1 e2 e3=>?_⟩
 ·obtain⟨q,hq⟩:=Array.mem_iff_getElem?.1 hv
  have hD:q<n*z.length:=by have:=(Array.getElem?_eq_some_iff.1 hq).1;simpa using this
  rw[get q hD]at hq
  exact h2 v (Array.mem_of_getElem? hq)
 ·have eH:=pO z n row (List.mem_of_getElem? e1)
  subst eH
  have hD:=BX (size:=row.length) (fun r hr=>by rw[pO row n r hr]) e1 e2
  rw[mP]at hD
  rw[get _ hD]at e3
  have hj:=(List.getElem?_eq_some_iff.1 e2).1
  rw[Nat.mul_comm,Nat.mul_add_mod,Nat.mod_eq_of_lt hj]at e3
  exact h3 j d v e2 e3
theorem mO.set {size:Nat} {rows:List (List D)} {vs:Array Value} (h:mO M s size rows vs) {d:D} {v:Value} {row:List D} (hd:RD M s d v) (hr:d.row=some row) (hl:row.length=size) {i:Nat} (hi:i<rows.length) :
 mO M s size (rows.set i row) (v.cells.zipIdx.foldl (fun cs (p:Value×Nat)=>cs.setIfInBounds (i*size+p.2) p.1) vs):=by
 obtain⟨h1,h2,h3⟩:=hd.row hr
 obtain⟨g1,g2,g3,g4⟩:=h
 have e:v.cells.zipIdx.foldl (fun cs (p:Value×Nat)=>cs.setIfInBounds (i*size+p.2) p.1) vs=(v.cells.toList.zipIdx 0).foldl (fun cs p=>cs.setIfInBounds (i*size+p.2) p.1) vs:=by
  rw[← Array.foldl_toList];simp
 rw[e]
 have jc:v.cells.toList.length=size:=by simp[h1,hl]
 have jI:i*size+size≤vs.size:=by
  have:(i+1)*size≤rows.length*size:=Nat.mul_le_mul_right _ hi
  rw[Nat.succ_mul]at this;omega
 have fs:=fun q=>xh (i*size) v.cells.toList 0 vs q
 have get : ∀ q,((v.cells.toList.zipIdx 0).foldl (fun cs p=>cs.setIfInBounds (i*size+p.2) p.1) vs)[q]? = if i*size≤q∧q<i*size+size then v.cells.toList[q - i*size]? else vs[q]? :=by
  intro q
  have:=(fs q).2 (by omega)
  rw[jc]at this
  simpa using this
 refine⟨by rw[(fs 0).1];simpa using g1,fun r Sl=>?_,fun u hu=>?_,fun i' kT j d' u e1 e2 e3=>?_⟩
 ·rcases List.mem_or_eq_of_mem_set Sl with h | rfl
  ·exact g2 r h
  ·exact hl
 ·obtain⟨q,hq⟩:=Array.mem_iff_getElem?.1 hu
  rw[get]at hq
  split at hq
  ·exact h2 u (Array.mem_toList_iff.1 (List.mem_of_getElem? hq))
  ·exact g3 u (Array.mem_of_getElem? hq)
 ·rw [List.getElem?_set]at e1
  rw[get]at e3
  split at e1
  ·rename_i heq;subst heq
   simp at e1
   obtain⟨_,rfl⟩:=e1
   have hj:=(List.getElem?_eq_some_iff.1 e2).1
   rw[if_pos (by omega)]at e3
   rw[show i*size+j - i*size=j by omega]at e3
   exact h3 j d' u e2 (by simpa using e3)
  ·rename_i eW
   have hj:=(List.getElem?_eq_some_iff.1 e2).1
   have BY:=g2 kT (List.mem_of_getElem? e1)
   rw[if_neg]at e3
   ·exact g4 i' kT j d' u e1 e2 e3
   ·rintro⟨a,b⟩
    rcases Nat.lt_or_gt_of_ne eW with h|h
    ·have:(i+1)*size≤i'*size:=Nat.mul_le_mul_right _ h
     rw[Nat.succ_mul]at this;omega
    ·have:(i'+1)*size≤i*size:=Nat.mul_le_mul_right _ h
     rw[Nat.succ_mul]at this;omega
theorem B0 {size:Nat} : ∀ (vp:List (Nat×Value)) (dp:List (Nat×D)) (rows:List (List D)) (vs:Array Value) (pz:List (List D)),mO M s size rows vs→
 dp.length=vp.length→(∀ (j:Nat) (i:Nat) (v:Value) (i':Nat) (d:D),vp[j]? = some (i,v)→dp[j]? = some (i',d)→i'=i∧RD M s d v)→
 ky size rows dp=some pz→∃ fO,Instr.fill (fun i=>some (i*size,size)) vs vp=some fO∧mO M s size pz fO∧pz.length=rows.length∧fO.size=vs.size
 | [],[],rows,vs,pz,h,_,_,e=>by cases e;exact⟨vs,rfl,h,rfl,rfl⟩
 | [],_::_,_,_,_,_,hl,_,_=>by simp at hl
 |_::_,[],_,_,_,_,hl,_,_=>by simp at hl
 | (i,v)::vp,(i',d)::dp,rows,vs,pz,h,hl,hp,e=>by
  obtain⟨h1,h2⟩:=hp 0 i v i' d rfl rfl
  subst h1
  unfold ky at e
  split at e
  ·cases e
  ·rename_i row hr
   split at e
   ·rename_i hc
    obtain⟨c1,c2⟩:=hc
    have dP:=(h2.row hr).1
    have ahk:=h.set h2 hr c1 c2
    obtain⟨fO,f1,f2,f3,f4⟩:=B0 vp dp (rows.set i' row) _ pz ahk (by simpa using hl)
     (fun j i v i' d e1 e2=>hp (j+1) i v i' d (by simpa using e1) (by simpa using e2)) e
    have jI:i'*size+size≤vs.size:=by
     have:(i'+1)*size≤rows.length*size:=Nat.mul_le_mul_right _ c2
     have:=h.1
     rw[Nat.succ_mul]at *;omega
    refine⟨fO, ?_,f2,by rw[f3];simp, ?_⟩
    ·unfold Instr.fill
     simp only
     rw[if_neg]
     ·exact f1
     ·simp;exact⟨by omega,by omega⟩
    ·rw [f4]
     have:=(xh (i'*size) v.cells.toList 0 vs 0).1
     rw[← this, ← Array.foldl_toList];simp
   ·cases e
theorem O3 (r:Rel M s w) {size:Nat} {rows:List (List D)} {vs:Array Value} (T:TypeId) (h:mO M s size rows vs) :
 RD (M.fR w.heap.size vs.size vs) s (.slice .full size rows) (.slice (some ⟨w.heap.size,0,none⟩) rows.length rows.length)∧
 Rel (M.fR w.heap.size vs.size vs) s (w.alloc (.cells vs T))∧Ext M s w (M.fR w.heap.size vs.size vs) s (w.alloc (.cells vs T)):=by
 obtain⟨r',e'⟩:=r.fR vs.size vs T (0,0) h.2.2.1
 obtain⟨g1,g2⟩:=h.fixed e'.le (b:=w.heap.size) (fun o ho=>by
  have:o<vs.size:=Nat.lt_of_lt_of_le ho h.1
  simp[Map.fR,this])
 exact⟨.slice .full size rows w.heap.size 0 rows.length (Nat.le_refl _) h.2.1 g1 g2 rfl,r',e'⟩
theorem ml {t u ty e:TypeId} {i:TypeInfo} (ht:P.underlying t=some (.slice e)) (hi:P.info? e=some i) {base:Option Addr} {len cap:Nat} {y:Value} (hs:Src P i.size u y 0 [] w) (hc:len≤cap) :
 (Builtin.append_ #[t,u] ty #[.slice base len cap,y]).run P w = .ok (.slice base len cap) w:=by
 have mQ:=hs.cells
 rcases hs.kind with ⟨e',hk⟩|hk<;>cases base<;>simp[Builtin.append_,run_underlying ht,run_underlying hk,sizeOf,typeInfo,hi,hs.len,hc,mQ,storeCells]
theorem HW (r:Rel M s w) {u e':TypeId} (hu:P.underlying u=some (.slice e')) {g:Tag} {size:Nat} {rows:List (List D)} {y:Value} (hy:RD M s (.slice g size rows) y) :
 ∃ news:List Value,Src P size u y rows.length news w∧
  (∀ (i:Nat) (row:List D) (j:Nat) (d:D) (v:Value),rows[i]? = some row→row[j]? = some d→news[i*size+j]? = some v→RD M s d v)∧
  ∀ (b q n c:Nat),y = .slice (some ⟨b,q,none⟩) n c→∀ o,o<rows.length*size→M.G b (q+o)=news[o]? :=by
 rcases hy.jz with ⟨rfl,rfl,_⟩|⟨rfl,_,a,cap,rfl⟩|⟨b,q,cap,rfl,hl,hs,g1,g2,_⟩
 ·exact⟨[],Src.ofNil w hu 0,by simp,by simp⟩
 ·exact⟨[],Src.ofSlice w hu a 0 cap [] (by simp) (by simp) (by simp),by simp,by simp⟩
 ·obtain⟨us,hlen,DX⟩:=zY (M:=M) (b:=b) (rows.length*size) q (fun k hk=>by
   have hz:0<size:=by
    rcases Nat.eq_zero_or_pos size with h|h
    ·subst h;simp at hk
    ·exact h
   have hi:k / size<rows.length:=by rw[Nat.div_lt_iff_lt_mul hz];exact hk
   obtain⟨row,eH⟩ : ∃ row,rows[k / size]? = some row:=⟨_,List.getElem?_eq_getElem hi⟩
   have BY:=hs row (List.mem_of_getElem? eH)
   have hj:k % size<row.length:=by rw[BY];exact Nat.mod_lt _ hz
   obtain⟨u,hu⟩:=g1 _ row _ _ eH (List.getElem?_eq_getElem hj)
   refine⟨u, ?_⟩
   rw[← hu,Nat.mul_comm (k / size) size,Nat.div_add_mod])
  refine⟨us,Src.ofSlice w hu ⟨b,q,none⟩ rows.length cap us hlen (fun j u h=>by rw[nc];exact(r.comm _ _ _ (DX j u h)).1) (fun u hu=>?_),fun i row j d v e1 e2 e3=>g2 i row j d v e1 e2 (DX _ v e3),
   fun b' q' n c heq o ho=>by
    cases heq
    rw[DX o _ (List.getElem?_eq_getElem (by omega)),List.getElem?_eq_getElem (by omega)]⟩
  obtain⟨j,hj⟩:=List.mem_iff_getElem?.1 hu
  exact(r.comm _ _ _ (DX j u hj)).2
theorem Fi {size:Nat} {rows new:List (List D)} {qC news:List Value} (wa : ∀ row∈rows,row.length=size) (Bi : ∀ row∈new,row.length=size)
 (l1:qC.length=rows.length*size) (l2:news.length=new.length*size) (o1 : ∀ u∈qC,u.oneCell'=true) (o2 : ∀ u∈news,u.oneCell'=true)
 (h1 : ∀ (i:Nat) (row:List D) (j:Nat) (d:D) (v:Value),rows[i]? = some row→row[j]? = some d→qC[i*size+j]? = some v→RD M s d v)
 (h2 : ∀ (i:Nat) (row:List D) (j:Nat) (d:D) (v:Value),new[i]? = some row→row[j]? = some d→news[i*size+j]? = some v→RD M s d v)
 (z:Array Value) (hz : ∀ v∈z,v.oneCell'=true):mO M s size (rows++new) ((qC++news).toArray++z):=by
 have hs : ∀ row∈rows++new,row.length=size:=fun row h=>(List.mem_append.1 h).elim (wa row) (Bi row)
 refine⟨by simp[l1,l2,Nat.add_mul],hs,fun v hv=>?_,fun i row j d v e1 e2 e3=>?_⟩
 ·simp at hv
  rcases hv with (h|h)|h
  ·exact o1 v h
  ·exact o2 v h
  ·exact hz v h
 ·have hD:=BX hs e1 e2
  rw[List.length_append,Nat.add_mul]at hD
  rw[Array.getElem?_append_left (by simp[l1,l2];omega),List.getElem?_toArray]at e3
  by_cases hi:i<rows.length
  ·rw [List.getElem?_append_left hi]at e1
   have:=BX wa e1 e2
   rw[List.getElem?_append_left (by omega)]at e3
   exact h1 i row j d v e1 e2 e3
  ·rw [List.getElem?_append_right (by omega)]at e1
   have vq:rows.length*size≤i*size:=Nat.mul_le_mul_right _ (by omega)
   rw[List.getElem?_append_right (by omega),l1]at e3
   refine h2 (i - rows.length) row j d v e1 e2 ?_
   rw[← e3]
   congr 1
   rw[Nat.sub_mul];omega
theorem uM {z:Array Value} (h : ∀ v∈z,v.oneCell'=true) (n:Nat) : ∀ v∈Builtin.zeroCells z n,v.oneCell'=true:=by
 intro v hv
 unfold Builtin.zeroCells at hv
 obtain⟨q,hq,rfl⟩:=Array.mem_map.1 hv
 have hD:q<n*z.size:=by simpa using hq
 have hz:0<z.size:=by
  rcases Nat.eq_zero_or_pos z.size with h|h
  ·rw[h]at hD;simp at hD
  ·exact h
 have:=Nat.mod_lt q hz
 rw[getElem!_pos z (q % z.size) this]
 exact h _ (Array.getElem_mem this)
def GV (eb:Bool) (size bytes:Nat) (x y:D) (s:St):Option (D×St):=
 match x,y with
 | .slice g z rows, .slice _ z' new=>
  if(rows = []∨z=size)∧(new = []∨z'=size)∧(rows.length+new.length)*(bytes+1)≤bx then
   match new with
   | []=>some (.slice g z rows,s)
   |_::_=>
    match g with
    | .full=>some (.slice (.tok s.ay.length eb) size (rows++new),{s with ay:=s.ay++ [some (rows.length+new.length)]})
    | .shared=>none
    | .tok t y=>if(y=true→eb=true)∧z=size∧s.ay[t]? = some (some rows.length)then some (.slice (.tok t y) size (rows++new),{s with ay:=s.ay.set t (some (rows.length+new.length))})else none
  else none
 |_,_=>none
theorem acW {size bytes:Nat} {x y d:D} {s s':St} (h:iP size bytes x y s=some (d,s')):GV false size bytes x y s=some (d,s'):=by
 unfold iP at h
 unfold GV
 split at h
 ·split at h
  ·rename_i hc
   simp only[hc,and_self,if_true]
   split at h
   ·exact h
   ·split at h
    ·exact h
    ·exact h
    ·cases h
    ·split at h
     ·rename_i hq
      simp only[hq,and_self,Bool.false_eq_true,false_imp_iff,if_true]
      exact h
     ·cases h
  ·cases h
 ·cases h
theorem Sn {x y d:D} {s s':St} (h:BO x y s=some (d,s')):GV true 1 1 x y s=some (d,s'):=by
 unfold BO at h
 unfold GV
 split at h
 ·split at h
  ·rename_i hc
   simp only[hc,and_self,if_true]
   split at h
   ·exact h
   ·split at h
    ·exact h
    ·exact h
    ·split at h
     ·rename_i hq
      simp only[hq,and_self,imp_true_iff,if_true]
      exact h
     ·cases h
  ·cases h
 ·cases h
theorem Yz {b:Bool} {n:Nat} (h:b=true→n=1) (hn:0<n):zs (bz b n)=n:=by
 cases b
 ·show(if n=0 then 1 else n)=n
  rw[if_neg (by omega)]
 ·simp[zs,bz,h rfl]
theorem Es (eb:Bool) (r:Rel M s w) {t u ty e:TypeId} {i:TypeInfo} {z:Value} (ht:P.underlying t=some (.slice e)) (hi:P.info? e=some i) (hz:i.zero=some z)
 (yY:z.cells.size=i.size) (D0 : ∀ v∈z.cells,v.oneCell'=true) {dx dy d:D} {x y:Value} {s':St} (hx:RD M s dx x) (YA:eb=true→e=qh∧i.size=1) (ta:0<i.size) (he:GV eb i.size i.bytes dx dy s=some (d,s'))
 (src : ∀ (g:Tag) (size:Nat) (rows:List (List D)),dy = .slice g size rows→(rows = []→Src P i.size u y 0 [] w)∧(rows≠ []→size=i.size→(∀ row∈rows,row.length=i.size)∧∃ news:List Value,Src P i.size u y rows.length news w∧
  (∀ (k:Nat) (row:List D) (j:Nat) (d:D) (v:Value),rows[k]? = some row→row[j]? = some d→news[k*i.size+j]? = some v→RD M s d v))) :
 ∃ v w' M',(Builtin.append_ #[t,u] ty #[x,y]).run P w = .ok v w'∧Rel M' s' w'∧RD M' s' d v∧Ext M s w M' s' w':=by
 unfold GV at he
 split at he
 case h_2=>cases he
 rename_i g zx rows g' zy new
 split at he
 case isFalse=>cases he
 rename_i hc
 obtain⟨qv,J9,xi⟩:=hc
 cases new with
 | nil=>
  simp only at he
  cases he
  have wb:Src P i.size u y 0 [] w:=(src _ _ _ rfl).1 rfl
  rcases hx.jz with ⟨_,hv,_⟩|⟨_,_,a,cap,hv⟩|⟨b,q,cap,hv,hl,_⟩
  ·refine⟨x,w,M, ?_,r,hx,Ext.refl M s w⟩
   rw[hv]
   exact ml ht hi wb (Nat.le_refl _)
  ·refine⟨x,w,M, ?_,r,hx,Ext.refl M s w⟩
   rw[hv]
   exact ml ht hi wb (Nat.zero_le _)
  ·refine⟨x,w,M, ?_,r,hx,Ext.refl M s w⟩
   rw[hv]
   exact ml ht hi wb hl
 | cons n0 new=>
  have eW:(n0::new)≠ []:=by simp
  generalize dw:n0::new=eA at *
  have Sp:zy=i.size:=J9.resolve_left eW
  subst Sp
  obtain⟨HX,news,hs,De⟩:=(src _ _ _ rfl).2 eW rfl
  have hm:0<eA.length:=List.length_pos_iff.2 eW
  have ud:(rows.length+eA.length)*i.bytes≤140737488355328:=by rw[Nat.mul_succ]at xi;simp only[bx]at xi;omega
  have Sq:rows.length+eA.length≤1099511627776:=by rw[Nat.mul_succ]at xi;simp only[bx]at xi;omega
  -- what the first argument reads as
  obtain⟨base,cap,qC,hxv,hle,jA,hod,YB,acY,hsx,hoG,pe⟩ : ∃ (base:Option Addr) (cap:Nat) (qC:List Value),x = .slice base rows.length cap∧rows.length≤cap∧qC.length=rows.length*i.size∧
   (Builtin.firstCells i.size rows.length (.slice base rows.length cap)).run P w.drew = .ok qC.toArray w.drew∧(∀ u∈qC,u.oneCell'=true)∧
   (∀ (k:Nat) (row:List D) (j:Nat) (d:D) (v:Value),rows[k]? = some row→row[j]? = some d→qC[k*i.size+j]? = some v→RD M s d v)∧(∀ row∈rows,row.length=i.size)∧
   (∀ b q,base=some ⟨b,q,none⟩→∀ o,o<rows.length*i.size→M.G b (q+o)=qC[o]?)∧
   ((base=none∧rows = []∧jg M s g zx 0 none cap)∨∃ b q,base=some ⟨b,q,none⟩∧jg M s g zx rows.length (some (b,q)) cap):=by
   rcases qv with h0|h0
   ·subst h0
    rcases hx.jz with ⟨_,hv,pe⟩|⟨_,rfl,_⟩|⟨b,q,cap,hv,hl,_,_,_,pe⟩
    ·exact⟨none,0,[],hv,Nat.le_refl _,by simp,by simp[Builtin.firstCells],by simp,by simp,by simp,by simp, .inl ⟨rfl,rfl,pe⟩⟩
    ·exfalso;simp only[← dw]at he;cases he
    ·exact⟨some ⟨b,q,none⟩,cap,[],hv,hl,by simp,by simp[Builtin.firstCells,loadCells,loadCellsFrom],by simp,by simp,by simp,by simp, .inr ⟨b,q,rfl,pe⟩⟩
   ·subst h0
    obtain⟨qC,B2,ho2,ho3⟩:=HW r ht hx
    rcases hx.jz with ⟨h0,hv,pe⟩|⟨_,rfl,_⟩|⟨b,q,cap,hv,hl,nJ,_,_,pe⟩
    ·subst h0
     refine⟨none,0,qC,hv,Nat.le_refl _,B2.newsLen, ?_,B2.one,ho2,by simp,by simp, .inl ⟨rfl,rfl,pe⟩⟩
     have:=B2.cellsD;rw[hv]at this;exact this
    ·exfalso;simp only[← dw]at he;cases he
    ·refine⟨some ⟨b,q,none⟩,cap,qC,hv,hl,B2.newsLen, ?_,B2.one,ho2,nJ,fun b' q' heq o ho=> ?_, .inr ⟨b,q,rfl,pe⟩⟩
     ·have:=B2.cellsD;rw[hv]at this;exact this
     ·cases heq;exact ho3 b q _ cap hv o ho
  subst hxv
  -- the way that makes a new row
  have grow : ∀ (hg:cap<rows.length+eA.length),∃ (w':World) (M1:Map) (vs:Array Value) (pP:Nat),
   (Builtin.append_ #[t,u] ty #[.slice base rows.length cap,y]).run P w = .ok (.slice (some ⟨w.heap.size,0,none⟩) (rows.length+eA.length) pP) w'∧
   w'.heap[w.heap.size]? = some (.cells vs e (0,0))∧vs.size=pP*i.size∧rows.length+eA.length≤pP∧M1=M.fR w.heap.size ((rows.length+eA.length)*i.size) vs∧
   mO M s i.size (rows++eA) vs∧Rel M1 s w'∧Ext M s w M1 s w':=by
   intro hg
   have vq:=grownCap_ge w (rows.length+eA.length) cap e
   have dM:=run_append_grow_src (P:=P) w t u ty e i z ht hi hz base rows.length cap qC hod y eA.length news hs hg (by omega) (growslice_fits hg ud)
   have eH:=Fi (M:=M) (s:=s) hsx HX jA hs.newsLen YB hs.one acY De (Builtin.zeroCells z.cells (grownCap w (rows.length+eA.length) cap e - (rows.length+eA.length))) (uM D0 _)
   obtain⟨r1,e1⟩:=(r.of_heap (w':=w.drew) rfl).fR ((rows.length+eA.length)*i.size) _ e (0,0) eH.2.2.1
   refine⟨_,_,_,_,dM,heap_alloc_new w.drew _, ?_,vq,rfl,eH,r1,(Ext.of_heap (M:=M) (s:=s) (w:=w) (w':=w.drew) rfl rfl rfl rfl).trans e1⟩
   simp only[Array.size_append,List.size_toArray,List.length_append,size_zeroCells,yY,jA,hs.newsLen, ← Nat.add_mul]
   congr 1;omega
  have hlen:(rows++eA).length=rows.length+eA.length:=by simp
  cases g with
  |shared=>simp only[← dw]at he;cases he
  | full=>
   have uL:cap=rows.length:=by
    rcases pe with ⟨_,h0,h1⟩|⟨_,_,_,h1⟩
    ·subst h0;exact h1
    ·exact h1
   obtain⟨w',M1,vs,pP,dM,hh,dP,hn,Fj,eH,r1,e1⟩:=grow (by omega)
   simp only[← dw]at he
   simp only[dw]at he
   cases he
   have Ka:zs (bz eb i.size)=i.size:=Yz (fun h=>(YA h).2) ta
   have YC:bz eb i.size=0→e=qh:=fun h0=>by
    cases eb with
    |true=>exact(YA rfl).1
    |false=>simp[bz]at h0;omega
   obtain⟨r2,l2⟩:=r1.Yy (rows.length+eA.length) w.heap.size pP (bz eb i.size) vs e hh (by rw[Ka];exact dP) hn YC
    (fun off ho=>by rw[Ka]at ho;rw[Fj];simp[Map.fR];omega)
    (fun o ho=>by have:=r.qX ho;rw [Fj];show M.mu o≠_;omega) (fun q c z' hl heq=>by
     have:M.be q=some (w.heap.size,c,z'):=by rw[Fj]at heq;exact heq
     have:=r.tB hl this;omega)
   refine⟨_,w',_,dM,r2, ?_, ?_⟩
   ·obtain⟨f1,f2⟩:=eH.fixed (e1.le.trans l2) (b:=w.heap.size) (fun o ho=>by
     rw[Fj,hlen]at *
     simp[Map.fi,Map.fR,ho])
    have key:=RD.slice (M:=M1.fi s.ay.length (some (w.heap.size,pP,bz eb i.size))) (s:= {s with ay:=s.ay++ [some (rows.length+eA.length)]}) (.tok s.ay.length eb) i.size (rows++eA) w.heap.size 0 pP (by rw[hlen];exact hn) eH.2.1 f1 f2
     ⟨by simp,fun n rV=>by
      simp at rV
      subst rV
      exact⟨by rw[hlen];exact Nat.le_refl _,fun _=> .inr ⟨_,rfl,by simp[Map.fi]⟩⟩⟩
    rw[hlen]at key
    exact key
   ·refine⟨e1.le.trans l2,e1.kept,e1.uI,fun q b c z' hl heq=> ?_,e1.sY,e1.size,e1.os,e1.tape,e1.output⟩
    obtain⟨k,hk⟩:=hl
    rcases Nat.lt_or_ge q s.ay.length with h|h
    ·have Kb:M1.be q=some (b,c,z'):=by
      have:(M1.fi s.ay.length (some (w.heap.size,pP,bz eb i.size))).be q=M1.be q:=by simp[Map.fi];omega
      rw[this]at heq;exact heq
     simp only[List.getElem?_append_left h]at hk
     exact e1.rf q b c z' ⟨k,hk⟩ Kb
    ·have:=(List.getElem?_eq_some_iff.1 hk).1
     simp at this
     have:q=s.ay.length:=by omega
     subst this
     have:(M1.fi s.ay.length (some (w.heap.size,pP,bz eb i.size))).be s.ay.length=some (w.heap.size,pP,bz eb i.size):=by simp[Map.fi]
     rw[this]at heq;cases heq
     exact .inr (Nat.le_refl _)
  | tok q yb=>
   simp only[← dw]at he
   simp only[dw]at he
   split at he
   case isFalse=>cases he
   rename_i hq
   obtain⟨YC,hzx,hq⟩:=hq
   cases he
   have Ka:zs (bz yb i.size)=i.size:=Yz (fun h=>(YA (YC h)).2) ta
   have aly:bz yb i.size=0→e=qh:=fun h0=>by
    cases yb with
    |true=>exact(YA (YC rfl)).1
    |false=>simp[bz]at h0;omega
   have O4 : ∀ (hg:cap<rows.length+eA.length),∃ v w' M',(Builtin.append_ #[t,u] ty #[.slice base rows.length cap,y]).run P w = .ok v w'∧Rel M' {s with ay:=s.ay.set q (some (rows.length+eA.length))} w'∧
    RD M' {s with ay:=s.ay.set q (some (rows.length+eA.length))} (.slice (.tok q yb) i.size (rows++eA)) v∧Ext M s w M' {s with ay:=s.ay.set q (some (rows.length+eA.length))} w':=by
    intro hg
    obtain⟨w',M1,vs,pP,dM,hh,dP,hn,Fj,eH,r1,e1⟩:=grow hg
    have Kc:q<s.ay.length:=(List.getElem?_eq_some_iff.1 hq).1
    obtain⟨r2,l2⟩:=r1.ahg q rows.length (rows.length+eA.length) w.heap.size pP (bz yb i.size) vs e hq (by omega) hh (by rw[Ka];exact dP) hn aly
     (fun off ho=>by rw[Ka]at ho;rw[Fj];simp[Map.fR];omega)
     (fun o ho=>by have:=r.qX ho;rw [Fj];show M.mu o≠_;omega) (fun q c z' hl heq=>by
      have:M.be q=some (w.heap.size,c,z'):=by rw[Fj]at heq;exact heq
      have:=r.tB hl this;omega)
    refine⟨_,w',_,dM,r2, ?_, ?_⟩
    ·obtain⟨f1,f2⟩:=eH.fixed (e1.le.trans l2) (b:=w.heap.size) (fun o ho=>by
      rw[Fj,hlen]at *
      simp[Map.fi,Map.fR,ho])
     have key:=RD.slice (M:=M1.fi q (some (w.heap.size,pP,bz yb i.size))) (s:= {s with ay:=s.ay.set q (some (rows.length+eA.length))}) (.tok q yb) i.size (rows++eA) w.heap.size 0 pP (by rw[hlen];exact hn) eH.2.1 f1 f2
      ⟨by simp [Kc],fun n rV=>by
       simp[Kc]at rV
       subst rV
       exact⟨by rw[hlen];exact Nat.le_refl _,fun _=> .inr ⟨_,rfl,by simp[Map.fi]⟩⟩⟩
     rw[hlen]at key
     exact key
    ·refine⟨e1.le.trans l2,e1.kept,e1.uI,fun q' b c z' hl heq=> ?_,e1.sY,e1.size,e1.os,e1.tape,e1.output⟩
     obtain⟨k,hk⟩:=hl
     by_cases h:q'=q
     ·subst h
      have:(M1.fi q' (some (w.heap.size,pP,bz yb i.size))).be q'=some (w.heap.size,pP,bz yb i.size):=by simp[Map.fi]
      rw[this]at heq;cases heq
      exact .inr (Nat.le_refl _)
     ·have Kb:M1.be q'=some (b,c,z'):=by
       have:(M1.fi q (some (w.heap.size,pP,bz yb i.size))).be q'=M1.be q':=by simp[Map.fi,h]
       rw[this]at heq;exact heq
      simp only[List.getElem?_set_ne (Ne.symm h)]at hk
      exact e1.rf q' b c z' ⟨k,hk⟩ Kb
   rcases pe with ⟨rfl,rfl,h1⟩|⟨b,k,rfl,h1⟩
   ·obtain⟨_,h2⟩:=h1
    obtain⟨_,h3⟩:=h2 _ hq
    rcases h3 rfl with ⟨_,h4⟩|⟨b,h4,_⟩
    ·exact O4 (by simp;omega)
    ·cases h4
   ·obtain⟨_,h2⟩:=h1
    obtain⟨_,h3⟩:=h2 _ hq
    rcases h3 rfl with ⟨_,h4⟩|⟨b2,h4,lr⟩
    ·exact O4 (by omega)
    cases h4
    subst hzx
    by_cases kY:rows.length+eA.length≤cap
    ·rcases r.tok q rows.length hq with ⟨h4,_⟩ | ⟨b',ri,zV,vs,T,h4,h5,h6,h7,h8⟩
     ·rw[lr]at h4;cases h4
     ·rw [lr]at h4;cases h4
      rw[Ka]at h6
      obtain⟨r2,e2⟩:=r.ahh q rows.length eA.length b cap (bz yb i.size) i.size news Ka hq lr hs.newsLen kY hm hs.one vs T h5 h6 h8.2
      have jI:rows.length*i.size+news.length≤vs.size:=by rw[hs.newsLen,h6, ← Nat.add_mul];exact Nat.mul_le_mul_right _ kY
      have jy:=run_storeCells_at P b (rows.length*i.size) T news 0 vs w h5 (by simpa using jI) hs.one
      simp only[Nat.add_zero]at jy
      have dM:(Builtin.append_ #[t,u] ty #[.slice (some ⟨b,0,none⟩) rows.length cap,y]).run P w = .ok (.slice (some ⟨b,0,none⟩) (rows.length+eA.length) cap) (w.setRow b (vs.toList.take (rows.length*i.size)++news++vs.toList.drop (rows.length*i.size+news.length)).toArray):=by
       rcases hs.kind with ⟨Np,hk⟩|hk<;>simp[Builtin.append_,run_underlying ht,run_underlying hk,sizeOf,typeInfo,hi,hs.len,kY,hs.cells,Addr.add_lit,jy]
      refine⟨_,_,_,dM,r2, ?_,e2⟩
      have hG : ∀ o,o<(rows++eA).length*i.size→(M.fix b (rows.length*i.size) news).G b o=(qC++news).toArray[o]? :=by
       intro o ho
       rw[hlen,Nat.add_mul]at ho
       rw[List.getElem?_toArray]
       by_cases h9:o<rows.length*i.size
       ·rw [List.getElem?_append_left (by omega)]
        have:(M.fix b (rows.length*i.size) news).G b o=M.G b o:=by simp[Map.fix];omega
        rw[this]
        have:=hoG b 0 rfl o h9
        rwa [Nat.zero_add]at this
       ·rw [List.getElem?_append_right (by omega),jA]
        have:(M.fix b (rows.length*i.size) news).G b o=news[o - rows.length*i.size]? :=by
         simp only[Map.fix];rw[if_pos ⟨trivial,by omega,by rw[hs.newsLen];omega⟩]
        rw[this]
      have eH:=Fi (M:=M) (s:=s) hsx HX jA hs.newsLen YB hs.one acY De #[] (by simp)
      rw[Array.append_empty]at eH
      obtain⟨f1,f2⟩:=eH.fixed e2.le (b:=b) hG
      have Kc:q<s.ay.length:=(List.getElem?_eq_some_iff.1 hq).1
      have key:=RD.slice (M:=M.fix b (rows.length*i.size) news) (s:= {s with ay:=s.ay.set q (some (rows.length+eA.length))}) (.tok q yb) i.size (rows++eA) b 0 cap (by rw[hlen];exact kY) eH.2.1 f1 f2
       ⟨by simp [Kc],fun n rV=>by
        simp[Kc]at rV
        subst rV
        exact⟨by rw[hlen];exact Nat.le_refl _,fun _=> .inr ⟨_,rfl,lr⟩⟩⟩
      rw[hlen]at key
      exact key
    ·exact O4 (by omega)
theorem GX (r:Rel M s w) {u e':TypeId} {i:TypeInfo} (hu:P.underlying u=some (.slice e')) {y:Value} {dy:D} (hy:RD M s dy y) (g:Tag) (size:Nat) (rows:List (List D)) (hdy:dy = .slice g size rows) :
 (rows = []→Src P i.size u y 0 [] w)∧(rows≠ []→size=i.size→(∀ row∈rows,row.length=i.size)∧∃ news:List Value,Src P i.size u y rows.length news w∧
  (∀ (k:Nat) (row:List D) (j:Nat) (d:D) (v:Value),rows[k]? = some row→row[j]? = some d→news[k*i.size+j]? = some v→RD M s d v)):=by
 subst hdy
 refine⟨fun h0=>?_,fun eW dP=>?_⟩
 ·subst h0
  rcases hy.jz with ⟨_,rfl,_⟩|⟨_,_,a,cap,rfl⟩|⟨b,q,cap,rfl,_⟩
  ·exact Src.ofNil w hu 0
  ·exact Src.ofSlice w hu a 0 cap [] (by simp) (by simp) (by simp)
  ·exact Src.ofSlice w hu ⟨b,q,none⟩ 0 cap [] (by simp) (by simp) (by simp)
 ·subst dP
  obtain⟨news,h1,h2,_⟩:=HW r hu hy
  refine⟨?_,news,h1,h2⟩
  rcases hy.jz with ⟨h0,_⟩|⟨h0,_⟩|⟨_,_,_,_,_,h,_⟩
  ·exact(eW h0).elim
  ·exact(eW h0).elim
  ·exact h
theorem Sr (r:Rel M s w) {t u ty e e':TypeId} {i:TypeInfo} {z:Value} (ht:P.underlying t=some (.slice e)) (hu:P.underlying u=some (.slice e')) (hi:P.info? e=some i) (hz:i.zero=some z)
 (yY:z.cells.size=i.size) (D0 : ∀ v∈z.cells,v.oneCell'=true) {dx dy d:D} {x y:Value} {s':St} (hx:RD M s dx x) (hy:RD M s dy y) (ta:0<i.size) (he:iP i.size i.bytes dx dy s=some (d,s')) :
 ∃ v w' M',(Builtin.append_ #[t,u] ty #[x,y]).run P w = .ok v w'∧Rel M' s' w'∧RD M' s' d v∧Ext M s w M' s' w':=
 Es false r ht hi hz yY D0 hx (fun h=>by cases h) ta (acW he) (GX r hu hy)
theorem O5 (r:Rel M s w) {t u ty e':TypeId} {i:TypeInfo} {z:Value} (ht:P.underlying t=some (.slice qh)) (hu:P.underlying u=some (.slice e')) (hi:P.info? qh=some i) (hz:i.zero=some z) (h1:i.size=1) (h2:i.bytes=1)
 (yY:z.cells.size=i.size) (D0 : ∀ v∈z.cells,v.oneCell'=true) {dx dy d:D} {x y:Value} {s':St} (hx:RD M s dx x) (hy:RD M s dy y) (he:BO dx dy s=some (d,s')) :
 ∃ v w' M',(Builtin.append_ #[t,u] ty #[x,y]).run P w = .ok v w'∧Rel M' s' w'∧RD M' s' d v∧Ext M s w M' s' w':=
 Es true r ht hi hz yY D0 hx (fun _=>⟨rfl,h1⟩) (by omega) (by rw[h1,h2];exact Sn he) (GX r hu hy)
theorem O6 (r:Rel M s w) {t u ty:TypeId} {i:TypeInfo} {z:Value} (ht:P.underlying t=some (.slice qh)) (hu:P.underlying u=some .string) (hi:P.info? qh=some i) (hz:i.zero=some z) (h1:i.size=1) (h2:i.bytes=1)
 (yY:z.cells.size=i.size) (D0 : ∀ v∈z.cells,v.oneCell'=true) {dx d:D} {x:Value} {l:List UInt8} {s':St} (hx:RD M s dx x) (he:BO dx (.slice .shared 1 (l.map fun c=> [.int .u8 c.toNat])) s=some (d,s')) :
 ∃ v w' M',(Builtin.append_ #[t,u] ty #[x, .string ⟨⟨l⟩⟩]).run P w = .ok v w'∧Rel M' s' w'∧RD M' s' d v∧Ext M s w M' s' w':=by
 have hs:Src P i.size u (.string ⟨⟨l⟩⟩) l.length (l.map fun c=> .int .u8 c.toNat) w:=by
  rw[h1]
  exact Src.ofString w hu ⟨⟨l⟩⟩
 refine Es true r ht hi hz yY D0 hx (fun _=>⟨rfl,h1⟩) (by omega) (by rw[h1,h2];exact Sn he) fun g size rows hdy=>?_
 cases hdy
 refine⟨fun h0=>?_,fun eW dP=>?_⟩
 ·have:l = []:=by simpa using h0
  subst this
  exact hs
 ·refine⟨fun row hr=> ?_,_,by simpa using hs,fun k row j d v e1 e2 e3=> ?_⟩
  ·obtain⟨c,_,rfl⟩:=List.mem_map.1 hr
   rw[h1];rfl
  ·rw [List.getElem?_map,Option.map_eq_some_iff]at e1
   obtain⟨c,e1,rfl⟩:=e1
   cases j with
   |zero=>
    simp at e2
    subst e2
    simp[h1,e1]at e3
    subst e3
    exact .int _ _
   |succ j=>simp at e2
end
end Go.Abs
namespace Go.Abs
section
variable {P:Program} {M:Map} {s:St} {w:World}
theorem map_some {α β:Type} {f:α→β} {x:Option α} {y:β} (h:x.map f=some y) : ∃ a,x=some a∧y=f a:=by
 cases x with
 |none=>cases h
 |some a=>cases h;exact⟨a,rfl,rfl⟩
theorem tC {t:TypeId} {z:List D} (h:zeroOf P t=some z) : ∃ i v,P.info? t=some i∧i.zero=some v∧v.cells.size=i.size∧om v.cells.toList=some z:=by
 unfold zeroOf at h
 split at h
 ·rename_i i hi
  split at h
  ·rename_i v hv
   split at h
   ·exact⟨i,v,hi,hv, ‹_›,h⟩
   ·cases h
  ·cases h
 ·cases h
theorem rW {z:List D} {v:Value} (h:om v.cells.toList=some z):ub M s z v.cells:=by
 obtain⟨h1,h2,h3⟩:=lZ (M:=M) (s:=s) h
 exact⟨by simpa using h1.symm,fun u hu=>h2 u (by simpa using hu),fun i d u e1 e2=>h3 i d u e1 (by simpa using e2)⟩
theorem O7 {t:TypeId} {z:List D} (h:zU P t=some z) : ∃ i v,P.info? t=some i∧i.zero=some v∧v.cells.size=i.size∧ub M s z v.cells:=by
 unfold zU at h
 split at h
 ·rename_i i hi
  split at h
  ·rename_i v hv
   split at h
   ·refine⟨i,v,hi,hv, ‹_›, ?_⟩
    obtain⟨h1,h2,h3⟩:=DY (M:=M) (s:=s) h
    exact⟨by simpa using h1.symm,fun u hu=>h2 u (by simpa using hu),fun i d u e1 e2=>h3 i d u e1 (by simpa using e2)⟩
   ·cases h
  ·cases h
 ·cases h
theorem B3 {t:TypeId} {tm:Tm} {act:Act} (hr:mM M s tm act.tmps) : ∀ {l:List (Nat×Operand)} {ps:List (Nat×Nat×X)},BR P t l=some ps→
 (ps.map fun p=>(p.1,p.2.1,p.2.2.ev tm)).length=(l.map fun p=>(p.1,act.eval p.2)).length∧
 ∀ (j:Nat) (i:Nat) (v:Value) (off size:Nat) (d:D),(l.map fun p=>(p.1,act.eval p.2))[j]? = some (i,v)→(ps.map fun p=>(p.1,p.2.1,p.2.2.ev tm))[j]? = some (off,size,d)→
  (∃ a,na P t i=some (off,size,a))∧RD M s d v
 | [],ps,h=>by cases h;exact⟨rfl,by simp⟩
 | (i0,x)::l,ps,h=>by
  unfold BR at h
  split at h
  ·rename_i off size a x' r' h1 h2 h3
   cases h
   obtain⟨g1,g2⟩:=B3 hr h3
   refine⟨by simpa using g1,fun j i v x8 zV d e1 e2=>?_⟩
   cases j with
   |zero=>
    simp at e1 e2
    obtain⟨rfl,rfl⟩:=e1
    obtain⟨rfl,rfl,rfl⟩:=e2
    exact⟨⟨a,h1⟩,bV h2 hr⟩
   |succ j=>exact g2 j i v x8 zV d (by simpa using e1) (by simpa using e2)
  ·cases h
theorem Fk {tm:Tm} {act:Act} (hr:mM M s tm act.tmps) : ∀ {l:List (Nat×Operand)} {ps:List (Nat×X)},J2 l=some ps→
 (ps.map fun p=>(p.1,p.2.ev tm)).length=(l.map fun p=>(p.1,act.eval p.2)).length∧
 ∀ (j:Nat) (i:Nat) (v:Value) (i':Nat) (d:D),(l.map fun p=>(p.1,act.eval p.2))[j]? = some (i,v)→(ps.map fun p=>(p.1,p.2.ev tm))[j]? = some (i',d)→i'=i∧RD M s d v
 | [],ps,h=>by cases h;exact⟨rfl,by simp⟩
 | (i0,x)::l,ps,h=>by
  unfold J2 at h
  split at h
  ·rename_i x' r' h1 h2
   cases h
   obtain⟨g1,g2⟩:=Fk hr h2
   refine⟨by simpa using g1,fun j i v i' d e1 e2=>?_⟩
   cases j with
   |zero=>
    simp at e1 e2
    obtain⟨rfl,rfl⟩:=e1
    obtain⟨rfl,rfl⟩:=e2
    exact⟨rfl,bV h1 hr⟩
   |succ j=>exact g2 j i v i' d (by simpa using e1) (by simpa using e2)
  ·cases h
theorem Fl : ∀ (l:List Field),(∀ f∈l,(P.info? f.type).isSome)→
 ∃ ps:List (Nat×Nat),(l.mapM fun f=>do pure (f.offset, ← sizeOf f.type):Sem (List (Nat×Nat))).run P w = .ok ps w∧
  ∀ (j:Nat) (f:Field) (i:TypeInfo),l[j]? = some f→P.info? f.type=some i→ps[j]? = some (f.offset,i.size)
 | [],_=>⟨[],rfl,by simp⟩
 | f::l,h=>by
  obtain⟨i,hi⟩:=Option.isSome_iff_exists.1 (h f (by simp))
  obtain⟨ps,h1,h2⟩:=Fl l (fun g hg=>h g (by simp[hg]))
  refine⟨(f.offset,i.size)::ps, ?_,fun j g i' e1 e2=>?_⟩
  ·rw [List.mapM_cons]
   simp only[Sem.run_bind,sizeOf,gh P hi,Result.andThen_ok,Sem.run_pure]at h1 ⊢
   simp only[h1,Result.andThen_ok]
  ·cases j with
   |zero=>simp at e1;subst e1;rw[hi]at e2;cases e2;rfl
   |succ j=>exact h2 j g i' (by simpa using e1) e2
theorem O8 (r:Rel M s w) {t:TypeId} {fs:Array Field} {z:List D} {l:List (Nat×Operand)} {ps:List (Nat×Nat×X)} {tm:Tm} {act:Act} {cs:List D} (hr:mM M s tm act.tmps)
 (ht:P.underlying t=some (.struct fs)) (Fm:(fs.toList.all fun f=>(P.info? f.type).isSome)=true) (hz:zU P t=some z) (hp:BR P t l=some ps) (hf:rP z (ps.map fun p=>(p.1,p.2.1,p.2.2.ev tm))=some cs) :
 dg P M s w (do pure (.value (← Instr.build t (l.toArray.map fun(i,x)=>(i,act.eval x))))) (.agg cs) s:=by
 obtain⟨i,v,h1,h2,h3,hc⟩:=O7 (M:=M) (s:=s) hz
 obtain⟨g1,g2⟩:=B3 hr hp
 obtain⟨pl,p1,p2⟩:=Fl (P:=P) (w:=w) fs.toList (fun f hf'=>by simpa using List.all_eq_true.1 Fm f hf')
 have aas:(fs.mapM fun f=>do pure (f.offset, ← sizeOf f.type):Sem (Array (Nat×Nat))).run P w = .ok pl.toArray w:=by
  rw[Array.mapM_eq_mapM_toList,Sem.run_map,p1];rfl
 obtain⟨vs,f1,f2⟩:=J7 (place:=(pl.toArray[·]?)) (l.map fun p=>(p.1,act.eval p.2)) _ z v.cells cs hc g1 (fun j i v off size d e1 e2=>by
  obtain⟨⟨a,ha⟩,hd⟩:=g2 j i v off size d e1 e2
  refine⟨?_,hd⟩
  unfold na at ha
  rw[ht]at ha
  simp only at ha
  split at ha
  ·rename_i fd hfd
   split at ha
   ·rename_i i' a' iA _
    split at ha
    ·cases ha
    ·cases ha
     simpa using p2 i fd i' (by simpa using hfd) iA
   ·cases ha
  ·cases ha) hf
 refine dg.pure (v:= .agg vs) r ?_ (.agg _ _ f2.1.symm f2.2.1 f2.2.2)
 have sR:(l.toArray.map fun(i,x)=>(i,act.eval x)).toList=l.map fun p=>(p.1,act.eval p.2):=by simp
 unfold Instr.build
 simp only[Sem.run_bind,zeroValue,gh P h1,h2,Result.andThen_ok,Sem.run_pure,run_underlying ht,aas,sR,f1]
theorem D1 (r:Rel M s w) {t e:TypeId} {i:TypeInfo} {z:List D} {n:Nat} {l:List (Nat×Operand)} {ps:List (Nat×X)} {tm:Tm} {act:Act} {rows:List (List D)} (hr:mM M s tm act.tmps)
 (ht:P.underlying t=some (.slice e)) (hi:P.info? e=some i) (hz:zeroOf P e=some z) (ta:0<i.size) (hn:n*i.size≤65536) (hp:J2 l=some ps)
 (hf:ky i.size (gf z n) (ps.map fun p=>(p.1,p.2.ev tm))=some rows) :
 ∃ (vs:Array Value) (T:TypeId),mO M s i.size rows vs∧rows.length=n∧vs.size=n*i.size∧
  (Instr.buildSlice t n (l.toArray.map fun(i,x)=>(i,act.eval x))).run P w = .ok (.slice (some ⟨w.heap.size,0,none⟩) n n) (w.alloc (.cells vs T)):=by
 obtain⟨i',v,h1,h2,h3,h4⟩:=tC hz
 rw[hi]at h1;cases h1
 have hc:=rW (M:=M) (s:=s) h4
 have YD:z.length=i.size:=by rw[← hc.1,h3]
 have HY:=mO.zero hc (by omega) n
 rw[YD]at HY
 obtain⟨g1,g2⟩:=Fk hr hp
 obtain⟨vs,f1,f2,f3,f4⟩:=B0 (l.map fun p=>(p.1,act.eval p.2)) _ _ _ rows HY g1 g2 hf
 have hzr:=mP z n
 refine⟨vs,e,f2,by rw[f3,hzr],by rw[f4];simp, ?_⟩
 have ud : ¬ (n*i.size > 2 ^ 24):=by omega
 have sR:(l.toArray.map fun(i,x)=>(i,act.eval x)).toList=l.map fun p=>(p.1,act.eval p.2):=by simp
 by_cases h0:n*i.size=0
 ·have mQ:(Array.range (n*i.size)).map ((#[] : Array Value)[· % (#[] : Array Value).size]!)=(Array.range (n*i.size)).map (v.cells[· % v.cells.size]!):=by rw [h0];simp
  unfold Instr.buildSlice
  simp only[Sem.run_bind,run_underlying ht,Result.andThen_ok,sizeOf,gh P hi,Sem.run_pure,if_neg ud,if_pos h0,mQ,sR,f1,newRow,run_newObj]
  rfl
 ·unfold Instr.buildSlice
  simp only[Sem.run_bind,run_underlying ht,Result.andThen_ok,sizeOf,gh P hi,Sem.run_pure,if_neg ud,if_neg h0,zeroValue,h2,sR,f1,newRow,run_newObj]
  rfl
end
end Go.Abs
namespace Go.Abs
section
variable {P:Program} {M:Map} {s:St} {w:World}
theorem foldl_push (ns:List Int) : ∀ r:ByteArray,ns.foldl (fun r n=>r.push (UInt8.ofNat n.toNat)) r = ⟨r.data++(ns.map fun n=>UInt8.ofNat n.toNat).toArray⟩:=by
 induction ns with
 |nil=>intro r;simp
 |cons n ns ih=>intro r;simp only[List.foldl_cons];rw[ih];simp[ByteArray.push]
theorem wc : ∀ {rows:List (List D)} {l:List UInt8},o5 rows=some l→∃ ns:List Int,rows=ns.map (fun n=> [.int .u8 n])∧l=ns.map fun n=>UInt8.ofNat n.toNat
 | [],l,h=>by cases h;exact⟨[],rfl,rfl⟩
 | r::rs,l,h=>by
  unfold o5 at h
  split at h
  ·rename_i b bs h1 h2
   cases h
   obtain⟨ns,g1,g2⟩:=wc h2
   unfold HT at h1
   split at h1
   ·rename_i n
    cases h1
    exact⟨n::ns,by rw[g1];rfl,by rw[g2];rfl⟩
   ·cases h1
  ·cases h
theorem O9 (r:Rel M s w) {src dst e:TypeId} {g:Tag} {z:Nat} {rows:List (List D)} {v:Value} {l:List UInt8} (hs:P.underlying src=some (.slice e)) (he:P.underlying e=some (.int .u8)) (hd:P.underlying dst=some .string)
 (hv:RD M s (.slice g z rows) v) (hb:o5 rows=some l):dg P M s w (do pure (.value (← convert src dst v))) (.str l) s:=by
 obtain⟨ns,rfl,rfl⟩:=wc hb
 refine dg.pure (v:= .string ⟨⟨ns.map fun n=>UInt8.ofNat n.toNat⟩⟩) r ?_ (.str _)
 rcases hv.jz with ⟨h0,rfl,_⟩|⟨h0,_,a,cap,rfl⟩|⟨b,q,cap,rfl,hl,dP,g1,g2,_⟩
 ·have:ns = []:=by simpa using h0
  subst this
  have:=run_convert_bytes_string w src dst e none 0 0 hs he hd
  simp only[Sem.run_bind,this,Conv.bytesToString,Sem.run_pure,Result.andThen_ok]
  rfl
 ·have:ns = []:=by simpa using h0
  subst this
  have h2:=run_convert_bytes_string w src dst e (some a) 0 cap hs he hd
  simp only[Sem.run_bind,h2,Conv.bytesToString,Sem.run_pure,Result.andThen_ok]
  rfl
 ·have mQ:=run_loadCells_list (P:=P) w ⟨b,q,none⟩ (ns.map (Value.int .u8)) (fun j v hj=>by
   rw[nc]
   simp only[List.getElem?_map,Option.map_eq_some_iff]at hj
   obtain⟨n,hn,rfl⟩:=hj
   have eH:(ns.map (fun n=> [D.int .u8 n]))[j]? = some [.int .u8 n]:=by simp[hn]
   have hz:z=1:=by have:=dP [.int .u8 n] (List.mem_of_getElem? eH);simpa using this.symm
   subst hz
   obtain⟨u,hu⟩:=g1 j _ 0 _ eH rfl
   have:=g2 j _ 0 _ u eH rfl hu
   rw[this.iL]at hu
   have:=(r.comm _ _ _ hu).1
   simpa using this)
  simp only[List.length_map]at mQ ⊢
  have h1:=run_bytesToString (P:=P) w ⟨b,q,none⟩ ns.length cap ns mQ
  have h2:=run_convert_bytes_string w src dst e (some ⟨b,q,none⟩) ns.length cap hs he hd
  simp only[Sem.run_bind,h2,h1,Sem.run_pure,Result.andThen_ok,foldl_push]
  congr 3
  simp[ByteArray.empty,ByteArray.emptyWithCapacity]
  rfl
theorem Kd (r:Rel M s w) {src dst e:TypeId} {l:List UInt8} (hs:P.underlying src=some .string) (hd:P.underlying dst=some (.slice e)) (he:P.underlying e=some (.int .u8)) :
 dg P M s w (do pure (.value (← convert src dst (.string ⟨⟨l⟩⟩)))) (.slice .shared 1 (l.map fun c=> [.int .u8 c.toNat])) s:=by
 have dM:=run_bytes_of_string (P:=P) w src dst e ⟨⟨l⟩⟩ hs hd he
 generalize uL:grownCap w (ByteArray.size ⟨⟨l⟩⟩) 0 e=cap at dM
 have vq:l.length≤cap:=by rw[← uL];exact grownCap_ge w l.length 0 e
 have eH : ∀ j,j<l.length→(bytesRow ⟨⟨l⟩⟩ cap)[j]? = some (.int .u8 ((l[j]?.getD 0).toNat:Int)):=by
  intro j hj
  unfold bytesRow
  rw[Array.getElem?_append_left (by simpa using hj)]
  simp[hj]
 have dP:(bytesRow ⟨⟨l⟩⟩ cap).size=cap:=by simp[bytesRow,Dd];omega
 have iz : ∀ v∈bytesRow ⟨⟨l⟩⟩ cap,v.oneCell'=true:=by
  intro v hv
  unfold bytesRow at hv
  simp at hv
  rcases hv with ⟨a,_,rfl⟩|⟨_,rfl⟩<;>rfl
 have hR:mO M s 1 (l.map fun c=> [D.int .u8 c.toNat]) (bytesRow ⟨⟨l⟩⟩ cap):=by
  refine⟨by simp[dP];omega,by simp,iz,fun i row j d v e1 e2 e3=>?_⟩
  simp only[List.getElem?_map,Option.map_eq_some_iff]at e1
  obtain⟨c,hc,rfl⟩:=e1
  cases j with
  |zero=>
   simp at e2;subst e2
   have hi:=(List.getElem?_eq_some_iff.1 hc).1
   rw[show i*1+0=i by omega,eH i hi,hc]at e3
   cases e3
   exact .int _ _
  |succ j=>simp at e2
 obtain⟨r1,e1⟩:=(r.of_heap (w':=w.drew) rfl).fR l.length (bytesRow ⟨⟨l⟩⟩ cap) e ((bytesRow ⟨⟨l⟩⟩ cap).size,(bytesRow ⟨⟨l⟩⟩ cap).size+1) iz
 obtain⟨f1,f2⟩:=hR.fixed e1.le (b:=w.heap.size) (fun o ho=>by simp at ho;simp[Map.fR,ho])
 refine⟨.slice (some ⟨w.heap.size,0,none⟩) l.length cap,_,_, .inl (by simp only[Sem.run_bind,dM,Result.andThen_ok,Sem.run_pure];rfl),r1, ?_,(Ext.of_heap (M:=M) (s:=s) (w:=w) (w':=w.drew) rfl rfl rfl rfl).trans e1⟩
 have key:=RD.slice (M:=M.fR w.heap.size l.length (bytesRow ⟨⟨l⟩⟩ cap)) (s:=s) .shared 1 (l.map fun c=> [D.int .u8 c.toNat]) w.heap.size 0 cap (by simpa using vq) hR.2.1 f1 f2 trivial
 simp only[List.length_map]at key
 exact key
theorem Vx (r:Rel M s w) {t e:TypeId} {q z:Nat} {yb:Bool} {rows:List (List D)} {v:Value} (ht:P.underlying t=some (.slice e)) (he:P.underlying e=some (.int .u8)) (hv:RD M s (.slice (.tok q yb) z rows) v) (eW:rows≠ []) (hq:s.ay[q]? = some (some rows.length)) :
 dg P M s w (do pure (.value (← convert t t v))) (.slice .shared z rows) {s with ay:=s.ay.set q none}:=by
 rcases hv.jz with ⟨h0,_,_⟩|⟨h0,_,_⟩|⟨b,k,cap,rfl,hl,dP,g1,g2,pe⟩
 ·exact(eW h0).elim
 ·exact(eW h0).elim
 ·obtain⟨_,h2⟩:=pe
  obtain⟨_,h3⟩:=h2 _ hq
  rcases h3 rfl with ⟨_,h4,_⟩|⟨b2,h4,lr⟩
  ·subst h4
   exact(eW (List.eq_nil_of_length_eq_zero (Nat.le_zero.1 hl))).elim
  cases h4
  obtain⟨r1,l1⟩:=r.ahi q
  rcases r.tok q rows.length hq with ⟨h4,_⟩|⟨b',ri,zV,vs,T,h4,h5,h6,h7,h8⟩
  ·rw[lr]at h4;cases h4
  ·rw [lr]at h4;cases h4
   have iU : ∀ p,St.live {s with ay:=s.ay.set q none} p→p≠q∧s.live p:=by
    rintro p ⟨n,hn⟩
    rw[List.getElem?_set]at hn
    split at hn
    ·simp at hn
    ·rename_i eW;exact⟨fun h=>eW h.symm,n,hn⟩
   obtain⟨r2,hh,nJ,ho,Fo,Vy⟩:=r1.freeze (b:=b) vs.size 1 (fun o ho=>r.fy q b cap _ o ⟨_,hq⟩ lr ho)
    (fun p c y hp heq=>(iU p hp).1 (r.gd p q b c y cap _ (iU p hp).2 ⟨_,hq⟩ heq lr))
   have ac0:w.shape? b=some (T,vs.size):=by simp[World.shape?,h5]
   refine⟨.slice (some ⟨b,0,none⟩) rows.length cap,_,M, .inl ?_,r2, ?_, ?_⟩
   ·simp[convert,run_underlying ht,run_underlying he,markStringish,ac0]
   ·have h9:=(RD.slice (M:=M) (s:=s) .shared z rows b 0 cap hl dP g1 g2 trivial).mono l1
    exact h9
   ·refine⟨l1,fun p _ _ h4=>hh p (fun e=>h4 q cap (bz yb z) ⟨_,hq⟩ (by rw [lr,e])),fun o h3 h4=> ?_,fun p b' c y hp heq=> .inl ⟨(iU p hp).2,c,y,heq⟩,fun _ _ h=>(h rfl).elim,by rw [nJ];exact Nat.le_refl _,ho,Fo,Vy⟩
    simp at h4;omega
theorem Ss (r:Rel M s w) {size:Nat} {rows:List (List D)} {vs:Array Value} (T:TypeId) (h:mO M s size rows vs) (dP:vs.size=rows.length*size) (ta:0<size) :
 ∃ M',RD M' {s with ay:=s.ay++ [some rows.length]} (.slice (.tok s.ay.length) size rows) (.slice (some ⟨w.heap.size,0,none⟩) rows.length rows.length)∧
 Rel M' {s with ay:=s.ay++ [some rows.length]} (w.alloc (.cells vs T))∧Ext M s w M' {s with ay:=s.ay++ [some rows.length]} (w.alloc (.cells vs T)):=by
 obtain⟨r1,e1⟩:=r.fR vs.size vs T (0,0) h.2.2.1
 have yY:zs size=size:=by show(if size=0 then 1 else size)=size;rw[if_neg (by omega)]
 obtain⟨r2,l2⟩:=r1.Yy rows.length w.heap.size rows.length size vs T (heap_alloc_new w _) (by rw[yY];exact dP) (Nat.le_refl _) (fun h=>by omega)
  (fun off ho=>by rw[yY]at ho;simp[Map.fR];omega) (fun o ho=>by have:=r.qX ho;show M.mu o≠_;omega)
  (fun q c z' hl heq=>by have:=r.tB hl (show M.be q=some (w.heap.size,c,z')from heq);omega)
 obtain⟨f1,f2⟩:=h.fixed (e1.le.trans l2) (b:=w.heap.size) (fun o ho=>by
  have:o<vs.size:=Nat.lt_of_lt_of_le ho h.1
  simp[Map.fi,Map.fR,this])
 refine⟨_, ?_,r2, ?_⟩
 ·exact .slice _ size rows w.heap.size 0 rows.length (Nat.le_refl _) h.2.1 f1 f2 ⟨by simp,fun n hn=>by
   simp at hn;subst hn
   exact⟨Nat.le_refl _,fun _=> .inr ⟨_,rfl,by simp[Map.fi,bz]⟩⟩⟩
 ·refine⟨e1.le.trans l2,e1.kept,e1.uI,fun q b c z' hl heq=> ?_,e1.sY,e1.size,e1.os,e1.tape,e1.output⟩
  obtain⟨k,hk⟩:=hl
  rcases Nat.lt_or_ge q s.ay.length with h'|h'
  ·have Kb:M.be q=some (b,c,z'):=by
    have:((M.fR w.heap.size vs.size vs).fi s.ay.length (some (w.heap.size,rows.length,size))).be q=M.be q:=by simp[Map.fi,Map.fR];omega
    rw[this]at heq;exact heq
   simp only[List.getElem?_append_left h']at hk
   exact .inl ⟨⟨k,hk⟩,c,z',Kb⟩
  ·have:=(List.getElem?_eq_some_iff.1 hk).1
   simp at this
   have:q=s.ay.length:=by omega
   subst this
   have:((M.fR w.heap.size vs.size vs).fi s.ay.length (some (w.heap.size,rows.length,size))).be s.ay.length=some (w.heap.size,rows.length,size):=by simp[Map.fi]
   rw[this]at heq;cases heq
   exact .inr (Nat.le_refl _)
end
end Go.Abs
namespace Go.Abs
open Go.MapKept
section
variable {P:Program} {M:Map} {s:St} {w:World}
theorem xj : ∀ (a b:List MapEntry),gS (a++b)=gS a++gS b
 | [],b=>rfl
 |e::a,b=>by simp only[List.cons_append,gS,xj a b]
theorem HZ : ∀ (a:List MapEntry) (j:Nat) (e:MapEntry) (k v:Value),a[j]? = some e→e.key=k→gS (a.set j {e with key:=k,val:=v})=(gS a).set (2*j+1) v
 | [],j,e,k,v,h,_=>by simp at h
 |x::a,0,e,k,v,h,hk=>by
  simp at h;subst h;subst hk
  simp[gS]
 |x::a,j+1,e,k,v,h,hk=>by
  have:=HZ a j e k v (by simpa using h) hk
  simp only[List.set_cons_succ,gS,this]
  rw[show 2*(j+1)=(2*j+1)+1 by omega,List.set_cons_succ]
theorem Vz (a b:List UInt8):((⟨⟨a⟩⟩:ByteArray) == ⟨⟨b⟩⟩)=(a==b):=by
 show((⟨a⟩:Array UInt8) == ⟨b⟩)=(a==b)
 simp
theorem find_spec {key:List UInt8} : ∀ (es:List MapEntry) (cs:List D) (i:Nat),(gS es).length=cs.length→(∀ (i:Nat) (d:D) (v:Value),cs[i]? = some d→(gS es)[i]? = some v→RD M s d v)→
 (∀ z d,zS key z cs=some d→(Instr.findNow .string (.string ⟨⟨key⟩⟩) es i=some none∧d=z)∨∃ (j:Nat) (e:MapEntry),Instr.findNow .string (.string ⟨⟨key⟩⟩) es i=some (some (i+j,e.val))∧RD M s d e.val)∧
 (∀ d kg,xZ key d cs=some kg→(Instr.findNow .string (.string ⟨⟨key⟩⟩) es i=some none∧kg=cs++ [.str key,d])∨
  ∃ (j:Nat) (e:MapEntry),Instr.findNow .string (.string ⟨⟨key⟩⟩) es i=some (some (i+j,e.val))∧es[j]? = some e∧e.key = .string ⟨⟨key⟩⟩∧kg=cs.set (2*j+1) d)
 | [],cs,i,hl,hr=>by
  have:cs = []:=by cases cs<;>simp[gS]at hl;rfl
  subst this
  refine⟨fun z d h=> .inl ⟨rfl,by simp[zS]at h;exact h.symm⟩,fun d kg h=> .inl ⟨rfl,by simp[xZ]at h;simp[← h]⟩⟩
 | x::es,cs,i,hl,hr=>by
  match cs,hl with
  | [],hl=>simp[gS]at hl
  | [_],hl=>simp[gS]at hl
  | c0::c1::r,hl=>
   simp only[gS,List.length_cons]at hl hr
   have h0:=hr 0 c0 x.key rfl rfl
   have h1:=hr 1 c1 x.val rfl rfl
   obtain⟨ih1,ih2⟩:=find_spec es r (i+1) (by omega) (fun j d v e1 e2=>hr (j+2) d v (by simpa using e1) (by simpa using e2))
   have hky : ∀ k,c0 = .str k→x.key = .string ⟨⟨k⟩⟩∧Instr.findNow .string (.string ⟨⟨key⟩⟩) (x::es) i=if key==k then some (some (i,x.val))else Instr.findNow .string (.string ⟨⟨key⟩⟩) es (i+1):=by
    intro k hk
    subst hk
    have hx:=h0.lY
    refine⟨hx, ?_⟩
    simp only[Instr.findNow,hx,Instr.sameNow,Vz]
    cases hb:key==k<;>simp
   refine⟨fun z d h=>?_,fun d kg h=>?_⟩
   ·cases c0 <;> simp only [zS]at h <;> try (cases h;done)
    rename_i k
    obtain⟨k1,k2⟩:=hky k rfl
    rw[k2]
    by_cases Bj:k=key
    ·subst Bj
     simp at h
     subst h
     exact .inr ⟨0,x,by simp,h1⟩
    ·have e1:(k==key)=false:=by simpa using Bj
     have e2:(key==k)=false:=by simpa using fun e:key=k=>Bj (Eq.symm e)
     rw[e1]at h
     rw[e2]
     simp only[Bool.false_eq_true,↓reduceIte]at h ⊢
     rcases ih1 z d h with h2|⟨j,e,h2,h3⟩
     ·exact .inl h2
     ·exact .inr ⟨j+1,e,by rw[h2];congr 3;omega,h3⟩
   ·cases c0 <;> simp only [xZ]at h <;> try (cases h;done)
    rename_i k
    obtain⟨k1,k2⟩:=hky k rfl
    rw[k2]
    by_cases Bj:k=key
    ·subst Bj
     simp at h
     subst h
     exact .inr ⟨0,x,by simp,rfl,k1,by simp⟩
    ·have e1:(k==key)=false:=by simpa using Bj
     have e2:(key==k)=false:=by simpa using fun e:key=k=>Bj (Eq.symm e)
     rw[e1]at h
     rw[e2]
     simp only[Bool.false_eq_true,↓reduceIte]at h ⊢
     split at h
     ·rename_i r' Sl
      cases h
      rcases ih2 d r' Sl with ⟨h2,h3⟩|⟨j,e,h2,h3,h4,h5⟩
      ·exact .inl ⟨h2,by rw[h3];rfl⟩
      ·refine .inr ⟨j+1,e,by rw [h2];congr 3;omega,by simpa using h3,h4, ?_⟩
       rw[h5,show 2*(j+1)+1=(2*j+1)+1+1 by omega]
       simp only[List.set_cons_succ]
     ·cases h
theorem Rel.uO (r:Rel M s w) {o:Nat} {cs kg:List D} (he:s.ah[o]? = some cs) (hk:M.ob o = .map) (B4:Array MapEntry) (ck:Nat) (hl:(gS B4.toList).length=kg.length)
 (h1 : ∀ v∈gS B4.toList,v.oneCell'=true) (h2 : ∀ (i:Nat) (d:D) (v:Value),kg[i]? = some d→(gS B4.toList)[i]? = some v→RD M s d v) :
 Rel M {s with ah:=s.ah.set o kg} {w with heap:=w.heap.setIfInBounds (M.mu o) (.map B4 ck)}∧Ext M s w M {s with ah:=s.ah.set o kg} {w with heap:=w.heap.setIfInBounds (M.mu o) (.map B4 ck)}:=by
 obtain⟨vs,T,hh,hs,⟨iz,Yx⟩,jO⟩:=r.obj o cs he
 obtain⟨es,ck0,(hh:w.heap[M.mu o]? = _),pQ⟩:=hh.OM hk
 have ho:o<s.ah.length:=(List.getElem?_eq_some_iff.1 he).1
 obtain⟨vG,mL⟩:=heap_set (w:=w) (o':= .map B4 ck) hh
 have le:Le M s M {s with ah:=s.ah.set o kg}:=
  ⟨fun _ _ _ h=>h,by simp,fun _ _=> .refl _,Nat.le_refl _,fun t n _ h=>⟨n,h,Nat.le_refl _,fun _=>rfl⟩⟩
 refine⟨⟨fun b q v e=>?_,fun o' ds e=>?_,fun q hq x8=>r.ki q (by simpa using hq) x8,fun q q' hq np e=>r.inj q q' (by simpa using hq) (by simpa using np) e,fun t n e=>?_,
  fun t b c z q hl e hq=>r.fy t b c z q hl e (by simpa using hq),fun t t' b c z c' z' h h' e e'=>r.gd t t' b c z c' z' h h' e e'⟩, ?_⟩
 ·obtain⟨h3,h4⟩:=r.comm b q v e
  refine⟨?_,h4⟩
  have hb:b≠M.mu o:=fun eq=>by subst eq;rw[r.ki o ho q]at e;cases e
  rw[← h3]
  simp[World.cell?,mL b hb]
 ·rw [List.getElem?_set]at e
  split at e
  ·rename_i heq
   subst heq
   simp at e
   obtain⟨_,rfl⟩:=e
   refine⟨⟨gS B4.toList⟩,0, ?_,by simpa using hl,⟨fun v hv=>h1 v (by simpa using hv),fun T' h=>?_⟩,fun i d v e1 e2=>(h2 i d v e1 (by simpa using e2)).mono le⟩
   ·exact iT.ofMap hk ⟨B4,ck,vG,rfl⟩
   ·have:M.ty o=none:=by
     have:(M.loc o).2 = .map:=hk
     simp[Map.ty,this,Ob.ty?]
    rw[this]at h;cases h
  ·rename_i eW
   obtain⟨fO,T',h3,h4,h5,h6⟩:=r.obj o' ds e
   have od:o'<s.ah.length:=(List.getElem?_eq_some_iff.1 e).1
   refine⟨fO,T', ?_,h4,h5,fun i d v e1 e2=>(h6 i d v e1 e2).mono le⟩
   exact h3.keep (mL _ (fun eq=>eW (r.inj o o' ho od eq.symm)))
 ·rcases r.tok t n e with h3 | ⟨b,cap,size,fO,T',h3,h4,h5⟩
  ·exact .inl h3
  ·refine .inr ⟨b,cap,size,fO,T',h3, ?_,h5⟩
   show(w.heap.setIfInBounds (M.mu o) (.map B4 ck))[b]? = _
   rw[mL b (fun eq=>r.fy t b cap size o ⟨n,e⟩ h3 ho eq.symm)];exact h4
 ·refine⟨le,fun b hb h3 _=>mL b (fun eq=>h3 o ho eq.symm),fun q h3 h4=> ?_,fun t b c z h e=> .inl ⟨h,c,z,e⟩,fun _ _ h=>(h rfl).elim,by simp,rfl,rfl,rfl⟩
  simp at h4;rcases h3 with h3|h3;omega;exact(h3 rfl).elim
theorem uf (l:List UInt8):IsKey .string (.string ⟨⟨l⟩⟩):=by simp[IsKey]
theorem Pa (r:Rel M s w) {t kt e:TypeId} (ht:P.underlying t=some (.map kt e)):dg P M s w (do pure (.value (← Instr.makeMap t none))) (.gb s.ah.length) {s with ah:=s.ah++ [[]]}:=by
 obtain⟨r',e'⟩:=r.J3 [] (.map #[] 0) #[] 0 .map (fun hp e=>⟨#[],0,e,rfl⟩) (fun _ h=>by cases h) rfl (by simp) (by simp)
 have hm:(M.dZ s.ah.length w.heap.size .map).mu s.ah.length=w.heap.size:=by simp[Map.dZ,Map.mu]
 have hv:=RD.gb (M:=M.dZ s.ah.length w.heap.size .map) (s:= {s with ah:=s.ah++ [[]]}) s.ah.length (by simp) (by simp[Map.dZ,Map.ob])
 rw[hm]at hv
 refine⟨_,_,_, .inl ?_,r',hv,e'⟩
 simp only[Instr.makeMap,newObj,Sem.run_bind,Sem.run_pure,Sem.run,Result.andThen_ok]
 rfl
theorem Pb (r:Rel M s w) {t kt e:TypeId} {i:TypeInfo} {z:Value} {zd:D} (ht:P.underlying t=some (.map kt e)) (hk:P.underlying kt=some .string) (hi:P.info? e=some i) (hz:i.zero=some z) (hzd:sZ z=some zd)
 {o:Nat} {key:List UInt8} {cs:List D} {d:D} (yS:M.ob o = .map) (ho:s.ah[o]? = some cs) (hg:zS key zd cs=some d) :
 dg P M s w (do pure (.value (← Instr.lookup t (.map (some (M.mu o))) (.string ⟨⟨key⟩⟩) false))) d s:=by
 obtain⟨vs,T,hh,hs,⟨iz,Yx⟩,jO⟩:=r.obj o cs ho
 obtain⟨es,ck,(hh:w.heap[M.mu o]? = _),pQ⟩:=hh.OM yS
 have Eu : ∀ (i:Nat) (d:D) (v:Value),cs[i]? = some d→(gS es.toList)[i]? = some v→RD M s d v:=fun i d v e1 e2=>jO i d v e1 (by rw[← pQ]at e2;simpa using e2)
 have hzv:(zeroValue e).run P w = .ok z w:=by simp[zeroValue,gh P hi,hz]
 rcases(find_spec es.toList cs 0 (by rw[← pQ];simpa using hs) Eu).1 zd d hg with ⟨h1,rfl⟩|⟨j,en,h1,h2⟩
 ·refine dg.pure (v:=z) r ?_ (qY hzd).1
  simp[Instr.lookup,run_underlying ht,MapKept.run_getObj_map hh,run_checkKey hk (uf key),run_findKey hk h1,hzv]
 ·refine dg.pure (v:=en.val) r ?_ h2
  simp[Instr.lookup,run_underlying ht,MapKept.run_getObj_map hh,run_checkKey hk (uf key),run_findKey hk h1]
theorem Sv (r:Rel M s w) {t kt e:TypeId} (ht:P.underlying t=some (.map kt e)) (hk:P.underlying kt=some .string)
 {o:Nat} {key:List UInt8} {cs kg:List D} {d:D} {v:Value} (yS:M.ob o = .map) (ho:s.ah[o]? = some cs) (hv:RD M s d v) (yZ:v.oneCell'=true) (hg:xZ key d cs=some kg) :
 dg P M s w (do Instr.mapUpdate t (.map (some (M.mu o))) (.string ⟨⟨key⟩⟩) v;pure .skip) (.tuple []) {s with ah:=s.ah.set o kg}:=by
 obtain⟨vs,T,hh,hs,⟨iz,Yx⟩,jO⟩:=r.obj o cs ho
 obtain⟨es,ck,(hh:w.heap[M.mu o]? = _),pQ⟩:=hh.OM yS
 have Eu : ∀ (i:Nat) (d:D) (v:Value),cs[i]? = some d→(gS es.toList)[i]? = some v→RD M s d v:=fun i d v e1 e2=>jO i d v e1 (by rw[← pQ]at e2;simpa using e2)
 have hl:(gS es.toList).length=cs.length:=by rw[← pQ];simpa using hs
 have YE : ∀ v∈gS es.toList,v.oneCell'=true:=fun v hv=>iz v (by rw[← pQ]at hv;simpa using hv)
 rcases(find_spec es.toList cs 0 hl Eu).2 d kg hg with ⟨h1,rfl⟩|⟨j,en,h1,h2,h3,rfl⟩
 ·obtain⟨r',e'⟩:=r.uO (kg:=cs++ [.str key,d]) ho yS (es.push {key:= .string ⟨⟨key⟩⟩,val:=v,born:=ck}) (ck+1) (by simp [xj,gS,hl]) (fun u hu=>by
   simp only[Array.toList_push,xj,gS,List.mem_append,List.mem_cons,List.not_mem_nil,or_false]at hu
   rcases hu with hu|rfl|rfl
   ·exact YE u hu
   ·rfl
   ·exact yZ) (fun i d' u e1 e2=>by
   simp only[Array.toList_push,xj,gS]at e2
   rcases Nat.lt_or_ge i cs.length with hi|hi
   ·rw [List.getElem?_append_left hi]at e1
    rw[List.getElem?_append_left (by omega)]at e2
    exact Eu i d' u e1 e2
   ·rw [List.getElem?_append_right hi]at e1
    rw[List.getElem?_append_right (by omega),hl]at e2
    match i - cs.length,e1,e2 with
    | 0,e1,e2=>simp at e1 e2;subst e1 e2;exact .str _
    | 1,e1,e2=>simp at e1 e2;subst e1 e2;exact hv
    |k+2,e1,e2=>simp at e1)
  refine⟨Go.undef,_,M, .inr ⟨?_,rfl⟩,r', .undef,e'⟩
  simp[Instr.mapUpdate,run_underlying ht,MapKept.run_getObj_map hh,run_checkKey hk (uf key),run_findKey hk h1,MapKept.run_setObj_map _ hh]
 ·simp only [Nat.zero_add]at h1
  have hj:es[j]? = some en:=by simpa using h2
  have VA:(es.modify j fun e=> {e with key:= .string ⟨⟨key⟩⟩,val:=v}).toList=es.toList.set j {en with key:= .string ⟨⟨key⟩⟩,val:=v}:=by
   apply List.ext_getElem?
   intro i
   rw[Array.getElem?_toList,Array.getElem?_modify,List.getElem?_set]
   by_cases YF:j=i
   ·subst YF
    have:j<es.size:=by have:=(List.getElem?_eq_some_iff.1 h2).1;simpa using this
    simp[hj,this]
    have:=(Array.getElem?_eq_some_iff.1 hj).2
    rw[this]
   ·simp[YF]
  have iJ:=HZ es.toList j en (.string ⟨⟨key⟩⟩) v h2 h3
  obtain⟨r',e'⟩:=r.uO (kg:=cs.set (2*j+1) d) ho yS (es.modify j fun e=> {e with key:= .string ⟨⟨key⟩⟩,val:=v}) ck (by rw[VA,iJ];simp[hl]) (fun u hu=>by
   rw[VA,iJ]at hu
   rcases List.mem_or_eq_of_mem_set hu with hu|rfl
   ·exact YE u hu
   ·exact yZ) (fun i d' u e1 e2=>by
   rw[VA,iJ,List.getElem?_set]at e2
   rw[List.getElem?_set]at e1
   by_cases hi:2*j+1=i
   ·rw [if_pos hi]at e1 e2
    split at e1
    ·split at e2
     ·cases e1;cases e2;exact hv
     ·cases e2
    ·cases e1
   ·rw [if_neg hi]at e1 e2
    exact Eu i d' u e1 e2)
  refine⟨Go.undef,_,M, .inr ⟨?_,rfl⟩,r', .undef,e'⟩
  simp[Instr.mapUpdate,run_underlying ht,MapKept.run_getObj_map hh,run_checkKey hk (uf key),run_findKey hk h1,hj,h3,run_keyThatStays (uf key),MapKept.run_setObj_map _ hh]
end
end Go.Abs
namespace Go.Abs
section
variable {M:Map} {s:St} {w:World}
theorem Fp {o g:Nat} {cells:List D} (h:oj s o g=some cells):s.ah[o]? = some (.int .i64 g::cells):=by
 unfold oj at h
 split at h
 ·rename_i n cs e
  split at h
  ·rename_i hn;cases h;rw[e,hn]
  ·cases h
 ·cases h
theorem Rel.Ke (r:Rel M s w) {o z g:Nat} {A:Nat→Option (Nat×Nat)} {cells:List D} (hm:M.ob o = .arr z A) (ha:oj s o g=some cells) :
 ∃ (us:Array Value) (T:TypeId) (cap:Nat),w.heap[M.mu o]? = some (.cells us T (0,0))∧A g=some (M.mu o,cap)∧(∀ g',g<g'→A g'=none)∧us.size=cap*z∧cells.length≤us.size∧
  (∀ u∈us,u.oneCell'=true)∧∀ (i:Nat) (d:D) (u:Value),cells[i]? = some d→us[i]? = some u→RD M s d u:=by
 obtain⟨vs,T,hh,hs,_,jO⟩:=r.obj o _ (Fp ha)
 obtain⟨us,g0,n,cap,h1,h2,h3,h4,h5,h6,h7⟩ : ∃ (us:Array Value) (g n cap:Nat),w.heap[(M.loc o).1]? = some (.cells us T (0,0))∧A g=some ((M.loc o).1,cap)∧(∀ g',g<g'→A g'=none)∧us.size=cap*z∧n≤us.size∧
  vs.toList = .int .i64 g::us.toList.take n∧∀ u∈us,u.oneCell'=true:=by
  unfold iT at hh
  rw[show(M.loc o).2 = .arr z A from hm]at hh
  exact hh
 have hY : ∀ i,vs[i]? = (Value.int .i64 g0::us.toList.take n)[i]? :=fun i=>by rw[← h6,Array.getElem?_toList]
 have hg:g0=g:=by
  have:=(jO 0 (.int .i64 g) (.int .i64 g0) rfl (by rw[hY];rfl))
  cases this
  rfl
 subst hg
 have hn:n=cells.length:=by
  have:vs.toList.length=(Value.int .i64 g0::us.toList.take n).length:=by rw[h6]
  simp at this hs
  omega
 subst hn
 refine⟨us,T,cap,h1,h2,h3,h4,h5,h7,fun i d u e1 e2=>jO (i+1) d u (by simpa using e1) ?_⟩
 rw[hY,List.getElem?_cons_succ,List.getElem?_take,if_pos (List.getElem?_eq_some_iff.1 e1).1]
 simpa using e2
def Map.rX (M:Map) (o:Nat) (l:Nat×Ob):Map:= {M with loc:=fun q=>if q=o then l else M.loc q}
theorem Rel.VB (r:Rel M s w) {o z g:Nat} {A:Nat→Option (Nat×Nat)} {cells:List D} (hm:M.ob o = .arr z A) (ha:oj s o g=some cells) (b' g' ri:Nat) (A':Nat→Option (Nat×Nat))
 (hA : ∀ g x,A g=some x→A' g=some x) (yX:A' g'=some (b',ri)) (DZ : ∀ Nr,g'<Nr→A' Nr=none) (w':World) (us:Array Value) (T:TypeId) (hh:w'.heap[b']? = some (.cells us T (0,0))) (dP:us.size=ri*z)
 (we:List D) (hl:we.length≤us.size) (iz : ∀ u∈us,u.oneCell'=true) (jO : ∀ (i:Nat) (d:D) (u:Value),we[i]? = some d→us[i]? = some u→RD M s d u)
 (hb:b'=M.mu o∨w.heap.size≤b') (JF : ∀ b,b<w.heap.size→b≠M.mu o→w'.heap[b]? = w.heap[b]?) (tD:w.heap.size≤w'.heap.size) (h1:w'.os=w.os) (h2:w'.tape=w.tape) (h3:w'.output=w.output) :
 Rel (M.rX o (b', .arr z A')) {s with ah:=s.ah.set o (.int .i64 g'::we)} w'∧Ext M s w (M.rX o (b', .arr z A')) {s with ah:=s.ah.set o (.int .i64 g'::we)} w':=by
 have ho:o<s.ah.length:=(List.getElem?_eq_some_iff.1 (Fp ha)).1
 have Bh:(M.loc o).2 = .arr z A:=hm
 have vG:(M.rX o (b', .arr z A')).loc o=(b', .arr z A'):=by simp[Map.rX]
 have Pe : ∀ q,q≠o→(M.rX o (b', .arr z A')).loc q=M.loc q:=fun q hq=>by simp[Map.rX,hq]
 have nG:(M.rX o (b', .arr z A')).mu o=b':=congrArg Prod.fst vG
 have Ev : ∀ q,q≠o→(M.rX o (b', .arr z A')).mu q=M.mu q:=fun q hq=>congrArg Prod.fst (Pe q hq)
 have le:Le M s (M.rX o (b', .arr z A')) {s with ah:=s.ah.set o (.int .i64 g'::we)}:=by
  refine⟨fun _ _ _ h=>h,by simp,fun q _=>?_,Nat.le_refl _,fun t n _ h=>⟨n,h,Nat.le_refl _,fun _=>rfl⟩⟩
  by_cases hq:q=o
  ·subst hq
   rw[vG,show M.loc q=((M.loc q).1, .arr z A) by rw[← Bh]]
   exact .arr _ _ z A A' hA
  ·rw[Pe q hq];exact .refl _
 have eW : ∀ q,q<s.ah.length→q≠o→M.mu q≠b':=fun q hq wg e=>by
  rcases hb with hb|hb
  ·exact wg (r.inj q o hq ho (e.trans hb))
  ·have:=r.qX hq;omega
 have hG : ∀ off,M.G b' off=none:=fun off=>by
  rcases hb with hb|hb
  ·rw[hb];exact r.ki o ho off
  ·exact r.OR hb off
 refine⟨⟨fun b q v e=>?_,fun q ds e=>?_,fun q hq off=>?_,fun q q' hq np e=>?_,fun t n e=>?_,fun t b c z' q hl e hq=>?_,fun t t' b c z c' z' h h' e e'=>r.gd t t' b c z c' z' h h' e e'⟩, ?_⟩
 ·obtain⟨h4,h5⟩:=r.comm b q v e
  refine⟨?_,h5⟩
  have Sw:b≠M.mu o:=fun eq=>by subst eq;have e0:M.G (M.mu o) q=some v:=e;rw[r.ki o ho q]at e0;cases e0
  rw[← h4]
  simp[World.cell?,JF b (r.BS e) Sw]
 ·simp only [List.getElem?_set]at e
  split at e
  ·rename_i hq
   subst hq
   cases e
   refine⟨⟨.int .i64 g'::us.toList.take we.length⟩,T, ?_,by simp;omega,⟨fun v hv=>?_,fun T' hT=>?_⟩,fun i d v e1 e2=>?_⟩
   ·unfold iT
    rw[vG]
    exact⟨us,g',we.length,ri,hh,yX,DZ,dP,hl,rfl,iz⟩
   ·simp at hv
    rcases hv with rfl|hv
    ·rfl
    ·exact iz v (Array.mem_toList_iff.1 (List.mem_of_mem_take hv))
   ·have:(M.rX o (b', .arr z A')).ty o=none:=by unfold Map.ty;rw [vG];rfl
    rw[this]at hT;cases hT
   ·cases i with
    |zero=>simp at e1 e2;subst e1 e2;exact .int _ _
    |succ i=>
     simp at e1 e2
     rw[List.getElem?_take]at e2
     split at e2
     ·exact(jO i d v e1 (by simpa using e2)).mono le
     ·cases e2
  ·rename_i hq
   have hq:q≠o:=fun e=>hq e.symm
   obtain⟨fO,T',h4,h5,h6,h7⟩:=r.obj q ds e
   have Kc:q<s.ah.length:=(List.getElem?_eq_some_iff.1 e).1
   refine⟨fO,T', ?_,h5,⟨h6.1,by unfold Map.ty;rw[Pe q hq];exact h6.2⟩,fun i d v e1 e2=>(h7 i d v e1 e2).mono le⟩
   rw[Pe q hq]
   exact h4.keep (JF _ h4.lt fun e=>hq (r.inj q o Kc ho e))
 ·simp at hq
  by_cases wg:q=o
  ·subst wg;rw[nG];exact hG off
  ·rw[Ev q wg];exact r.ki q hq off
 ·simp at hq np
  by_cases h4:q=o<;>by_cases h5:q'=o
  ·omega
  ·subst h4;rw[nG,Ev q' h5]at e;exact(eW q' np h5 e.symm).elim
  ·subst h5;rw[nG,Ev q h4]at e;exact(eW q hq h4 e).elim
  ·rw[Ev q h4,Ev q' h5]at e;exact r.inj q q' hq np e
 ·rcases r.tok t n e with h4 | ⟨b,cap,size,fO,T',h4,h5,h6⟩
  ·exact .inl h4
  ·refine .inr ⟨b,cap,size,fO,T',h4, ?_,h6⟩
   rw[JF b (kM h5) (fun eq=>r.fy t b cap size o ⟨n,e⟩ h4 ho eq.symm)];exact h5
 ·simp at hq
  by_cases wg:q=o
  ·subst wg;rw [nG]
   rcases hb with hb|hb
   ·rw[hb];exact r.fy t b c z' q hl e hq
   ·have:=r.tB hl e;omega
  ·rw[Ev q wg];exact r.fy t b c z' q hl e hq
 ·refine⟨le,fun b sS h4 _=>JF b sS (fun e=>h4 o ho e.symm),fun q h4 h5=> ?_,fun t b c z h e=> .inl ⟨h,c,z,e⟩,fun _ _ h=>(h rfl).elim,tD,h1,h2,h3⟩
  simp at h5
  by_cases wg:q=o
  ·subst wg
   rw[nG]at h4 ⊢
   rcases hb with hb|hb
   ·rcases h4 with h4 | h4
    ·omega
    ·exact(h4 hb).elim
   ·exact hb
  ·rw [Ev q wg]at h4
   rcases h4 with h4|h4
   ·omega
   ·exact(h4 rfl).elim
theorem Rel.ac2 (r:Rel M s w) (z cap:Nat) (us:Array Value) (T:TypeId) (dP:us.size=cap*z) (cells:List D) (hl:cells.length≤us.size) (iz : ∀ u∈us,u.oneCell'=true)
 (jO : ∀ (i:Nat) (d:D) (u:Value),cells[i]? = some d→us[i]? = some u→RD M s d u) :
 ∃ M',Rel M' {s with ah:=s.ah++ [.int .i64 ((0:Nat):Int)::cells]} (w.alloc (.cells us T))∧Ext M s w M' {s with ah:=s.ah++ [.int .i64 ((0:Nat):Int)::cells]} (w.alloc (.cells us T))∧
  ∀ len,len≤cap→RD M' {s with ah:=s.ah++ [.int .i64 ((0:Nat):Int)::cells]} (.eQ z s.ah.length 0 len) (.slice (some ⟨w.heap.size,0,none⟩) len cap):=by
 obtain⟨r',e'⟩:=r.J3 (.int .i64 ((0:Nat):Int)::cells) (.cells us T) ⟨.int .i64 ((0:Nat):Int)::us.toList.take cells.length⟩ T (.arr z fun g=>if g=0 then some (w.heap.size,cap)else none)
  (fun hp e=>⟨us,0,cells.length,cap,e,rfl,fun g' h=>if_neg (by omega),dP,hl,rfl,iz⟩) (fun _ h=>by cases h) (by simp;omega) (fun v hv=>by
   simp at hv
   rcases hv with rfl|hv
   ·rfl
   ·exact iz v (Array.mem_toList_iff.1 (List.mem_of_mem_take hv))) (fun i d v e1 e2=>by
   cases i with
   |zero=>simp at e1 e2;subst e1 e2;exact .int _ _
   |succ i=>
    simp at e1 e2
    rw[List.getElem?_take]at e2
    split at e2
    ·exact(jO i d v e1 (by simpa using e2)).mono (s5 s w.heap.size _ _)
    ·cases e2)
 exact⟨_,r',e',fun len h=> .eQ z _ 0 len w.heap.size cap _ (by simp) (by simp[Map.dZ,Map.ob];rfl) (if_pos rfl) h⟩
end
end Go.Abs
namespace Go.Abs
section
variable {P:Program} {M:Map} {s:St} {w:World}
theorem Ns (r:Rel M s w) {o g off:Nat} {v:Value} {cells:List D} (hx:RD M s (.fG o g off) v) (ha:oj s o g=some cells) :
 ∃ z A,M.ob o = .arr z A∧v = .pointer (some ⟨M.mu o,off,none⟩):=by
 obtain⟨z,b,cap,A,hv,ho,hm,hg⟩:=hx.Eo
 obtain⟨us,T,ri,h1,h2,_⟩:=r.Ke hm ha
 rw[hg]at h2;cases h2
 exact⟨z,A,hm,hv⟩
theorem My (r:Rel M s w) {t:TypeId} {i:TypeInfo} {agg:Bool} (hi:P.info? t=some i) (hag:rQ P t=some agg) {x d:D} {v:Value} {s':St} (hx:RD M s x v) (h:zT x agg i.size s=some (d,s')) :
 dg P M s w (do pure (.value (← Instr.loadAt t v))) d s':=by
 unfold zT at h
 split at h
 case h_2=>cases h
 rename_i o g off
 split at h
 case h_2=>cases h
 rename_i cells ha
 split at h
 case h_2=>cases h
 rename_i d' hp
 cases h
 obtain⟨z,A,hm,rfl⟩:=Ns r hx ha
 obtain⟨us,T,cap,hh,_,_,_,hl,iz,jO⟩:=r.Ke hm ha
 let n:=if agg then i.size else 1
 have jI:off+n≤us.size:=by
  rcases rD hp with ⟨rfl,h1,_⟩|⟨rfl,h1⟩
  ·simp[n];omega
  ·have:=(List.getElem?_eq_some_iff.1 h1).1;simp[n];omega
 have hlen:((us.toList.drop off).take n).length=n:=by simp;omega
 have hY : ∀ (j:Nat) (u:Value),((us.toList.drop off).take n)[j]? = some u→us[off+j]? = some u:=by
  intro j u h
  rw[List.getElem?_take]at h
  split at h
  ·rw[List.getElem?_drop]at h;simpa using h
  ·cases h
 have dM:=zX (w:=w) P hi hag (M.mu o) off ((us.toList.drop off).take n) hlen (fun j u h=>by rw[jx hh];exact hY j u h)
 refine dg.pure (v:=if agg then .agg ((us.toList.drop off).take n).toArray else((us.toList.drop off).take n).getD 0 Go.undef) r (by simp[Instr.loadAt,Instr.sureAddr,dM]) ?_
 refine rU hp _ hlen (fun _ u hu=>iz u ?_) (fun j d u e1 e2=>jO _ d u e1 (hY j u e2))
 exact Array.mem_toList_iff.1 (List.mem_of_mem_drop (List.mem_of_mem_take hu))
theorem za {vs:Array Value} {off:Nat} {us:List Value} {n:Nat} (hu:us.length=n) (h:off+n≤vs.size) (i:Nat) :
 (vs.toList.take off++us++vs.toList.drop (off+us.length)).toArray[i]? = if i<off then vs[i]? else if i<off+n then us[i - off]? else vs[i]? :=by
 subst hu
 simp only[List.getElem?_toArray]
 have hl:(vs.toList.take off).length=off:=by simp;omega
 split
 ·rename_i h3
  rw[List.append_assoc,List.getElem?_append_left (by omega),List.getElem?_take_of_lt h3];simp
 ·rename_i h3
  rw[List.append_assoc,List.getElem?_append_right (by omega),hl]
  split
  ·rename_i h4
   rw[List.getElem?_append_left (by omega)]
  ·rename_i h4
   rw[List.getElem?_append_right (by omega),List.getElem?_drop]
   rw[show off+us.length+(i - off - us.length)=i by omega];simp
theorem zb {vs:Array Value} {off k:Nat} {us:List Value} (h1 : ∀ v∈vs,v.oneCell'=true) (h2 : ∀ u∈us,u.oneCell'=true) : ∀ v∈(vs.toList.take off++us++vs.toList.drop k).toArray,v.oneCell'=true:=by
 intro v hv
 simp at hv
 rcases hv with hv|hv|hv
 ·exact h1 v (Array.mem_toList_iff.1 (List.mem_of_mem_take hv))
 ·exact h2 v hv
 ·exact h1 v (Array.mem_toList_iff.1 (List.mem_of_mem_drop hv))
theorem Kf (r:Rel M s w) {t:TypeId} {i:TypeInfo} (hi:P.info? t=some i) {x y d:D} {v u:Value} {s':St} (hx:RD M s x v) (hy:RD M s y u) (h:BP x y.row i.size s=some (d,s')) :
 dg P M s w (do Instr.storeAt t v u;pure .skip) d s':=by
 unfold BP at h
 split at h
 case h_2=>cases h
 rename_i o g off row hr
 split at h
 case h_2=>cases h
 rename_i cells ha
 split at h
 case isFalse=>cases h
 rename_i hc
 obtain⟨hl,jI⟩:=hc
 cases h
 obtain⟨z,A,hm,rfl⟩:=Ns r hx ha
 obtain⟨us,T,cap,hh,yX,DZ,dP,hle,iz,jO⟩:=r.Ke hm ha
 obtain⟨h1,h2,h3⟩:=hy.row hr
 have hu:u.cells.toList.length=row.length:=by simpa using h1
 have jy:=run_storeCells_at P (M.mu o) off T u.cells.toList 0 us w hh (by omega) (fun u hu=>h2 u (by simpa using hu))
 simp only[Nat.add_zero]at jy
 generalize dw:(us.toList.take off++u.cells.toList++us.toList.drop (off+u.cells.toList.length)).toArray=jl at jy
 have rT:jl.size=us.size:=by rw[← dw];simp;omega
 have hY : ∀ i,jl[i]? = if i<off then us[i]? else if i<off+row.length then u.cells.toList[i - off]? else us[i]? :=fun i=>by rw[← dw];exact za hu (by omega) i
 have hlc:(iO cells off row).length=cells.length:=uJ cells off row (by omega)
 obtain⟨r',e'⟩:=r.VB hm ha (M.mu o) g cap A (fun _ _ h=>h) yX DZ (w.setRow (M.mu o) jl) jl T (setRow_heap w (M.mu o) us jl T (0,0) hh) (by rw[rT,dP]) (iO cells off row) (by omega)
  (by rw [← dw];exact zb iz (fun u hu=>h2 u (by simpa using hu))) (fun i d v e1 e2=>by
   rw[rS cells off row (by omega)]at e1
   rw[hY]at e2
   split at e1
   ·rename_i h4;simp only[h4,if_true]at e2;exact jO i d v e1 e2
   ·rename_i h4
    simp only[h4,if_false]at e2
    split at e1
    ·rename_i h5;simp only[h5,if_true]at e2;exact h3 _ d v e1 (by simpa using e2)
    ·rename_i h5;simp only[h5,if_false]at e2;exact jO i d v e1 e2) (.inl rfl) (fun b _ hb=>setRow_other w (M.mu o) b _ hb) (by simp) rfl rfl rfl
 refine⟨Go.undef,_,_, .inr ⟨?_,rfl⟩,r', .undef,e'⟩
 have alz:u.cells.size=i.size:=by omega
 simp[Instr.storeAt,Instr.sureAddr,storeVar,sizeOf,gh P hi,alz,jy]
theorem Kg (r:Rel M s w) {t e:TypeId} {i:TypeInfo} (ht:P.underlying t=some (.slice e)) (hi:P.info? e=some i) {x y d:D} {v u:Value} (hx:RD M s x v) (hy:RD M s y u) (h:yQ x y i.size=some d) :
 dg P M s w (do pure (.value (← Instr.indexAt t v u))) d s:=by
 unfold yQ at h
 split at h
 case h_2=>cases h
 rename_i z o g len k n
 split at h
 case isFalse=>cases h
 rename_i hc
 obtain⟨h0,h1,rfl⟩:=hc
 cases h
 obtain⟨b,cap,A,rfl,ho,hm,hg,hl⟩:=hx.yU
 rw[hy.iL]
 refine dg.pure (v:= .pointer (some ⟨b,n.toNat*i.size,none⟩)) r ?_ (.fG _ _ _ _ b cap A ho hm hg)
 simp[Instr.indexAt,asIntOf,run_underlying ht,h0,h1,sizeOf,gh P hi,nc]
theorem Pf (r:Rel M s w) {t e:TypeId} {i:TypeInfo} {lv hv:Option Value} {lo hi:Option D} (ht:P.underlying t=some (.slice e)) (Fh:P.info? e=some i) {x d:D} {v:Value} (hx:RD M s x v)
 (h1 : ∀ l,tW lo=some l→Si lv l) (h2 : ∀ len l,tX hi len=some l→Sj hv len l) (h:x7 x lo hi=some d) :
 dg P M s w (do pure (.value (← Instr.sliceAt t v lv hv none))) d s:=by
 unfold x7 at h
 split at h
 ·rename_i z o g len
  split at h
  case h_2=>cases h
  rename_i l hh el eh
  split at h
  case isFalse=>cases h
  rename_i hc
  obtain⟨rfl,h0,hle⟩:=hc
  cases h
  obtain⟨b,cap,A,rfl,ho,hm,hg,hl⟩:=hx.yU
  have hb:=qi (P:=P) (w:=w) (isSlice:=true) (cap:=cap) (h1 _ el) (h2 _ _ eh) (Int.le_refl 0) h0 hle hl
  refine dg.pure (v:= .slice (some ⟨b,0,none⟩) hh.toNat cap) r ?_ (.eQ z o g _ b cap A ho hm hg (by omega))
  simp[Instr.sliceAt,run_underlying ht,Instr.slice,hb,sizeOf,gh P Fh,nc]
 ·rename_i z
  split at h
  case h_2=>cases h
  rename_i l hh el eh
  split at h
  case isFalse=>cases h
  rename_i hc
  obtain⟨rfl,rfl⟩:=hc
  cases h
  obtain⟨a,rfl⟩:=hx.Ep
  have hb:=qi (P:=P) (w:=w) (isSlice:=true) (len:=0) (cap:=0) (h1 _ el) (h2 _ _ eh) (Int.le_refl 0) (Int.le_refl 0) (Int.le_refl 0) (Nat.le_refl 0)
  refine dg.pure (v:= .slice a 0 0) r ?_ (.eJ z a)
  cases a<;>simp[Instr.sliceAt,run_underlying ht,Instr.slice,hb,sizeOf,gh P Fh,nc]
 ·cases h
theorem Ph (r:Rel M s w) {t ty e:TypeId} (ht:P.underlying t=some (.slice e)) {x d:D} {v:Value} (hx:RD M s x v) (h:GM x=some d) :
 dg P M s w (do pure (.value (← Builtin.len_ #[t] ty #[v]))) d s:=by
 unfold GM at h
 split at h
 ·cases h
  obtain⟨b,cap,A,rfl,_⟩:=hx.yU
  exact nI r ht
 ·cases h
  obtain⟨a,rfl⟩:=hx.Ep
  exact nI r ht
 ·cases h
theorem z8 {size:Nat} : ∀ {rows:List (List D)},(∀ row∈rows,row.length=size)→rows.flatten.length=rows.length*size∧
 ∀ (k:Nat) (d:D),rows.flatten[k]? = some d→∃ (i:Nat) (row:List D) (j:Nat),rows[i]? = some row∧row[j]? = some d∧k=i*size+j
 | [],_=>by simp
 | row::rows,h=>by
  have hr:=h row (List.mem_cons_self ..)
  obtain⟨h1,h2⟩:=z8 fun q hq=>h q (List.mem_cons_of_mem _ hq)
  refine⟨by simp only[List.flatten_cons,List.length_append,h1,hr,List.length_cons,Nat.add_mul];omega,fun k d e=>?_⟩
  rw[List.flatten_cons]at e
  rcases Nat.lt_or_ge k row.length with hk|hk
  ·rw [List.getElem?_append_left hk]at e
   exact⟨0,row,k,rfl,e,by omega⟩
  ·rw [List.getElem?_append_right hk]at e
   obtain⟨i,kT,j,g1,g2,g3⟩:=h2 _ d e
   exact⟨i+1,kT,j,by simpa using g1,g2,by rw[Nat.add_mul];omega⟩
theorem Pj (r:Rel M s w) {t u ty e e':TypeId} {i:TypeInfo} {z:Value} (ht:P.underlying t=some (.slice e)) (hu:P.underlying u=some (.slice e')) (hi:P.info? e=some i) (hz:i.zero=some z)
 (yY:z.cells.size=i.size) (D0 : ∀ v∈z.cells,v.oneCell'=true) {dx dy d:D} {x y:Value} {s':St} (hx:RD M s dx x) (hy:RD M s dy y) (ta:0<i.size) (he:BQ i.size i.bytes dx dy s=some (d,s')) :
 ∃ v w' M',(Builtin.append_ #[t,u] ty #[x,y]).run P w = .ok v w'∧Rel M' s' w'∧RD M' s' d v∧Ext M s w M' s' w':=by
 have src:=GX (i:=i) r hu hy
 unfold BQ at he
 split at he
 ·-- behind an array
  rename_i z0 o g len g' zy new
  split at he
  case isFalse=>cases he
  rename_i hc
  obtain⟨rfl,J9,xi⟩:=hc
  obtain⟨b,cap,A,rfl,ho,hm,hg,hlc⟩:=hx.yU
  cases new with
  |nil=>
   simp only at he
   cases he
   exact⟨_,w,M,ml ht hi ((src _ _ _ rfl).1 rfl) hlc,r,hx,Ext.refl M s w⟩
  |cons n0 new=>
  have eW:(n0::new)≠ []:=by simp
  generalize dw:n0::new=eA at *
  have Sp:zy=i.size:=J9.resolve_left eW
  subst Sp
  obtain⟨HX,news,hs,De⟩:=(src _ _ _ rfl).2 eW rfl
  have Bh:0<eA.length:=List.length_pos_iff.2 eW
  simp only[← dw]at he
  simp only[dw]at he
  split at he
  case h_2=>cases he
  rename_i cells ha
  split at he
  case isFalse=>cases he
  rename_i pA
  cases he
  obtain⟨us,T,ri,hh,yX,DZ,dP,hle,iz,jO⟩:=r.Ke hm ha
  rw[hg]at yX
  simp only[Option.some.injEq,Prod.mk.injEq]at yX
  obtain⟨rfl,rfl⟩:=yX
  obtain⟨iJ,Sx⟩:=z8 HX
  have Kh:(cells.take (len*i.size)).length=len*i.size:=by simp;omega
  have hA : ∀ (b' c':Nat) (g0:Nat) (x:Nat×Nat),A g0=some x→(if g0=g+1 then some (b',c')else A g0)=some x:=fun b' c' g0 x h=>by
   rw[if_neg]
   ·exact h
   ·rintro rfl
    rw[DZ (g+1) (by omega)]at h;cases h
  have ud:(len+eA.length)*i.bytes≤140737488355328:=by rw[Nat.mul_succ]at xi;simp only[bx]at xi;omega
  have Sq:len+eA.length≤1099511627776:=by rw[Nat.mul_succ]at xi;simp only[bx]at xi;omega
  have Sy:=hs.newsLen
  -- what is laid there
  have YG : ∀ (vs:Array Value),(∀ k,k<len*i.size→vs[k]? = us[k]?)→(∀ k,k<news.length→vs[len*i.size+k]? = news[k]?)→∀ (k:Nat) (d:D) (v:Value),
   (cells.take (len*i.size)++eA.flatten)[k]? = some d→vs[k]? = some v→RD M s d v:=fun vs g1 g2 k d v e1 e2=>by
   rcases Nat.lt_or_ge k (len*i.size)with hk|hk
   ·rw [List.getElem?_append_left (by omega),List.getElem?_take_of_lt hk]at e1
    rw[g1 k hk]at e2
    exact jO k d v e1 e2
   ·rw [List.getElem?_append_right (by omega),Kh]at e1
    have bW:=(List.getElem?_eq_some_iff.1 e1).1
    have:=g2 (k - len*i.size) (by omega)
    rw[show len*i.size+(k - len*i.size)=k by omega]at this
    rw[this]at e2
    obtain⟨a,row,j,f1,f2,f3⟩:=Sx _ d e1
    rw[f3]at e2
    exact De a row j d v f1 f2 e2
  by_cases kY:len+eA.length≤cap
  ·have jI:len*i.size+news.length≤us.size:=by rw [Sy,dP, ← Nat.add_mul];exact Nat.mul_le_mul_right _ kY
   have jy:=run_storeCells_at P (M.mu o) (len*i.size) T news 0 us w hh (by simpa using jI) hs.one
   simp only[Nat.add_zero]at jy
   have dM:(Builtin.append_ #[t,u] ty #[.slice (some ⟨M.mu o,0,none⟩) len cap,y]).run P w = .ok (.slice (some ⟨M.mu o,0,none⟩) (len+eA.length) cap) (w.setRow (M.mu o) (us.toList.take (len*i.size)++news++us.toList.drop (len*i.size+news.length)).toArray):=by
    rcases hs.kind with ⟨Np,hk⟩|hk<;>simp[Builtin.append_,run_underlying ht,run_underlying hk,sizeOf,typeInfo,hi,hs.len,kY,hs.cells,Addr.add_lit,jy]
   have hY:=za (vs:=us) (off:=len*i.size) (us:=news) rfl jI
   generalize rY:(us.toList.take (len*i.size)++news++us.toList.drop (len*i.size+news.length)).toArray=jl at dM hY
   have rT:jl.size=us.size:=by rw[← rY];simp;omega
   obtain⟨r',e'⟩:=r.VB hm ha (M.mu o) (g+1) cap (fun g0=>if g0=g+1 then some (M.mu o,cap)else A g0) (hA _ _) (if_pos rfl) (fun Nr h=>by rw[if_neg (by omega)];exact DZ Nr (by omega))
    (w.setRow (M.mu o) jl) jl T (setRow_heap w (M.mu o) us jl T (0,0) hh) (by rw[rT,dP]) (cells.take (len*i.size)++eA.flatten) (by rw[List.length_append,Kh,iJ,rT];omega)
    (by rw[← rY];exact zb iz hs.one) (YG jl (fun k hk=>by rw[hY,if_pos hk]) (fun k hk=>by rw[hY,if_neg (by omega),if_pos (by omega)];congr 1;omega)) (.inl rfl) (fun b _ hb=>setRow_other w (M.mu o) b _ hb) (by simp) rfl rfl rfl
   refine⟨_,_,_,dM,r', ?_,e'⟩
   exact .eQ i.size o (g+1) _ (M.mu o) cap _ (by simpa using ho) (by simp[Map.ob,Map.rX];rfl) (if_pos rfl) kY
  ·have zc:cap<len+eA.length:=by omega
   have vq:=grownCap_ge w (len+eA.length) cap e
   have Nt:(Builtin.firstCells i.size len (.slice (some ⟨M.mu o,0,none⟩) len cap)).run P w.drew = .ok (us.toList.take (len*i.size)).toArray w.drew:=
    (Src.ofSlice w ht ⟨M.mu o,0,none⟩ len cap (us.toList.take (len*i.size)) (by simp;omega) (fun j v hj=>by
     rw[nc,Nat.zero_add,jx hh]
     rw[List.getElem?_take]at hj
     split at hj
     ·simpa using hj
     ·cases hj) (fun v hv=>iz v (Array.mem_toList_iff.1 (List.mem_of_mem_take hv)))).cellsD
   have dM:=run_append_grow_src (P:=P) w t u ty e i z ht hi hz (some ⟨M.mu o,0,none⟩) len cap (us.toList.take (len*i.size)) Nt y eA.length news hs zc (by omega) (growslice_fits zc ud)
   generalize rY:(us.toList.take (len*i.size)++news).toArray++Builtin.zeroCells z.cells (grownCap w (len+eA.length) cap e - (len+eA.length))=jl at dM
   have vn:(us.toList.take (len*i.size)).length=len*i.size:=by simp;omega
   have rT:jl.size=grownCap w (len+eA.length) cap e*i.size:=by
    rw[← rY]
    simp only[Array.size_append,List.size_toArray,List.length_append,size_zeroCells,yY,vn,Sy, ← Nat.add_mul]
    congr 1;omega
   have Pk : ∀ v∈jl,v.oneCell'=true:=fun v hv=>by
    rw[← rY,Array.mem_append]at hv
    rcases hv with hv|hv
    ·simp at hv
     rcases hv with hv|hv
     ·exact iz v (Array.mem_toList_iff.1 (List.mem_of_mem_take hv))
     ·exact hs.one v hv
    ·exact uM D0 _ v hv
   have ahn : ∀ k,k<len*i.size→jl[k]? = us[k]? :=fun k hk=>by
    rw[← rY,Array.getElem?_append_left (by simp;omega),List.getElem?_toArray,List.getElem?_append_left (by omega),List.getElem?_take_of_lt hk];simp
   have mR : ∀ k,k<news.length→jl[len*i.size+k]? = news[k]? :=fun k hk=>by
    rw[← rY,Array.getElem?_append_left (by simp;omega),List.getElem?_toArray,List.getElem?_append_right (by omega),vn]
    congr 1;omega
   have GY:(len+eA.length)*i.size≤jl.size:=by rw[rT];exact Nat.mul_le_mul_right _ vq
   have VC:w.heap.size≤(w.drew.alloc (.cells jl e)).heap.size:=by
    have e1:w.drew.heap.size=w.heap.size:=rfl
    have e2:(w.drew.alloc (.cells jl e)).heap.size=w.drew.heap.size+1:=by simp
    omega
   obtain⟨r',e'⟩:=r.VB hm ha w.heap.size (g+1) (grownCap w (len+eA.length) cap e) (fun g0=>if g0=g+1 then some (w.heap.size,grownCap w (len+eA.length) cap e)else A g0) (hA _ _) (if_pos rfl) (fun Nr h=>by rw[if_neg (by omega)];exact DZ Nr (by omega))
    (w.drew.alloc (.cells jl e)) jl e (heap_alloc_new w.drew _) rT (cells.take (len*i.size)++eA.flatten) (by rw[List.length_append,Kh,iJ];rw[Nat.add_mul]at GY;omega)
    Pk (YG jl ahn mR) (.inr (Nat.le_refl _)) (fun b hb _=>heap_alloc_old w.drew _ b hb) VC rfl rfl rfl
   refine⟨_,_,_,dM,r', ?_,e'⟩
   exact .eQ i.size o (g+1) _ w.heap.size _ _ (by simpa using ho) (by simp[Map.ob,Map.rX];rfl) (if_pos rfl) vq
 ·-- the first array
  rename_i z0 g' zy new
  split at he
  case isFalse=>cases he
  rename_i hc
  obtain⟨rfl,J9,xi⟩:=hc
  obtain⟨a,rfl⟩:=hx.Ep
  cases new with
  |nil=>
   simp only at he
   cases he
   exact⟨_,w,M,ml ht hi ((src _ _ _ rfl).1 rfl) (Nat.le_refl 0),r,hx,Ext.refl M s w⟩
  |cons n0 new=>
  have eW:(n0::new)≠ []:=by simp
  generalize dw:n0::new=eA at *
  have Sp:zy=i.size:=J9.resolve_left eW
  subst Sp
  obtain⟨HX,news,hs,De⟩:=(src _ _ _ rfl).2 eW rfl
  have Bh:0<eA.length:=List.length_pos_iff.2 eW
  simp only[← dw]at he
  simp only[dw]at he
  cases he
  obtain⟨iJ,Sx⟩:=z8 HX
  have Sy:=hs.newsLen
  have ud:(0+eA.length)*i.bytes≤140737488355328:=by rw[Nat.mul_succ]at xi;simp only[bx]at xi;rw[Nat.zero_add];omega
  have Sq:eA.length≤1099511627776:=by rw[Nat.mul_succ]at xi;simp only[bx]at xi;omega
  have zc:0<0+eA.length:=by omega
  have vq:=grownCap_ge w (0+eA.length) 0 e
  have Nt:(Builtin.firstCells i.size 0 (.slice a 0 0)).run P w.drew = .ok ([] : List Value).toArray w.drew:=by
   cases a with
   |none=>simp[Builtin.firstCells]
   |some a=>simp[Builtin.firstCells,loadCells,loadCellsFrom]
  have dM:=run_append_grow_src (P:=P) w t u ty e i z ht hi hz a 0 0 [] Nt y eA.length news hs zc (by omega) (growslice_fits zc ud)
  generalize rY:(([] : List Value)++news).toArray++Builtin.zeroCells z.cells (grownCap w (0+eA.length) 0 e - (0+eA.length))=jl at dM
  have rT:jl.size=grownCap w (0+eA.length) 0 e*i.size:=by
   rw[← rY]
   simp only[Array.size_append,List.size_toArray,List.nil_append,size_zeroCells,yY,Sy, ← Nat.add_mul]
   congr 1;omega
  have Pk : ∀ v∈jl,v.oneCell'=true:=fun v hv=>by
   rw[← rY,Array.mem_append]at hv
   rcases hv with hv|hv
   ·exact hs.one v (by simpa using hv)
   ·exact uM D0 _ v hv
  have mR : ∀ k,k<news.length→jl[k]? = news[k]? :=fun k hk=>by
   rw[← rY,Array.getElem?_append_left (by simpa using hk)];simp
  have GY:eA.length*i.size≤jl.size:=by rw[rT];exact Nat.mul_le_mul_right _ (by omega)
  have rd:Rel M s w.drew:=r.of_heap rfl
  obtain⟨M',r',e',f'⟩:=rd.ac2 i.size (grownCap w (0+eA.length) 0 e) jl e rT eA.flatten (by omega) Pk (fun k d v e1 e2=>by
   have hk:=(List.getElem?_eq_some_iff.1 e1).1
   rw[mR k (by omega)]at e2
   obtain⟨a,row,j,f1,f2,f3⟩:=Sx _ d e1
   rw[f3]at e2
   exact De a row j d v f1 f2 e2)
  refine⟨_,_,M',dM,r', ?_,(Ext.of_heap (M:=M) (s:=s) (w:=w) (w':=w.drew) rfl rfl rfl rfl).trans e'⟩
  have:=f' eA.length (by omega)
  simpa using this
 ·cases he
theorem Pl (r:Rel M s w) {t e:TypeId} {i:TypeInfo} {z:List D} (ht:P.underlying t=some (.slice e)) (hi:P.info? e=some i) (hz:zeroOf P e=some z) (ta:0<i.size) {n:Int} (h0:0≤n) (h1:n*((i.bytes:Int)+1)≤bx) :
 dg P M s w (do pure (.value (← Instr.makeSlice t (.int .i64 n) (.int .i64 n)))) (.eQ i.size s.ah.length 0 n.toNat) {s with ah:=s.ah++ [.int .i64 ((0:Nat):Int)::(gf z n.toNat).flatten]}:=by
 obtain⟨i',v,g1,g2,g3,g4⟩:=tC hz
 rw[hi]at g1;cases g1
 have H0:=rW (M:=M) (s:=s) g4
 have hmul:n*((i.bytes:Int)+1)=(i.bytes:Int)*n+n:=by rw[Int.mul_add,Int.mul_one,Int.mul_comm]
 have hnb:0≤(i.bytes:Int)*n:=Int.mul_nonneg (by omega) h0
 have hmx:(bx:Int)=1099511627776:=rfl
 have dM:=run_make (P:=P) w t e i v ht hi g2 .i64 .i64 n n h0 (Int.le_refl _) (by omega) (by omega)
 have YD:z.length=i.size:=by have:=H0.1;omega
 obtain⟨q1,q2,q3,q4⟩:=mO.zero H0 (by omega) n.toNat
 obtain⟨iJ,Sx⟩:=z8 (rows:=gf z n.toNat) (size:=z.length) (fun row hr=>by rw[pO z _ row hr])
 rw[mP]at iJ
 have H2:madeCells v.cells (n.toNat*i.size)=(Array.range (n.toNat*z.length)).map (v.cells[· % v.cells.size]!):=by rw[YD];rfl
 obtain⟨M',r',e',f'⟩:=r.ac2 i.size n.toNat (madeCells v.cells (n.toNat*i.size)) e (by rw[H2];simp[YD]) (gf z n.toNat).flatten (by rw[iJ,H2];simp) (by rw[H2];exact q3) (fun k d u e1 e2=>by
  obtain⟨a,row,j,f1,f2,f3⟩:=Sx k d e1
  rw[H2,f3]at e2
  exact q4 a row j d u f1 f2 e2)
 refine⟨_,_,M', .inl ?_,r',f' n.toNat (Nat.le_refl _),e'⟩
 simp only[Sem.run_bind,dM,Result.andThen_ok,Sem.run_pure]
end
end Go.Abs
namespace Go.Abs
section
variable {P:Program} {M:Map} {s:St} {w:World}
theorem Nu {tm:Tm} {act:Act} (hr:mM M s tm act.tmps) : ∀ {l:List Operand} {xs:List X},yR l=some xs→
 xs.length=l.length∧∀ (i:Nat) (d:D) (v:Value),(xs.map (·.ev tm))[i]? = some d→(l.map act.eval)[i]? = some v→RD M s d v
 | [],xs,h=>by cases h;exact⟨rfl,by simp⟩
 | x::l,xs,h=>by
  unfold yR at h
  split at h
  ·rename_i x' r' h1 h2
   cases h
   obtain⟨g1,g2⟩:=Nu hr h2
   refine⟨by simp[g1],fun i d v e1 e2=>?_⟩
   cases i with
   |zero=>simp at e1 e2;subst e1;subst e2;exact bV h1 hr
   |succ i=>exact g2 i d v (by simpa using e1) (by simpa using e2)
  ·cases h
theorem Ki {lo:Option Operand} {H3:Option X} {tm:Tm} {act:Act} (hr:mM M s tm act.tmps) (h:Yu lo=some H3) {l:Int} (hl:tW (H3.map (·.ev tm))=some l):Si (lo.map act.eval) l:=by
 cases lo with
 |none=>cases h;simp only[Option.map_none,tW,Option.some.injEq]at hl;exact .inl ⟨rfl,hl.symm⟩
 |some x=>
  obtain⟨y,hy,rfl⟩:=map_some (f:=some) h
  have:=bV hy hr
  simp only[Option.map_some]at hl ⊢
  cases hd:y.ev tm<;>rw[hd]at hl this<;>simp only[tW]at hl<;>try (cases hl;done)
  cases hl
  rw[this.iL]
  exact .inr ⟨_,rfl⟩
theorem Kj {hi:Option Operand} {iA:Option X} {tm:Tm} {act:Act} (hr:mM M s tm act.tmps) (h:Yu hi=some iA) {len:Nat} {l:Int} (hl:tX (iA.map (·.ev tm)) len=some l):Sj (hi.map act.eval) len l:=by
 cases hi with
 |none=>cases h;simp only[Option.map_none,tX,Option.some.injEq]at hl;exact .inl ⟨rfl,hl.symm⟩
 |some x=>
  obtain⟨y,hy,rfl⟩:=map_some (f:=some) h
  have:=bV hy hr
  simp only[Option.map_some]at hl ⊢
  cases hd:y.ev tm<;>rw[hd]at hl this<;>simp only[tX]at hl<;>try (cases hl;done)
  cases hl
  rw[this.iL]
  exact .inr ⟨_,rfl⟩
theorem Pn {t:TypeId} {f off size:Nat} {agg:Bool} (h:na P t f=some (off,size,agg)) {cs:List D} {vs:Array Value} (hl:cs.length=vs.size) (h1 : ∀ v∈vs,v.oneCell'=true)
 (h2 : ∀ (i:Nat) (d:D) (v:Value),cs[i]? = some d→vs[i]? = some v→RD M s d v) {d:D} (hp:part cs off agg size=some d) (r:Rel M s w) :
 dg P M s w (do pure (.value (← Instr.field t (.agg vs) f))) d s:=by
 let n:=if agg then size else 1
 have jI:off+n≤vs.size:=by
  rcases rD hp with ⟨rfl,h1,_⟩|⟨rfl,h1⟩
  ·simp[n];omega
  ·have:=(List.getElem?_eq_some_iff.1 h1).1;simp[n];omega
 have hlen:((vs.toList.drop off).take n).length=n:=by simp;omega
 have hY : ∀ (j:Nat),j<((vs.toList.drop off).take n).length→vs[off+j]? = ((vs.toList.drop off).take n)[j]? :=by
  intro j h
  rw[hlen]at h
  rw[List.getElem?_take,if_pos h,List.getElem?_drop];simp
 refine dg.pure (v:=if agg then .agg ((vs.toList.drop off).take n).toArray else((vs.toList.drop off).take n).getD 0 Go.undef) r (by simp only[Sem.run_bind,R9 h vs _ hlen hY,Result.andThen_ok,Sem.run_pure]) ?_
 refine rU hp _ hlen (fun _ u hu=>h1 u (Array.mem_toList_iff.1 (List.mem_of_mem_drop (List.mem_of_mem_take hu)))) (fun j d u e1 e2=>h2 _ d u e1 ?_)
 rw[hY j (List.getElem?_eq_some_iff.1 e2).1];exact e2
theorem tF {o:Oper} {ao:AO} {tm:Tm} {act:Act} {d:D} {s':St} (hc:Fe P o=some ao) (r:Rel M s w) (hr:mM M s tm act.tmps) (he:aM ao tm s=some (d,s')) :
 dg P M s w (execOp act.eval o) d s':=by
 obtain⟨dst,op,type,pos,after,guard⟩:=o
 unfold Fe at hc
 simp only at hc
 cases op with
 |move x=>
  obtain⟨y,hy,rfl⟩:=map_some hc
  cases he
  exact dg.pure r rfl (bV hy hr)
 |assign x=>
  obtain⟨y,hy,rfl⟩:=map_some hc
  cases he
  exact dg.pure r rfl (bV hy hr)
 | pick c a b=>
  simp only at hc
  split at hc
  ·rename_i c' a' b' h1 h2 h3
   cases hc
   simp only[aM]at he
   split at he
   ·rename_i t ht
    cases he
    have hcb:=bV h1 hr
    rw[ht]at hcb
    have:=hcb.oo
    refine dg.pure (v:=if t then act.eval a else act.eval b) r ?_ ?_
    ·simp only [execOp,this,asBool]
     simp
    ·cases t
     ·exact bV h3 hr
     ·exact bV h2 hr
   ·cases he
  ·cases hc
 | alloc t=>
  simp only at hc
  split at hc
  ·obtain⟨z,hz,rfl⟩:=map_some hc
   simp only[aM]at he
   split at he
   ·cases he;exact Mw r hz
   ·cases he
  ·obtain⟨z,hz,rfl⟩:=map_some hc
   cases he
   exact OV r hz
 | box t x=>
  simp only at hc
  split at hc
  ·obtain⟨y,hy,rfl⟩:=map_some hc
   simp only[aM]at he
   split at he
   ·rename_i row eH
    cases he
    exact R8 r (bV hy hr) eH
   ·cases he
  ·obtain⟨y,hy,rfl⟩:=map_some hc
   simp only[aM]at he
   split at he
   ·rename_i row eH
    cases he
    exact Vp r (bV hy hr) eH
   ·cases he
 | build t parts=>
  simp only at hc
  split at hc
  ·rename_i fs z ps h1 h2 h3
   split at hc
   ·rename_i Fm
    cases hc
    simp only[aM]at he
    split at he
    ·rename_i cs oe
     cases he
     have:=O8 r hr h1 Fm h2 h3 oe
     simpa[execOp]using this
    ·cases he
   ·cases hc
  ·cases hc
 | buildSlice t n parts=>
  simp only at hc
  split at hc
  ·rename_i e hu
   split at hc
   ·rename_i i z ps h1 h2 h3
    split at hc
    ·rename_i mn
     cases hc
     simp only[aM]at he
     split at he
     ·rename_i rows kN
      cases he
      obtain⟨vs,T,g1,g2,g3,g4⟩:=D1 r hr hu h1 h2 mn.1 mn.2 h3 kN
      obtain⟨f1,f2,f3⟩:=O3 r T g1
      refine⟨_,_,_, .inl ?_,f2,f1,f3⟩
      simp only[Array.toArray_toList]at g4
      simp only[execOp,Sem.run_bind,g4,Result.andThen_ok,Sem.run_pure]
      rw[g2]
     ·cases he
    ·cases hc
   ·cases hc
  ·cases hc
 | load t x=>
  simp only at hc
  split at hc
  ·rename_i y a i h1 h2 h3
   cases hc
   have hx:=bV h1 hr
   simp only[aM]at he
   split at he
   ·rename_i o off ho
    rw[ho]at hx
    have Kk:=hx.BT
    obtain⟨hv,_⟩:=hx.s8
    split at he
    ·rename_i cs oe
     split at he
     ·rename_i d' lO
      cases he
      have:=Je r h3 h2 oe Kk lO
      simp only[execOp,hv]
      exact this
     ·cases he
    ·cases he
   ·rename_i row off ho
    rw[ho]at hx
    obtain⟨b,k,hv,g1,g2⟩:=hx.zW
    split at he
    ·rename_i d' lO
     cases he
     have:=Jf r h3 h2 g1 g2 lO
     simp only[execOp,hv]
     exact this
    ·cases he
   ·exact My r h3 h2 hx he
  ·cases hc
 | store t a x=>
  simp only at hc
  split at hc
  ·rename_i a' x' i h1 h2 h3
   cases hc
   have ha:=bV h1 hr
   have hx:=bV h2 hr
   simp only[aM]at he
   split at he
   ·rename_i o off row ho eH
    rw[ho]at ha
    have Kk:=ha.BT
    obtain⟨hv,_⟩:=ha.s8
    split at he
    ·rename_i cs oe
     split at he
     ·rename_i jI
      cases he
      have:=OW r h3 oe Kk hx eH jI.1 jI.2
      simp only[execOp,hv]
      exact this
     ·cases he
    ·cases he
   ·exact Kf r h3 ha hx he
  ·cases hc
 | nilCheck x=>
  obtain⟨y,hy,rfl⟩:=map_some hc
  have hx:=bV hy hr
  simp only[aM]at he
  split at he
  ·rename_i o off ho
   cases he
   rw[ho]at hx
   have hv:=hx.s8.1
   rw[hv]at hx
   simp only[execOp,hv]
   exact zZ r hx
  ·rename_i row off ho
   cases he
   rw[ho]at hx
   obtain⟨b,k,hv,_⟩:=hx.zW
   rw[hv]at hx
   simp only[execOp,hv]
   exact zZ r hx
  ·split at he
   case h_2=>cases he
   rename_i d' ug
   cases he
   unfold ON at ug
   split at ug
   ·rename_i o g off hq
    cases ug
    rw[hq]at hx
    obtain⟨z,b,cap,A,hv,_⟩:=hx.Eo
    rw[hv]at hx
    simp only[execOp,hv]
    exact zZ r hx
   ·cases ug
 | binOp op t x y yt=>
  simp only at hc
  split at hc
  ·rename_i x' y' h1 h2
   have hx:=bV h1 hr
   have hy:=bV h2 hr
   have fin : ∀ d',xY op (x'.ev tm) (y'.ev tm)=some d'→(d',s)=(d,s')→dg P M s w (execOp act.eval ⟨dst, .binOp op t x y yt,type,pos,after,guard⟩) d s':=by
    intro d' lO heq
    cases heq
    exact Vq r hx hy lO
   have ac3:(match xY op (x'.ev tm) (y'.ev tm)with|some d=>some (d,s)|none=>none)=some (d,s')→dg P M s w (execOp act.eval ⟨dst, .binOp op t x y yt,type,pos,after,guard⟩) d s':=by
    intro h
    split at h
    ·rename_i d' lO
     exact fin d' lO (by cases h;rfl)
    ·cases h
   have VD : ∀ o:FO,((o = .eq∧op = .eql)∨(o = .JX∧op = .add)∨(o = .R4∧op = .eql))→aM (.rO o x' y') tm s=some (d,s')→dg P M s w (execOp act.eval ⟨dst, .binOp op t x y yt,type,pos,after,guard⟩) d s':=by
    intro o ho h
    simp only[aM]at h
    split at h
    ·rename_i d' lO
     cases h
     exact Se r ho hx hy lO
    ·cases h
   have ac4 : ∀ neg,op=(if neg then .neq else .eql)→P.underlying t=some .bool→aM (.HR neg x' y') tm s=some (d,s')→dg P M s w (execOp act.eval ⟨dst, .binOp op t x y yt,type,pos,after,guard⟩) d s':=by
    intro neg nq ht h
    simp only[aM]at h
    split at h
    ·rename_i p q hp hq
     cases h
     rw[hp]at hx;rw[hq]at hy
     simp only[execOp,hx.oo,hy.oo,nq]
     exact Vr r ht
    ·cases h
   have ac5 : ∀ neg e,op=(if neg then .neq else .eql)→P.underlying t=some (.pointer e)→aM (.HS neg x' y') tm s=some (d,s')→dg P M s w (execOp act.eval ⟨dst, .binOp op t x y yt,type,pos,after,guard⟩) d s':=by
    intro neg e nq ht h
    simp only[aM]at h
    split at h
    ·rename_i hp hq
     cases h
     rw[hp]at hx;rw[hq]at hy
     simp only[execOp,hx.s6,hy.s6,nq]
     have:=Er r (neg:=neg) (x:=x) (y:=y) (a:=none) ht
     cases neg<;>simpa using this
    ·rename_i o off hp hq
     cases h
     rw[hp]at hx;rw[hq]at hy
     simp only[execOp,hx.s8.1,hy.s6,nq]
     have:=Er r (neg:=neg) (x:=x) (y:=y) (a:=some ⟨M.mu o,off,none⟩) ht
     cases neg<;>simpa using this
    ·rename_i row off hp hq
     cases h
     rw[hp]at hx;rw[hq]at hy
     obtain⟨b,k,hv,_⟩:=hx.zW
     simp only[execOp,hv,hy.s6,nq]
     have:=Er r (neg:=neg) (x:=x) (y:=y) (a:=some ⟨b,k+off,none⟩) ht
     cases neg<;>simpa using this
    ·cases h
   have ac6 : ∀ neg ks,op=(if neg then .neq else .eql)→qO P t=some ks→aM (.eqs neg ks x' y') tm s=some (d,s')→dg P M s w (execOp act.eval ⟨dst, .binOp op t x y yt,type,pos,after,guard⟩) d s':=by
    intro neg ks nq ht h
    simp only[aM]at h
    split at h
    ·rename_i p q hp hq
     split at h
     ·rename_i e' ug
      cases h
      rw[hp]at hx;rw[hq]at hy
      simp only[execOp,nq]
      exact Vt r ht hx hy ug
     ·cases h
    ·cases h
   split at hc
   ·cases hc;exact ac3 he
   ·cases hc;exact ac3 he
   ·rename_i hu;cases hc;exact ac4 false rfl hu he
   ·rename_i hu;cases hc;exact ac4 true rfl hu he
   ·rename_i hu;cases hc;exact ac5 false _ rfl hu he
   ·rename_i hu;cases hc;exact ac5 true _ rfl hu he
   ·obtain⟨ks,hk,rfl⟩:=map_some hc;exact ac6 false ks rfl hk he
   ·obtain⟨ks,hk,rfl⟩:=map_some hc;exact ac6 true ks rfl hk he
   ·cases hc;exact VD .eq (.inl ⟨rfl,rfl⟩) he
   ·cases hc;exact VD .JX (.inr (.inl ⟨rfl,rfl⟩)) he
   ·cases hc;exact VD .R4 (.inr (.inr ⟨rfl,rfl⟩)) he
   ·cases hc
  ·cases hc
 | unOp op t x=>
  obtain⟨y,hy,rfl⟩:=map_some hc
  have hx:=bV hy hr
  simp only[aM]at he
  split at he
  ·rename_i d' lO
   cases he
   unfold J1 at lO
   split at lO
   ·rename_i k n hk
    cases lO
    rw[hk]at hx
    exact dg.pure (v:= .int k (k.wrap (0 - n))) r (by simp[execOp,hx.iL,Op.unary,Op.intArith]) (.int _ _)
   ·rename_i b hb
    cases lO
    rw[hb]at hx
    exact dg.pure (v:= .bool (!b)) r (by simp[execOp,hx.oo,Op.unary]) (.bool _)
   ·cases lO
  ·cases he
 | convert src ayI x=>
  simp only at hc
  split at hc
  ·rename_i y k1 k h1 h2 h3
   cases hc
   have hx:=bV h1 hr
   simp only[aM]at he
   split at he
   ·rename_i k2 n hn
    cases he
    rw[hn]at hx
    refine dg.pure (v:= .int k (k.wrap n)) r ?_ (.int _ _)
    simp[execOp,hx.iL,convert,run_underlying h2,run_underlying h3,Conv.intToInt]
   ·cases he
  ·rename_i y e h1 h2 h3
   split at hc
   ·rename_i h4
    cases hc
    have hx:=bV h1 hr
    simp only[aM]at he
    split at he
    ·rename_i g z rows kN
     split at he
     ·rename_i b hb
      cases he
      rw[kN]at hx
      exact O9 r h2 h4 h3 hx hb
     ·cases he
    ·cases he
   ·cases hc
  ·rename_i y e e2 h1 h2 h3
   split at hc
   ·rename_i h4
    split at hc
    ·rename_i sT
     cases hc
     subst sT
     have hx:=bV h1 hr
     simp only[aM]at he
     split at he
     ·rename_i t z rows kN
      split at he
      ·rename_i mn
       cases he
       rw[kN]at hx
       exact Vx r h2 h4 hx mn.1 mn.2
      ·cases he
     ·cases he
    ·cases hc
   ·cases hc
  ·rename_i y e h1 h2 h3
   split at hc
   ·rename_i i h4 h5
    split at hc
    ·cases hc
     have hx:=bV h1 hr
     simp only[aM]at he
     split at he
     ·rename_i l hl
      cases he
      rw[hl]at hx
      simp only[execOp,hx.lY]
      exact Kd r h2 h3 h4
     ·cases he
    ·cases hc
   ·cases hc
  ·rename_i y k0 k h1 h2 h3
   cases hc
   have hx:=bV h1 hr
   simp only[aM]at he
   split at he
   ·rename_i d' lO
    cases he
    obtain⟨j,n,hn,rfl⟩:=OZ lO
    rw[hn]at hx
    refine dg.pure (v:= .float k (k.nearest n)) r ?_ (.val _ rfl)
    simp[execOp,hx.iL,convert,run_underlying h2,run_underlying h3,Conv.intToFloat]
   ·cases he
  ·rename_i y k0 k h1 h2 h3
   cases hc
   have hx:=bV h1 hr
   simp only[aM]at he
   split at he
   ·rename_i d' lO
    cases he
    obtain⟨f,b,n,hn,h4,h5,rfl⟩:=O0 lO
    rw[hn]at hx
    refine dg.pure (v:= .int k n) r ?_ (.int _ _)
    simp[execOp,hx.nH,convert,run_underlying h2,run_underlying h3,Conv.floatToInt,h4,h5]
   ·cases he
  ·cases hc
 | slice t x lo hi mx=>
  cases mx with
  |some m=>cases hc
  | none=>
   simp only at hc
   split at hc
   ·rename_i y H3 iA h1 h2 h3 h4
    cases hc
    have hx:=bV h1 hr
    simp only[aM]at he
    split at he
    ·rename_i u hu
     rw[hu]at hx
     split at he
     ·rename_i l h hl hh
      split at he
      ·rename_i mn
       cases he
       have:=Sk r h4 (Ki hr h2 hl) (Kj hr h3 hh) mn.1 mn.2.1 mn.2.2
       simp only[execOp,hx.lY,Option.map_none]
       exact this
      ·cases he
     ·cases he
    ·cases he
   ·rename_i y H3 iA e h1 h2 h3 h4
    split at hc
    ·rename_i i Fh
     cases hc
     have hx:=bV h1 hr
     simp only[aM]at he
     split at he
     ·rename_i g z rows kN
      rw[kN]at hx
      split at he
      ·rename_i l h hl hh
       split at he
       ·rename_i mn
        cases he
        have:=Vv r h4 Fh mn.1 hx (Ki hr h2 hl) (Kj hr h3 hh) mn.2.1 mn.2.2.1 mn.2.2.2
        simp only[execOp,Option.map_none]
        exact this
       ·cases he
      ·cases he
     ·split at he
      case h_2=>cases he
      rename_i d' ug
      cases he
      have:=Pf r h4 Fh hx (fun l e=>Ki hr h2 e) (fun len l e=>Kj hr h3 e) ug
      simp only[execOp,Option.map_none]
      exact this
    ·cases hc
   ·cases hc
 | fieldAddr t x f=>
  simp only at hc
  split at hc
  ·rename_i y off size a h1 h2
   cases hc
   have hx:=bV h1 hr
   simp only[aM]at he
   split at he
   ·rename_i o k ho
    cases he
    rw[ho]at hx
    have Kk:=hx.BT
    obtain⟨hv,hD⟩:=hx.s8
    refine dg.pure (v:= .pointer (some ⟨M.mu o,k+off,none⟩)) r ?_ (.ptr _ _ hD Kk)
    simp only[execOp,hv,Sem.run_bind,BV h2,Result.andThen_ok,Sem.run_pure]
   ·rename_i row k ho
    cases he
    rw[ho]at hx
    obtain⟨b,q,hv,g1,g2⟩:=hx.zW
    refine dg.pure (v:= .pointer (some ⟨b,q+(k+off),none⟩)) r ?_ (.dI _ _ _ _ g1 g2)
    simp only[execOp,hv,Sem.run_bind,BV h2,Result.andThen_ok,Sem.run_pure,Nat.add_assoc]
   ·split at he
    case h_2=>cases he
    rename_i d' ug
    cases he
    unfold Fc at ug
    split at ug
    ·rename_i o g k hq
     cases ug
     rw[hq]at hx
     obtain⟨z,b,cap,A,hv,ho,hm,hg⟩:=hx.Eo
     refine dg.pure (v:= .pointer (some ⟨b,k+off,none⟩)) r ?_ (.fG _ _ _ _ b cap A ho hm hg)
     simp only[execOp,hv,Sem.run_bind,BV h2,Result.andThen_ok,Sem.run_pure]
    ·cases ug
  ·cases hc
 | field t x f=>
  simp only at hc
  split at hc
  ·rename_i y off size a h1 h2
   cases hc
   have hx:=bV h1 hr
   simp only[aM]at he
   split at he
   ·rename_i cs oe
    split at he
    ·rename_i d' lO
     cases he
     rw[oe]at hx
     obtain⟨vs,hv,g1,g2,g3⟩:=hx.GQ
     simp only[execOp,hv]
     exact Pn h2 g1 g2 g3 lO r
    ·cases he
   ·cases he
  ·cases hc
 | indexAddr t x i=>
  simp only at hc
  split at hc
  ·rename_i y j e h1 h2 h3
   split at hc
   ·rename_i inf Pp
    split at hc
    ·cases hc
     have hx:=bV h1 hr
     have hj:=bV h2 hr
     simp only[aM]at he
     split at he
     ·rename_i g z rows k n kN hn
      split at he
      ·rename_i mn
       obtain⟨Kl,hz⟩:=mn
       subst hz
       split at he
       ·rename_i row eH
        cases he
        rw[kN]at hx;rw[hn]at hj
        simp only[execOp,hj.iL]
        exact O2 r h3 Pp hx Kl eH
       ·cases he
      ·cases he
     ·split at he
      case h_2=>cases he
      rename_i d' ug
      cases he
      exact Kg r h3 Pp hx hj ug
    ·cases hc
   ·cases hc
  ·cases hc
 | index t x i=>
  simp only at hc
  split at hc
  ·rename_i y j h1 h2 h3
   cases hc
   have hx:=bV h1 hr
   have hj:=bV h2 hr
   simp only[aM]at he
   split at he
   ·rename_i l k n hl hn
    split at he
    ·rename_i Kl
     split at he
     ·rename_i c hcc
      cases he
      rw[hl]at hx;rw[hn]at hj
      simp only[execOp,hj.iL,hx.lY]
      exact Sg r h3 Kl hcc
     ·cases he
    ·cases he
   ·cases he
  ·cases hc
 | extract x i=>
  obtain⟨y,hy,rfl⟩:=map_some hc
  have hx:=bV hy hr
  simp only[aM]at he
  split at he
  ·rename_i ds B5
   split at he
   ·rename_i d' lO
    cases he
    rw[B5]at hx
    obtain⟨vs,hv,g1,g2⟩:=hx.HU
    have hD:=(List.getElem?_eq_some_iff.1 lO).1
    have Km:vs[i]? = some vs[i]:=Array.getElem?_eq_getElem (by omega)
    refine dg.pure (v:=vs[i]) r ?_ (g2 i _ _ lO Km)
    simp[execOp,hv,Instr.extract,Km]
   ·cases he
  ·cases he
 | call c=>
  obtain⟨callee,args,nr⟩:=c
  cases callee with
  |value f=>cases hc
  |invoke f m=>cases hc
  | builtin bi=>
   have two : ∀ {x y:Operand} {x' y':X} {isMax:Bool},cX x=some x'→cX y=some y'→bi=(if isMax then .max else .min)→args.toList = [x,y]→aM (.mm isMax x' y') tm s=some (d,s')→
    dg P M s w (execOp act.eval ⟨dst, .call ⟨.builtin bi,args,nr⟩,type,pos,after,guard⟩) d s':=by
    intro x y x' y' isMax h1 h2 hb ha h
    have iB:args = #[x,y]:=by rw[← Array.toArray_toList (xs:=args),ha]
    subst iB
    have hx:=bV h1 hr
    have hy:=bV h2 hr
    simp only[aM]at h
    split at h
    ·rename_i k a k' b B6 Kk
     split at h
     ·rename_i Bj
      subst Bj
      cases h
      rw[B6]at hx;rw[Kk]at hy
      refine dg.pure (v:= .int k (if isMax then(if b > a then b else a)else(if b<a then b else a))) r ?_ (.int _ _)
      subst hb
      cases isMax
      ·simp[execOp,resolve,invoke,builtin,Builtin.min_,Builtin.min2,hx.iL,hy.iL]
      ·simp[execOp,resolve,invoke,builtin,Builtin.max_,Builtin.max2,hx.iL,hy.iL]
     ·cases h
    ·cases h
   cases bi<;>simp only at hc<;>try (cases hc;done)
   case append=>
    split at hc
    ·rename_i x y t u ha rZ
     split at hc
     ·rename_i e e' x' y' h1 h2 h3 h4
      split at hc
      ·rename_i i z hi hz
       split at hc
       ·rename_i ta
        cases hc
        have iB:args = #[x,y]:=by rw[← Array.toArray_toList (xs:=args),ha]
        have Kn:nr = #[t,u]:=by rw[← Array.toArray_toList (xs:=nr),rZ]
        subst iB;subst Kn
        obtain⟨i',v,g1,g2,g3,g4⟩:=tC hz
        rw[hi]at g1;cases g1
        have H0:=rW (M:=M) (s:=s) g4
        split at he
        ·rename_i hb
         obtain⟨rfl,Ko,hb2⟩:=hb
         obtain⟨v',w',M',f1,f2,f3,f4⟩:=O5 (ty:=type) r h1 h2 hi g2 Ko hb2 g3 H0.2.1 (bV h3 hr) (bV h4 hr) he
         refine⟨v',w',M', .inl ?_,f2,f3,f4⟩
         simp[execOp,resolve,invoke,builtin,f1]
        ·have hxx:=bV h3 hr
         simp only[aM]at he
         split at he
         ·rename_i gq zq rq hq
          rw[hq]at hxx
          obtain⟨v',w',M',f1,f2,f3,f4⟩:=Sr (ty:=type) r h1 h2 hi g2 g3 H0.2.1 hxx (bV h4 hr) ta he
          refine⟨v',w',M', .inl ?_,f2,f3,f4⟩
          simp[execOp,resolve,invoke,builtin,f1]
         ·obtain⟨v',w',M',f1,f2,f3,f4⟩:=Pj (ty:=type) r h1 h2 hi g2 g3 H0.2.1 hxx (bV h4 hr) ta he
          refine⟨v',w',M', .inl ?_,f2,f3,f4⟩
          simp[execOp,resolve,invoke,builtin,f1]
       ·cases hc
      ·cases hc
     ·rename_i e x' y' h1 h2 h3 h4
      split at hc
      ·rename_i i z hi hz
       split at hc
       ·rename_i hb
        cases hc
        obtain⟨rfl,Ko,hb2⟩:=hb
        have iB:args = #[x,y]:=by rw[← Array.toArray_toList (xs:=args),ha]
        have Kn:nr = #[t,u]:=by rw[← Array.toArray_toList (xs:=nr),rZ]
        subst iB;subst Kn
        obtain⟨i',v,g1,g2,g3,g4⟩:=tC hz
        rw[hi]at g1;cases g1
        have H0:=rW (M:=M) (s:=s) g4
        have hy:=bV h4 hr
        simp only[aM]at he
        split at he
        ·rename_i l hl
         rw[hl]at hy
         obtain⟨v',w',M',f1,f2,f3,f4⟩:=O6 (ty:=type) r h1 h2 hi g2 Ko hb2 g3 H0.2.1 (bV h3 hr) he
         refine⟨v',w',M', .inl ?_,f2,f3,f4⟩
         simp[execOp,resolve,invoke,builtin,hy.lY,f1]
        ·cases he
       ·cases hc
      ·cases hc
     ·cases hc
    ·cases hc
   case len=>
    split at hc
    ·rename_i x t ha rZ
     have iB:args = #[x]:=by rw[← Array.toArray_toList (xs:=args),ha]
     have Kn:nr = #[t]:=by rw[← Array.toArray_toList (xs:=nr),rZ]
     subst iB;subst Kn
     have hex:execOp act.eval ⟨dst, .call ⟨.builtin .len, #[x], #[t]⟩,type,pos,after,guard⟩=(do pure (.value (← Builtin.len_ #[t] type #[act.eval x]))):=by
      simp[execOp,resolve,invoke,builtin]
     rw[hex]
     split at hc
     ·rename_i ht
      obtain⟨y,hy,rfl⟩:=map_some hc
      have hx:=bV hy hr
      simp only[aM]at he
      split at he
      ·rename_i l hl
       cases he
       rw[hl]at hx
       rw[hx.lY]
       exact J6 r ht
      ·cases he
     ·rename_i e ht
      obtain⟨y,hy,rfl⟩:=map_some hc
      have hx:=bV hy hr
      simp only[aM]at he
      split at he
      ·rename_i g z rows kN
       cases he
       rw[kN]at hx
       rcases hx.jz with ⟨h0,hv,_⟩|⟨h0,_,a,cap,hv⟩|⟨b,q,cap,hv,_⟩
       ·rw[hv,h0];exact nI r ht
       ·rw[hv,h0];exact nI r ht
       ·rw[hv];exact nI r ht
      ·split at he
       case h_2=>cases he
       rename_i d' ug
       cases he
       exact Ph r ht hx ug
     ·cases hc
    ·cases hc
   case max=>
    split at hc
    ·rename_i x y ha
     split at hc
     ·rename_i x' y' h1 h2
      cases hc
      exact two (isMax:=true) h1 h2 rfl ha he
     ·cases hc
    ·cases hc
   case min=>
    split at hc
    ·rename_i x y ha
     split at hc
     ·rename_i x' y' h1 h2
      cases hc
      exact two (isMax:=false) h1 h2 rfl ha he
     ·cases hc
    ·cases hc
   case complex=>
    split at hc
    ·rename_i x y ha
     split at hc
     ·rename_i x' y' h1 h2
      cases hc
      have iB:args = #[x,y]:=by rw[← Array.toArray_toList (xs:=args),ha]
      subst iB
      have hx:=bV h1 hr
      have hy:=bV h2 hr
      simp only[aM]at he
      split at he
      ·rename_i d' lO
       cases he
       obtain⟨k,a,b,xk,sS,rfl⟩:=Sb lO
       rw[xk]at hx;rw[sS]at hy
       refine dg.pure (v:= .complex k a b) r ?_ (.val _ rfl)
       have hb:Builtin.complex_ nr type #[.float k a, .float k b] = pure (.complex k a b):=if_pos rfl
       simp[execOp,resolve,invoke,builtin,hb,hx.nH,hy.nH]
      ·cases he
     ·cases hc
    ·cases hc
   case real=>
    split at hc
    ·rename_i x ha
     obtain⟨x',h1,rfl⟩:=map_some hc
     have iB:args = #[x]:=by rw[← Array.toArray_toList (xs:=args),ha]
     subst iB
     have hx:=bV h1 hr
     simp only[aM]at he
     split at he
     ·rename_i d' lO
      cases he
      obtain⟨k,a,b,xk,rfl⟩:=Sc lO
      rw[xk]at hx
      refine dg.pure (v:= .float k a) r ?_ (.val _ rfl)
      have hb:Builtin.real_ nr type #[.complex k a b] = pure (.float k a):=rfl
      simp[execOp,resolve,invoke,builtin,hb,hx.nH]
     ·cases he
    ·cases hc
   case imag=>
    split at hc
    ·rename_i x ha
     obtain⟨x',h1,rfl⟩:=map_some hc
     have iB:args = #[x]:=by rw[← Array.toArray_toList (xs:=args),ha]
     subst iB
     have hx:=bV h1 hr
     simp only[aM]at he
     split at he
     ·rename_i d' lO
      cases he
      obtain⟨k,a,b,xk,rfl⟩:=Sd lO
      rw[xk]at hx
      refine dg.pure (v:= .float k b) r ?_ (.val _ rfl)
      have hb:Builtin.imag_ nr type #[.complex k a b] = pure (.float k b):=rfl
      simp[execOp,resolve,invoke,builtin,hb,hx.nH]
     ·cases he
    ·cases hc
 | makeFunc fn first captured=>
  cases fn<;>simp only at hc<;>try (cases hc;done)
  split at hc
  ·rename_i f h0
   obtain⟨xs,pB,rfl⟩:=map_some hc
   simp only[aM,Option.some.injEq,Prod.mk.injEq]at he
   obtain⟨rfl,rfl⟩:=he
   obtain⟨c1,c2⟩:=Nu hr pB
   have hf:first = #[]:=Array.eq_empty_of_size_eq_zero h0
   subst hf
   refine dg.pure (v:= .func (.func f) #[] (captured.map act.eval)) r ?_ (.gw _ _ _ (by simp[c1]) (fun i d v e1 e2=>c2 i d v e1 (by simpa using e2)))
   simp[execOp,Instr.makeFunc]
  ·cases hc
 | makeMap t rv=>
  cases rv with
  | none=>
   simp only at hc
   split at hc
   ·rename_i ht
    cases hc
    simp only[aM,Option.some.injEq,Prod.mk.injEq]at he
    obtain⟨rfl,rfl⟩:=he
    simp only[execOp,Option.map_none]
    exact Pa r ht
   ·cases hc
  |some x=>cases hc
 | makeSlice t l c=>
  simp only at hc
  split at hc
  ·rename_i l' c' e h1 h2 ht
   split at hc
   ·rename_i i z hi hz
    split at hc
    ·rename_i ta
     cases hc
     have hl:=bV h1 hr
     have hcx:=bV h2 hr
     simp only[aM]at he
     split at he
     ·rename_i n m hn hm
      split at he
      ·rename_i mn
       obtain⟨rfl,h0,hmx⟩:=mn
       cases he
       rw[hn]at hl;rw[hm]at hcx
       simp only[execOp,hl.iL,hcx.iL]
       exact Pl r ht hi hz ta h0 hmx
      ·cases he
     ·cases he
    ·cases hc
   ·cases hc
  ·cases hc
 | mapUpdate t m k v=>
  simp only at hc
  split at hc
  ·rename_i kt et m' k' v' ht h1 h2 h3
   split at hc
   ·rename_i hkt
    cases hc
    have hm:=bV h1 hr
    have hk:=bV h2 hr
    have hv:=bV h3 hr
    simp only[aM]at he
    split at he
    ·rename_i o key g z rows ho VE kN
     rw[ho]at hm;rw[VE]at hk;rw[kN]at hv
     obtain⟨hmv,hD,yS⟩:=hm.J5
     split at he
     ·rename_i cs oe
      split at he
      ·rename_i kg alB
       cases he
       have yZ:(act.eval v).oneCell'=true:=by
        rcases hv.jz with ⟨_,h,_⟩|⟨_,_,a,cap,h⟩|⟨b,q,cap,h,_⟩<;>rw[h]<;>rfl
       simp only[execOp,hmv,hk.lY]
       exact Sv r ht hkt yS oe hv yZ alB
      ·cases he
     ·cases he
    ·cases he
   ·cases hc
  ·cases hc
 | lookup t m k ok=>
  cases ok<;>simp only at hc<;>try (cases hc;done)
  split at hc
  ·rename_i kt et m' k' ht h1 h2
   split at hc
   ·rename_i i hkt hi
    split at hc
    ·rename_i z hz
     obtain⟨zd,hzd,rfl⟩:=map_some hc
     have hm:=bV h1 hr
     have hk:=bV h2 hr
     simp only[aM]at he
     split at he
     ·rename_i o key ho VE
      rw[ho]at hm;rw[VE]at hk
      obtain⟨hmv,hD,yS⟩:=hm.J5
      split at he
      ·rename_i cs oe
       split at he
       ·rename_i d' lO
        cases he
        simp only[execOp,hmv,hk.lY]
        exact Pb r ht hkt hi hz hzd yS oe lO
       ·cases he
      ·cases he
     ·cases he
    ·cases hc
   ·cases hc
  ·cases hc
 |_=>cases hc
theorem Aa {o:Oper} {z:List D} {k n:Nat} {ps:List (Nat×X)} {tm:Tm} {act:Act} {d:D} {s':St} (hc:Fe P o=some (.dq z k n ps)) (r:Rel M s w) (hr:mM M s tm act.tmps) (he:aM (.vX z k n ps) tm s=some (d,s')) :
 dg P M s w (execOp act.eval o) d s':=by
 obtain⟨dst,op,type,pos,after,guard⟩:=o
 unfold Fe at hc
 simp only at hc
 cases op with
 | buildSlice t n' parts=>
  simp only at hc
  split at hc
  ·rename_i e hu
   split at hc
   ·rename_i i z ps h1 h2 h3
    split at hc
    ·rename_i mn
     cases hc
     simp only[aM]at he
     split at he
     ·rename_i rows kN
      cases he
      obtain⟨vs,T,g1,g2,g3,g4⟩:=D1 r hr hu h1 h2 mn.1 mn.2 h3 kN
      obtain⟨M',f1,f2,f3⟩:=Ss r T g1 (by rw[g3,g2]) mn.1
      refine⟨_,_,_, .inl ?_,f2,f1,f3⟩
      simp only[Array.toArray_toList]at g4
      simp only[execOp,Sem.run_bind,g4,Result.andThen_ok,Sem.run_pure]
      rw[g2]
     ·cases he
    ·cases hc
   ·cases hc
  ·cases hc
 |_=>
  exfalso
  revert hc
  try simp only
  repeat' split
  all_goals (first|(intro h;cases h;done)|(intro h;obtain⟨_,_,h⟩:=map_some h;cases h;done)|contradiction|(simp;done)|(intro h;simp_all;done))
end
end Go.Abs
namespace Go.Abs
structure gi where
 M:Map
 s:St
 w:World
 laid:Laid M s w
 D2 : ∀ b o v,M.G b o=some v→b<w.heap.size
def Holds (B:gi) (nt:Nat) (tm:Tm) (s:St) (act:Act) (w:World):Prop:=
 ∃ M,Ext B.M B.s B.w M s w∧Rel M s w∧mM M s tm act.tmps∧act.tmps.size=nt∧act.defers = []
def qD (B:gi) (nt:Nat) (Q:Exit→Tm→St→Prop):Exit→Act→World→Prop:=fun e act w=>∃ tm s,Q e tm s∧Holds B nt tm s act w
def bP (P:Program) (f:FuncId) (args:List D) (s:St) (Q:D→St→Prop):Prop:=
 ∀ (M:Map) (w:World) (fS:Array Value),Rel M s w→Laid M s w→fS.size=args.length→(∀ (i:Nat) (d:D) (v:Value),args[i]? = some d→fS[i]? = some v→RD M s d v)→
  Calls P f fS w fun e w'=>∃ M' d v s',e = .returned v∧Q d s'∧Ext M s w M' s' w'∧Rel M' s' w'∧RD M' s' d v
theorem bP.mono {P:Program} {f:FuncId} {args:List D} {s:St} {Q Q':D→St→Prop} (h:bP P f args s Q) (hq : ∀ d s',Q d s'→Q' d s'):bP P f args s Q':=
 fun M w fS r hd hl ha=>(h M w fS r hd hl ha).mono fun _ _ ⟨M',d,v,s',h1,h2,h3⟩=>⟨M',d,v,s',h1,hq _ _ h2,h3⟩
def guarded (g:Option (Nat×Bool)) (tm:Tm) (A B:Prop):Prop:=
 match g with
 |none=>A
 |some (t,want)=>
  match tm.get t with
  | .bool b=>(b=want→A)∧(b=(!want)→B)
  | .tuple _=>B
  |_=>False
def jm (P:Program):List AI→(Tm→St→Prop)→Tm→St→Prop
 | [],K,tm,s=>K tm s
 | .op dst g o::r,K,tm,s=>
  guarded g tm (match aM o tm s with|some (d,s')=>jm P r K (tm.put dst d) s'|none=>False) (jm P r K (tm.put dst (.tuple [])) s)
 | .call dst g f xs::r,K,tm,s=>
  guarded g tm (bP P f (xs.map (·.ev tm)) s fun d s'=>jm P r K (tm.put dst d) s') (jm P r K (tm.put dst (.tuple [])) s)
 | .nil dst g neg x::r,K,tm,s=>
  guarded g tm (match x.ev tm with
   | .slice _ _ rows=>∀ b:Bool,(rows≠ []→b=false)→jm P r K (tm.put dst (.bool (if neg then !b else b))) s
   |_=>False) (jm P r K (tm.put dst (.tuple [])) s)
 | .jM dst g t xs::r,K,tm,s=>
  guarded g tm (match tm.get t with
   | .gw f oi=>enters P f=true∧bP P f (xs.map (·.ev tm)++oi) s fun d s'=>jm P r K (tm.put dst d) s'
   |_=>False) (jm P r K (tm.put dst (.tuple [])) s)
section
variable {P:Program}
theorem B7 {f:FuncId} (h:enters P f=true) (args:Array Value) (w:World):(callFunc f args).run P w = .ok (.enter f args) w:=by
 unfold enters at h
 split at h
 ·rename_i fn hf
  simp only[Bool.and_eq_true,Bool.not_eq_true']at h
  obtain⟨h1,h2⟩:=h
  have h3:fn.body.isNone=false:=by cases hb:fn.body<;>simp_all
  simp only[callFunc,Sem.run_bind,run_program,Result.andThen_ok,hf,h2,h3]
  simp
 ·cases h
theorem ya (ρ:Operand→Value) (dst:Option Tmp) (f:FuncId) (args:Array Operand) (nr:Array TypeId) (ty:TypeId) (pos:String) (after:Array Edge) (g:Option (Nat×Bool))
 (hρ:ρ (.func f) = .func (.func f) #[] #[]) (h:enters P f=true) (w:World) :
 (execOp ρ ⟨dst, .call ⟨.value (.func f),args,nr⟩,ty,pos,after,g⟩).run P w = .ok (.enter f (args.map ρ)) w:=by
 simp[execOp,resolve,hρ,Deferred.ofValue,invoke,B7 h]
theorem B8 (ρ:Operand→Value) (dst:Option Tmp) (x:Operand) (f:FuncId) (oi:Array Value) (args:Array Operand) (nr:Array TypeId) (ty:TypeId) (pos:String) (after:Array Edge) (g:Option (Nat×Bool))
 (hρ:ρ x = .func (.func f) #[] oi) (h:enters P f=true) (w:World) :
 (execOp ρ ⟨dst, .call ⟨.value x,args,nr⟩,ty,pos,after,g⟩).run P w = .ok (.enter f (args.map ρ++oi)) w:=by
 simp[execOp,resolve,hρ,Deferred.ofValue,invoke,B7 h]
theorem xl {M:Map} {s:St} {tm:Tm} {act:Act} (hr:mM M s tm act.tmps) : ∀ {l:List Operand} {xs:List X},yR l=some xs→
 xs.length=l.length∧∀ (i:Nat) (d:D) (v:Value),(xs.map (·.ev tm))[i]? = some d→(l.map act.eval)[i]? = some v→RD M s d v
 | [],xs,h=>by cases h;exact⟨rfl,by simp⟩
 | x::l,xs,h=>by
  unfold yR at h
  split at h
  ·rename_i x' r' h1 h2
   cases h
   obtain⟨g1,g2⟩:=xl hr h2
   refine⟨by simp[g1],fun i d v e1 e2=>?_⟩
   cases i with
   |zero=>simp at e1 e2;subst e1;subst e2;exact bV h1 hr
   |succ i=>exact g2 i d v (by simpa using e1) (by simpa using e2)
  ·cases h
theorem H4 {M:Map} {s:St} {tm:Tm} {act:Act} {args:Array Operand} {xs:List X} {oi:List D} {vs:Array Value} (pB:yR args.toList=some xs) (ht:mM M s tm act.tmps) (hlen:oi.length=vs.size)
 (Fq : ∀ (i:Nat) (d:D) (v:Value),oi[i]? = some d→vs[i]? = some v→RD M s d v) :
 (args.map act.eval++vs).size=(xs.map (·.ev tm)++oi).length∧∀ (i:Nat) (d:D) (v:Value),(xs.map (·.ev tm)++oi)[i]? = some d→(args.map act.eval++vs)[i]? = some v→RD M s d v:=by
 obtain⟨c1,c2⟩:=xl ht pB
 refine⟨by simp[c1,hlen],fun i d v e1 e2=>?_⟩
 rcases Nat.lt_or_ge i args.size with og|og
 ·rw [List.getElem?_append_left (by simp [c1];exact og)]at e1
  rw[Array.getElem?_append_left (by simp;exact og)]at e2
  exact c2 i d v e1 (by simpa using e2)
 ·rw [List.getElem?_append_right (by simp [c1];exact og)]at e1
  rw[Array.getElem?_append_right (by simp;exact og)]at e2
  simp only[List.length_map,c1,Array.size_map,Array.length_toList]at e1 e2
  exact Fq _ d v e1 e2
theorem Bk {M:Map} {s:St} {w:World} {o:Oper} {neg:Bool} {x:X} {tm:Tm} {act:Act} (hc:GO P o=some (neg,x)) (hr:mM M s tm act.tmps) {g:Tag} {z:Nat} {rows:List (List D)} (hx:x.ev tm = .slice g z rows) :
 ∃ b:Bool,(rows≠ []→b=false)∧(execOp act.eval o).run P w = .ok (.value (.bool (if neg then !b else b))) w:=by
 obtain⟨dst,op,type,pos,after,guard⟩:=o
 unfold GO at hc
 split at hc
 ·rename_i op t y yt heq
  simp only at heq
  subst heq
  have fin : ∀ e,P.underlying t=some (.slice e)→cX y=some x→op=(if neg then .neq else .eql)→∃ b:Bool,(rows≠ []→b=false)∧
   (execOp act.eval ⟨dst, .binOp op t y (.const (.slice none 0 0)) yt,type,pos,after,guard⟩).run P w = .ok (.value (.bool (if neg then !b else b))) w:=by
   intro e ht hy nq
   have hv:=bV hy hr
   rw[hx]at hv
   have key : ∀ (a:Option Addr) (n c:Nat),act.eval y = .slice a n c→(execOp act.eval ⟨dst, .binOp op t y (.const (.slice none 0 0)) yt,type,pos,after,guard⟩).run P w = .ok (.value (.bool (if neg then !a.isNone else a.isNone))) w:=by
    intro a n c pf
    have hg:=kh (P:=P) (w:=w) (op:=op) (t:=t) (x:=y) (y:= .const (.slice none 0 0)) (a:= .slice a n c) (b:= .slice none 0 0) ⟨by simp,by simp⟩
    have he:(Op.equal t (.slice a n c) (.slice none 0 0)).run P w = .ok a.isNone w:=by
     have : ∀ d,(Op.equalIn (d+1) t (.slice a n c) (.slice none 0 0)).run P w = .ok a.isNone w:=by
      intro d
      cases a<;>simp[Op.equalIn,run_underlying ht]
     exact this 9999
    have alD:act.eval (.const (.slice none 0 0)) = .slice none 0 0:=rfl
    simp only[execOp,pf,alD]
    rw[nq]at hg ⊢
    cases neg
    ·simp only [Bool.false_eq_true,if_false]at hg ⊢
     simp[hg,binOp,he]
    ·simp only [if_true]at hg ⊢
     simp[hg,binOp,he]
   rcases hv.jz with ⟨h0,pf,_⟩|⟨_,_,a,cap,pf⟩|⟨b,q,cap,pf,_⟩
   ·exact⟨true,fun h=>(h h0).elim,key none 0 0 pf⟩
   ·exact⟨false,fun _=>rfl,key _ _ _ pf⟩
   ·exact⟨false,fun _=>rfl,key _ _ _ pf⟩
  split at hc
  ·cases hc
   exact fin _ ‹_› ‹_› rfl
  ·cases hc
   exact fin _ ‹_› ‹_› rfl
  ·cases hc
 ·cases hc
variable {B:gi} {nt:Nat}
theorem Holds.put {tm:Tm} {s:St} {act:Act} {w:World} {M':Map} {s':St} {w':World} {M:Map} (e:Ext B.M B.s B.w M s w) (ht:mM M s tm act.tmps) (hn:act.tmps.size=nt) (hd:act.defers = [])
 {dst:Option Nat} (rl : ∀ t,dst=some t→t<nt) {d:D} {v:Value} (e':Ext M s w M' s' w') (r':Rel M' s' w') (hv:RD M' s' d v):Holds B nt (tm.put dst d) s' (act.put dst v) w':=by
 refine⟨M',e.trans e',r',(ht.mono e'.le).put (fun t h=>by rw[hn];exact rl t h) hv, ?_, ?_⟩
 ·cases dst<;>simp[Act.put,hn]
 ·cases dst<;>simp[Act.put,hd]
theorem ze {ops:Array Oper} {o:Oper} {ai:AI} (h:cI P nt ops o=some ai) : ∀ t,o.dst=some t→t<nt:=by
 intro t ht
 unfold cI at h
 split at h
 ·cases h
 ·split at h
  ·rename_i hD;rw[ht]at hD;simpa[Yv]using hD
  ·cases h
theorem kO {ops:Array Oper} {o:Oper} {g:Option (Nat×Bool)} (hg:v7 ops o.guard=some g) {M:Map} {s:St} {tm:Tm} {act:Act} (hr:mM M s tm act.tmps) {A C:Prop} (h:guarded g tm A C) :
 (Region.wanted o (yielded ops act.tmps)=true∧A)∨(Region.wanted o (yielded ops act.tmps)=false∧C):=by
 unfold v7 at hg
 split at hg
 ·rename_i hn
  cases hg
  exact .inl ⟨by simp[Region.wanted,hn],h⟩
 ·rename_i j want hn
  split at hg
  ·rename_i t ht
   cases hg
   have YH:=hr t
   unfold guarded at h
   simp only at h
   split at h
   ·rename_i b hb
    rw[hb]at YH
    have hv:=YH.oo
    have ahp:act.tmps[t]? = some (.bool b):=by
     cases hc:act.tmps[t]? with
     |none=>simp[Array.getD_eq_getD_getElem?,hc,Go.undef]at hv
     |some v=>simp[Array.getD_eq_getD_getElem?,hc]at hv;rw[hv]
    have hy:yielded ops act.tmps j=some b:=by simp[yielded,ht,ahp]
    have hw:Region.wanted o (yielded ops act.tmps)=(some b==some want):=by simp[Region.wanted,hn,hy]
    by_cases hbw:b=want
    ·exact .inl ⟨by rw[hw,hbw];simp,h.1 hbw⟩
    ·refine .inr ⟨by rw [hw];simp [hbw],h.2 ?_⟩
     cases b<;>cases want<;>simp_all
   ·rename_i ds B5
    rw[B5]at YH
    obtain⟨vs,hv,_⟩:=YH.HU
    refine .inr ⟨?_,h⟩
    have hy:yielded ops act.tmps j=none:=by
     unfold yielded
     rw[ht]
     cases hc:act.tmps[t]? with
     |none=>simp[hc]
     |some v=>simp[Array.getD_eq_getD_getElem?,hc]at hv;simp[hc,hv]
    simp[Region.wanted,hn,hy]
   ·exact h.elim
  ·cases hg
theorem B9 {ops:Array Oper} {Q:Exit→Tm→St→Prop} : ∀ (l:List Nat) (ol:List Oper) (is:List AI),l.map (ops[·]?)=ol.map some→rR P nt ops ol=some is→
 ∀ (tm:Tm) (s:St) (act:Act) (w:World),jm P is (Q .normal) tm s→Holds B nt tm s act w→wpOps P ops (qD B nt Q) l act w
 | [],[],is,_,hc,tm,s,act,w,h,hh=>by cases hc;exact⟨tm,s,h,hh⟩
 | [],_::_,_,hl,_,_,_,_,_,_,_=>by simp at hl
 |_::_,[],_,hl,_,_,_,_,_,_,_=>by simp at hl
 | i::l,o::ol,is,hl,hc,tm,s,act,w,h,hh=>by
  simp only[List.map_cons,List.cons.injEq]at hl
  obtain⟨hi,hl⟩:=hl
  unfold rR at hc
  split at hc
  ·rename_i ai SA h1 h2
   cases hc
   obtain⟨M,e,r,ht,hn,hd⟩:=hh
   have rl:=ze h1
   have ih:=fun tm s act w=>B9 (Q:=Q) l ol SA hl h2 tm s act w
   have skip : ∀ (x:Prop),jm P SA (Q .normal) (tm.put o.dst (.tuple [])) s→wpOps P ops (qD B nt Q) l (act.put o.dst Go.undef) w:=fun _ hk=>
    ih _ _ _ _ hk (Holds.put e ht hn hd rl (Ext.refl M s w) r .undef)
   simp only[wpOps,hi]
   unfold cI at h1
   split at h1
   ·cases h1
   ·rename_i g hg
    split at h1
    ·unfold tA at h1
     split at h1
     ·-- a call
      rename_i f args nr nq
      split at h1
      ·rename_i Ab
       obtain⟨xs,pB,rfl⟩:=map_some h1
       unfold jm at h
       rcases kO hg ht h with ⟨hw,hA⟩|⟨hw,hB⟩
       ·simp only [hw,if_true]
        left
        have hex:(execOp act.eval o).run P w = .ok (.enter f (args.map act.eval)) w:=by
         obtain⟨dst,op,type,pos,after,guard⟩:=o
         simp only at nq
         subst nq
         exact ya act.eval dst f args nr type pos after guard rfl Ab w
        obtain⟨c1,c2⟩:=xl ht pB
        unfold Oper.wp
        rw[hex,Oper.upon_enter]
        refine(hA M w (args.map act.eval) r (B.laid.ext e) (by simp[c1]) (fun i d v e1 e2=>c2 i d v e1 (by simpa using e2))).mono ?_
        rintro en w' ⟨M',d,v,s',rfl,hk,e',r',hv⟩
        exact ih _ _ _ _ hk (Holds.put e ht hn hd rl e' r' hv)
       ·simp only [hw]
        exact skip True hB
      ·cases h1
     ·-- what a slot holds is called
      rename_i t args nr nq
      obtain⟨xs,pB,rfl⟩:=map_some h1
      unfold jm at h
      rcases kO hg ht h with ⟨hw,hA⟩|⟨hw,hB⟩
      ·simp only [hw,if_true]
       left
       split at hA
       ·rename_i f oi pA
        obtain⟨Ab,hA⟩:=hA
        have SB:=ht t
        rw[pA]at SB
        obtain⟨vs,pQ,hlen,Fq⟩:=SB.Nq
        have hex:(execOp act.eval o).run P w = .ok (.enter f (args.map act.eval++vs)) w:=by
         obtain⟨dst,op,type,pos,after,guard⟩:=o
         simp only at nq
         subst nq
         exact B8 act.eval dst (.tmp t) f vs args nr type pos after guard pQ Ab w
        unfold Oper.wp
        rw[hex,Oper.upon_enter]
        have cc:=H4 pB ht hlen Fq
        refine(hA M w (args.map act.eval++vs) r (B.laid.ext e) cc.1 cc.2).mono ?_
        rintro en w' ⟨M',d,v,s',rfl,hk,e',r',hv⟩
        exact ih _ _ _ _ hk (Holds.put e ht hn hd rl e' r' hv)
       ·exact hA.elim
      ·simp only [hw]
       exact skip True hB
     ·split at h1
      ·-- a slice held against nil
       rename_i neg x Ew
       cases h1
       unfold jm at h
       rcases kO hg ht h with ⟨hw,hA⟩|⟨hw,hB⟩
       ·simp only [hw,if_true]
        left
        split at hA
        ·rename_i g' z rows hx
         obtain⟨b,hb,hex⟩:=Bk (w:=w) Ew ht hx
         unfold Oper.wp
         rw[hex,Oper.upon_value]
         exact ih _ _ _ _ (hA b hb) (Holds.put e ht hn hd rl (Ext.refl M s w) r (.bool _))
        ·exact hA.elim
       ·simp only [hw]
        exact skip True hB
      ·-- any other operation
       have fin : ∀ ao,ai = .op o.dst g ao→(∀ d s',aM ao tm s=some (d,s')→dg P M s w (execOp act.eval o) d s')→
        (if Region.wanted o (yielded ops act.tmps)=true then o.wp P act w (wpOps P ops (qD B nt Q) l) (qD B nt Q)∨(o.asks P act w∧LetsOut (qD B nt Q))else wpOps P ops (qD B nt Q) l (act.put o.dst Go.undef) w):=by
        intro ao xm hdo
        subst xm
        unfold jm at h
        rcases kO hg ht h with ⟨hw,hA⟩|⟨hw,hB⟩
        ·simp only [hw,if_true]
         left
         split at hA
         ·rename_i d s' rF
          obtain⟨v,w',M',dM,r',hv,e'⟩:=hdo d s' rF
          unfold Oper.wp
          rcases dM with dM|⟨dM,rfl⟩
          ·rw [dM,Oper.upon_value]
           exact ih _ _ _ _ hA (Holds.put e ht hn hd rl e' r' hv)
          ·rw [dM,Oper.upon_skip]
           exact ih _ _ _ _ hA (Holds.put e ht hn hd rl e' r' hv)
         ·exact hA.elim
        ·simp only [hw]
         exact skip True hB
       split at h1
       ·rename_i z k n ps oP
        cases h1
        refine fin _ rfl (fun d s' rF=>?_)
        split at rF
        ·exact Aa oP r ht rF
        ·exact tF oP r ht rF
       ·rename_i ao oP
        cases h1
        exact fin _ rfl (fun d s' rF=>tF oP r ht rF)
       ·cases h1
    ·cases h1
  ·cases hc
end
end Go.Abs
namespace Go.Abs
def Turned (P:Program) (nt:Nat):AC→Code→Prop
 | .skip,c=>c = .skip
 | .run is,c=>∃ id ops,c = .region id ops false∧rR P nt ops ops.toList=some is
 | .par is mF,c=>∃ id ops,c = .region id ops true∧rR P nt ops ops.toList=some is∧P.follows .mixedOrders=true∧∃ pt,JZ is (ops.toList.map nE) pt mF=true
 | .seq a b,c=>∃ x y,c = .seq x y∧cC P nt x=some a∧cC P nt y=some b
 | .cond x a b,c=>∃ o p q,c = .cond o p q∧cX o=some x∧cC P nt p=some a∧cC P nt q=some b
 | .block id a,c=>∃ x,c = .block id x∧cC P nt x=some a
 | .loop a,c=>∃ x,c = .loop x∧cC P nt x=some a
 | .exit id,c=>c = .exit id
 | .scope a,c=>∃ x,c = .scope x∧cC P nt x=some a
 | .label l,c=>c = .label l
 | .goto l,c=>c = .goto l
 | .ret,c=>c = .ret
theorem mr {P:Program} {nt:Nat} {c:Code} {ac:AC} (h:cC P nt c=some ac):Turned P nt ac c:=by
 cases c with
 |skip=>cases h;rfl
 | region id ops draw=>
  cases draw
  ·obtain⟨is,h1,rfl⟩:=map_some (x:=rR P nt ops ops.toList) (f:=AC.run) (by simpa [cC]using h)
   exact⟨id,ops,rfl,h1⟩
  ·simp only [cC]at h
   split at h
   ·rename_i hm
    obtain⟨is,h1,h2⟩:=Option.bind_eq_some_iff.1 h
    unfold Yw at h2
    split at h2
    ·rename_i hp
     cases h2
     exact⟨id,ops,rfl,h1,hm,_,hp⟩
    ·cases h2
   ·cases h
 |seq a b=>
  simp only[cC]at h
  split at h
  ·rename_i a' b' h1 h2;cases h;exact⟨a,b,rfl,h1,h2⟩
  ·cases h
 |cond x a b=>
  simp only[cC]at h
  split at h
  ·rename_i x' a' b' h1 h2 h3;cases h;exact⟨x,a,b,rfl,h1,h2,h3⟩
  ·cases h
 |block id a=>
  obtain⟨a',h1,rfl⟩:=map_some (x:=cC P nt a) (f:=AC.block id) (by simpa[cC]using h)
  exact⟨a,rfl,h1⟩
 |loop a=>
  obtain⟨a',h1,rfl⟩:=map_some (x:=cC P nt a) (f:=AC.loop) (by simpa[cC]using h)
  exact⟨a,rfl,h1⟩
 |rangeFunc f p a b=>simp[cC]at h
 |exit id=>cases h;rfl
 |scope a=>
  obtain⟨a',h1,rfl⟩:=map_some (x:=cC P nt a) (f:=AC.scope) (by simpa[cC]using h)
  exact⟨a,rfl,h1⟩
 |label l=>cases h;rfl
 |goto l=>cases h;rfl
 |ret=>cases h;rfl
 |refuse w=>simp[cC]at h
def Sem (P:Program) (B:gi) (nt:Nat) (ac:AC) (Q:Exit→Tm→St→Prop) (tm:Tm) (s:St):Prop:=
 ∀ c,cC P nt c=some ac→∀ act w,Holds B nt tm s act w→c.wp P (qD B nt Q) act w
def oq (next:Tm→St→Prop) (Q:Exit→Tm→St→Prop):Exit→Tm→St→Prop
 | .normal,tm,s=>next tm s
 |e,tm,s=>Q e tm s
def lf (id:Nat) (Q:Exit→Tm→St→Prop):Exit→Tm→St→Prop
 | .exit i,tm,s=>if i=id then Q .normal tm s else Q (.exit i) tm s
 |e,tm,s=>Q e tm s
section
variable {P:Program} {B:gi} {nt:Nat} {Q:Exit→Tm→St→Prop} {tm:Tm} {s:St}
theorem Sem.mono {ac:AC} {Q':Exit→Tm→St→Prop} (h:Sem P B nt ac Q tm s) (hq : ∀ e tm s,Q e tm s→Q' e tm s):Sem P B nt ac Q' tm s:=
 fun c hc act w hh=>wp_mono (h c hc act w hh) fun _ _ _ ⟨tm,s,h1,h2⟩=>⟨tm,s,hq _ _ _ h1,h2⟩
theorem Sem.skip (h:Q .normal tm s):Sem P B nt .skip Q tm s:=by
 intro c hc act w hh
 cases mr hc
 exact wp_skip ⟨tm,s,h,hh⟩
theorem Sem.label {l:Nat} (h:Q .normal tm s):Sem P B nt (.label l) Q tm s:=by
 intro c hc act w hh
 cases mr hc
 exact wp_label ⟨tm,s,h,hh⟩
theorem Sem.exit {id:Nat} (h:Q (.exit id) tm s):Sem P B nt (.exit id) Q tm s:=by
 intro c hc act w hh
 cases mr hc
 exact wp_exit ⟨tm,s,h,hh⟩
theorem Sem.goto {l:Nat} (h:Q (.goto l) tm s):Sem P B nt (.goto l) Q tm s:=by
 intro c hc act w hh
 cases mr hc
 exact wp_goto ⟨tm,s,h,hh⟩
theorem Sem.ret (h:Q .ret tm s):Sem P B nt .ret Q tm s:=by
 intro c hc act w hh
 cases mr hc
 exact wp_ret ⟨tm,s,h,hh⟩
theorem Ca (ops:Array Oper):(List.range ops.size).map (ops[·]?)=ops.toList.map some:=by
 apply List.ext_getElem?
 intro i
 by_cases h:i<ops.size
 ·simp[h]
 ·simp[h]
theorem Sem.run {is:List AI} (h:jm P is (Q .normal) tm s):Sem P B nt (.run is) Q tm s:=by
 intro c hc act w hh
 obtain⟨id,ops,rfl,hi⟩:=mr hc
 exact wp_region (B9 (Q:=Q) (List.range ops.size) ops.toList is (Ca ops) hi tm s act w h hh)
theorem Sem.seq {a b:AC} (h:Sem P B nt a (oq (Sem P B nt b Q) Q) tm s):Sem P B nt (.seq a b) Q tm s:=by
 intro c hc act w hh
 obtain⟨x,y,rfl,h1,h2⟩:=mr hc
 refine wp_seq (wp_mono (h x h1 act w hh) fun e act w hp=>?_)
 obtain⟨bD,s',hq,kK⟩:=hp
 cases e with
 |normal=>exact hq y h2 act w kK
 |exit id=>exact⟨bD,s',hq,kK⟩
 |goto l=>exact⟨bD,s',hq,kK⟩
 |ret=>exact⟨bD,s',hq,kK⟩
 |panic ch=>exact⟨bD,s',hq,kK⟩
 |outgrown=>exact⟨bD,s',hq,kK⟩
theorem Sem.cond {x:X} {a b:AC} {t:Bool} (hx:x.ev tm = .bool t) (h1:t=true→Sem P B nt a Q tm s) (h2:t=false→Sem P B nt b Q tm s):Sem P B nt (.cond x a b) Q tm s:=by
 intro c hc act w hh
 obtain⟨o,p,q,rfl,g1,g2,g3⟩:=mr hc
 have kK:=hh
 obtain⟨M,e,r,ht,hn,hd⟩:=hh
 have hv:=bV g1 ht
 rw[hx]at hv
 exact wp_cond_split hv.oo (fun h=>h1 h p g2 act w kK) (fun h=>h2 h q g3 act w kK)
theorem Sem.block {id:Nat} {a:AC} (h:Sem P B nt a (lf id Q) tm s):Sem P B nt (.block id a) Q tm s:=by
 intro c hc act w hh
 obtain⟨x,rfl,h1⟩:=mr hc
 refine wp_block (wp_mono (h x h1 act w hh) fun e act w hp=>?_)
 obtain⟨bD,s',hq,kK⟩:=hp
 cases e with
 |exit i=>
  simp only[lf]at hq
  simp only[Exit.inBlock]
  split at hq
  ·rename_i h;rw[if_pos h];exact⟨bD,s',hq,kK⟩
  ·rename_i h;rw[if_neg h];exact⟨bD,s',hq,kK⟩
 |normal=>exact⟨bD,s',hq,kK⟩
 |goto l=>exact⟨bD,s',hq,kK⟩
 |ret=>exact⟨bD,s',hq,kK⟩
 |panic ch=>exact⟨bD,s',hq,kK⟩
 |outgrown=>exact⟨bD,s',hq,kK⟩
def Ac (P:Program) (c:Code) (Q:Exit→Act→World→Prop) (a:Act) (w:World):Prop:=
 ∀ (b:Frame) (k:List Item) (cs:List Frame),∃ e a' w',Q e a' w'∧Arrives P (lone (b.at a (.code c:: .inLoop c::k)) cs w) b k cs e a' w'
theorem Ac.wp {c:Code} {Q:Exit→Act→World→Prop} {a:Act} {w:World} (h:Ac P c Q a w):(Code.loop c).wp P Q a w:=fun b k cs=>
 let ⟨e,a',w',hq,iB⟩:=h b k cs
 ⟨e,a',w',hq, .of_steps (.one step_loop) iB⟩
theorem Ac.once {c:Code} {Q:Exit→Act→World→Prop} {a:Act} {w:World} (h:c.wp P (Exit.then (Ac P c Q) Q) a w):Ac P c Q a w:=by
 intro b k cs
 obtain⟨e,a₁,w₁,hq,iB⟩:=h b (.inLoop c::k) cs
 cases e with
 |normal=>
  obtain⟨e₂,a₂,w₂,hq₂,Pr⟩:=hq b k cs
  exact⟨e₂,a₂,w₂,hq₂, .of_steps (Steps.trans iB (.one step_inLoop)) Pr⟩
 |exit id=>exact⟨_,a₁,w₁,hq, .pass (x:= .inLoop c) rfl (fun _ _=> .inl (by simp)) iB⟩
 |goto l=>exact⟨_,a₁,w₁,hq, .pass (x:= .inLoop c) rfl (fun _ _=> .inl (by simp)) iB⟩
 |ret=>exact⟨_,a₁,w₁,hq, .pass (x:= .inLoop c) rfl (fun _ _=> .inl (by simp)) iB⟩
 |panic ch=>exact⟨_,a₁,w₁,hq, .pass (x:= .inLoop c) rfl (fun _ _=> .inl (by simp)) iB⟩
 |outgrown=>exact⟨_,a₁,w₁,hq, .pass (x:= .inLoop c) rfl (fun _ _=> .inl (by simp)) iB⟩
def br (P:Program) (B:gi) (nt:Nat) (ac:AC) (Q:Exit→Tm→St→Prop) (tm:Tm) (s:St):Prop:=
 ∀ c,cC P nt c=some ac→∀ act w,Holds B nt tm s act w→Ac P c (qD B nt Q) act w
theorem Sem.loop {a:AC} (h:br P B nt a Q tm s):Sem P B nt (.loop a) Q tm s:=by
 intro c hc act w hh
 obtain⟨x,rfl,h1⟩:=mr hc
 exact(h x h1 act w hh).wp
theorem br.once {a:AC} (h:Sem P B nt a (oq (br P B nt a Q) Q) tm s):br P B nt a Q tm s:=by
 intro c hc act w hh
 refine Ac.once (wp_mono (h c hc act w hh) fun e act w hp=>?_)
 obtain⟨bD,s',hq,kK⟩:=hp
 cases e with
 |normal=>exact hq c hc act w kK
 |exit id=>exact⟨bD,s',hq,kK⟩
 |goto l=>exact⟨bD,s',hq,kK⟩
 |ret=>exact⟨bD,s',hq,kK⟩
 |panic ch=>exact⟨bD,s',hq,kK⟩
 |outgrown=>exact⟨bD,s',hq,kK⟩
def wh (P:Program) (c r:Code) (Q:Exit→Act→World→Prop) (a:Act) (w:World):Prop:=
 ∀ (b:Frame) (k:List Item) (cs:List Frame),∃ e a' w',Q e a' w'∧Arrives P (lone (b.at a (.code r:: .inScope c::k)) cs w) b k cs e a' w'
def ahq (P:Program) (c:Code) (Q:Exit→Act→World→Prop):Exit→Act→World→Prop
 | .goto l,a,w=>∃ rest,findLabel c l=some rest∧wh P c rest Q a w
 |e,a,w=>Q e a w
theorem wh.wp {c:Code} {Q:Exit→Act→World→Prop} {a:Act} {w:World} (h:wh P c c Q a w):(Code.scope c).wp P Q a w:=fun b k cs=>
 let ⟨e,a',w',hq,iB⟩:=h b k cs
 ⟨e,a',w',hq, .of_steps (.one step_scope) iB⟩
theorem wh.once {c r:Code} {Q:Exit→Act→World→Prop} {a:Act} {w:World} (h:r.wp P (ahq P c Q) a w):wh P c r Q a w:=by
 intro b k cs
 obtain⟨e,a₁,w₁,hq,iB⟩:=h b (.inScope c::k) cs
 cases e with
 |normal=>exact⟨.normal,a₁,w₁,hq,Steps.trans iB (.one step_inScope)⟩
 |exit id=>exact⟨.exit id,a₁,w₁,hq,fun k' hk=>iB k' (by simp[exitTo,hk])⟩
 |goto l=>
  obtain⟨rest,hf,hs⟩:=hq
  obtain⟨e₂,a₂,w₂,hq₂,Pr⟩:=hs b k cs
  exact⟨e₂,a₂,w₂,hq₂, .of_steps (iB _ (by simp[gotoIn,hf])) Pr⟩
 |ret=>exact⟨_,a₁,w₁,hq,iB⟩
 |panic ch=>exact⟨_,a₁,w₁,hq,iB⟩
 |outgrown=>exact⟨_,a₁,w₁,hq,iB⟩
def vH:AC→Nat→Option AC
 | .seq a b,l=>
  match vH a l with
  |some r=>some (.seq r b)
  |none=>vH b l
 | .label l',l=>if l'==l then some .skip else none
 |_,_=>none
theorem MB : ∀ {c:Code} {ac:AC},cC P nt c=some ac→∀ l,(vH ac l=none→findLabel c l=none)∧∀ r,vH ac l=some r→∃ rest,findLabel c l=some rest∧cC P nt rest=some r:=by
 intro c
 induction c with
 | seq a b SD SE=>
  intro ac h l
  simp only[cC]at h
  split at h
  ·rename_i a' b' h1 h2
   cases h
   obtain⟨n1,s1⟩:=SD h1 l
   obtain⟨n2,s2⟩:=SE h2 l
   simp only[vH,findLabel]
   cases hf:vH a' l with
   |none=>
    rw[n1 hf]
    exact⟨n2,s2⟩
   |some r=>
    obtain⟨rest,g1,g2⟩:=s1 r hf
    rw[g1]
    refine⟨(by intro h;cases h),fun r' h=>?_⟩
    cases h
    exact⟨_,rfl,by simp[cC,g2,h2]⟩
  ·cases h
 |label l'=>
  intro ac h l
  cases h
  simp only[vH,findLabel]
  split
  ·exact⟨(by intro h;cases h),(by intro r h;cases h;exact⟨_,rfl,rfl⟩)⟩
  ·exact⟨fun _=>rfl,(by intro r h;cases h)⟩
 | _=>
  intro ac h l
  have:=mr h
  cases ac<;>simp only[Turned]at this<;>first
   |(exfalso;obtain⟨_,_,this⟩:=this;cases this.1;done)
   |exact⟨fun _=>rfl,(by intro r h;cases h)⟩
   |(exfalso;cases this;done)
   |(exfalso;obtain⟨_,this⟩:=this;cases this.1;done)
   |(exfalso;obtain⟨_,_,_,_,this⟩:=this;cases this.1;done)
def mw (P:Program) (B:gi) (nt:Nat) (ac r:AC) (Q:Exit→Tm→St→Prop) (tm:Tm) (s:St):Prop:=
 ∀ c rest,cC P nt c=some ac→cC P nt rest=some r→∀ act w,Holds B nt tm s act w→wh P c rest (qD B nt Q) act w
def Ad (P:Program) (B:gi) (nt:Nat) (ac:AC) (Q:Exit→Tm→St→Prop):Exit→Tm→St→Prop
 | .goto l,tm,s=>∃ r,vH ac l=some r∧mw P B nt ac r Q tm s
 |e,tm,s=>Q e tm s
theorem Sem.scope {a:AC} (h:mw P B nt a a Q tm s):Sem P B nt (.scope a) Q tm s:=by
 intro c hc act w hh
 obtain⟨x,rfl,h1⟩:=mr hc
 exact(h x x h1 h1 act w hh).wp
theorem mw.once {a r:AC} (h:Sem P B nt r (Ad P B nt a Q) tm s):mw P B nt a r Q tm s:=by
 intro c rest hc JG act w hh
 refine wh.once (wp_mono (h rest JG act w hh) fun e act w hp=>?_)
 obtain⟨bD,s',hq,kK⟩:=hp
 cases e with
 |normal=>exact⟨bD,s',hq,kK⟩
 |exit id=>exact⟨bD,s',hq,kK⟩
 |goto l=>
  obtain⟨r',hf,hs⟩:=hq
  obtain⟨Df,g1,g2⟩:=(MB hc l).2 r' hf
  exact⟨Df,g1,hs c Df hc g2 act w kK⟩
 |ret=>exact⟨bD,s',hq,kK⟩
 |panic ch=>exact⟨bD,s',hq,kK⟩
 |outgrown=>exact⟨bD,s',hq,kK⟩
def Tag.fg (m:Nat):Tag→Tag
 | .tok t y=>if t<m then .tok t y else .shared
 |g=>g
mutual
def D.fg (n m:Nat):D→D
 | .ptr o off=>if o<n then .ptr o off else .junk
 | .dI row off=> .dI (D.gH n m row) off
 | .slice g z rows=> .slice (g.fg m) z (D.kZ n m rows)
 | .agg cs=> .agg (D.gH n m cs)
 | .tuple ds=> .tuple (D.gH n m ds)
 | .junk=> .junk
 | .int k x=> .int k x
 | .bool b=> .bool b
 | .str l=> .str l
 | .ew=> .ew
 | .val v=> .val v
 | .fF T o=>if o<n then .fF T o else .junk
 | .gw f cs=> .gw f (D.gH n m cs)
 | .gb o=>if o<n then .gb o else .junk
 | .eQ z o g len=>if o<n then .eQ z o g len else .junk
 | .fG o g off=>if o<n then .fG o g off else .junk
 | .eJ z=> .eJ z
def D.gH (n m:Nat):List D→List D
 | []=> []
 |d::r=>D.fg n m d::D.gH n m r
def D.kZ (n m:Nat):List (List D)→List (List D)
 | []=> []
 |d::r=>D.gH n m d::D.kZ n m r
end
theorem nK (n m:Nat) : ∀ l,D.gH n m l=l.map (D.fg n m)
 | []=>by simp[D.gH]
 |d::r=>by simp[D.gH,nK n m r]
theorem SF (n m:Nat) : ∀ l,D.kZ n m l=l.map (D.gH n m)
 | []=>by simp[D.kZ]
 |d::r=>by simp[D.kZ,SF n m r]
def St.cut (s:St) (n m:Nat):St:=⟨(s.ah.take n).map (D.gH n m),s.ay.take m⟩
def Tm.fg (n m:Nat) (tm:Tm):Tm:=tm.map fun p=>(p.1,p.2.fg n m)
def Tm.keep (ks:List Nat) (tm:Tm):Tm:=tm.filter fun p=>ks.contains p.1
theorem ou (s:St) (n m:Nat):(s.cut n m).ah.length=min n s.ah.length:=by simp[St.cut]
theorem jg.fg {M:Map} {g:Tag} {z len cap:Nat} {base:Option (Nat×Nat)} (n m:Nat) (h:jg M s g z len base cap):jg M (s.cut n m) (g.fg m) z len base cap:=by
 cases g with
 |full=>exact h
 |shared=>exact h
 | tok t y=>
  simp only[Tag.fg]
  split
  ·rename_i ht
   obtain⟨h1,h2⟩:=h
   refine⟨by simp[St.cut];omega,fun k hk=>h2 k ?_⟩
   simpa[St.cut,List.getElem?_take_of_lt ht]using hk
  ·trivial
theorem RD.fg {M:Map} {d:D} {v:Value} (n m:Nat) (h:RD M s d v):RD M (s.cut n m) (d.fg n m) v:=by
 induction h with
 |junk v=>simp only[D.fg];exact .junk v
 |int k x=>simp only[D.fg];exact .int k x
 |bool b=>simp only[D.fg];exact .bool b
 |str l=>simp only[D.fg];exact .str l
 |ew=>simp only[D.fg];exact .ew
 |val v hv=>simp only[D.fg];exact .val v hv
 |fF T o v h ht hv=>
  simp only[D.fg]
  split
  ·exact .fF T o v (by rw[ou];omega) ht hv
  ·exact .junk _
 |gb o h hm=>
  simp only[D.fg]
  split
  ·exact .gb o (by rw[ou];omega) hm
  ·exact .junk _
 |eJ z a=>simp only[D.fg];exact .eJ z a
 |eQ z o g len b cap A h hm ha hl=>
  simp only[D.fg]
  split
  ·exact .eQ z o g len b cap A (by rw[ou];omega) hm ha hl
  ·exact .junk _
 |fG z o g off b cap A h hm ha=>
  simp only[D.fg]
  split
  ·exact .fG z o g off b cap A (by rw[ou];omega) hm ha
  ·exact .junk _
 |gw f ds vs hl _ ih=>
  simp only[D.fg,nK]
  refine .gw f _ vs (by simpa using hl) (fun i d v e1 e2=>?_)
  simp only[List.getElem?_map,Option.map_eq_some_iff]at e1
  obtain⟨d',e1,rfl⟩:=e1
  exact ih i d' v e1 e2
 |ptr o off h hm=>
  simp only[D.fg]
  split
  ·exact .ptr o off (by rw[ou];omega) hm
  ·exact .junk _
 | dI row off b k h1 h2 ih=>
  simp only[D.fg,nK]
  refine .dI _ off b k (fun i d e=>?_) (fun i d u e eu=>?_)
  ·simp only [List.getElem?_map,Option.map_eq_some_iff]at e
   obtain⟨d',e,rfl⟩:=e
   exact h1 i d' e
  ·simp only [List.getElem?_map,Option.map_eq_some_iff]at e
   obtain⟨d',e,rfl⟩:=e
   exact ih i d' u e eu
 |jb g z cap hc ht=>simp only[D.fg,D.kZ];exact .jb _ z cap hc (ht.fg n m)
 |mg z a cap=>simp only[D.fg,D.kZ,Tag.fg];exact .mg z a cap
 | slice g z rows b k cap hl hs h1 h2 ht ih=>
  simp only[D.fg,SF]
  have hlen:(rows.map (D.gH n m)).length=rows.length:=by simp
  have key:=RD.slice (M:=M) (s:=s.cut n m) (g.fg m) z (rows.map (D.gH n m)) b k cap (by rw[hlen];exact hl) (fun row hr=>by
   obtain⟨kT,h',rfl⟩:=List.mem_map.1 hr
   rw[nK,List.length_map];exact hs kT h')
   (fun i row j d e1 e2=>by
    simp only[List.getElem?_map,Option.map_eq_some_iff]at e1
    obtain⟨kT,e1,rfl⟩:=e1
    rw[nK]at e2
    simp only[List.getElem?_map,Option.map_eq_some_iff]at e2
    obtain⟨d',e2,rfl⟩:=e2
    exact h1 i kT j d' e1 e2)
   (fun i row j d u e1 e2 eu=>by
    simp only[List.getElem?_map,Option.map_eq_some_iff]at e1
    obtain⟨kT,e1,rfl⟩:=e1
    rw[nK]at e2
    simp only[List.getElem?_map,Option.map_eq_some_iff]at e2
    obtain⟨d',e2,rfl⟩:=e2
    exact ih i kT j d' u e1 e2 eu)
   (by rw[hlen];exact ht.fg n m)
  rw[hlen]at key
  exact key
 |agg cells vs hl h1 _ ih=>
  simp only[D.fg,nK]
  refine .agg _ vs (by simpa using hl) h1 (fun i d v e1 e2=>?_)
  simp only[List.getElem?_map,Option.map_eq_some_iff]at e1
  obtain⟨d',e1,rfl⟩:=e1
  exact ih i d' v e1 e2
 |tuple ds vs hl _ ih=>
  simp only[D.fg,nK]
  refine .tuple _ vs (by simpa using hl) (fun i d v e1 e2=>?_)
  simp only[List.getElem?_map,Option.map_eq_some_iff]at e1
  obtain⟨d',e1,rfl⟩:=e1
  exact ih i d' v e1 e2
theorem GZ {t k n m:Nat} (h:(s.cut n m).ay[t]? = some (some k)):s.ay[t]? = some (some k):=by
 simp only[St.cut,List.getElem?_take]at h
 split at h
 ·exact h
 ·cases h
theorem wi {t n m:Nat} (h:(s.cut n m).live t):s.live t:=by
 obtain⟨k,hk⟩:=h
 exact⟨k,GZ hk⟩
theorem Rel.cut {M:Map} {w:World} (n m:Nat) (r:Rel M s w):Rel M (s.cut n m) w:=by
 have hD : ∀ o,o<(s.cut n m).ah.length→o<s.ah.length:=fun o h=>by rw[ou]at h;omega
 refine⟨r.comm,fun o ds e=>?_,fun o ho=>r.ki o (hD o ho),fun o o' h h'=>r.inj o o' (hD o h) (hD o' h'),fun t k e=>r.tok t k (GZ e),
  fun t b c z o hl e ho=>r.fy t b c z o (wi hl) e (hD o ho),fun t t' b c z c' z' h h' e e'=>r.gd t t' b c z c' z' (wi h) (wi h') e e'⟩
 simp only[St.cut,List.getElem?_map,Option.map_eq_some_iff,List.getElem?_take]at e
 obtain⟨oc,e,rfl⟩:=e
 split at e
 ·obtain⟨vs,T,h1,h2,h3,h4⟩:=r.obj o oc e
  refine⟨vs,T,h1,by rw[nK];simpa using h2,h3,fun i d v e1 e2=>?_⟩
  rw[nK]at e1
  simp only[List.getElem?_map,Option.map_eq_some_iff]at e1
  obtain⟨d',e1,rfl⟩:=e1
  exact(h4 i d' v e1 e2).fg n m
 ·cases e
theorem Ext.cut {M0 M:Map} {s0:St} {w0 w:World} {n m:Nat} (e:Ext M0 s0 w0 M s w) (hn:s0.ah.length≤n) (hm:s0.ay.length≤m):Ext M0 s0 w0 M (s.cut n m) w:=by
 have hD : ∀ o,o<(s.cut n m).ah.length→o<s.ah.length:=fun o h=>by rw[ou]at h;omega
 refine⟨⟨e.le.G,by rw[ou];have:=e.le.n;omega,e.le.loc,by simp[St.cut];have:=e.le.t;omega,fun t k h1 h2=>e.le.tk t k h1 (GZ h2)⟩,e.kept,fun o h1 h2=>e.uI o h1 (hD o h2),fun t b c z h=>e.rf t b c z (wi h),e.sY,e.size,e.os,e.tape,e.output⟩
end
end Go.Abs
namespace Go.Abs
def nA:Nat→List D→Tm
 |_,[]=> []
 |n,d::r=>(n,d)::nA (n+1) r
def aT:List (Nat×Option (Bool×Nat))→Tm→St→Option (List D)
 | [],_,_=>some []
 |(t,none)::r,tm,s=>match aT r tm s with|some l=>some (tm.get t::l)|none=>none
 | (t,some (agg,size))::r,tm,s=>
  match tm.get t with
  | .ptr o off=>
   match s.ah[o]? with
   |some cs=>match part cs off agg size,aT r tm s with|some d,some l=>some (d::l)|_,_=>none
   |none=>none
  |_=>none
def aV:List D→D
 | [d]=>d
 |l=> .tuple l
def alI (B:gi) (res:List (Nat×Option (Bool×Nat))) (Q:D→St→Prop):Exit→Tm→St→Prop
 | .normal,tm,s| .ret,tm,s=>∃ l,aT res tm s=some l∧∃ n m,B.s.ah.length≤n∧B.s.ay.length≤m∧Q ((aV l).fg n m) (s.cut n m)
 |_,_,_=>False
section
variable {P:Program} {M:Map} {s:St} {w:World}
theorem H5 : ∀ (l:List D) (n t:Nat),(nA n l).get t=if n≤t then(l[t - n]?).getD .junk else .junk
 | [],n,t=>by simp[nA,Tm.get]
 | d::r,n,t=>by
  simp only[nA,Tm.get,H5 r (n+1) t]
  by_cases h:n=t
  ·subst h;simp
  ·rw [if_neg h]
   by_cases h2:n+1≤t
   ·rw[if_pos h2,if_pos (by omega),show t - n=(t - (n+1))+1 by omega];simp
   ·rw[if_neg h2,if_neg (by omega)]
def Cb (tmps:Array Value):ResultVar→Go.Sem Value
 | .tmp t=>pure (tmps.getD t Go.undef)
 | .cell a t=>do loadVar t (← asAddr (tmps.getD a Go.undef))
theorem Ey (r:Rel M s w) {tm:Tm} {tmps:Array Value} (ht:mM M s tm tmps) : ∀ {rs:List ResultVar} {res:List (Nat×Option (Bool×Nat))} {l:List D},En P rs=some res→aT res tm s=some l→
 ∃ vs:List Value,(rs.mapM (Cb tmps)).run P w = .ok vs w∧vs.length=l.length∧
  ∀ (i:Nat) (d:D) (v:Value),l[i]? = some d→vs[i]? = some v→RD M s d v
 | [],res,l,hc,hl=>by cases hc;cases hl;exact⟨[],rfl,rfl,by simp⟩
 | .tmp t::rs,res,l,hc,hl=>by
  obtain⟨alJ,h1,rfl⟩:=map_some (by simpa[En]using hc)
  simp only[aT]at hl
  split at hl
  ·rename_i l' mN
   cases hl
   obtain⟨vs,g1,g2,g3⟩:=Ey r ht h1 mN
   refine⟨tmps.getD t Go.undef::vs, ?_,by simp[g2],fun i d v e1 e2=>?_⟩
   ·rw [List.mapM_cons]
    simp only[Cb,Go.Sem.run_bind,Go.Sem.run_pure,Result.andThen_ok,g1]
   ·cases i with
    |zero=>simp only[List.getElem?_cons_zero,Option.some.injEq]at e1 e2;subst e1;subst e2;exact ht t
    |succ i=>exact g3 i d v (by simpa using e1) (by simpa using e2)
  ·cases hl
 | .cell a t::rs,res,l,hc,hl=>by
  simp only[En]at hc
  split at hc
  ·rename_i g i alJ h1 h2 h3
   cases hc
   simp only[aT]at hl
   split at hl
   ·rename_i o off ho
    split at hl
    ·rename_i cs oe
     split at hl
     ·rename_i d l' hd mN
      cases hl
      obtain⟨vs,g1,g2,g3⟩:=Ey r ht h3 mN
      have hv:=ht a
      rw[ho]at hv
      have hk:=hv.BT
      obtain⟨hv,_⟩:=hv.s8
      have ahr : ∃ v,(loadVar t ⟨M.mu o,off,none⟩).run P w = .ok v w∧RD M s d v:=by
       obtain⟨fO,T,hh,dP,⟨iz,_⟩,Eu⟩:=r.obj o cs oe
       replace hh:w.heap[M.mu o]? = some (.cells fO T (0,0)):=hh.cells hk
       let n:=if g then i.size else 1
       have jI:off+n≤fO.size:=by
        rcases rD hd with ⟨rfl,hq,_⟩|⟨rfl,hq⟩
        ·simp[n];omega
        ·have:=(List.getElem?_eq_some_iff.1 hq).1;simp[n];omega
       have hlen:((fO.toList.drop off).take n).length=n:=by simp;omega
       have hY : ∀ (j:Nat) (u:Value),((fO.toList.drop off).take n)[j]? = some u→fO[off+j]? = some u:=by
        intro j u h
        rw[List.getElem?_take]at h
        split at h
        ·rw[List.getElem?_drop]at h;simpa using h
        ·cases h
       refine⟨_,zX (w:=w) P h2 h1 (M.mu o) off ((fO.toList.drop off).take n) hlen (fun j u h=>by rw[jx hh];exact hY j u h), ?_⟩
       exact rU hd _ hlen (fun _ u hu=>iz u (Array.mem_toList_iff.1 (List.mem_of_mem_drop (List.mem_of_mem_take hu)))) (fun j d u e1 e2=>Eu _ d u e1 (hY j u e2))
      obtain⟨v,hlv,hvd⟩:=ahr
      refine⟨v::vs, ?_,by simp[g2],fun i d' v' e1 e2=>?_⟩
      ·rw [List.mapM_cons]
       have iz:(Cb tmps (.cell a t)).run P w = .ok v w:=by
        simp only[Cb,Go.Sem.run_bind,hv,asAddr,Go.Sem.run_pure,Result.andThen_ok,hlv]
       simp only[Go.Sem.run_bind,iz,Result.andThen_ok,g1,Go.Sem.run_pure]
      ·cases i with
       |zero=>simp only[List.getElem?_cons_zero,Option.some.injEq]at e1 e2;subst e1;subst e2;exact hvd
       |succ i=>exact g3 i d' v' (by simpa using e1) (by simpa using e2)
     ·cases hl
    ·cases hl
   ·cases hl
  ·cases hc
theorem Ji (r:Rel M s w) {tm:Tm} {tmps:Array Value} (ht:mM M s tm tmps) {fn:Func} {res:List (Nat×Option (Bool×Nat))} {l:List D} (hc:En P fn.results.toList=some res) (hl:aT res tm s=some l) :
 ∃ v,(results fn tmps).run P w = .ok v w∧RD M s (aV l) v:=by
 obtain⟨vs,g1,g2,g3⟩:=Ey (P:=P) r ht hc hl
 have dM:(results fn tmps).run P w = .ok (if h:vs.toArray.size=1 then vs.toArray[0]else .tuple vs.toArray) w:=by
  have e:results fn tmps=(do let vs ← fn.results.mapM (Cb tmps);pure (if h:vs.size=1 then vs[0]else .tuple vs)):=by
   unfold results
   rfl
  rw[e,Array.mapM_eq_mapM_toList]
  simp only[Go.Sem.run_bind,Go.Sem.run_map,g1,Result.andThen_ok,Go.Sem.run_pure]
 refine⟨_,dM, ?_⟩
 clear dM g1 hl
 match l,vs,g2,g3 with
 | [],[],_,_=>exact .tuple [] #[] rfl (by simp)
 | [d],[v],_,g3=>exact g3 0 d v rfl rfl
 |d::d'::l,v::v'::vs,h,g3=>
  have : ¬ ((v::v'::vs).toArray.size=1):=by simp
  rw[dif_neg this]
  exact .tuple _ _ (by simpa using h.symm) (fun i d v e1 e2=>g3 i d v e1 (by simpa using e2))
def VF (res:List (Nat×Option (Bool×Nat))) (Q:D→St→Prop):Exit→Tm→St→Prop
 | .normal,tm,s| .ret,tm,s=>∃ l,aT res tm s=some l∧Q (aV l) s
 |_,_,_=>False
theorem bP.SH {f:FuncId} {fn:Func} {af:AF} {args:List D} {Q:D→St→Prop} (hf:P.funcs[f]? = some fn) (hc:cF P fn=some af) (hl:args.length≤af.ntmps)
 (h : ∀ B:gi,B.s=s→Sem P B af.ntmps af.body (VF af.results Q) (nA 0 args) s):bP P f args s Q:=by
 intro M w fS r k6 dP ha
 unfold cF at hc
 split at hc
 ·rename_i c Dg
  split at hc
  ·rename_i b res h1 h2
   cases hc
   simp only at h hl
   refine calls_of_wp hf Dg ?_
   have hs:=h ⟨M,s,w,k6,fun b o v e=>r.BS e⟩ rfl c h1 {tmps:=fS++Array.replicate (fn.ntmps - fS.size) Go.undef,defers:= []} w
    ⟨M,Ext.refl M s w,r,fun t=>by
     rw[H5]
     simp only[Nat.zero_le,if_true,Nat.sub_zero]
     cases hd:args[t]? with
     |none=>exact .junk _
     | some d=>
      have hD:=(List.getElem?_eq_some_iff.1 hd).1
      have hv:fS[t]? = some fS[t]:=Array.getElem?_eq_getElem (by omega)
      have:(fS++Array.replicate (fn.ntmps - fS.size) Go.undef).getD t Go.undef=fS[t]:=by
       rw[Array.getD_eq_getD_getElem?,Array.getElem?_append_left (by omega),hv];rfl
      rw[this]
      exact ha t d _ hd hv,by simp;omega,rfl⟩
   refine wp_mono hs fun e act w' hp=>?_
   obtain⟨tm,s',hq,M',alK,r',ht,_,hdf⟩:=hp
   have fin:(∃ l,aT res tm s'=some l∧Q (aV l) s')→act.defers = []∧∃ v,(results fn act.tmps).run P w' = .ok v w'∧
    ∃ M' d v' s',Ending.returned v = .returned v'∧Q d s'∧Ext M s w M' s' w'∧Rel M' s' w'∧RD M' s' d v':=by
    rintro⟨l,hl,hQ⟩
    obtain⟨v,dM,jO⟩:=Ji (P:=P) r' ht h2 hl
    exact⟨hdf,v,dM,M',_,v,_,rfl,hQ,alK,r',jO⟩
   cases e with
   |normal=>exact fin hq
   |ret=>exact fin hq
   |exit id=>exact hq.elim
   |goto l=>exact hq.elim
   |panic ch=>exact hq.elim
   |outgrown=>exact hq.elim
  ·cases hc
 ·cases hc
theorem bP.intro {f:FuncId} {fn:Func} {af:AF} {args:List D} {Q:D→St→Prop} (hf:P.funcs[f]? = some fn) (hc:cF P fn=some af) (hl:args.length≤af.ntmps)
 (h : ∀ B:gi,B.s=s→Sem P B af.ntmps af.body (alI B af.results Q) (nA 0 args) s):bP P f args s Q:=by
 intro M w fS r k6 dP ha
 refine(bP.SH (Q:=fun d s'=>∃ n m,s.ah.length≤n∧s.ay.length≤m∧Q (d.fg n m) (s'.cut n m)) hf hc hl (fun B hB=>(h B hB).mono fun e tm s' hq=>?_) M w fS r k6 dP ha).mono ?_
 ·subst hB
  cases e<;>exact hq
 ·rintro e w' ⟨M',d,v,s',h1,⟨n,m,hn,hm,hQ⟩,h3,h4,h5⟩
  exact⟨M',_,v,_,h1,hQ,h3.cut hn hm,h4.cut n m,h5.fg n m⟩
end
end Go.Abs
