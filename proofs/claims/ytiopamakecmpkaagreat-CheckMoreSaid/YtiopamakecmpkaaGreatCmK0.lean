/-
  What is proved here: part 0 of the road to the claim (Globs, Abs, Lang, Rel, Sound, Sound2, Sound3, Sound4, Sound5, Sound6, Sound7, SoundM, RelA, SoundA, Sound8, Code, Flow, Call).
  No conditions.
-/
import GoSem.Core.Value
import Derived.Orders
import Derived.Calls
import Derived.Below
import Derived.Laws.AppendOwn
import Derived.Deep.AppendSrc
import Derived.Laws.StructEq
import Derived.Laws.Slices
import Derived.Laws.Strings
import Derived.Laws.IdiomStrings
import Derived.Laws.BytesString
import Derived.MapKept
import Derived.Laws.MakeOwn
import Derived.Scope

set_option linter.unusedSimpArgs false
set_option linter.unusedVariables false
namespace Go.Abs
abbrev zaa:=@Nat.lt_succ_self
abbrev zab:=@Bool.false_eq_true
abbrev zac:=@List.mem_of_getElem?
abbrev zad:=@Bool.eq_false_or_eq_true
abbrev zae:=@List.getElem?_eq_some_iff
abbrev zaf:=@List.map_cons
abbrev zag:=@Nat.le_refl
abbrev zah:=@List.map_append
abbrev zai:=@List.length_append
abbrev zaj:=@List.map_nil
abbrev zak:=@List.getElem?_eq_getElem
abbrev zal:=@List.length_cons
abbrev zam:=@Bool.and_eq_true
abbrev zan:=@List.mem_cons
abbrev zao:=@List.getElem?_append_left
abbrev zap:=@List.getElem?_map
abbrev zaq:=@Option.map_eq_some_iff
abbrev zar:=@Nat.zero_le
abbrev zas:=@Option.bind_eq_some_iff
abbrev zat:=@List.length_map
abbrev zau:=@List.getElem?_append_right
abbrev zav:=@List.mem_cons_of_mem
abbrev zaw:=@List.mem_append
abbrev zax:=@Bool.not_true
abbrev zay:=@Bool.or_eq_true
abbrev zaz:=@Nat.add_sub_cancel
abbrev zaA:=@List.append_nil
abbrev zaB:=@Bool.not_false
abbrev zaC:=@List.append_assoc
abbrev zaD:=@List.mem_cons_self
abbrev zaE:=@List.length_nil
abbrev zaF:=@Bool.not_eq_true'
abbrev zaG:=@Nat.not_lt_zero
abbrev zaH:=@List.mem_map
abbrev zaI:=@Nat.lt_or_ge
abbrev zaJ:=@List.cons_append
abbrev zaK:=@List.getElem?_cons_zero
abbrev zaL:=@List.mem_map_of_mem
abbrev zaM:=@List.getElem?_set
abbrev zaN:=@Array.getElem?_eq_some_iff
abbrev zaO:=@List.all_eq_true
abbrev zaP:=@List.mem_append_left
abbrev zaQ:=@Array.mem_toList_iff
abbrev zaR:=@List.nil_append
abbrev zaS:=@Nat.zero_lt_one
abbrev zaT:=@Nat.mul_le_mul_right
abbrev zaU:=@Array.toArray_toList
abbrev zaV:=@Bool.not_eq_false
abbrev zaW:=@List.getElem?_cons_succ
abbrev zaX:=@List.getElem?_take
abbrev zaY:=@Int.le_refl
abbrev zaZ:=@List.mem_of_mem_take
abbrev za0:=@Array.getElem?_append_left
abbrev za1:=@Bool.false_or
abbrev za2:=@List.contains_iff_mem
abbrev za3:=@List.mem_append_right
abbrev za4:=@Nat.add_zero
abbrev za5:=@List.getElem?_take_of_lt
abbrev za6:=@Nat.zero_add
abbrev za7:=@Nat.le_of_ble_eq_true
abbrev za8:=@Bool.true_or
abbrev za9:=@Array.getElem?_eq_getElem
abbrev zba:=@Nat.add_mul
abbrev zbb:=@Nat.le_trans
abbrev zbc:=@List.getElem?_drop
abbrev zbd:=@List.mem_singleton
abbrev zbe:=@List.eq_nil_of_length_eq_zero
abbrev zbf:=@List.length_pos_iff
abbrev zbg:=@Array.getD_eq_getD_getElem?
abbrev zbh:=@List.length_drop
abbrev zbi:=@Bool.false_and
abbrev zbj:=@List.getElem?_toArray
abbrev zbk:=@Bool.not_eq_true
abbrev zbl:=@List.mem_of_mem_drop
abbrev zbm:=@List.nodup_append
abbrev zbn:=@List.not_mem_nil
abbrev zbo:=@List.mem_flatten
abbrev zbp:=@Array.mem_of_getElem?
abbrev zbq:=@List.nodup_nil
abbrev zbr:=@Array.getElem?_setIfInBounds_ne
abbrev zbs:=@Option.map_some
abbrev zbt:=@List.flatten_cons
abbrev zbu:=@Bool.and_true
abbrev zbv:=@List.map_congr_left
abbrev zbw:=@List.length_take
abbrev zbx:=@Array.getElem?_modify
abbrev zby:=@Option.map_none
abbrev zbz:=@Bool.true_and
abbrev zbA:=@List.drop_eq_nil_iff
abbrev zbB:=@Bool.or_eq_false_iff
abbrev zbC:=@List.getElem?_of_mem
abbrev zbD:=@List.nodup_cons
def W6:Nat→Option (Array Value):=fun _=>none
def nF:TypeId:=1000000
inductive Tag where
 |full
 |shared
 |tok (t:Nat) (byte:Bool:=false) -- 'byte': its row's block bears the bytes' type
inductive D where
 |junk
 |int (k:IntKind) (n:Int)
 |bool (b:Bool)
 |str (s:List UInt8)
 |er
 |ptr (o off:Nat)
 |dr (row:List D) (off:Nat)
 |slice (g:Tag) (size:Nat) (rows:List (List D))
 |agg (cells:List D)
 |tuple (vs:List D)
 |val (v:Value)
 |eC (T:TypeId) (o:Nat)
 |fL (f:Nat) (lO:List D) -- a function value with what it captured
 |fA (o:Nat) -- a map, kept as an object: keys and values by turns
 |bX (z o g len:Nat) -- a slice from an array's beginning: the object, its generation
 |ew (o g off:Nat) -- a pointer into an array
 |dj (z:Nat) -- an empty slice without room: what is laid behind it becomes an array
instance:Inhabited D:=⟨.junk⟩
inductive Ob where
 |any
 |ty (T:TypeId)
 |map
 |arr (z:Nat) (A:Nat→Option (Nat×Nat))
def Ob.plain:Ob→Prop
 | .any=>True
 | .ty _=>True
 |_=>False
inductive sa:Nat×Ob→Nat×Ob→Prop where
 |refl (x:Nat×Ob):sa x x
 |arr (b b' z:Nat) (A A':Nat→Option (Nat×Nat)) (h : ∀ g x,A g=some x→A' g=some x):sa (b, .arr z A) (b', .arr z A')
theorem sa.trans {x y z:Nat×Ob} (h:sa x y) (k:sa y z):sa x z:=by
 cases h with
 |refl=>exact k
 |arr b b' z A A' h=>
  cases k with
  |refl=>exact .arr b b' z A A' h
  |arr _ b'' _ _ A'' h'=>exact .arr b b'' z A A'' fun g x e=>h' g x (h g x e)
structure Map where
 G:Nat→Nat→Option Value
 loc:Nat→Nat×Ob
 be:Nat→Option (Nat×Nat×Nat)
def Map.mu (M:Map) (o:Nat):Nat:=(M.loc o).1
def Ob.ty? : Ob→Option TypeId
 | .ty T=>some T
 |_=>none
def Map.ob (M:Map) (o:Nat):Ob:=(M.loc o).2
def Map.ty (M:Map) (o:Nat):Option TypeId:=(M.loc o).2.ty?
structure St where
 av:List (List D)
 aw:List (Option Nat)
def zs (z:Nat):Nat:=if z=0 then 1 else z
def bz (byte:Bool) (size:Nat):Nat:=match byte with|true=>0|false=>size
def gO (M:Map) (s:St) (g:Tag) (size len:Nat) (base:Option (Nat×Nat)) (cap:Nat):Prop:=
 match g with
 | .full=>cap=len
 | .shared=>True
 | .tok t y=>t<s.aw.length∧∀ n,s.aw[t]? = some (some n)→len≤n∧
  (len=n→(M.be t=none∧cap=0∧(y=true→base=none))∨∃ b,base=some (b,0)∧M.be t=some (b,cap,bz y size))
inductive RD (M:Map) (s:St):D→Value→Prop where
 |junk (v:Value):RD M s .junk v
 |int (k:IntKind) (n:Int):RD M s (.int k n) (.int k n)
 |bool (b:Bool):RD M s (.bool b) (.bool b)
 |str (l:List UInt8):RD M s (.str l) (.string ⟨⟨l⟩⟩)
 |er:RD M s .er (.pointer none)
 |ptr (o off:Nat) (h:o<s.av.length) (hm:(M.ob o).plain):RD M s (.ptr o off) (.pointer (some ⟨M.mu o,off,none⟩))
 |dr (row:List D) (off b k:Nat) (h1 : ∀ (i:Nat) (d:D),row[i]? = some d→∃ u,M.G b (k+i)=some u)
  (h2 : ∀ (i:Nat) (d:D) (u:Value),row[i]? = some d→M.G b (k+i)=some u→RD M s d u) :
  RD M s (.dr row off) (.pointer (some ⟨b,k+off,none⟩))
 |ig (g:Tag) (size cap:Nat) (hc:cap=0) (ht:gO M s g size 0 none cap):RD M s (.slice g size []) (.slice none 0 cap)
 |kR (size:Nat) (a:Addr) (cap:Nat):RD M s (.slice .shared size []) (.slice (some a) 0 cap)
 |slice (g:Tag) (size:Nat) (rows:List (List D)) (b k cap:Nat) (hl:rows.length≤cap)
  (hs : ∀ row∈rows,row.length=size)
  (h1 : ∀ (i:Nat) (row:List D) (j:Nat) (d:D),rows[i]? = some row→row[j]? = some d→∃ u,M.G b (k+(i*size+j))=some u)
  (h2 : ∀ (i:Nat) (row:List D) (j:Nat) (d:D) (u:Value),rows[i]? = some row→row[j]? = some d→M.G b (k+(i*size+j))=some u→RD M s d u)
  (ht:gO M s g size rows.length (some (b,k)) cap) :
  RD M s (.slice g size rows) (.slice (some ⟨b,k,none⟩) rows.length cap)
 |agg (cells:List D) (vs:Array Value) (hl:cells.length=vs.size) (h1 : ∀ v∈vs,v.oneCell'=true)
  (h : ∀ (i:Nat) (d:D) (v:Value),cells[i]? = some d→vs[i]? = some v→RD M s d v):RD M s (.agg cells) (.agg vs)
 |tuple (ds:List D) (vs:Array Value) (hl:ds.length=vs.size)
  (h : ∀ (i:Nat) (d:D) (v:Value),ds[i]? = some d→vs[i]? = some v→RD M s d v):RD M s (.tuple ds) (.tuple vs)
 |val (v:Value) (h:v.oneCell'=true):RD M s (.val v) v
 |eC (T:TypeId) (o:Nat) (v:Value) (h:o<s.av.length) (ht:M.ty o=some T) (hv:v = .pointer none∨v = .pointer (some ⟨M.mu o,0,none⟩)):RD M s (.eC T o) v
 |fL (f:Nat) (ds:List D) (vs:Array Value) (hl:ds.length=vs.size)
  (h : ∀ (i:Nat) (d:D) (v:Value),ds[i]? = some d→vs[i]? = some v→RD M s d v):RD M s (.fL f ds) (.func (.func f) #[] vs)
 |fA (o:Nat) (h:o<s.av.length) (hm:M.ob o = .map):RD M s (.fA o) (.map (some (M.mu o)))
 |bX (z o g len b cap:Nat) (A:Nat→Option (Nat×Nat)) (h:o<s.av.length) (hm:M.ob o = .arr z A) (ha:A g=some (b,cap)) (hl:len≤cap):RD M s (.bX z o g len) (.slice (some ⟨b,0,none⟩) len cap)
 |ew (z o g off b cap:Nat) (A:Nat→Option (Nat×Nat)) (h:o<s.av.length) (hm:M.ob o = .arr z A) (ha:A g=some (b,cap)):RD M s (.ew o g off) (.pointer (some ⟨b,off,none⟩))
 |dj (z:Nat) (a:Option Addr):RD M s (.dj z) (.slice a 0 0)
structure Le (M:Map) (s:St) (M':Map) (s':St):Prop where
 G : ∀ b o v,M.G b o=some v→M'.G b o=some v
 n:s.av.length≤s'.av.length
 loc : ∀ o,o<s.av.length→sa (M.loc o) (M'.loc o)
 t:s.aw.length≤s'.aw.length
 tk : ∀ t n',t<s.aw.length→s'.aw[t]? = some (some n')→∃ n,s.aw[t]? = some (some n)∧n≤n'∧(n'=n→M'.be t=M.be t)
theorem Le.same {M:Map} {s:St} {M':Map} {s':St} (h:Le M s M' s') {o:Nat} (ho:o<s.av.length) (hk : ∀ z A,M.ob o≠ .arr z A):M'.loc o=M.loc o:=by
 have:=h.loc o ho
 have qQ : ∀ z A,(M.loc o).2≠ .arr z A:=hk
 generalize M.loc o=x at *
 generalize M'.loc o=y at *
 cases this with
 |refl=>rfl
 |arr b b' z A A' h=>exact(qQ z A rfl).elim
theorem Ob.DE {x:Ob} (h:x.plain) : ∀ z A,x≠ .arr z A:=fun z A e=>by subst e;exact h
theorem Le.mu {M:Map} {s:St} {M':Map} {s':St} (h:Le M s M' s') {o:Nat} (ho:o<s.av.length) (hk : ∀ z A,M.ob o≠ .arr z A):M'.mu o=M.mu o:=congrArg Prod.fst (h.same ho hk)
theorem Le.ob {M:Map} {s:St} {M':Map} {s':St} (h:Le M s M' s') {o:Nat} (ho:o<s.av.length) (hk : ∀ z A,M.ob o≠ .arr z A):M'.ob o=M.ob o:=congrArg Prod.snd (h.same ho hk)
theorem sa.ty {x y:Nat×Ob} (h:sa x y):y.2.ty? = x.2.ty? :=by cases h<;>rfl
theorem Le.ty {M:Map} {s:St} {M':Map} {s':St} (h:Le M s M' s') : ∀ o,o<s.av.length→M'.ty o=M.ty o:=fun o ho=>(h.loc o ho).ty
theorem Le.arr {M:Map} {s:St} {M':Map} {s':St} (h:Le M s M' s') {o z:Nat} {A:Nat→Option (Nat×Nat)} (ho:o<s.av.length) (hm:M.ob o = .arr z A) : ∃ A',M'.ob o = .arr z A'∧∀ g x,A g=some x→A' g=some x:=by
 have:=h.loc o ho
 have xe:(M.loc o).2 = .arr z A:=hm
 show ∃ A',(M'.loc o).2=_∧_
 generalize M.loc o=x at *
 generalize M'.loc o=y at *
 cases this with
 |refl=>exact⟨A,xe,fun _ _ h=>h⟩
 |arr b b' z A A' h=>cases xe;exact⟨A',rfl,h⟩
theorem Le.refl (M:Map) (s:St):Le M s M s:=⟨fun _ _ _ h=>h,zag _,fun _ _=> .refl _,zag _,fun _ n _ h=>⟨n,h,zag _,fun _=>rfl⟩⟩
theorem Le.trans {M M' I7:Map} {s s' M4:St} (h:Le M s M' s') (k:Le M' s' I7 M4):Le M s I7 M4:=
 ⟨fun b o v e=>k.G b o v (h.G b o v e),zbb h.n k.n,fun o ho=>(h.loc o ho).trans (k.loc o (Nat.lt_of_lt_of_le ho h.n)),zbb h.t k.t,
  fun t n'' ht e=>by
   obtain⟨n',e',l,b⟩:=k.tk t n'' (Nat.lt_of_lt_of_le ht h.t) e
   obtain⟨n,I8,l',b'⟩:=h.tk t n' ht e'
   refine⟨n,I8,zbb l' l,fun eq=>?_⟩
   have h1:n'=n:=by omega
   have h2:n''=n':=by omega
   rw[b h2,b' h1]⟩
theorem gO.mono {M M':Map} {s s':St} (h:Le M s M' s') {g:Tag} {size len cap:Nat} {base:Option (Nat×Nat)} (ht:gO M s g size len base cap) :
 gO M' s' g size len base cap:=by
 cases g with
 |full=>exact ht
 |shared=>trivial
 |tok t y=>
  obtain⟨hF,ht⟩:=ht
  refine⟨Nat.lt_of_lt_of_le hF h.t,fun n' e'=>?_⟩
  obtain⟨n,e,l,b⟩:=h.tk t n' hF e'
  obtain⟨l',b'⟩:=ht n e
  refine⟨zbb l' l,fun eq=>?_⟩
  have h1:n'=n:=by omega
  have h2:len=n:=by omega
  rw[b h1]
  exact b' h2
theorem RD.mono {M M':Map} {s s':St} (h:Le M s M' s') {d:D} {v:Value} (r:RD M s d v):RD M' s' d v:=by
 induction r with
 |junk v=>exact .junk v
 |int k n=>exact .int k n
 |bool b=>exact .bool b
 |str l=>exact .str l
 |er=>exact .er
 |ptr o off ho hm=>rw[← h.mu ho (Ob.DE hm)];exact .ptr o off (Nat.lt_of_lt_of_le ho h.n) (by rw[h.ob ho (Ob.DE hm)];exact hm)
 | dr row off b k h1 h2 ih=>
  refine .dr row off b k (fun i d e=>?_) (fun i d u e eu=>?_)
  ·obtain⟨u,hu⟩:=h1 i d e;exact⟨u,h.G _ _ _ hu⟩
  ·obtain⟨u',hu⟩:=h1 i d e
   have:=h.G _ _ _ hu
   rw[eu]at this
   cases this
   exact ih i d u e hu
 |ig g size cap hc ht=>exact .ig g size cap hc (ht.mono h)
 |kR size a cap=>exact .kR size a cap
 | slice g size rows b k cap hl hs h1 h2 ht ih=>
  refine .slice g size rows b k cap hl hs (fun i row j d e e2=>?_) (fun i row j d u e e2 eu=>?_) (ht.mono h)
  ·obtain⟨u,hu⟩:=h1 i row j d e e2;exact⟨u,h.G _ _ _ hu⟩
  ·obtain⟨u',hu⟩:=h1 i row j d e e2
   have:=h.G _ _ _ hu
   rw[eu]at this
   cases this
   exact ih i row j d u e e2 hu
 |agg cells vs hl h1 _ ih=>exact .agg cells vs hl h1 ih
 |tuple ds vs hl _ ih=>exact .tuple ds vs hl ih
 |val v hv=>exact .val v hv
 |eC T o v ho ht hv=>exact .eC T o v (Nat.lt_of_lt_of_le ho h.n) (by rw[h.ty o ho];exact ht) (by rw[h.mu ho (fun z A e=>by rw[Map.ty,show(M.loc o).2=_ from e]at ht;cases ht)];exact hv)
 |fL f ds vs hl _ ih=>exact .fL f ds vs hl ih
 |fA o ho hm=>
  have hk : ∀ z A,M.ob o≠ .arr z A:=fun z A e=>by rw[hm]at e;cases e
  rw[← h.mu ho hk];exact .fA o (Nat.lt_of_lt_of_le ho h.n) (by rw[h.ob ho hk];exact hm)
 |bX z o g len b cap A ho hm ha hl=>
  obtain⟨A',h1,h2⟩:=h.arr ho hm
  exact .bX z o g len b cap A' (Nat.lt_of_lt_of_le ho h.n) h1 (h2 g _ ha) hl
 |ew z o g off b cap A ho hm ha=>
  obtain⟨A',h1,h2⟩:=h.arr ho hm
  exact .ew z o g off b cap A' (Nat.lt_of_lt_of_le ho h.n) h1 (h2 g _ ha)
 |dj z a=>exact .dj z a
def St.live (s:St) (t:Nat):Prop:=∃ n,s.aw[t]? = some (some n)
def gb:List MapEntry→List Value
 | []=> []
 |e::l=>e.key::e.val::gb l
def gH (hp:Array Obj) (l:Nat×Ob) (vs:Array Value) (T:TypeId):Prop:=
 match l.2 with
 | .map=>∃ es ck,hp[l.1]? = some (.map es ck)∧vs.toList=gb es.toList
 | .arr z A=>∃ (us:Array Value) (g n cap:Nat),hp[l.1]? = some (.cells us T (0,0))∧A g=some (l.1,cap)∧(∀ g',g<g'→A g'=none)∧us.size=cap*z∧n≤us.size∧
  vs.toList = .int .i64 g::us.toList.take n∧∀ u∈us,u.oneCell'=true
 |_=>hp[l.1]? = some (.cells vs T (0,0))
theorem gH.cells {hp:Array Obj} {l:Nat×Ob} {vs:Array Value} {T:TypeId} (h:gH hp l vs T) (hk:l.2.plain):hp[l.1]? = some (.cells vs T (0,0)):=by
 obtain⟨b,k⟩:=l
 cases k with
 |map=>exact hk.elim
 |arr _ _=>exact hk.elim
 |any=>exact h
 |ty _=>exact h
theorem gH.of {hp:Array Obj} {l:Nat×Ob} {vs:Array Value} {T:TypeId} (h:hp[l.1]? = some (.cells vs T (0,0))) (hk:l.2.plain):gH hp l vs T:=by
 obtain⟨b,k⟩:=l
 cases k with
 |map=>exact hk.elim
 |arr _ _=>exact hk.elim
 |any=>exact h
 |ty _=>exact h
theorem gH.J4 {hp:Array Obj} {l:Nat×Ob} {vs:Array Value} {T:TypeId} (h:gH hp l vs T) (hk:l.2 = .map) : ∃ es ck,hp[l.1]? = some (.map es ck)∧vs.toList=gb es.toList:=by
 unfold gH at h
 rw[hk]at h
 exact h
theorem gH.ofMap {hp:Array Obj} {l:Nat×Ob} {vs:Array Value} {T:TypeId} (hk:l.2 = .map) (h : ∃ es ck,hp[l.1]? = some (.map es ck)∧vs.toList=gb es.toList):gH hp l vs T:=by
 unfold gH
 rw[hk]
 exact h
theorem gH.some {hp:Array Obj} {l:Nat×Ob} {vs:Array Value} {T:TypeId} (h:gH hp l vs T) : ∃ o,hp[l.1]? = some o:=by
 obtain⟨b,k⟩:=l
 cases k with
 |map=>obtain⟨es,ck,h,_⟩:=h;exact⟨_,h⟩
 |arr _ _=>obtain⟨us,g,n,cap,h,_⟩:=h;exact⟨_,h⟩
 |any=>exact⟨_,h⟩
 |ty _=>exact⟨_,h⟩
theorem gH.lt {hp:Array Obj} {l:Nat×Ob} {vs:Array Value} {T:TypeId} (h:gH hp l vs T):l.1<hp.size:=by
 obtain⟨o,h⟩:=h.some
 exact(zaN.1 h).1
theorem gH.keep {hp la:Array Obj} {l:Nat×Ob} {vs:Array Value} {T:TypeId} (h:gH hp l vs T) (e:la[l.1]? = hp[l.1]?):gH la l vs T:=by
 unfold gH at h ⊢
 rw[e];exact h
structure Rel (M:Map) (s:St) (w:World):Prop where
 comm : ∀ b o v,M.G b o=some v→w.cell? ⟨b,o,none⟩=some v∧v.oneCell'=true
 obj : ∀ (o:Nat) (ds:List D),s.av[o]? = some ds→∃ (vs:Array Value) (T:TypeId),gH w.heap (M.loc o) vs T∧vs.size=ds.length∧
  ((∀ v∈vs,v.oneCell'=true)∧∀ T',M.ty o=some T'→T'=T)∧∀ (i:Nat) (d:D) (v:Value),ds[i]? = some d→vs[i]? = some v→RD M s d v
 iK : ∀ o,o<s.av.length→∀ off,M.G (M.mu o) off=none
 inj : ∀ o o',o<s.av.length→o'<s.av.length→M.mu o=M.mu o'→o=o'
 tok : ∀ t n,s.aw[t]? = some (some n)→(M.be t=none∧n=0)∨∃ (b cap z:Nat) (vs:Array Value) (T:TypeId),M.be t=some (b,cap,z)∧
  w.heap[b]? = some (.cells vs T (0,0))∧vs.size=cap*zs z∧n≤cap∧(∀ off,n*zs z≤off→M.G b off=none)∧(z=0→T=nF)
 dY : ∀ t b c z o,s.live t→M.be t=some (b,c,z)→o<s.av.length→M.mu o≠b
 fB : ∀ t t' b c z c' z',s.live t→s.live t'→M.be t=some (b,c,z)→M.be t'=some (b,c',z')→t=t'
structure Ext (M:Map) (s:St) (w:World) (M':Map) (s':St) (w':World):Prop where
 le:Le M s M' s'
 kept : ∀ b,b<w.heap.size→(∀ o,o<s.av.length→M.mu o≠b)→(∀ t c z,s.live t→M.be t≠some (b,c,z))→w'.heap[b]? = w.heap[b]?
 n5 : ∀ o,(s.av.length≤o∨M'.mu o≠M.mu o)→o<s'.av.length→w.heap.size≤M'.mu o
 mR : ∀ t b c z,s'.live t→M'.be t=some (b,c,z)→(s.live t∧∃ c' z',M.be t=some (b,c',z'))∨w.heap.size≤b
 n6 : ∀ b o,M'.G b o≠M.G b o→w.heap.size≤b∨∃ t c z,s.live t∧M.be t=some (b,c,z)
 size:w.heap.size≤w'.heap.size
 os:w'.os=w.os
 tape:w'.tape=w.tape
 output:w'.output=w.output
theorem Ext.refl (M:Map) (s:St) (w:World):Ext M s w M s w:=
 ⟨Le.refl M s,fun _ _ _ _=>rfl,fun o h h'=>by rcases h with h|h;omega;exact(h rfl).elim,fun t b c z h e=> .inl ⟨h,c,z,e⟩,fun _ _ h=>(h rfl).elim,zag _,rfl,rfl,rfl⟩
theorem Ext.mo {M M':Map} {s s':St} {w w':World} (h:Ext M s w M' s' w') {o:Nat} (ho:o<s'.av.length):(o<s.av.length∧M'.mu o=M.mu o)∨w.heap.size≤M'.mu o:=by
 by_cases h1:s.av.length≤o
 ·exact .inr (h.n5 o (.inl h1) ho)
 ·by_cases h2:M'.mu o=M.mu o
  ·exact .inl ⟨by omega,h2⟩
  ·exact .inr (h.n5 o (.inr h2) ho)
theorem Ext.trans {M M' I7:Map} {s s' M4:St} {w w' w'':World} (h:Ext M s w M' s' w') (k:Ext M' s' w' I7 M4 w''):Ext M s w I7 M4 w'':=by
 refine⟨h.le.trans k.le,fun b hb ho ht=>?_,fun o h1 h2=>?_,fun t b c z h1 e=>?_,fun b o dL=>?_,zbb h.size k.size,
  k.os.trans h.os,k.tape.trans h.tape,k.output.trans h.output⟩
 ·rw [k.kept b (Nat.lt_of_lt_of_le hb h.size) (fun o hF e=> ?_) (fun t c z hF e=> ?_),h.kept b hb ho ht]
  ·rcases h.mo hF with ⟨h1,h2⟩ | h1
   ·exact ho o h1 (h2.symm.trans e)
   ·omega
  ·rcases h.mR t b c z hF e with ⟨h1,c',z',e'⟩ | h1
   ·exact ht t c' z' h1 e'
   ·omega
 ·rcases k.mo h2 with ⟨h3,h4⟩ | h3
  ·rw [h4]
   refine h.n5 o ?_ h3
   rcases h1 with h1|h1
   ·exact .inl h1
   ·exact .inr (by rw[h4]at h1;exact h1)
  ·exact zbb h.size h3
 ·rcases k.mR t b c z h1 e with ⟨h2,c',z',e'⟩ | h2
  ·exact h.mR t b c' z' h2 e'
  ·exact .inr (zbb h.size h2)
 ·by_cases e:M'.G b o=M.G b o
  ·have:I7.G b o≠M'.G b o:=fun e'=>dL (e'.trans e)
   rcases k.n6 b o this with h1|⟨t,c,z,h1,h2⟩
   ·exact .inl (zbb h.size h1)
   ·rcases h.mR t b c z h1 h2 with ⟨h3,c',z',e'⟩ | h3
    ·exact .inr ⟨t,c',z',h3,e'⟩
    ·exact .inl h3
  ·exact h.n6 b o e
def Laid (M:Map) (s:St) (w:World):Prop:=∀ g cs,W6 g=some cs→
 (∃ T fr,w.heap[g]? = some (.cells cs T fr))∧(∀ o,o<s.av.length→M.mu o≠g)∧∀ t c z,s.live t→M.be t≠some (g,c,z)
theorem Laid.ext {M M':Map} {s s':St} {w w':World} (h:Laid M s w) (e:Ext M s w M' s' w'):Laid M' s' w':=by
 intro g cs hg
 obtain⟨⟨T,fr,h1⟩,h2,h3⟩:=h g cs hg
 have hF:g<w.heap.size:=(zaN.1 h1).1
 refine⟨⟨T,fr,by rw[e.kept g hF h2 h3];exact h1⟩,fun o ho=>?_,fun t c z hl hb=>?_⟩
 ·rcases e.mo ho with ⟨h4,h5⟩ | h4
  ·rw[h5];exact h2 o h4
  ·omega
 ·rcases e.mR t g c z hl hb with ⟨h4,c',z',h5⟩ | h4
  ·exact h3 t c' z' h4 h5
  ·omega
abbrev Tm:=List (Nat×D)
def Tm.get:Tm→Nat→D
 | [],_=> .junk
 |(k,d)::r,t=>if k=t then d else Tm.get r t
def Tm.set:Tm→Nat→D→Tm
 | [],t,d=> [(t,d)]
 |(k,e)::r,t,d=>if k=t then(k,d)::r else(k,e)::Tm.set r t d
def Tm.put (tm:Tm) (dst:Option Nat) (d:D):Tm:=
 match dst with
 |some t=>tm.set t d
 |none=>tm
inductive X where
 |s (t:Nat)
 |k (d:D)
def X.ev (tm:Tm):X→D
 | .s t=>tm.get t
 | .k d=>d
inductive FO where
 |ofInt (k:FloatKind)
 |toInt (k:IntKind)
 |Qv
 |real
 |imag
 |eq
 |FD
 |M5
inductive AO where
 |mv (x:X)
 |pick (c a b:X)
 |alloc (zero:List D)
 |box (x:X)
 |build (zero:List D) (parts:List (Nat×Nat×X))
 |mS (zero:List D) (size n:Nat) (parts:List (Nat×X))
 |sv (zero:List D) (size n:Nat) (parts:List (Nat×X))
 |xK (x:X)
 |load (x:X) (agg:Bool) (size:Nat)
 |store (p x:X) (size:Nat)
 |AY (x:X)
 |bin (op:BinOp) (x y:X)
 |FE (neg:Bool) (x y:X)
 |eqs (neg:Bool) (ks:List Nat) (x y:X) -- the fields' kinds: 0 an integer, 1 a bool, 2 a text
 |FF (neg:Bool) (x y:X)
 |un (op:UnOp) (x:X)
 |conv (k:IntKind) (x:X)
 |AZ (x:X)
 |uV (x:X)
 |M6 (size:Nat) (x:X) (lo hi:Option X)
 |FG (x:X) (lo hi:Option X)
 |A0 (x:X) (off:Nat)
 |M7 (x:X) (off:Nat) (agg:Bool) (size:Nat)
 |A1 (x i:X) (size:Nat)
 |FH (x i:X)
 |ext (x:X) (i:Nat)
 |len (x:X)
 |FI (x:X)
 |app (size bytes:Nat) (x y:X)
 |mm (isMax:Bool) (x y:X)
 |qR (zero:List D) (T:TypeId) -- a new object whose first cell is to hold its own address
 |xL (x:X) (T:TypeId)
 |xM (x y:X) -- bytes behind others
 |apps (x y:X) -- a text's bytes behind others
 |za (f:Nat) (xs:List X) -- a function value
 |tj
 |xN (m k v:X) -- a text's slice in a map
 |vY (m k:X) (zero:D)
 |xO (size bytes:Nat) (zero:List D) (l c:X) -- a new array of zeros
 |tn (o:FO) (x y:X)
inductive AI where
 |iY (dst:Option Nat) (g:Option (Nat×Bool)) (t:Nat) (xs:List X) -- what a slot holds is called
 |nil (dst:Option Nat) (g:Option (Nat×Bool)) (neg:Bool) (x:X) -- is a slice nil? (of an empty one nothing is known)
 |op (dst:Option Nat) (g:Option (Nat×Bool)) (o:AO)
 |call (dst:Option Nat) (g:Option (Nat×Bool)) (f:Nat) (xs:List X)
inductive AC where
 |skip
 |run (is:List AI)
 |par (is:List AI) (kl:List (Nat×Nat))
 |any (a d:Nat) -- a new box that holds a bool, one or the other, and what it holds
 |seq (a b:AC)
 |cond (x:X) (a b:AC)
 |block (id:Nat) (a:AC)
 |loop (a:AC)
 |exit (id:Nat)
 |scope (a:AC)
 |label (l:Nat)
 |goto (l:Nat)
 |ret
structure AF where
 ntmps:Nat
 results:List (Nat×Option (Bool×Nat)) -- a slot; or a slot that holds the address, whether an aggregate, how many cells
 body:AC
inductive AK where
 |pure
 |load
 |alloc
 |core
 deriving DecidableEq
def AO.kind:AO→AK
 | .alloc _=> .core
 | .box _=> .core
 | .sv .. => .core
 | .xK _=> .core
 | .store .. => .core
 | .app .. => .core
 | .qR .. => .core
 | .xL .. => .core
 | .xM .. => .core
 | .apps .. => .core
 | .tj=> .core
 | .xN .. => .core
 | .xO .. => .core
 | .vY .. => .load
 | .load .. => .load
 |_=> .pure
def AI.kind:AI→AK
 | .op (some _) none (.alloc _)=> .alloc
 | .op _ _ o=>o.kind
 |_=> .core
def AI.dst:AI→Option Nat
 | .op d _ _=>d
 | .call d _ _ _=>d
 | .nil d _ _ _=>d
 | .iY d _ _ _=>d
def X.reads:X→List Nat
 | .s t=> [t]
 | .k _=> []
def l6:List X→List Nat
 | []=> []
 |x::r=>x.reads++l6 r
def xP:Option X→List Nat
 |none=> []
 |some x=>x.reads
def AO.reads:AO→List Nat
 | .mv x=>x.reads
 | .pick c a b=>c.reads++(a.reads++b.reads)
 | .alloc _=> []
 | .box x=>x.reads
 | .build _ ps=>l6 (ps.map (·.2.2))
 | .mS _ _ _ ps=>l6 (ps.map (·.2))
 | .sv _ _ _ ps=>l6 (ps.map (·.2))
 | .xK x=>x.reads
 | .load x _ _=>x.reads
 | .store p x _=>p.reads++x.reads
 | .AY x=>x.reads
 | .bin _ x y=>x.reads++y.reads
 | .FE _ x y=>x.reads++y.reads
 | .eqs _ _ x y=>x.reads++y.reads
 | .FF _ x y=>x.reads++y.reads
 | .un _ x=>x.reads
 | .conv _ x=>x.reads
 | .AZ x=>x.reads
 | .uV x=>x.reads
 | .M6 _ x lo hi=>x.reads++(xP lo++xP hi)
 | .FG x lo hi=>x.reads++(xP lo++xP hi)
 | .A0 x _=>x.reads
 | .M7 x _ _ _=>x.reads
 | .A1 x i _=>x.reads++i.reads
 | .FH x i=>x.reads++i.reads
 | .ext x _=>x.reads
 | .len x=>x.reads
 | .FI x=>x.reads
 | .app _ _ x y=>x.reads++y.reads
 | .mm _ x y=>x.reads++y.reads
 | .qR _ _=> []
 | .xL x _=>x.reads
 | .xM x y=>x.reads++y.reads
 | .apps x y=>x.reads++y.reads
 | .za _ xs=>l6 xs
 | .tj=> []
 | .xN m k v=>m.reads++(k.reads++v.reads)
 | .vY m k _=>m.reads++k.reads
 | .xO _ _ _ l c=>l.reads++c.reads
 | .tn _ x y=>x.reads++y.reads
def sw:Option (Nat×Bool)→List Nat
 |none=> []
 |some (t,_)=> [t]
def AI.reads:AI→List Nat
 | .op _ g o=>sw g++o.reads
 | .call _ g _ xs=>sw g++l6 xs
 | .nil _ g _ x=>sw g++x.reads
 | .iY _ g t xs=>sw g++(t::l6 xs)
def A3 (d:Option Nat) (l:List Nat):Bool:=
 match d with
 |none=>true
 |some t=> !l.contains t
def AI.apart (a q:AI):Bool:=
 A3 a.dst q.reads && A3 q.dst a.reads && (match a.dst,q.dst with|some x,some y=>x != y|_,_=>true)
def gn (l:List (List Nat)) (i:Nat):List Nat:=l.getD i []
def gX (is:List AI) (i:Nat):AK:=
 match is[i]? with
 |some a=>a.kind
 |none=> .core
def jS (is:List AI) (i j:Nat):Bool:=
 match is[i]?,is[j]? with
 |some a,some b=>a.apart b
 |_,_=>false
def gd:AK→Bool
 | .core=>true
 | .alloc=>true
 |_=>false
def iE (is:List AI) (l:List Nat):Nat:=(l.filter fun i=>gd (gX is i)).length
def jN (is:List AI) (pq:List Nat):List Nat→Bool
 | []=>true
 |a::r=>(!(gX is a == .alloc && pq.contains a) ||r.all pq.contains) && jN is pq r
def mT (is:List AI) (pt:List (List Nat)) (pre:List Nat) (q b:Nat):Bool:=
 match gX is q with
 | .core=>pre.all (gn pt q).contains
 | .alloc=>pre.all fun a=>jS is a q
 | .pure=>(pre.all fun a=>(gn pt q).contains a ||jS is a q) && jN is (gn pt q) pre
 | .load=>(pre.all fun a=>(gn pt q).contains a ||jS is a q) && jN is (gn pt q) pre &&
  decide (iE is (pre.filter fun a=> !(gn pt q).contains a)≤b)
def rK (is:List AI) (af pt:List (List Nat)):List Nat→List (Nat×Nat)→Bool
 |_,[]=>true
 |pre,(q,b)::r=>mT is pt pre q b && !pre.contains q && ((gn af q).all fun j=>j != q && !(r.map (·.1)).contains j) && rK is af pt (q::pre) r
def uW (af pt:List (List Nat)):Nat→Bool
 | 0=>true
 |i+1=>((gn pt i).all fun j=>(gn af i).contains j ||(gn af i).any fun k=>(gn pt k).contains j) && uW af pt i
def A4 (is:List AI) (af pt:List (List Nat)) (kl:List (Nat×Nat)):Bool:=
 uW af pt is.length && rK is af pt [] kl && (List.range is.length).all (kl.map (·.1)).contains && kl.all (fun p=>decide (p.1<is.length)) &&
  (List.range is.length).all fun i=>(gn af i).all fun j=>decide (j<is.length)
def gL (o:Oper):List Nat:=(o.after.toList.filter (Region.binds .any)).map (·.on)
def A5:List (List Nat)→List (List Nat)→List (List Nat)
 |done,[]=>done
 |done,es::r=>A5 (done++ [(es.flatMap fun k=>gn done k).foldl (fun l j=>if l.contains j then l else l++ [j]) es]) r
def J5 (is:List AI) (pt:List (List Nat)):List Nat→List Nat→List Nat→List Nat
 | [],rest,out=>out++((rest.filter fun j=>gX is j == .alloc)++rest.filter fun j=> !(gX is j == .alloc))
 |c::cs,rest,out=>
  let ux:=rest.filter fun j=>(gn pt c).contains j
  J5 is pt cs (rest.filter fun j=> !(ux.contains j) && j != c) (out++((ux.filter fun j=>gX is j == .alloc)++(ux.filter fun j=> !(gX is j == .alloc))++ [c]))
def J6 (is:List AI) (pt:List (List Nat)):List Nat→List Nat→List (Nat×Nat)
 |_,[]=> []
 |pre,q::r=>(q,if gX is q == .load then iE is (pre.filter fun a=> !(gn pt q).contains a)else 0)::J6 is pt (q::pre) r
def FJ (is:List AI) (af:List (List Nat)):List (Nat×Nat):=
 let pt:=A5 [] af
 let all:=List.range is.length
 J6 is pt [] (J5 is pt (all.filter fun i=>gX is i == .core) all [])
def D.row:D→Option (List D)
 | .agg cs=>some cs
 | .junk=>none
 | .tuple _=>none
 |d=>some [d]
def part (cs:List D) (off:Nat) (agg:Bool) (size:Nat):Option D:=
 match agg with
 |true=>if off+size≤cs.length then some (.agg ((cs.drop off).take size))else none
 |false=>cs[off]?
def eH (cs:List D) (off:Nat) (r:List D):List D:=cs.take off++r++cs.drop (off+r.length)
def pd (cells:List D):List (Nat×Nat×D)→Option (List D)
 | []=>some cells
 |(off,size,d)::rest=>
  match d.row with
  |none=>none
  |some r=>if r.length=size∧off+size≤cells.length then pd (eH cells off r) rest else none
def fC (zero:List D):Nat→List (List D)
 | 0=> []
 |n+1=>zero::fC zero n
def iR (size:Nat) (rows:List (List D)):List (Nat×D)→Option (List (List D))
 | []=>some rows
 |(i,d)::rest=>
  match d.row with
  |none=>none
  |some r=>if r.length=size∧i<rows.length then iR size (rows.set i r) rest else none
def bytesLess:List UInt8→List UInt8→Bool:=Op.bytesLess
def aT:Nat:=1099511627776
def W7 (k:IntKind) (a b:Int):Int:=k.wrap ((BitVec.ofInt k.bits a &&& BitVec.ofInt k.bits b).toNat)
def bOr (k:IntKind) (a b:Int):Int:=k.wrap ((BitVec.ofInt k.bits a |||BitVec.ofInt k.bits b).toNat)
def FK (k:IntKind) (a b:Int):Int:=k.wrap ((BitVec.ofInt k.bits a ^^^ BitVec.ofInt k.bits b).toNat)
def W8 (k:IntKind) (a b:Int):Int:=k.wrap (a*2 ^ (min b.toNat k.bits))
def W9 (k:IntKind) (a b:Int):Int:=a.fdiv (2 ^ (min b.toNat k.bits))
def eQ (op:BinOp) (k:IntKind) (a b:Int):Option D:=
 match op with
 | .add=>some (.int k (k.wrap (a+b)))
 | .sub=>some (.int k (k.wrap (a - b)))
 | .mul=>some (.int k (k.wrap (a*b)))
 | .quo=>if b=0 then none else some (.int k (k.wrap (a.tdiv b)))
 | .rem=>if b=0 then none else some (.int k (a.tmod b))
 | .eql=>some (.bool (a==b))
 | .neq=>some (.bool (a != b))
 | .lss=>some (.bool (decide (a<b)))
 | .leq=>some (.bool (decide (a≤b)))
 | .gtr=>some (.bool (decide (a > b)))
 | .geq=>some (.bool (decide (a≥b)))
 | .and=>some (.int k (W7 k a b))
 | .or=>some (.int k (bOr k a b))
 | .xor=>some (.int k (FK k a b))
 | .shl=>if b<0 then none else some (.int k (W8 k a b))
 | .shr=>if b<0 then none else some (.int k (W9 k a b))
 |_=>none
def jz (op:BinOp) (a b:List UInt8):Option D:=
 match op with
 | .add=>if a.length+b.length≤aT then some (.str (a++b))else none
 | .eql=>some (.bool (a==b))
 | .neq=>some (.bool (!(a==b)))
 | .lss=>some (.bool (bytesLess a b))
 |_=>none
def mz (op:BinOp) (x y:D):Option D:=
 match x,y with
 | .int k a, .int k' b=>if k=k' then eQ op k a b else none
 | .str a, .str b=>jz op a b
 |_,_=>none
def lb:Nat→D→D→Option Bool
 | 0, .int k a, .int k' b=>if k=k' then some (a==b)else none
 | 1, .bool a, .bool b=>some (a==b)
 | 2, .str a, .str b=>some (a==b)
 |_,_,_=>none
def jT:List Nat→List D→List D→Option Bool
 | [],[],[]=>some true
 |k::ks,x::xs,y::ys=>
  match lb k x y with
  |none=>none
  |some true=>jT ks xs ys
  |some false=>some false
 |_,_,_=>none
def DF (op:UnOp) (x:D):Option D:=
 match op,x with
 | .neg, .int k n=>some (.int k (k.wrap (0 - n)))
 | .not, .bool b=>some (.bool (!b))
 | .xor, .int k n=>some (.int k (FK k (if k.signed then -1 else k.max) n))
 |_,_=>none
def DG:List D→Option UInt8
 | [.int .u8 n]=>some (UInt8.ofNat n.toNat)
 |_=>none
def mj:List (List D)→Option (List UInt8)
 | []=>some []
 |r::rs=>
  match DG r,mj rs with
  |some b,some bs=>some (b::bs)
  |_,_=>none
def Tag.cut (g:Tag) (whole:Bool):Tag:=
 match g with
 | .full=>if whole then .full else .shared
 |g=>g
def tq (lo:Option D):Option Int:=
 match lo with
 |none=>some 0
 |some (.int _ n)=>some n
 |_=>none
def tr (hi:Option D) (len:Nat):Option Int:=
 match hi with
 |none=>some len
 |some (.int _ n)=>some n
 |_=>none
def gV (size bytes:Nat) (x y:D) (s:St):Option (D×St):=
 match x,y with
 | .slice g z rows, .slice _ z' new=>
  if(rows = []∨z=size)∧(new = []∨z'=size)∧(rows.length+new.length)*(bytes+1)≤aT then
   match new with
   | []=>some (.slice g z rows,s)
   |_::_=>
    match g with
    | .full=>some (.slice (.tok s.aw.length) size (rows++new),{s with aw:=s.aw++ [some (rows.length+new.length)]})
    | .shared=>none
    | .tok _ true=>none
    | .tok t false=>if z=size∧s.aw[t]? = some (some rows.length)then some (.slice (.tok t) size (rows++new),{s with aw:=s.aw.set t (some (rows.length+new.length))})else none
  else none
 |_,_=>none
def xQ (x y:D) (s:St):Option (D×St):=
 match x,y with
 | .slice g z rows, .slice _ z' new=>
  if(rows = []∨z=1)∧(new = []∨z'=1)∧(rows.length+new.length)*2≤aT then
   match new with
   | []=>some (.slice g z rows,s)
   |_::_=>
    match g with
    | .full=>some (.slice (.tok s.aw.length true) 1 (rows++new),{s with aw:=s.aw++ [some (rows.length+new.length)]})
    | .shared=>none
    | .tok t y=>if z=1∧s.aw[t]? = some (some rows.length)then some (.slice (.tok t y) 1 (rows++new),{s with aw:=s.aw.set t (some (rows.length+new.length))})else none
  else none
 |_,_=>none
def vZ (key:List UInt8) (zero:D):List D→Option D
 | []=>some zero
 | .str k::d::r=>if k==key then some d else vZ key zero r
 |_=>none
def uy (key:List UInt8) (v:D):List D→Option (List D)
 | []=>some [.str key,v]
 | .str k::d::r=>if k==key then some (.str k::v::r)else match uy key v r with|some r'=>some (.str k::d::r')|none=>none
 |_=>none
def lP (s:St) (o g:Nat):Option (List D):=
 match s.av[o]? with
 |some (.int .i64 n::cells)=>if n=(g:Int)then some cells else none
 |_=>none
def v7 (d:D) (agg:Bool) (size:Nat) (s:St):Option (D×St):=
 match d with
 | .ew o g off=>
  match lP s o g with
  |some cells=>(match part cells off agg size with|some d=>some (d,s)|none=>none)
  |none=>none
 |_=>none
def xR (d:D) (r:Option (List D)) (size:Nat) (s:St):Option (D×St):=
 match d,r with
 | .ew o g off,some r=>match lP s o g with
  |some cells=>if r.length=size∧off+size≤cells.length then some (.tuple [],{s with av:=s.av.set o (.int .i64 g::eH cells off r)})else none
  |none=>none
 |_,_=>none
def J7 (d:D):Option D:=
 match d with
 | .ew o g off=>some (.ew o g off)
 |_=>none
def A6 (d:D) (off:Nat):Option D:=
 match d with
 | .ew o g k=>some (.ew o g (k+off))
 |_=>none
def oe (d e:D) (size:Nat):Option D:=
 match d,e with
 | .bX z o g len, .int _ n=>if 0≤n∧n<len∧z=size then some (.ew o g (n.toNat*z))else none
 |_,_=>none
def J8 (d:D) (lo hi:Option D):Option D:=
 match d with
 | .bX z o g len=>
  match tq lo,tr hi len with
  |some l,some h=>if l=0∧0≤h∧h≤len then some (.bX z o g h.toNat)else none
  |_,_=>none
 | .dj z=>
  match tq lo,tr hi 0 with
  |some l,some h=>if l=0∧h=0 then some (.dj z)else none
  |_,_=>none
 |_=>none
def CK (d:D):Option D:=
 match d with
 | .bX _ _ _ len=>some (.int .i64 len)
 | .dj _=>some (.int .i64 0)
 |_=>none
def xS (size bytes:Nat) (x y:D) (s:St):Option (D×St):=
 match x,y with
 | .bX z o g len, .slice _ z' new=>
  if z=size∧(new = []∨z'=size)∧(len+new.length)*(bytes+1)≤aT then
   match new with
   | []=>some (.bX z o g len,s)
   |_::_=>match lP s o g with
    |some cells=>if len*z≤cells.length then some (.bX z o (g+1) (len+new.length),{s with av:=s.av.set o (.int .i64 ((g+1:Nat):Int)::(cells.take (len*z)++new.flatten))})else none
    |none=>none
  else none
 | .dj z, .slice _ z' new=>
  if z=size∧(new = []∨z'=size)∧new.length*(bytes+1)≤aT then
   match new with
   | []=>some (.dj z,s)
   |_::_=>some (.bX z s.av.length 0 new.length,{s with av:=s.av++ [.int .i64 ((0:Nat):Int)::new.flatten]})
  else none
 |_,_=>none
def Qx (k:FloatKind) (a b:Nat):Option Nat:=k.format.add a b
def sx (o:FO) (x y:D):Option D:=
 match o,x,y with
 | .ofInt k, .int _ n,_=>some (.val (.float k (k.nearest n)))
 | .toInt k, .val (.float s b),_=>match (s.decode b).toInt .zero with|some n=>if k.min≤n∧n≤k.max then some (.int k n)else none|none=>none
 | .Qv, .val (.float k a), .val (.float k' b)=>if k=k' then some (.val (.complex k a b))else none
 | .real, .val (.complex k a _),_=>some (.val (.float k a))
 | .imag, .val (.complex k _ b),_=>some (.val (.float k b))
 | .eq, .val (.float k a), .val (.float k' b)=>if k=k' then some (.bool (k.format.order a b==some .eq))else none
 | .FD, .val (.complex k a b), .val (.complex k' c d)=>if k=k' then(match Qx k a c,Qx k b d with|some e,some f=>some (.val (.complex k e f))|_,_=>none)else none
 | .M5, .val (.complex k a b), .val (.complex k' c d)=>if k=k' then some (.bool (k.format.order a c==some .eq && k.format.order b d==some .eq))else none
 |_,_,_=>none
def aU (o:AO) (tm:Tm) (s:St):Option (D×St):=
 match o with
 | .mv x=>some (x.ev tm,s)
 | .pick c a b=>
  match c.ev tm with
  | .bool t=>some (if t then a.ev tm else b.ev tm,s)
  |_=>none
 | .alloc zero=>some (.ptr s.av.length 0,{s with av:=s.av++ [zero]})
 | .box x=>
  match (x.ev tm).row with
  |some r=>some (.ptr s.av.length 0,{s with av:=s.av++ [r]})
  |none=>none
 | .build zero parts=>
  match pd zero (parts.map fun p=>(p.1,p.2.1,p.2.2.ev tm))with
  |some cs=>some (.agg cs,s)
  |none=>none
 | .mS zero size n parts=>
  match iR size (fC zero n) (parts.map fun p=>(p.1,p.2.ev tm))with
  |some rows=>some (.slice .full size rows,s)
  |none=>none
 | .sv zero size n parts=>
  match iR size (fC zero n) (parts.map fun p=>(p.1,p.2.ev tm))with
  |some rows=>some (.slice (.tok s.aw.length) size rows,{s with aw:=s.aw++ [some rows.length]})
  |none=>none
 | .xK x=>
  match x.ev tm with
  | .slice (.tok t _) z rows=>if rows≠ []∧s.aw[t]? = some (some rows.length)then some (.slice .shared z rows,{s with aw:=s.aw.set t none})else none
  |_=>none
 | .load x agg size=>
  match x.ev tm with
  | .ptr o off=>
   match s.av[o]? with
   |some cs=>match part cs off agg size with|some d=>some (d,s)|none=>none
   |none=>none
  | .dr row off=>match part row off agg size with|some d=>some (d,s)|none=>none
  |d=>v7 d agg size s
 | .store p x size=>
  match p.ev tm,(x.ev tm).row with
  | .ptr o off,some r=>
   match s.av[o]? with
   |some cs=>if r.length=size∧off+size≤cs.length then some (.tuple [],{s with av:=s.av.set o (eH cs off r)})else none
   |none=>none
  |d,r=>xR d r size s
 | .AY x=>
  match x.ev tm with
  | .ptr o off=>some (.ptr o off,s)
  | .dr row off=>some (.dr row off,s)
  |d=>match J7 d with|some d=>some (d,s)|none=>none
 | .bin op x y=>match mz op (x.ev tm) (y.ev tm)with|some d=>some (d,s)|none=>none
 | .FE neg x y=>
  match x.ev tm,y.ev tm with
  | .bool a, .bool b=>some (.bool (if neg then !(a==b)else a==b),s)
  |_,_=>none
 | .eqs neg ks x y=>
  match x.ev tm,y.ev tm with
  | .agg a, .agg b=>match jT ks a b with|some e=>some (.bool (if neg then !e else e),s)|none=>none
  |_,_=>none
 | .FF neg x y=>
  match x.ev tm,y.ev tm with
  | .er, .er=>some (.bool (!neg),s)
  | .ptr _ _, .er=>some (.bool neg,s)
  | .dr _ _, .er=>some (.bool neg,s)
  |_,_=>none
 | .un op x=>match DF op (x.ev tm)with|some d=>some (d,s)|none=>none
 | .conv k x=>match x.ev tm with| .int _ n=>some (.int k (k.wrap n),s)|_=>none
 | .AZ x=>
  match x.ev tm with
  | .slice _ _ rows=>match mj rows with|some b=>some (.str b,s)|none=>none
  |_=>none
 | .uV x=>
  match x.ev tm with
  | .str l=>some (.slice .shared 1 (l.map fun c=> [.int .u8 c.toNat]),s)
  |_=>none
 | .M6 size x lo hi=>
  match x.ev tm with
  | .slice g z rows=>
   match tq (lo.map (·.ev tm)),tr (hi.map (·.ev tm)) rows.length with
   | some l,some h=>
    if(rows = []∨z=size)∧0≤l∧l≤h∧h≤rows.length then
     some (.slice (if l=0 then g.cut (h=rows.length)else .shared) z ((rows.take h.toNat).drop l.toNat),s)else none
   |_,_=>none
  |d=>match J8 d (lo.map (·.ev tm)) (hi.map (·.ev tm))with|some d=>some (d,s)|none=>none
 | .FG x lo hi=>
  match x.ev tm with
  | .str t=>
   match tq (lo.map (·.ev tm)),tr (hi.map (·.ev tm)) t.length with
   |some l,some h=>if 0≤l∧l≤h∧h≤t.length then some (.str ((t.take h.toNat).drop l.toNat),s)else none
   |_,_=>none
  |_=>none
 | .A0 x off=>
  match x.ev tm with
  | .ptr o k=>some (.ptr o (k+off),s)
  | .dr row k=>some (.dr row (k+off),s)
  |d=>match A6 d off with|some d=>some (d,s)|none=>none
 | .M7 x off agg size=>
  match x.ev tm with
  | .agg cs=>match part cs off agg size with|some d=>some (d,s)|none=>none
  |_=>none
 | .A1 x i size=>
  match x.ev tm,i.ev tm with
  | .slice _ z rows, .int _ n=>
   if 0≤n∧z=size then
    match rows[n.toNat]? with
    |some row=>some (.dr row 0,s)
    |none=>none
   else none
  |d,e=>match oe d e size with|some d=>some (d,s)|none=>none
 | .FH x i=>
  match x.ev tm,i.ev tm with
  | .str t, .int _ n=>
   if 0≤n then
    match t[n.toNat]? with
    |some c=>some (.int .u8 c.toNat,s)
    |none=>none
   else none
  |_,_=>none
 | .ext x i=>
  match x.ev tm with
  | .tuple ds=>match ds[i]? with|some d=>some (d,s)|none=>none
  |_=>none
 | .FI x=>
  match x.ev tm with
  | .str t=>some (.int .i64 t.length,s)
  |_=>none
 | .len x=>
  match x.ev tm with
  | .slice _ _ rows=>some (.int .i64 rows.length,s)
  |d=>match CK d with|some d=>some (d,s)|none=>none
 | .app size bytes x y=>
  match x.ev tm with
  | .slice g z rows=>gV size bytes (.slice g z rows) (y.ev tm) s
  |d=>xS size bytes d (y.ev tm) s
 | .mm isMax x y=>
  match x.ev tm,y.ev tm with
  | .int k a, .int k' b=>if k=k' then some (.int k (if isMax then(if b > a then b else a)else(if b<a then b else a)),s)else none
  |_,_=>none
 | .qR zero T=>
  match zero with
  | .er::r=>some (.ptr s.av.length 0,{s with av:=s.av++ [.eC T s.av.length::r]})
  |_=>none
 | .xL x T=>
  match (x.ev tm).row with
  |some (.er::r)=>some (.ptr s.av.length 0,{s with av:=s.av++ [.eC T s.av.length::r]})
  |_=>none
 | .xM x y=>xQ (x.ev tm) (y.ev tm) s
 | .apps x y=>
  match y.ev tm with
  | .str l=>xQ (x.ev tm) (.slice .shared 1 (l.map fun c=> [.int .u8 c.toNat])) s
  |_=>none
 | .za f xs=>some (.fL f (xs.map (·.ev tm)),s)
 | .tj=>some (.fA s.av.length,{s with av:=s.av++ [[]]})
 | .xN m k v=>
  match m.ev tm,k.ev tm,v.ev tm with
  | .fA o, .str key, .slice g z rows=>
   match s.av[o]? with
   |some cs=>match uy key (.slice g z rows) cs with|some iF=>some (.tuple [],{s with av:=s.av.set o iF})|none=>none
   |none=>none
  |_,_,_=>none
 | .vY m k zero=>
  match m.ev tm,k.ev tm with
  | .fA o, .str key=>
   match s.av[o]? with
   |some cs=>match vZ key zero cs with|some d=>some (d,s)|none=>none
   |none=>none
  |_,_=>none
 | .xO size bytes zero l c=>
  match l.ev tm,c.ev tm with
  | .int .i64 n, .int .i64 m=>if n=m∧0≤n∧n*((bytes:Int)+1)≤aT then some (.bX size s.av.length 0 n.toNat,{s with av:=s.av++ [.int .i64 ((0:Nat):Int)::(fC zero n.toNat).flatten]})else none
  |_,_=>none
 | .tn o x y=>match sx o (x.ev tm) (y.ev tm)with|some d=>some (d,s)|none=>none
def Qy (b:ByteArray):List UInt8:=b.data.toList
def qd:Value→Option D
 | .int k n=>some (.int k n)
 | .bool b=>some (.bool b)
 | .string b=>some (.str (Qy b))
 | .pointer none=>some .er
 | .slice none 0 0=>some (.slice .full 0 [])
 | .nilIface=>some (.val .nilIface)
 | .float k b=>some (.val (.float k b))
 | .complex k a b=>some (.val (.complex k a b))
 |_=>none
def lQ:List Value→Option (List D)
 | []=>some []
 |v::r=>match qd v,lQ r with|some d,some ds=>some (d::ds)|_,_=>none
def Ak:Value→Option D
 | .slice none 0 0=>some (.val (.slice none 0 0))
 |v=>qd v
def tt:List Value→Option (List D)
 | []=>some []
 |v::r=>match Ak v,tt r with|some d,some ds=>some (d::ds)|_,_=>none
def J9:Value→Option D
 | .agg cs=>(lQ cs.toList).map .agg
 | .tuple ⟨[]⟩=>some (.tuple [])
 |v=>qd v
def cX:Operand→Option X
 | .tmp t=>some (.s t)
 | .const v=>(J9 v).map .k
 | .func f=>some (.k (.fL f []))
 |_=>none
def uX:List Operand→Option (List X)
 | []=>some []
 |x::r=>match cX x,uX r with|some d,some ds=>some (d::ds)|_,_=>none
def TF:Option Operand→Option (Option X)
 |none=>some none
 |some x=>(cX x).map some
section
variable (P:Program)
def pe (t:TypeId):Option Bool:=
 match P.underlying t with
 |some (.struct _)|some (.array _ _)=>some true
 |some _=>some false
 |none=>none
def zeroOf (t:TypeId):Option (List D):=
 match P.info? t with
 |some i=>match i.zero with|some z=>if z.cells.size=i.size then lQ z.cells.toList else none|none=>none
 |none=>none
def kS (t:TypeId) (f:Nat):Option (Nat×Nat×Bool):=
 match P.underlying t with
 | some (.struct fs)=>
  match fs[f]? with
  |some fd=>match P.info? fd.type,pe P fd.type with
   |some i,some a=>if i.size=0 then none else some (fd.offset,i.size,a)
   |_,_=>none
  |none=>none
 |_=>none
def M8 (t u:TypeId):Bool:=
 match P.underlying u with
 |some (.pointer e)=>e==t
 |_=>false
def Xa (t:TypeId):Bool:=
 match P.underlying t with
 |some (.struct fs)=>
  match fs[0]? with
  |some f=>M8 P t f.type
  |none=>false
 |_=>false
def Ka (t:TypeId):Bool:=
 match P.underlying t with
 |some (.struct fs)=>
  match fs[0]? with
  |some f=>M8 P t f.type ||Xa P f.type
  |none=>false
 |_=>false
def Kb (self:Bool) (l:List Value):Option (List D):=if self then tt l else lQ l
def v8 (t:TypeId):Option (List D):=
 match P.info? t with
 |some i=>match i.zero with|some z=>if z.cells.size=i.size then Kb (Ka P t) z.cells.toList else none|none=>none
 |none=>none
def xT (t:TypeId):List (Nat×Operand)→Option (List (Nat×Nat×X))
 | []=>some []
 |(i,x)::r=>match kS P t i,cX x,xT t r with
  |some (off,size,_),some x',some r'=>some ((off,size,x')::r')
  |_,_,_=>none
def FM:List (Nat×Operand)→Option (List (Nat×X))
 | []=>some []
 |(i,x)::r=>match cX x,FM r with
  |some x',some r'=>some ((i,x')::r')
  |_,_=>none
def jA (t:TypeId):Option Nat:=
 match P.underlying t with
 |some (.int _)=>some 0
 |some .bool=>some 1
 |some .string=>some 2
 |_=>none
def zb:Nat→List Field→Option (List Nat)
 |_,[]=>some []
 | n,f::fs=>
  if f.offset=n∧f.name≠ "_" then
   match jA P f.type,zb (n+1) fs with
   |some k,some ks=>some (k::ks)
   |_,_=>none
  else none
def og (t:TypeId):Option (List Nat):=
 match P.underlying t with
 |some (.struct fs)=>if P.eqGuardType P.depth t=false∧P.stoodInHeld t=false then zb P 0 fs.toList else none
 |_=>none
def A7 (o:Oper):Option AO:=
 match o.op with
 | .move x| .assign x=>(cX x).map .mv
 | .pick c a b=>match cX c,cX a,cX b with|some c,some a,some b=>some (.pick c a b)|_,_,_=>none
 | .alloc t=>if Ka P t then(v8 P t).map (.qR · t)else(zeroOf P t).map .alloc
 | .box t x=>if Ka P t then(cX x).map (.xL · t)else(cX x).map .box
 | .build t parts=>
  match P.underlying t,v8 P t,xT P t parts.toList with
  |some (.struct fs),some z,some ps=>if fs.toList.all fun f=>(P.info? f.type).isSome then some (.build z ps)else none
  |_,_,_=>none
 | .buildSlice t n parts=>
  match P.underlying t with
  |some (.slice e)=>
   match P.info? e,zeroOf P e,FM parts.toList with
   |some i,some z,some ps=>if 0<i.size∧n*i.size≤65536 then some (.mS z i.size n ps)else none
   |_,_,_=>none
  |_=>none
 | .load t x=>
  match cX x,pe P t,P.info? t with
  |some x,some a,some i=>some (.load x a i.size)
  |_,_,_=>none
 | .store t a x=>
  match cX a,cX x,P.info? t with
  |some a,some x,some i=>some (.store a x i.size)
  |_,_,_=>none
 | .nilCheck x=>(cX x).map .AY
 | .binOp op t x y _=>
  match cX x,cX y with
  |some x,some y=>
   match P.underlying t,op with
   |some (.int _),_=>some (.bin op x y)
   |some .string,_=>some (.bin op x y)
   |some .bool, .eql=>some (.FE false x y)
   |some .bool, .neq=>some (.FE true x y)
   |some (.pointer _), .eql=>some (.FF false x y)
   |some (.pointer _), .neq=>some (.FF true x y)
   |some (.struct _), .eql=>(og P t).map (.eqs false · x y)
   |some (.struct _), .neq=>(og P t).map (.eqs true · x y)
   |some (.float _), .eql=>some (.tn .eq x y)
   |some (.complex _), .add=>some (.tn .FD x y)
   |some (.complex _), .eql=>some (.tn .M5 x y)
   |_,_=>none
  |_,_=>none
 | .unOp op _ x=>(cX x).map (.un op)
 | .convert src dst x=>
  match cX x,P.underlying src,P.underlying dst with
  |some x,some (.int _),some (.int k)=>some (.conv k x)
  |some x,some (.slice e),some .string=>match P.underlying e with|some (.int .u8)=>some (.AZ x)|_=>none
  |some x,some (.slice e),some (.slice _)=>match P.underlying e with|some (.int .u8)=>if src=dst then some (.xK x)else none|_=>none
  |some x,some .string,some (.slice e)=>match P.underlying e,P.info? e with|some (.int .u8),some i=>if i.size=1 then some (.uV x)else none|_,_=>none
  |some x,some (.int _),some (.float k)=>some (.tn (.ofInt k) x x)
  |some x,some (.float _),some (.int k)=>some (.tn (.toInt k) x x)
  |_,_,_=>none
 | .slice t x lo hi none=>
  match cX x,TF lo,TF hi,P.underlying t with
  |some x,some lo,some hi,some .string=>some (.FG x lo hi)
  |some x,some lo,some hi,some (.slice e)=>match P.info? e with|some i=>some (.M6 i.size x lo hi)|none=>none
  |_,_,_,_=>none
 | .fieldAddr t x f=>match cX x,kS P t f with|some x,some (off,_,_)=>some (.A0 x off)|_,_=>none
 | .field t x f=>match cX x,kS P t f with|some x,some (off,size,a)=>some (.M7 x off a size)|_,_=>none
 | .indexAddr t x i=>
  match cX x,cX i,P.underlying t with
  |some x,some i,some (.slice e)=>match P.info? e with|some j=>if 0<j.size then some (.A1 x i j.size)else none|none=>none
  |_,_,_=>none
 | .index t x i=>match cX x,cX i,P.underlying t with|some x,some i,some .string=>some (.FH x i)|_,_,_=>none
 | .extract x i=>(cX x).map (.ext · i)
 | .call {callee:= .builtin .len,args,argTypes}=>
  match args.toList,argTypes.toList with
  | [x],[t]=>match P.underlying t with
   |some .string=>(cX x).map .FI
   |some (.slice _)=>(cX x).map .len
   |_=>none
  |_,_=>none
 | .call {callee:= .builtin .append,args,argTypes}=>
  match args.toList,argTypes.toList with
  | [x,y],[t,u]=>match P.underlying t,P.underlying u,cX x,cX y with
   |some (.slice e),some (.slice _),some x,some y=>match P.info? e,zeroOf P e with
    |some i,some _=>if 0<i.size then some (if e=nF∧i.size=1∧i.bytes=1 then .xM x y else .app i.size i.bytes x y)else none
    |_,_=>none
   |some (.slice e),some .string,some x,some y=>match P.info? e,zeroOf P e with
    |some i,some _=>if e=nF∧i.size=1∧i.bytes=1 then some (.apps x y)else none
    |_,_=>none
   |_,_,_,_=>none
  |_,_=>none
 | .call {callee:= .builtin .max,args, ..}=>
  match args.toList with
  | [x,y]=>match cX x,cX y with|some x,some y=>some (.mm true x y)|_,_=>none
  |_=>none
 | .call {callee:= .builtin .min,args, ..}=>
  match args.toList with
  | [x,y]=>match cX x,cX y with|some x,some y=>some (.mm false x y)|_,_=>none
  |_=>none
 | .call {callee:= .builtin .complex,args, ..}=>
  match args.toList with
  | [x,y]=>match cX x,cX y with|some x,some y=>some (.tn .Qv x y)|_,_=>none
  |_=>none
 | .call {callee:= .builtin .real,args, ..}=>
  match args.toList with
  | [x]=>(cX x).map fun x=> .tn .real x x
  |_=>none
 | .call {callee:= .builtin .imag,args, ..}=>
  match args.toList with
  | [x]=>(cX x).map fun x=> .tn .imag x x
  |_=>none
 | .makeSlice t l c=>
  match cX l,cX c,P.underlying t with
  |some l,some c,some (.slice e)=>match P.info? e,zeroOf P e with
   |some i,some z=>if 0<i.size then some (.xO i.size i.bytes z l c)else none
   |_,_=>none
  |_,_,_=>none
 | .makeFunc (.func f) first captured=>if first.size=0 then(uX captured.toList).map (.za f)else none
 | .makeMap t none=>match P.underlying t with|some (.map _ _)=>some .tj|_=>none
 | .mapUpdate t m k v=>
  match P.underlying t,cX m,cX k,cX v with
  |some (.map kt _),some m,some k,some v=>match P.underlying kt with|some .string=>some (.xN m k v)|_=>none
  |_,_,_,_=>none
 | .lookup t m k false=>
  match P.underlying t,cX m,cX k with
  |some (.map kt e),some m,some k=>
   match P.underlying kt,P.info? e with
   |some .string,some i=>match i.zero with|some z=>(qd z).map (.vY m k)|none=>none
   |_,_=>none
  |_,_,_=>none
 |_=>none
def sy (ops:Array Oper):Option (Nat×Bool)→Option (Option (Nat×Bool))
 |none=>some none
 |some (j,b)=>
  match (ops[j]?).bind (·.dst)with
  |some t=>some (some (t,b))
  |none=>none
def enters (f:FuncId):Bool:=
 match P.funcs[f]? with
 |some fn=>fn.body.isSome && !(fn.name == "runtime.NumGoroutine")
 |none=>false
def frozenIn (ops:Array Oper) (dst:Option Nat):Bool:=
 ops.toList.any fun o=>match o.op,dst with
  | .convert s d (.tmp t),some t'=>t==t' && s==d
  |_,_=>false
def CN (o:Oper):Option (Bool×X):=
 match o.op with
 | .binOp op t x (.const (.slice none 0 0)) _=>
  match P.underlying t,op,cX x with
  |some (.slice _), .eql,some x=>some (false,x)
  |some (.slice _), .neq,some x=>some (true,x)
  |_,_,_=>none
 |_=>none
def TG (nt:Nat) (dst:Option Nat):Bool:=
 match dst with
 |some d=>decide (d<nt)
 |none=>true
def qw (ops:Array Oper) (o:Oper) (g:Option (Nat×Bool)):Option AI:=
 match o.op with
 | .call {callee:= .value (.func f),args, ..}=>if enters P f then(uX args.toList).map (.call o.dst g f)else none
 | .call {callee:= .value (.tmp t),args, ..}=>(uX args.toList).map (.iY o.dst g t)
 | _=>
  match CN P o with
  |some (neg,x)=>some (.nil o.dst g neg x)
  |none=>
   match A7 P o with
   |some (.mS z k n ps)=>some (.op o.dst g (if frozenIn ops o.dst then .sv z k n ps else .mS z k n ps))
   |some ao=>some (.op o.dst g ao)
   |none=>none
def cI (nt:Nat) (ops:Array Oper) (o:Oper):Option AI:=
 match sy ops o.guard with
 |none=>none
 |some g=>if TG nt o.dst=true then qw P ops o g else none
def nY (nt:Nat) (ops:Array Oper):List Oper→Option (List AI)
 | []=>some []
 |o::r=>match cI P nt ops o,nY nt ops r with|some i,some is=>some (i::is)|_,_=>none
def Kc (is:List AI) (af:List (List Nat)):Option AC:=
 if A4 is af (A5 [] af) (FJ is af)then some (.par is (FJ is af))else none
def TH (is:List AI) (af:List (List Nat)):Option AC:=
 match is with
 | [.op (some a) none (.alloc [.bool false]), .op none none (.store (.s a1) (.k (.bool true)) 1), .op none none (.store (.s a2) (.k (.bool false)) 1), .op (some d) none (.load (.s a3) false 1)]=>
  if a1=a∧a2=a∧a3=a∧af = [[],[0],[0],[0,0,1,2]]then some (.any a d)else none
 |_=>none
def xU (is:List AI) (af:List (List Nat)):Option AC:=
 match Kc is af with
 |some c=>some c
 |none=>TH is af
def cC (nt:Nat):Code→Option AC
 | .skip=>some .skip
 | .region _ ops false=>(nY P nt ops ops.toList).map .run
 | .region _ ops true=>if P.follows .mixedOrders then(nY P nt ops ops.toList).bind (xU · (ops.toList.map gL))else none
 | .seq a b=>match cC nt a,cC nt b with|some a,some b=>some (.seq a b)|_,_=>none
 | .cond x a b=>match cX x,cC nt a,cC nt b with|some x,some a,some b=>some (.cond x a b)|_,_,_=>none
 | .block id a=>(cC nt a).map (.block id)
 | .loop a=>(cC nt a).map .loop
 | .exit id=>some (.exit id)
 | .scope a=>(cC nt a).map .scope
 | .label l=>some (.label l)
 | .goto l=>some (.goto l)
 | .ret=>some .ret
 |_=>none
def xV:List ResultVar→Option (List (Nat×Option (Bool×Nat)))
 | []=>some []
 | .tmp t::r=>(xV r).map ((t,none):: ·)
 | .cell a t::r=>match pe P t,P.info? t,xV r with
  |some g,some i,some r'=>some ((a,some (g,i.size))::r')
  |_,_,_=>none
def cF (fn:Func):Option AF:=
 match fn.body with
 |some c=>match cC P fn.ntmps c,xV P fn.results.toList with
  |some b,some r=>some ⟨fn.ntmps,r,b⟩
  |_,_=>none
 |none=>none
end
end Go.Abs
namespace Go.Abs
theorem gY {w:World} {b:Nat} {vs:Array Value} {T:TypeId} {fr:Nat×Nat} (h:w.heap[b]? = some (.cells vs T fr)) (o:Nat):w.cell? ⟨b,o,none⟩=vs[o]? :=by
 simp[World.cell?,h]
theorem jI {w:World} {b:Nat} {o:Obj} (h:w.heap[b]? = some o):b<w.heap.size:=(zaN.1 h).1
section
variable {M:Map} {s:St} {w:World}
theorem Rel.Am (r:Rel M s w) {b o:Nat} {v:Value} (h:M.G b o=some v):b<w.heap.size:=World.block_lt_of_cell? w _ (r.comm b o v h).1
theorem Rel.Ke (r:Rel M s w) {b:Nat} (h:w.heap.size≤b) (o:Nat):M.G b o=none:=by
 cases e:M.G b o with
 |none=>rfl
 |some v=>have:=r.Am e;omega
theorem Rel.ov (r:Rel M s w) {o:Nat} (h:o<s.av.length):M.mu o<w.heap.size:=by
 obtain⟨vs,T,hh,_⟩:=r.obj o _ (zak h)
 exact hh.lt
theorem Rel.qx (r:Rel M s w) {t b c z:Nat} (h:s.live t) (e:M.be t=some (b,c,z)):b<w.heap.size:=by
 obtain⟨n,hn⟩:=h
 rcases r.tok t n hn with ⟨h1,_⟩|⟨b',cap,size,vs,T,h1,h2,_⟩
 ·rw[e]at h1;cases h1
 ·rw[e]at h1;cases h1;exact jI h2
theorem Rel.of_heap (r:Rel M s w) {w':World} (h:w'.heap=w.heap):Rel M s w':=by
 refine⟨fun b o v e=>?_,fun o ds e=>?_,r.iK,r.inj,fun t n e=>?_,r.dY,r.fB⟩
 ·obtain⟨h1,h2⟩:=r.comm b o v e
  refine⟨?_,h2⟩
  rw[← h1];simp[World.cell?,h]
 ·rw[h];exact r.obj o ds e
 ·rw[h];exact r.tok t n e
theorem Ext.of_heap {w':World} (h:w'.heap=w.heap) (h1:w'.os=w.os) (h2:w'.tape=w.tape) (h3:w'.output=w.output):Ext M s w M s w':=
 ⟨Le.refl M s,fun _ _ _ _=>by rw[h],fun o h h'=>by rcases h with h|h;omega;exact(h rfl).elim,fun t b c z h e=> .inl ⟨h,c,z,e⟩,fun _ _ h=>(h rfl).elim,by rw[h];exact zag _,h1,h2,h3⟩
def Map.dE (M:Map) (n b:Nat) (x:Ob:= .any):Map:= {M with loc:=fun o=>if o=n then(b,x)else M.loc o}
theorem qS (M:Map) {n:Nat} (b:Nat) (x:Ob) {o:Nat} (ho:o<n):(M.dE n b x).loc o=M.loc o:=by simp[Map.dE];omega
theorem qe (s:St) (b:Nat) (ds:List D) (x:Ob:= .any):Le M s (M.dE s.av.length b x) {s with av:=s.av++ [ds]}:=
 ⟨fun _ _ _ h=>h,by simp,fun o ho=>by rw[qS M b x ho];exact .refl _,zag _,fun t n _ h=>⟨n,h,zag _,fun _=>rfl⟩⟩
theorem Rel.FN (r:Rel M s w) (ds:List D) (ob:Obj) (vs:Array Value) (T:TypeId) (x:Ob) (uY : ∀ hp:Array Obj,hp[w.heap.size]? = some ob→gH hp (w.heap.size,x) vs T) (hx : ∀ T',x.ty? = some T'→T'=T) (hl:vs.size=ds.length) (h1 : ∀ v∈vs,v.oneCell'=true)
 (h2 : ∀ (i:Nat) (d:D) (v:Value),ds[i]? = some d→vs[i]? = some v→RD (M.dE s.av.length w.heap.size x) {s with av:=s.av++ [ds]} d v) :
 Rel (M.dE s.av.length w.heap.size x) {s with av:=s.av++ [ds]} (w.alloc ob)∧
 Ext M s w (M.dE s.av.length w.heap.size x) {s with av:=s.av++ [ds]} (w.alloc ob):=by
 have le:=qe (M:=M) s w.heap.size ds x
 have oF : ∀ o,o<s.av.length→(M.dE s.av.length w.heap.size x).loc o=M.loc o:=fun o ho=>qS M _ x ho
 have ld : ∀ o,o<s.av.length→(M.dE s.av.length w.heap.size x).mu o=M.mu o:=fun o ho=>congrArg Prod.fst (oF o ho)
 have dq:(M.dE s.av.length w.heap.size x).mu s.av.length=w.heap.size:=by simp[Map.dE,Map.mu]
 have aay:(M.dE s.av.length w.heap.size x).ty s.av.length=x.ty? :=by simp[Map.dE,Map.ty]
 have aaz:(M.dE s.av.length w.heap.size x).loc s.av.length=(w.heap.size,x):=by simp[Map.dE]
 refine⟨⟨fun b o v e=>?_,fun o lM e=>?_,fun o ho off=>?_,fun o o' ho ky e=>?_,fun t n e=>?_,fun t b c z o hl e ho=>?_,fun t t' b c z c' z' h h' e e'=>r.fB t t' b c z c' z' h h' e e'⟩, ?_⟩
 ·obtain⟨h3,h4⟩:=r.comm b o v e
  refine⟨?_,h4⟩
  rw[World.cell?_alloc_lt]
  ·exact h3
  ·exact r.Am e
 ·rcases zaI o s.av.length with ho | ho
  ·rw [zao ho]at e
   obtain⟨eR,T',h3,h4,h5,h6⟩:=r.obj o lM e
   refine⟨eR,T', ?_,h4,⟨h5.1,by rw[le.ty o ho];exact h5.2⟩,fun i d v e1 e2=>(h6 i d v e1 e2).mono le⟩
   rw[oF o ho];exact h3.keep (heap_alloc_old w _ _ h3.lt)
  ·rw [zau ho]at e
   have:o=s.av.length:=by
    have:=(zae.1 e).1
    simp at this;omega
   subst this
   simp at e;subst e
   refine⟨vs,T, ?_,hl,⟨h1,by rw[aay];exact hx⟩,fun i d v e1 e2=>h2 i d v e1 e2⟩
   rw[aaz];exact uY _ (heap_alloc_new w _)
 ·simp at ho
  rcases zaI o s.av.length with h3|h3
  ·rw[ld o h3];exact r.iK o h3 off
  ·have:o=s.av.length:=by omega
   subst this
   rw[dq];exact r.Ke (zag _) off
 ·simp at ho ky
  rcases zaI o s.av.length with h3|h3<;>rcases zaI o' s.av.length with h4|h4
  ·rw[ld o h3,ld o' h4]at e;exact r.inj o o' h3 h4 e
  ·have:o'=s.av.length:=by omega
   subst this
   rw[ld o h3,dq]at e
   have:=r.ov h3;omega
  ·have:o=s.av.length:=by omega
   subst this
   rw[ld o' h4,dq]at e
   have:=r.ov h4;omega
  ·omega
 ·rcases r.tok t n e with h3 | ⟨b,cap,size,eR,T',h3,h4,h5⟩
  ·exact .inl h3
  ·exact .inr ⟨b,cap,size,eR,T',h3,by rw[heap_alloc_old w _ _ (jI h4)];exact h4,h5⟩
 ·simp at ho
  rcases zaI o s.av.length with h3|h3
  ·rw[ld o h3];exact r.dY t b c z o hl e h3
  ·have:o=s.av.length:=by omega
   subst this
   rw[dq]
   have:=r.qx hl e;omega
 ·refine⟨le,fun b hb _ _=>heap_alloc_old w _ b hb,fun o h3 h4=> ?_,fun t b c z h e=> .inl ⟨h,c,z,e⟩,fun _ _ h=>(h rfl).elim,by simp,rfl,rfl,rfl⟩
  simp at h4
  rcases zaI o s.av.length with h5|h5
  ·rcases h3 with h3 | h3
   ·omega
   ·exact(h3 (ld o h5)).elim
  have:o=s.av.length:=by omega
  subst this
  rw[dq];exact zag _
theorem Rel.FP (r:Rel M s w) (ds:List D) (vs:Array Value) (T:TypeId) (x:Ob) (hk:x.plain) (hx : ∀ T',x.ty? = some T'→T'=T) (hl:vs.size=ds.length) (h1 : ∀ v∈vs,v.oneCell'=true)
 (h2 : ∀ (i:Nat) (d:D) (v:Value),ds[i]? = some d→vs[i]? = some v→RD (M.dE s.av.length w.heap.size x) {s with av:=s.av++ [ds]} d v) :
 Rel (M.dE s.av.length w.heap.size x) {s with av:=s.av++ [ds]} (w.alloc (.cells vs T))∧
 Ext M s w (M.dE s.av.length w.heap.size x) {s with av:=s.av++ [ds]} (w.alloc (.cells vs T)):=
 r.FN ds _ vs T x (fun hp e=>gH.of e hk) hx hl h1 h2
theorem Rel.dE (r:Rel M s w) (ds:List D) (vs:Array Value) (T:TypeId) (hl:vs.size=ds.length) (h1 : ∀ v∈vs,v.oneCell'=true)
 (h2 : ∀ (i:Nat) (d:D) (v:Value),ds[i]? = some d→vs[i]? = some v→RD M s d v) :
 Rel (M.dE s.av.length w.heap.size) {s with av:=s.av++ [ds]} (w.alloc (.cells vs T))∧
 Ext M s w (M.dE s.av.length w.heap.size) {s with av:=s.av++ [ds]} (w.alloc (.cells vs T)):=
 r.FP ds vs T .any trivial (fun _ h=>by cases h) hl h1 fun i d v e1 e2=>(h2 i d v e1 e2).mono (qe s w.heap.size ds)
theorem pf (cs:List D) (off:Nat) (r:List D) (h:off+r.length≤cs.length) (i:Nat) :
 (eH cs off r)[i]? = if i<off then cs[i]? else if i<off+r.length then r[i - off]? else cs[i]? :=by
 unfold eH
 have hl:(cs.take off).length=off:=by simp;omega
 split
 ·rename_i h1
  rw[zaC,zao (by omega),za5 h1]
 ·rename_i h1
  rw[zaC,zau (by omega),hl]
  split
  ·rename_i h2
   rw[zao (by omega)]
  ·rename_i h2
   rw[zau (by omega),zbc]
   congr 1;omega
theorem rr (cs:List D) (off:Nat) (r:List D) (h:off+r.length≤cs.length):(eH cs off r).length=cs.length:=by
 unfold eH;simp;omega
theorem Rel.adL (P:Program) (r:Rel M s w) {o off:Nat} {cs:List D} (he:s.av[o]? = some cs) (hk:(M.ob o).plain) (row:List D) (us:List Value) (hu:us.length=row.length) (iL:off+row.length≤cs.length)
 (h1 : ∀ u∈us,u.oneCell'=true) (h2 : ∀ (i:Nat) (d:D) (v:Value),row[i]? = some d→us[i]? = some v→RD M s d v) :
 ∃ w',(storeCells (⟨M.mu o,off,none⟩:Addr) us).run P w = .ok () w'∧Rel M {s with av:=s.av.set o (eH cs off row)} w'∧Ext M s w M {s with av:=s.av.set o (eH cs off row)} w':=by
 obtain⟨vs,T,hh,hs,⟨fJ,TI⟩,gZ⟩:=r.obj o cs he
 replace hh:=hh.cells hk
 have ho:o<s.av.length:=(zae.1 he).1
 have qT:=run_storeCells_at P (M.mu o) off T us 0 vs w hh (by omega) h1
 simp only[za4]at qT
 have le:Le M s M {s with av:=s.av.set o (eH cs off row)}:=
  ⟨fun _ _ _ h=>h,by simp,fun _ _=> .refl _,zag _,fun t n _ h=>⟨n,h,zag _,fun _=>rfl⟩⟩
 generalize dq:(vs.toList.take off++us++vs.toList.drop (off+us.length)).toArray=gU at qT
 have pg:gU.size=vs.size:=by rw[← dq];simp;omega
 have hP : ∀ i,gU[i]? = if i<off then vs[i]? else if i<off+row.length then us[i - off]? else vs[i]? :=by
  intro i
  rw[← dq]
  simp only[zbj]
  have hl:(vs.toList.take off).length=off:=by simp;omega
  split
  ·rename_i h3
   rw[zaC,zao (by omega),za5 h3];simp
  ·rename_i h3
   rw[zaC,zau (by omega),hl]
   split
   ·rename_i h4
    rw[zao (by omega)]
   ·rename_i h4
    rw[zau (by omega),zbc]
    rw[show off+us.length+(i - off - us.length)=i by omega];simp
 have kz : ∀ b,b≠M.mu o→(w.setRow (M.mu o) gU).heap[b]? = w.heap[b]? :=fun b hb=>setRow_other w (M.mu o) b _ hb
 refine⟨_,qT,⟨fun b q v e=>?_,fun o' ds e=>?_,fun q hq oG=>r.iK q (by simpa using hq) oG,fun q q' hq ki e=>r.inj q q' (by simpa using hq) (by simpa using ki) e,fun t n e=>?_,
  fun t b c z q hl e hq=>r.dY t b c z q hl e (by simpa using hq),fun t t' b c z c' z' h h' e e'=>r.fB t t' b c z c' z' h h' e e'⟩, ?_⟩
 ·obtain⟨h3,h4⟩:=r.comm b q v e
  refine⟨?_,h4⟩
  have hb:b≠M.mu o:=fun eq=>by subst eq;rw[r.iK o ho q]at e;cases e
  rw[← h3]
  simp[World.cell?,kz b hb]
 ·rw [zaM]at e
  split at e
  ·rename_i heq
   subst heq
   simp at e
   obtain⟨_,rfl⟩:=e
   refine⟨gU,T,gH.of (l:=M.loc o) (setRow_heap w (M.mu o) vs gU T (0,0) hh) hk,by rw[pg,hs,rr cs off row iL],⟨fun v hv=>?_,TI⟩,fun i d v e1 e2=>?_⟩
   ·rw [← dq]at hv
    simp at hv
    rcases hv with hv|hv|hv
    ·exact fJ v (zaQ.1 (zaZ hv))
    ·exact h1 v hv
    ·exact fJ v (zaQ.1 (zbl hv))
   ·rw [pf cs off row iL]at e1
    rw[hP]at e2
    split at e1
    ·rename_i h3;simp only[h3,if_true]at e2;exact(gZ i d v e1 e2).mono le
    ·rename_i h3
     simp only[h3,if_false]at e2
     split at e1
     ·rename_i h4;simp only[h4,if_true]at e2;exact(h2 _ d v e1 e2).mono le
     ·rename_i h4;simp only[h4,if_false]at e2;exact(gZ i d v e1 e2).mono le
  ·rename_i dL
   obtain⟨eR,T',h3,h4,h5,h6⟩:=r.obj o' ds e
   have ky:o'<s.av.length:=(zae.1 e).1
   refine⟨eR,T', ?_,h4,h5,fun i d v e1 e2=>(h6 i d v e1 e2).mono le⟩
   exact h3.keep (kz _ (fun eq=>dL (r.inj o o' ho ky eq.symm)))
 ·rcases r.tok t n e with h3 | ⟨b,cap,size,eR,T',h3,h4,h5⟩
  ·exact .inl h3
  ·refine .inr ⟨b,cap,size,eR,T',h3, ?_,h5⟩
   rw[kz b (fun eq=>r.dY t b cap size o ⟨n,e⟩ h3 ho eq.symm)];exact h4
 ·refine⟨le,fun b hb h3 _=>kz b (fun eq=>h3 o ho eq.symm),fun q h3 h4=> ?_,fun t b c z h e=> .inl ⟨h,c,z,e⟩,fun _ _ h=>(h rfl).elim,by simp,rfl,rfl,rfl⟩
  simp at h4;rcases h3 with h3|h3;omega;exact(h3 rfl).elim
def Map.fe (M:Map) (b n:Nat) (vs:Array Value):Map:= {M with G:=fun b' o=>if b'=b then(if o<n then vs[o]? else none)else M.G b' o}
theorem M9 (r:Rel M s w) (n:Nat) (vs:Array Value):Le M s (M.fe w.heap.size n vs) s:=
 ⟨fun b o v h=>by
  have hb:b≠w.heap.size:=fun e=>by have:=r.Am h;omega
  simp[Map.fe,hb,h],zag _,fun _ _=> .refl _,zag _,fun t n _ h=>⟨n,h,zag _,fun _=>rfl⟩⟩
theorem Rel.fe (r:Rel M s w) (n:Nat) (vs:Array Value) (T:TypeId) (fr:Nat×Nat) (h1 : ∀ v∈vs,v.oneCell'=true) :
 Rel (M.fe w.heap.size n vs) s (w.alloc (.cells vs T fr))∧Ext M s w (M.fe w.heap.size n vs) s (w.alloc (.cells vs T fr)):=by
 have le:=M9 r n vs
 have hold : ∀ b,b<w.heap.size→∀ o,(M.fe w.heap.size n vs).G b o=M.G b o:=fun b hb o=>by
  have:b≠w.heap.size:=by omega
  simp[Map.fe,this]
 refine⟨⟨fun b o v e=>?_,fun o ds e=>?_,fun o ho off=>?_,r.inj,fun t k e=>?_,r.dY,r.fB⟩, ?_⟩
 ·by_cases hb:b=w.heap.size
  ·subst hb
   simp[Map.fe]at e
   obtain⟨_,e⟩:=e
   refine⟨by rw[gY (heap_alloc_new w _)];exact e,h1 v (zbp e)⟩
  ·simp [Map.fe,hb]at e
   obtain⟨h3,h4⟩:=r.comm b o v e
   refine⟨?_,h4⟩
   rw[World.cell?_alloc_lt]
   ·exact h3
   ·exact r.Am e
 ·obtain⟨eR,T',h3,h4,h5,h6⟩:=r.obj o ds e
  exact⟨eR,T',h3.keep (heap_alloc_old w _ _ h3.lt),h4,h5,fun i d v e1 e2=>(h6 i d v e1 e2).mono le⟩
 ·rw [hold]
  ·exact r.iK o ho off
  ·exact r.ov ho
 ·rcases r.tok t k e with h3 | ⟨b,cap,size,eR,T',h3,h4,h5,h6,h7⟩
  ·exact .inl h3
  ·exact .inr ⟨b,cap,size,eR,T',h3,by rw[heap_alloc_old w _ _ (jI h4)];exact h4,h5,h6,fun off ho=>by rw[hold b (jI h4)];exact h7.1 off ho,h7.2⟩
 ·refine⟨le,fun b hb _ _=>heap_alloc_old w _ b hb,fun o h3 h4=>by rcases h3 with h3 | h3;omega;exact(h3 rfl).elim,fun t b c z h e=> .inl ⟨h,c,z,e⟩,fun b o h=> ?_,by simp,rfl,rfl,rfl⟩
  rcases zaI b w.heap.size with hb|hb
  ·exact(h (hold b hb o)).elim
  ·exact .inl hb
def Map.dX (M:Map) (t:Nat) (x:Option (Nat×Nat×Nat)):Map:= {M with be:=fun t'=>if t'=t then x else M.be t'}
theorem Rel.TJ (r:Rel M s w) (n b cap size:Nat) (vs:Array Value) (T:TypeId) (hb:w.heap[b]? = some (.cells vs T (0,0))) (cV:vs.size=cap*zs size) (hn:n≤cap) (hy:size=0→T=nF)
 (hG : ∀ off,n*zs size≤off→M.G b off=none) (ho : ∀ o,o<s.av.length→M.mu o≠b) (ht : ∀ t c z,s.live t→M.be t≠some (b,c,z)) :
 Rel (M.dX s.aw.length (some (b,cap,size))) {s with aw:=s.aw++ [some n]} w∧Le M s (M.dX s.aw.length (some (b,cap,size))) {s with aw:=s.aw++ [some n]}:=by
 have gI : ∀ t,St.live {s with aw:=s.aw++ [some n]} t→s.live t∨t=s.aw.length:=by
  rintro t ⟨k,hk⟩
  rcases zaI t s.aw.length with h|h
  ·rw[zao h]at hk;exact .inl ⟨k,hk⟩
  ·have:=(zae.1 hk).1
   simp at this;exact .inr (by omega)
 have hF : ∀ t,s.live t→t<s.aw.length:=fun t ⟨k,hk⟩=>(zae.1 hk).1
 have hold : ∀ t,t<s.aw.length→(M.dX s.aw.length (some (b,cap,size))).be t=M.be t:=fun t h=>by simp[Map.dX];omega
 have dq:(M.dX s.aw.length (some (b,cap,size))).be s.aw.length=some (b,cap,size):=by simp[Map.dX]
 have le:Le M s (M.dX s.aw.length (some (b,cap,size))) {s with aw:=s.aw++ [some n]}:=
  ⟨fun _ _ _ h=>h,zag _,fun _ _=> .refl _,by simp,fun t k h e=>by
   rw[zao h]at e
   exact⟨k,e,zag _,fun _=>hold t h⟩⟩
 refine⟨⟨r.comm,fun o ds e=>?_,r.iK,r.inj,fun t k e=>?_,fun t b' c z o hl e ky=>?_,fun t t' b' c z c' z' h h' e e'=>?_⟩,le⟩
 ·obtain⟨eR,T',h3,h4,h5,h6⟩:=r.obj o ds e
  exact⟨eR,T',h3,h4,h5,fun i d v e1 e2=>(h6 i d v e1 e2).mono le⟩
 ·rcases zaI t s.aw.length with h | h
  ·rw [zao h]at e
   rw[hold t h];exact r.tok t k e
  ·have:=(zae.1 e).1
   simp at this
   have:t=s.aw.length:=by omega
   subst this
   simp at e;subst e
   exact .inr ⟨b,cap,size,vs,T,dq,hb,cV,hn,hG,hy⟩
 ·rcases gI t hl with h | h
  ·rw[hold t (hF t h)]at e;exact r.dY t b' c z o h e ky
  ·subst h;rw[dq]at e;cases e;exact ho o ky
 ·rcases gI t h with h | h <;> rcases gI t' h' with h' | h'
  ·rw[hold t (hF t h)]at e;rw[hold t' (hF t' h')]at e';exact r.fB t t' b' c z c' z' h h' e e'
  ·subst h';rw[dq]at e';cases e';rw[hold t (hF t h)]at e;exact(ht t c z h e).elim
  ·subst h;rw[dq]at e;cases e;rw[hold t' (hF t' h')]at e';exact(ht t' c' z' h' e').elim
  ·omega
theorem Rel.aaA (r:Rel M s w) (t n n' b cap size:Nat) (vs:Array Value) (T:TypeId) (A8:s.aw[t]? = some (some n)) (hnn:n<n') (hb:w.heap[b]? = some (.cells vs T (0,0))) (cV:vs.size=cap*zs size) (hn:n'≤cap) (hy:size=0→T=nF)
 (hG : ∀ off,n'*zs size≤off→M.G b off=none) (ho : ∀ o,o<s.av.length→M.mu o≠b) (ht : ∀ t c z,s.live t→M.be t≠some (b,c,z)) :
 Rel (M.dX t (some (b,cap,size))) {s with aw:=s.aw.set t (some n')} w∧Le M s (M.dX t (some (b,cap,size))) {s with aw:=s.aw.set t (some n')}:=by
 have uZ:t<s.aw.length:=(zae.1 A8).1
 have gI : ∀ q,St.live {s with aw:=s.aw.set t (some n')} q→s.live q:=by
  rintro q ⟨k,hk⟩
  rw[zaM]at hk
  split at hk
  ·rename_i h;subst h;exact⟨n,A8⟩
  ·exact⟨k,hk⟩
 have hold : ∀ q,q≠t→(M.dX t (some (b,cap,size))).be q=M.be q:=fun q h=>by simp[Map.dX,h]
 have dq:(M.dX t (some (b,cap,size))).be t=some (b,cap,size):=by simp[Map.dX]
 have le:Le M s (M.dX t (some (b,cap,size))) {s with aw:=s.aw.set t (some n')}:=
  ⟨fun _ _ _ h=>h,zag _,fun _ _=> .refl _,by simp,fun q k h e=>by
   rw[zaM]at e
   split at e
   ·rename_i h2;subst h2
    simp at e;subst e
    exact⟨n,A8,by omega,fun h=>by omega⟩
   ·rename_i h2
    exact⟨k,e,zag _,fun _=>hold q (fun h=>h2 h.symm)⟩⟩
 refine⟨⟨r.comm,fun o ds e=>?_,r.iK,r.inj,fun q k e=>?_,fun q b' c z o hl e ky=>?_,fun q q' b' c z c' z' h h' e e'=>?_⟩,le⟩
 ·obtain⟨eR,T',h3,h4,h5,h6⟩:=r.obj o ds e
  exact⟨eR,T',h3,h4,h5,fun i d v e1 e2=>(h6 i d v e1 e2).mono le⟩
 ·rw [zaM]at e
  split at e
  ·rename_i h2;subst h2
   simp at e;subst e
   exact .inr ⟨b,cap,size,vs,T,dq,hb,cV,hn,hG,hy⟩
  ·rename_i h2
   rw[hold q (fun h=>h2 h.symm)];exact r.tok q k e
 ·by_cases h:q=t
  ·subst h;rw[dq]at e;cases e;exact ho o ky
  ·rw[hold q h]at e;exact r.dY q b' c z o (gI q hl) e ky
 ·by_cases h1:q=t <;> by_cases h2:q'=t
  ·omega
  ·subst h1;rw[dq]at e;cases e;rw[hold q' h2]at e';exact(ht q' c' z' (gI q' h') e').elim
  ·subst h2;rw[dq]at e';cases e';rw[hold q h1]at e;exact(ht q c z (gI q h) e).elim
  ·rw[hold q h1]at e;rw[hold q' h2]at e';exact r.fB q q' b' c z c' z' (gI q h) (gI q' h') e e'
def Map.fix (M:Map) (b lo:Nat) (us:List Value):Map:=
 {M with G:=fun b' o=>if b'=b∧lo≤o∧o<lo+us.length then us[o - lo]? else M.G b' o}
theorem Rel.aaB (r:Rel M s w) (t n m b cap z size:Nat) (us:List Value) (hz:zs z=size) (A8:s.aw[t]? = some (some n)) (jB:M.be t=some (b,cap,z)) (zM:us.length=m*size) (de:n+m≤cap) (hm:0<m)
 (h1 : ∀ u∈us,u.oneCell'=true) (vs:Array Value) (T:TypeId) (hh:w.heap[b]? = some (.cells vs T (0,0))) (cV:vs.size=cap*size) (hy:z=0→T=nF) :
 Rel (M.fix b (n*size) us) {s with aw:=s.aw.set t (some (n+m))} (w.setRow b (vs.toList.take (n*size)++us++vs.toList.drop (n*size+us.length)).toArray)∧
 Ext M s w (M.fix b (n*size) us) {s with aw:=s.aw.set t (some (n+m))} (w.setRow b (vs.toList.take (n*size)++us++vs.toList.drop (n*size+us.length)).toArray):=by
 have uZ:t<s.aw.length:=(zae.1 A8).1
 have u5:s.live t:=⟨n,A8⟩
 have Kf : ∀ off,n*size≤off→M.G b off=none:=by
  rcases r.tok t n A8 with ⟨h3,_⟩|⟨b',oI,wa,eR,T',h3,h4,h5,h6,h7⟩
  ·rw[jB]at h3;cases h3
  ·rw[jB]at h3;cases h3;rw[← hz];exact h7.1
 have iL:n*size+us.length≤vs.size:=by rw[zM,cV, ← zba];exact zaT _ de
 have gI : ∀ q,St.live {s with aw:=s.aw.set t (some (n+m))} q→s.live q:=by
  rintro q ⟨k,hk⟩
  rw[zaM]at hk
  split at hk
  ·rename_i h;subst h;exact u5
  ·exact⟨k,hk⟩
 generalize dq:(vs.toList.take (n*size)++us++vs.toList.drop (n*size+us.length)).toArray=gU
 have pg:gU.size=vs.size:=by rw[← dq];simp;omega
 have hP : ∀ i,gU[i]? = if i<n*size then vs[i]? else if i<n*size+us.length then us[i - n*size]? else vs[i]? :=by
  intro i
  rw[← dq]
  simp only[zbj]
  have hl:(vs.toList.take (n*size)).length=n*size:=by simp;omega
  split
  ·rename_i h3
   rw[zaC,zao (by omega),za5 h3];simp
  ·rename_i h3
   rw[zaC,zau (by omega),hl]
   split
   ·rename_i h4
    rw[zao (by omega)]
   ·rename_i h4
    rw[zau (by omega),zbc]
    rw[show n*size+us.length+(i - n*size - us.length)=i by omega];simp
 have dN:(w.setRow b gU).heap[b]? = some (.cells gU T (0,0)):=setRow_heap w b vs gU T (0,0) hh
 have kz : ∀ q,q≠b→(w.setRow b gU).heap[q]? = w.heap[q]? :=fun q hq=>setRow_other w b q _ hq
 have le:Le M s (M.fix b (n*size) us) {s with aw:=s.aw.set t (some (n+m))}:=by
  refine⟨fun b' o v h=>?_,zag _,fun _ _=> .refl _,by simp,fun q k h e=>?_⟩
  ·show(if b'=b∧n*size≤o∧o<n*size+us.length then us[o - n*size]? else M.G b' o)=some v
   rw[if_neg]
   ·exact h
   ·rintro⟨rfl,h3,_⟩;rw[Kf o h3]at h;cases h
  ·rw [zaM]at e
   split at e
   ·rename_i h2;subst h2
    simp at e;subst e
    exact⟨n,A8,by omega,fun h=>by omega⟩
   ·exact⟨k,e,zag _,fun _=>rfl⟩
 have lf : ∀ b' o,b'≠b→(M.fix b (n*size) us).G b' o=M.G b' o:=fun b' o h=>by simp[Map.fix,h]
 refine⟨⟨fun b' o v e=>?_,fun o ds e=>?_,fun o ho off=>?_,r.inj,fun q k e=>?_,fun q b' c z o hl e ky=>r.dY q b' c z o (gI q hl) e ky,
  fun q q' b' c z c' z' h h' e e'=>r.fB q q' b' c z c' z' (gI q h) (gI q' h') e e'⟩, ?_⟩
 ·by_cases hb:b'=b
  ·subst hb
   rw[gY dN,hP]
   have e':(if b'=b'∧n*size≤o∧o<n*size+us.length then us[o - n*size]? else M.G b' o)=some v:=e
   by_cases h3:n*size≤o
   ·by_cases h4:o<n*size+us.length
    ·rw [if_pos ⟨rfl,h3,h4⟩]at e'
     rw[if_neg (by omega),if_pos h4]
     exact⟨e',h1 v (zac e')⟩
    ·rw[if_neg (fun h=>h4 h.2.2),Kf o h3]at e';cases e'
   ·rw [if_neg (fun h=>h3 h.2.1)]at e'
    obtain⟨h5,h6⟩:=r.comm b' o v e'
    rw[gY hh]at h5
    rw[if_pos (by omega)]
    exact⟨h5,h6⟩
  ·rw [lf b' o hb]at e
   obtain⟨h5,h6⟩:=r.comm b' o v e
   refine⟨?_,h6⟩
   rw[← h5]
   simp[World.cell?,kz b' hb]
 ·obtain⟨eR,T',h3,h4,h5,h6⟩:=r.obj o ds e
  have ho:o<s.av.length:=(zae.1 e).1
  refine⟨eR,T', ?_,h4,h5,fun i d v e1 e2=>(h6 i d v e1 e2).mono le⟩
  exact h3.keep (kz _ (r.dY t b cap z o u5 jB ho))
 ·show(M.fix b (n*size) us).G (M.mu o) off=none
  rw[lf _ _ (r.dY t b cap z o u5 jB ho)];exact r.iK o ho off
 ·rw [zaM]at e
  split at e
  ·rename_i h2;subst h2
   simp at e;subst e
   refine .inr ⟨b,cap,z,gU,T,jB,dN,by rw[pg,cV,hz],de,fun off ho=>?_,hy⟩
   rw[hz]at ho
   show(if b=b∧n*size≤off∧off<n*size+us.length then us[off - n*size]? else M.G b off)=none
   rw[zba]at ho
   rw[if_neg (by rintro⟨_,_,h⟩;omega)]
   exact Kf off (by omega)
  ·rename_i h2
   rcases r.tok q k e with h3|⟨b',oI,wa,eR,T',h3,h4,h5,h6,h7⟩
   ·exact .inl h3
   ·have dL:b'≠b:=fun h=>h2 (r.fB t q b cap z oI wa u5 ⟨k,e⟩ jB (by rw [h3,h]))
    exact .inr ⟨b',oI,wa,eR,T',h3,by rw[kz b' dL];exact h4,h5,h6,fun off ho=>by rw[lf b' off dL];exact h7.1 off ho,h7.2⟩
 ·refine⟨le,fun q _ _ h4=>kz q (fun h=>h4 t cap z u5 (by rw [jB,h])),fun o h3 h4=>by simp at h4;rcases h3 with h3 | h3;omega;exact(h3 rfl).elim,fun q b' c z h e=> .inl ⟨gI q h,c,z,e⟩,fun b' o h=> ?_,by simp,rfl,rfl,rfl⟩
  by_cases hb:b'=b
  ·exact .inr ⟨t,cap,z,u5,by rw[jB,hb]⟩
  ·exact(h (lf b' o hb)).elim
theorem Rel.freeze (r:Rel M s w) {b:Nat} (off n:Nat) (ho : ∀ o,o<s.av.length→M.mu o≠b) (ht : ∀ t c z,s.live t→M.be t≠some (b,c,z)) :
 Rel M s (w.freeze ⟨b,off,none⟩ n)∧(∀ q,q≠b→(w.freeze ⟨b,off,none⟩ n).heap[q]? = w.heap[q]?)∧(w.freeze ⟨b,off,none⟩ n).heap.size=w.heap.size∧
 (w.freeze ⟨b,off,none⟩ n).os=w.os∧(w.freeze ⟨b,off,none⟩ n).tape=w.tape∧(w.freeze ⟨b,off,none⟩ n).output=w.output:=by
 by_cases hn:n=0
 ·simp[World.freeze,hn,r]
 ·have hh : ∀ q,q≠b→(w.freeze ⟨b,off,none⟩ n).heap[q]? = w.heap[q]? :=fun q hq=>by
   simp[World.freeze,hn,zbx,Ne.symm hq]
  have ph : ∀ q o,(w.freeze ⟨b,off,none⟩ n).cell? ⟨q,o,none⟩=w.cell? ⟨q,o,none⟩:=by
   intro q o
   by_cases hq:q=b
   ·subst hq
    unfold World.cell?
    simp only[World.freeze,hn,if_false,zbx,if_true]
    cases h:w.heap[q]? with
    |none=>rfl
    |some x=>cases x<;>rfl
   ·simp[World.cell?,hh q hq]
  refine⟨⟨fun q o v e=>?_,fun o ds e=>?_,r.iK,r.inj,fun t k e=>?_,r.dY,r.fB⟩,hh,by simp[World.freeze,hn],by simp[World.freeze,hn],by simp[World.freeze,hn],by simp[World.freeze,hn]⟩
  ·rw[ph];exact r.comm q o v e
  ·obtain⟨vs,T,h1,h2⟩:=r.obj o ds e
   exact⟨vs,T,h1.keep (hh _ (ho o (zae.1 e).1)),h2⟩
  ·rcases r.tok t k e with h3 | ⟨b',cap,size,vs,T,h3,h4,h5⟩
   ·exact .inl h3
   ·refine .inr ⟨b',cap,size,vs,T,h3, ?_,h5⟩
    rw[hh]
    ·exact h4
    ·rintro rfl;exact ht t cap size ⟨k,e⟩ h3
theorem Rel.aaC (r:Rel M s w) (t:Nat):Rel M {s with aw:=s.aw.set t none} w∧Le M s M {s with aw:=s.aw.set t none}:=by
 have gI : ∀ q,St.live {s with aw:=s.aw.set t none} q→s.live q:=by
  rintro q ⟨k,hk⟩
  rw[zaM]at hk
  split at hk
  ·split at hk<;>simp at hk
  ·exact⟨k,hk⟩
 have ry : ∀ (q k:Nat),(s.aw.set t none)[q]? = some (some k)→s.aw[q]? = some (some k):=by
  intro q k e
  rw[zaM]at e
  split at e
  ·split at e<;>simp at e
  ·exact e
 have le:Le M s M {s with aw:=s.aw.set t none}:=
  ⟨fun _ _ _ h=>h,zag _,fun _ _=> .refl _,by simp,fun q k _ e=>⟨k,ry q k e,zag _,fun _=>rfl⟩⟩
 refine⟨⟨r.comm,fun o ds e=>?_,r.iK,r.inj,fun q k e=>r.tok q k (ry q k e),fun q b' c z o hl e ky=>r.dY q b' c z o (gI q hl) e ky,
  fun q q' b' c z c' z' h h' e e'=>r.fB q q' b' c z c' z' (gI q h) (gI q' h') e e'⟩,le⟩
 obtain⟨eR,T',h3,h4,h5,h6⟩:=r.obj o ds e
 exact⟨eR,T',h3,h4,h5,fun i d v e1 e2=>(h6 i d v e1 e2).mono le⟩
end
end Go.Abs
namespace Go.Abs
section
variable {M:Map} {s:St} {w:World}
theorem RD.gj {k:IntKind} {n:Int} {v:Value} (h:RD M s (.int k n) v):v = .int k n:=by cases h;rfl
theorem RD.lR {b:Bool} {v:Value} (h:RD M s (.bool b) v):v = .bool b:=by cases h;rfl
theorem RD.jU {l:List UInt8} {v:Value} (h:RD M s (.str l) v):v = .string ⟨⟨l⟩⟩:=by cases h;rfl
theorem RD.qf {v:Value} (h:RD M s .er v):v = .pointer none:=by cases h;rfl
theorem RD.qg {o off:Nat} {v:Value} (h:RD M s (.ptr o off) v):v = .pointer (some ⟨M.mu o,off,none⟩)∧o<s.av.length:=by
 cases h with|ptr _ _ h hm=>exact⟨rfl,h⟩
theorem RD.xW {o off:Nat} {v:Value} (h:RD M s (.ptr o off) v):(M.ob o).plain:=by cases h with|ptr _ _ h hm=>exact hm
theorem RD.FQ {o:Nat} {v:Value} (h:RD M s (.fA o) v):v = .map (some (M.mu o))∧o<s.av.length∧M.ob o = .map:=by cases h with|fA _ h hm=>exact⟨rfl,h,hm⟩
theorem RD.sr {z o g len:Nat} {v:Value} (h:RD M s (.bX z o g len) v) : ∃ b cap A,v = .slice (some ⟨b,0,none⟩) len cap∧o<s.av.length∧M.ob o = .arr z A∧A g=some (b,cap)∧len≤cap:=by
 cases h with|bX _ _ _ _ b cap A h hm ha hl=>exact⟨b,cap,A,rfl,h,hm,ha,hl⟩
theorem RD.An {o g off:Nat} {v:Value} (h:RD M s (.ew o g off) v) : ∃ z b cap A,v = .pointer (some ⟨b,off,none⟩)∧o<s.av.length∧M.ob o = .arr z A∧A g=some (b,cap):=by
 cases h with|ew z _ _ _ b cap A h hm ha=>exact⟨z,b,cap,A,rfl,h,hm,ha⟩
theorem RD.Ao {z:Nat} {v:Value} (h:RD M s (.dj z) v) : ∃ a,v = .slice a 0 0:=by cases h with|dj _ a=>exact⟨a,rfl⟩
theorem RD.I9 {f:Nat} {ds:List D} {v:Value} (h:RD M s (.fL f ds) v) : ∃ vs:Array Value,v = .func (.func f) #[] vs∧ds.length=vs.size∧
 ∀ (i:Nat) (d:D) (v:Value),ds[i]? = some d→vs[i]? = some v→RD M s d v:=by
 cases h with|fL _ _ vs h1 h2=>exact⟨vs,rfl,h1,h2⟩
theorem RD.wb {row:List D} {off:Nat} {v:Value} (h:RD M s (.dr row off) v) : ∃ b k,v = .pointer (some ⟨b,k+off,none⟩)∧
 (∀ (i:Nat) (d:D),row[i]? = some d→∃ u,M.G b (k+i)=some u)∧(∀ (i:Nat) (d:D) (u:Value),row[i]? = some d→M.G b (k+i)=some u→RD M s d u):=by
 cases h with|dr _ _ b k h1 h2=>exact⟨b,k,rfl,h1,h2⟩
theorem RD.CO {ds:List D} {v:Value} (h:RD M s (.agg ds) v) : ∃ vs:Array Value,v = .agg vs∧ds.length=vs.size∧(∀ v∈vs,v.oneCell'=true)∧
 ∀ (i:Nat) (d:D) (v:Value),ds[i]? = some d→vs[i]? = some v→RD M s d v:=by
 cases h with|agg _ vs h1 h2 h3=>exact⟨vs,rfl,h1,h2,h3⟩
theorem RD.DH {ds:List D} {v:Value} (h:RD M s (.tuple ds) v) : ∃ vs:Array Value,v = .tuple vs∧ds.length=vs.size∧
 ∀ (i:Nat) (d:D) (v:Value),ds[i]? = some d→vs[i]? = some v→RD M s d v:=by
 cases h with|tuple _ vs h1 h2=>exact⟨vs,rfl,h1,h2⟩
theorem RD.undef:RD M s (.tuple []) Go.undef:= .tuple [] #[] rfl (fun i d v h=>by simp at h)
theorem RD.hO {g:Tag} {z:Nat} {rows:List (List D)} {v:Value} (h:RD M s (.slice g z rows) v) :
 (rows = []∧v = .slice none 0 0∧gO M s g z 0 none 0)∨(rows = []∧g = .shared∧∃ a cap,v = .slice (some a) 0 cap)∨
 ∃ b k cap,v = .slice (some ⟨b,k,none⟩) rows.length cap∧rows.length≤cap∧(∀ row∈rows,row.length=z)∧
  (∀ (i:Nat) (row:List D) (j:Nat) (d:D),rows[i]? = some row→row[j]? = some d→∃ u,M.G b (k+(i*z+j))=some u)∧
  (∀ (i:Nat) (row:List D) (j:Nat) (d:D) (u:Value),rows[i]? = some row→row[j]? = some d→M.G b (k+(i*z+j))=some u→RD M s d u)∧
  gO M s g z rows.length (some (b,k)) cap:=by
 cases h with
 |ig _ _ cap hc ht=>subst hc;exact .inl ⟨rfl,rfl,ht⟩
 |kR _ a cap=>exact .inr (.inl ⟨rfl,rfl,a,cap,rfl⟩)
 |slice _ _ _ b k cap hl hs h1 h2 ht=>exact .inr (.inr ⟨b,k,cap,rfl,hl,hs,h1,h2,ht⟩)
theorem RD.row {d:D} {v:Value} (h:RD M s d v) {r:List D} (hr:d.row=some r):v.cells.size=r.length∧(∀ u∈v.cells,u.oneCell'=true)∧
 ∀ (i:Nat) (d':D) (u:Value),r[i]? = some d'→v.cells[i]? = some u→RD M s d' u:=by
 have one : ∀ (x:Value),x.oneCell'=true→x.cells = #[x]:=by intro x hx;cases x<;>first|rfl|(simp[Value.oneCell']at hx)
 have go : ∀ (x:Value),x.oneCell'=true→RD M s d x→d.row=some [d]→x.cells.size=r.length∧(∀ u∈x.cells,u.oneCell'=true)∧
  ∀ (i:Nat) (d':D) (u:Value),r[i]? = some d'→x.cells[i]? = some u→RD M s d' u:=by
  intro x hx hd h1
  rw[h1]at hr;cases hr
  rw[one x hx]
  refine⟨rfl,by simp[hx],fun i d' u e1 e2=>?_⟩
  cases i with
  |zero=>simp at e1 e2;subst e1;subst e2;exact hd
  |succ i=>simp at e1
 cases h with
 |junk v=>cases hr
 |int k n=>exact go _ rfl (.int k n) rfl
 |bool b=>exact go _ rfl (.bool b) rfl
 |str l=>exact go _ rfl (.str l) rfl
 |er=>exact go _ rfl .er rfl
 |val v hv=>exact go _ hv (.val v hv) rfl
 |eC T o v h ht hv=>exact go _ (by rcases hv with rfl|rfl<;>rfl) (.eC T o v h ht hv) rfl
 |ptr o off h hm=>exact go _ rfl (.ptr o off h hm) rfl
 |fL f ds vs hl h=>exact go _ rfl (.fL f ds vs hl h) rfl
 |fA o h hm=>exact go _ rfl (.fA o h hm) rfl
 |dr row off b k h1 h2=>exact go _ rfl (.dr row off b k h1 h2) rfl
 |ig g z cap hc ht=>exact go _ rfl (.ig g z cap hc ht) rfl
 |kR z a cap=>exact go _ rfl (.kR z a cap) rfl
 |slice g z rows b k cap hl hs h1 h2 ht=>exact go _ rfl (.slice g z rows b k cap hl hs h1 h2 ht) rfl
 |bX z o g len b cap A h hm ha hl=>exact go _ rfl (.bX z o g len b cap A h hm ha hl) rfl
 |ew z o g off b cap A h hm ha=>exact go _ rfl (.ew z o g off b cap A h hm ha) rfl
 |dj z a=>exact go _ rfl (.dj z a) rfl
 |agg cells vs hl h1 h2=>cases hr;exact⟨hl.symm,h1,h2⟩
 |tuple ds vs hl h1=>cases hr
theorem ow {v:Value} {d:D} (h:qd v=some d):RD M s d v∧v.oneCell'=true:=by
 unfold qd at h
 split at h<;>first|(cases h;done)|skip
 ·cases h;exact⟨.int _ _,rfl⟩
 ·cases h;exact⟨.bool _,rfl⟩
 ·cases h;exact⟨.str _,rfl⟩
 ·cases h;exact⟨.er,rfl⟩
 ·cases h;exact⟨.ig _ _ 0 rfl rfl,rfl⟩
 ·cases h;exact⟨.val _ rfl,rfl⟩
 ·cases h;exact⟨.val _ rfl,rfl⟩
 ·cases h;exact⟨.val _ rfl,rfl⟩
theorem jV : ∀ {vs:List Value} {ds:List D},lQ vs=some ds→ds.length=vs.length∧(∀ v∈vs,v.oneCell'=true)∧
 ∀ (i:Nat) (d:D) (v:Value),ds[i]? = some d→vs[i]? = some v→RD M s d v
 | [],ds,h=>by cases h;exact⟨rfl,by simp,by simp⟩
 | v::r,ds,h=>by
  unfold lQ at h
  split at h
  ·rename_i d lM h1 h2
   cases h
   obtain⟨a,b⟩:=ow (M:=M) (s:=s) h1
   obtain⟨i1,i2,i3⟩:=jV h2
   refine⟨by simp[i1],fun u hu=>?_,fun i d' u e1 e2=>?_⟩
   ·rcases zan.1 hu with rfl | hu
    ·exact b
    ·exact i2 u hu
   ·cases i with
    |zero=>simp at e1 e2;subst e1;subst e2;exact a
    |succ i=>simp at e1 e2;exact i3 i d' u e1 e2
  ·cases h
theorem CP {v:Value} {d:D} (h:Ak v=some d):RD M s d v∧v.oneCell'=true:=by
 unfold Ak at h
 split at h
 ·cases h;exact⟨.val _ rfl,rfl⟩
 ·exact ow h
theorem tu : ∀ {vs:List Value} {ds:List D},tt vs=some ds→ds.length=vs.length∧(∀ v∈vs,v.oneCell'=true)∧
 ∀ (i:Nat) (d:D) (v:Value),ds[i]? = some d→vs[i]? = some v→RD M s d v
 | [],ds,h=>by cases h;exact⟨rfl,by simp,by simp⟩
 | v::r,ds,h=>by
  unfold tt at h
  split at h
  ·rename_i d lM h1 h2
   cases h
   obtain⟨g1,g2⟩:=CP (M:=M) (s:=s) h1
   obtain⟨k1,k2,k3⟩:=tu h2
   refine⟨by simp[k1],fun u hu=>?_,fun i d' u e1 e2=>?_⟩
   ·rcases zan.1 hu with rfl | hu
    ·exact g2
    ·exact k2 u hu
   ·cases i with
    |zero=>simp at e1 e2;subst e1;subst e2;exact g1
    |succ i=>exact k3 i d' u (by simpa using e1) (by simpa using e2)
  ·cases h
theorem zN {b:Bool} {vs:List Value} {ds:List D} (h:Kb b vs=some ds):ds.length=vs.length∧(∀ v∈vs,v.oneCell'=true)∧
 ∀ (i:Nat) (d:D) (v:Value),ds[i]? = some d→vs[i]? = some v→RD M s d v:=by
 unfold Kb at h
 split at h
 ·exact tu h
 ·exact jV h
theorem Kg {v:Value} {d:D} (h:J9 v=some d):RD M s d v:=by
 unfold J9 at h
 split at h
 ·rename_i cs
  cases hc:lQ cs.toList with
  |none=>rw[hc]at h;cases h
  |some ds=>
   rw[hc]at h;cases h
   obtain⟨h1,h2,h3⟩:=jV (M:=M) (s:=s) hc
   exact .agg ds cs (by simpa using h1) (fun v hv=>h2 v (by simpa using hv)) (fun i d v e1 e2=>h3 i d v e1 (by simpa using e2))
 ·cases h;exact .undef
 ·exact(ow h).1
def kA (M:Map) (s:St) (tm:Tm) (tmps:Array Value):Prop:=∀ t,RD M s (tm.get t) (tmps.getD t Go.undef)
theorem kA.mono {M':Map} {s':St} {tm:Tm} {tmps:Array Value} (h:kA M s tm tmps) (le:Le M s M' s'):kA M' s' tm tmps:=fun t=>(h t).mono le
theorem bS {x:Operand} {y:X} (h:cX x=some y) {tm:Tm} {act:Act} (hr:kA M s tm act.tmps):RD M s (y.ev tm) (act.eval x):=by
 unfold cX at h
 split at h
 ·cases h;exact hr _
 ·rename_i v
  cases hv:J9 v with
  |none=>rw[hv]at h;cases h
  |some d=>rw[hv]at h;cases h;exact Kg hv
 ·cases h;exact .fL _ [] #[] rfl (by simp)
 ·cases h
theorem Tm.u6 (tm:Tm) (t:Nat) (d:D) (u:Nat):(tm.set t d).get u=if u=t then d else tm.get u:=by
 induction tm with
 |nil=>
  simp only[Tm.set,Tm.get]
  by_cases h:t=u
  ·simp[h]
  ·rw[if_neg h,if_neg (fun e=>h e.symm)]
 | cons p r ih=>
  obtain⟨k,e⟩:=p
  simp only[Tm.set]
  split
  ·rename_i h
   subst h
   simp only[Tm.get]
   by_cases h:k=u
   ·simp[h]
   ·rw[if_neg h,if_neg (fun e=>h e.symm),if_neg h]
  ·rename_i h
   simp only[Tm.get,ih]
   by_cases h1:k=u
   ·subst h1;simp[h]
   ·simp[h1]
theorem kA.put {tm:Tm} {act:Act} (h:kA M s tm act.tmps) {dst:Option Nat} (hd : ∀ t,dst=some t→t<act.tmps.size) {d:D} {v:Value} (hv:RD M s d v) :
 kA M s (tm.put dst d) (act.put dst v).tmps:=by
 intro u
 cases dst with
 |none=>exact h u
 | some t=>
  simp only[Tm.put,Act.put,Tm.u6]
  have ht:=hd t rfl
  by_cases hu:u=t
  ·subst hu
   simp[ht];exact hv
  ·rw [if_neg hu]
   have:=h u
   simpa[zbr (fun e=>hu e.symm)]using this
theorem fD (P:Program) {t:TypeId} {i:TypeInfo} (h:P.info? t=some i) (w:World):(typeInfo t).run P w = .ok i w:=by
 simp[typeInfo,h]
theorem kT (b o n:Nat):Addr.add ⟨b,o,none⟩ n = ⟨b,o+n,none⟩:=Addr.add_lit b o n
theorem wc (P:Program) {t:TypeId} {i:TypeInfo} {agg:Bool} (hi:P.info? t=some i) (ha:pe P t=some agg) (b k:Nat) (us:List Value)
 (hl:us.length=if agg then i.size else 1) (h : ∀ (j:Nat) (u:Value),us[j]? = some u→w.cell? ⟨b,k+j,none⟩=some u) :
 (loadVar t ⟨b,k,none⟩).run P w = .ok (if agg then .agg us.toArray else us.getD 0 Go.undef) w:=by
 have xX:(isAgg t).run P w = .ok agg w:=by
  unfold pe at ha
  unfold isAgg
  cases hu:P.underlying t with
  |none=>rw[hu]at ha;cases ha
  |some d=>
   rw[hu]at ha
   simp only[Sem.run_bind,run_underlying hu,Result.andThen_ok]
   cases d<;>simp_all
 cases agg with
 |true=>
  simp only[if_true]at hl ⊢
  have hc:=run_loadCells_list (P:=P) w ⟨b,k,none⟩ us (fun j v e=>by rw[kT];exact h j v e)
  simp[loadVar,xX,sizeOf,fD P hi, ← hl,hc]
 | false=>
  simp only[zab,if_false]at hl ⊢
  match us,hl with
  | [u],_=>
   have:=h 0 u rfl
   simp only[za4]at this
   simp[loadVar,xX,this]
theorem oR {cs:List D} {off:Nat} {agg:Bool} {size:Nat} {d:D} (h:part cs off agg size=some d) :
 (agg=true∧off+size≤cs.length∧d = .agg ((cs.drop off).take size))∨(agg=false∧cs[off]? = some d):=by
 unfold part at h
 split at h
 ·split at h
  ·cases h;exact .inl ⟨rfl, ‹_›,rfl⟩
  ·cases h
 ·exact .inr ⟨rfl,h⟩
theorem pj {cs:List D} {off size:Nat} {agg:Bool} {d:D} (h:part cs off agg size=some d) (us:List Value) (hl:us.length=if agg then size else 1)
 (fJ:agg=true→∀ u∈us,u.oneCell'=true)
 (hr : ∀ (j:Nat) (d:D) (u:Value),cs[off+j]? = some d→us[j]? = some u→RD M s d u):RD M s d (if agg then .agg us.toArray else us.getD 0 Go.undef):=by
 rcases oR h with ⟨rfl,h1,rfl⟩|⟨rfl,h1⟩
 ·simp only [if_true]at hl ⊢
  refine .agg _ _ (by simp[hl];omega) (fun v hv=>fJ rfl v (by simpa using hv)) (fun i d v e1 e2=>?_)
  rw[zaX]at e1
  split at e1
  ·rw [zbc]at e1
   exact hr i d v e1 (by simpa using e2)
  ·cases e1
 ·simp only [zab,if_false]at hl ⊢
  match us,hl with
  | [u],_=>exact hr 0 d u (by simpa using h1) rfl
end
end Go.Abs
namespace Go.Abs
def cG (P:Program) (M:Map) (s:St) (w:World) (x:Sem Next) (d:D) (s':St):Prop:=
 ∃ v w' M',(x.run P w = .ok (.value v) w'∨(x.run P w = .ok .skip w'∧v=Go.undef))∧Rel M' s' w'∧RD M' s' d v∧Ext M s w M' s' w'
section
variable {P:Program} {M:Map} {s:St} {w:World}
theorem cG.pure {x:Sem Next} {d:D} {v:Value} (r:Rel M s w) (h:x.run P w = .ok (.value v) w) (hd:RD M s d v):cG P M s w x d s:=
 ⟨v,w,M, .inl h,r,hd,Ext.refl M s w⟩
theorem Kh (r:Rel M s w) {t:TypeId} {z:List D} (hz:zeroOf P t=some z) :
 cG P M s w (do pure (.value (← Instr.alloc t true (.tuple #[])))) (.ptr s.av.length 0) {s with av:=s.av++ [z]}:=by
 unfold zeroOf at hz
 split at hz
 ·rename_i i hi
  split at hz
  ·rename_i v hv
   split at hz
   ·rename_i cV
    obtain⟨h1,h2,h3⟩:=jV (M:=M) (s:=s) hz
    obtain⟨r',e'⟩:=r.dE z v.cells t (by rw[h1];simp) (fun u hu=>h2 u (by simpa using hu)) (fun i d u e1 e2=>h3 i d u e1 (by simpa using e2))
    refine⟨_,_,_, .inl ?_,r', .ptr _ _ (by simp) (by simp[Map.dE,Map.ob,Ob.plain]),e'⟩
    simp[Instr.alloc,zeroValue,fD P hi,hv,newVar,newRow,Map.dE,Map.mu]
   ·cases hz
  ·cases hz
 ·cases hz
theorem Ia (r:Rel M s w) {t:TypeId} {z:List D} (hz:v8 P t=some (.er::z)) :
 cG P M s w (do pure (.value (← Instr.alloc t true (.tuple #[])))) (.ptr s.av.length 0) {s with av:=s.av++ [.eC t s.av.length::z]}:=by
 unfold v8 at hz
 split at hz
 ·rename_i i hi
  split at hz
  ·rename_i v hv
   split at hz
   ·rename_i cV
    obtain⟨h1,h2,h3⟩:=zN (M:=M) (s:=s) hz
    obtain⟨r',e'⟩:=r.FP (.eC t s.av.length::z) v.cells t (.ty t) trivial (fun _ h=>by cases h;rfl) (by simp at h1 ⊢;omega) (fun u hu=>h2 u (by simpa using hu)) (fun i d u e1 e2=>by
     cases i with
     |zero=>
      simp at e1;subst e1
      have:=(h3 0 .er u rfl (by simpa using e2)).qf
      exact .eC t _ u (by simp) (by simp[Map.dE,Map.ty,Ob.ty?]) (.inl this)
     |succ i=>exact(h3 (i+1) d u (by simpa using e1) (by simpa using e2)).mono (qe s w.heap.size _ _))
    refine⟨_,_,_, .inl ?_,r', .ptr _ _ (by simp) (by simp[Map.dE,Map.ob,Ob.plain]),e'⟩
    simp[Instr.alloc,zeroValue,fD P hi,hv,newVar,newRow,Map.dE,Map.mu]
   ·cases hz
  ·cases hz
 ·cases hz
theorem Qz (r:Rel M s w) {t:TypeId} {d:D} {v:Value} {row:List D} (hd:RD M s d v) (hr:d.row=some row) :
 cG P M s w (do pure (.value (← Instr.box t v))) (.ptr s.av.length 0) {s with av:=s.av++ [row]}:=by
 obtain⟨h1,h2,h3⟩:=hd.row hr
 obtain⟨r',e'⟩:=r.dE row v.cells t h1 h2 h3
 refine⟨_,_,_, .inl ?_,r', .ptr _ _ (by simp) (by simp[Map.dE,Map.ob,Ob.plain]),e'⟩
 simp[Instr.box,newVar,newRow,Map.dE,Map.mu]
theorem Na (r:Rel M s w) {t:TypeId} {d:D} {v:Value} {row:List D} (hd:RD M s d v) (hr:d.row=some (.er::row)) :
 cG P M s w (do pure (.value (← Instr.box t v))) (.ptr s.av.length 0) {s with av:=s.av++ [.eC t s.av.length::row]}:=by
 obtain⟨h1,h2,h3⟩:=hd.row hr
 obtain⟨r',e'⟩:=r.FP (.eC t s.av.length::row) v.cells t (.ty t) trivial (fun _ h=>by cases h;rfl) (by simp at h1 ⊢;omega) h2 (fun i d u e1 e2=>by
  cases i with
  |zero=>
   simp at e1;subst e1
   have:=(h3 0 .er u rfl e2).qf
   exact .eC t _ u (by simp) (by simp[Map.dE,Map.ty,Ob.ty?]) (.inl this)
  |succ i=>exact(h3 (i+1) d u (by simpa using e1) e2).mono (qe s w.heap.size _ _))
 refine⟨_,_,_, .inl ?_,r', .ptr _ _ (by simp) (by simp[Map.dE,Map.ob,Ob.plain]),e'⟩
 simp[Instr.box,newVar,newRow,Map.dE,Map.mu]
theorem EN (r:Rel M s w) {t:TypeId} {i:TypeInfo} {agg:Bool} (hi:P.info? t=some i) (ha:pe P t=some agg) {o off:Nat} {cs:List D} {d:D}
 (ho:s.av[o]? = some cs) (hk:(M.ob o).plain) (hp:part cs off agg i.size=some d) :
 cG P M s w (do pure (.value (← Instr.loadAt t (.pointer (some ⟨M.mu o,off,none⟩))))) d s:=by
 obtain⟨vs,T,hh,cV,⟨fJ,_⟩,gZ⟩:=r.obj o cs ho
 replace hh:w.heap[M.mu o]? = some (.cells vs T (0,0)):=hh.cells hk
 let n:=if agg then i.size else 1
 have iL:off+n≤vs.size:=by
  rcases oR hp with ⟨rfl,h1,_⟩|⟨rfl,h1⟩
  ·simp[n];omega
  ·have:=(zae.1 h1).1;simp[n];omega
 have hlen:((vs.toList.drop off).take n).length=n:=by simp;omega
 have hP : ∀ (j:Nat) (u:Value),((vs.toList.drop off).take n)[j]? = some u→vs[off+j]? = some u:=by
  intro j u h
  rw[zaX]at h
  split at h
  ·rw[zbc]at h;simpa using h
  ·cases h
 have da:=wc (w:=w) P hi ha (M.mu o) off ((vs.toList.drop off).take n) hlen (fun j u h=>by rw[gY hh];exact hP j u h)
 refine cG.pure (v:=if agg then .agg ((vs.toList.drop off).take n).toArray else((vs.toList.drop off).take n).getD 0 Go.undef) r (by simp[Instr.loadAt,Instr.sureAddr,da]) ?_
 refine pj hp _ hlen (fun _ u hu=>fJ u ?_) (fun j d u e1 e2=>gZ _ d u e1 (hP j u e2))
 exact zaQ.1 (zbl (zaZ hu))
theorem we {b:Nat} : ∀ (n k:Nat),(∀ j,j<n→∃ u,M.G b (k+j)=some u)→∃ us:List Value,us.length=n∧∀ (j:Nat) (u:Value),us[j]? = some u→M.G b (k+j)=some u
 | 0,_,_=>⟨[],rfl,fun j u h=>by simp at h⟩
 |n+1,k,h=>by
  obtain⟨u0,h0⟩:=h 0 (by omega)
  obtain⟨us,h1,h2⟩:=we n (k+1) (fun j hj=>by obtain⟨u,hu⟩:=h (j+1) (by omega);exact⟨u,by rw[show k+1+j=k+(j+1) by omega];exact hu⟩)
  refine⟨u0::us,by simp[h1],fun j u hj=>?_⟩
  cases j with
  |zero=>simp at hj;subst hj;exact h0
  |succ j=>simp at hj;have:=h2 j u hj;rw[show k+(j+1)=k+1+j by omega];exact this
theorem EO (r:Rel M s w) {t:TypeId} {i:TypeInfo} {agg:Bool} (hi:P.info? t=some i) (ha:pe P t=some agg) {row:List D} {off b k:Nat} {d:D}
 (h1 : ∀ (i:Nat) (d:D),row[i]? = some d→∃ u,M.G b (k+i)=some u) (h2 : ∀ (i:Nat) (d:D) (u:Value),row[i]? = some d→M.G b (k+i)=some u→RD M s d u)
 (hp:part row off agg i.size=some d) :
 cG P M s w (do pure (.value (← Instr.loadAt t (.pointer (some ⟨b,k+off,none⟩))))) d s:=by
 let n:=if agg then i.size else 1
 have iL:off+n≤row.length:=by
  rcases oR hp with ⟨rfl,h1,_⟩|⟨rfl,h1⟩
  ·simp[n];omega
  ·have:=(zae.1 h1).1;simp[n];omega
 obtain⟨us,hl,zM⟩:=we (M:=M) (b:=b) n (k+off) (fun j hj=>by
  obtain⟨d,hd⟩ : ∃ d,row[off+j]? = some d:=⟨_,zak (by omega)⟩
  obtain⟨u,hu⟩:=h1 _ d hd
  exact⟨u,by rw[show k+off+j=k+(off+j) by omega];exact hu⟩)
 have da:=wc (w:=w) P hi ha b (k+off) us hl (fun j u h=>(r.comm _ _ _ (zM j u h)).1)
 refine cG.pure (v:=if agg then .agg us.toArray else us.getD 0 Go.undef) r (by simp[Instr.loadAt,Instr.sureAddr,da]) ?_
 refine pj hp us hl (fun _ u hu=>?_) (fun j d u e1 e2=>h2 _ d u e1 (by rw[show k+(off+j)=k+off+j by omega];exact zM j u e2))
 obtain⟨j,hj⟩:=List.mem_iff_getElem?.1 hu
 exact(r.comm _ _ _ (zM j u hj)).2
theorem Ki (r:Rel M s w) {t:TypeId} {i:TypeInfo} (hi:P.info? t=some i) {o off:Nat} {cs row:List D} {d:D} {v:Value} (ho:s.av[o]? = some cs) (hk:(M.ob o).plain)
 (hd:RD M s d v) (hr:d.row=some row) (hl:row.length=i.size) (iL:off+i.size≤cs.length) :
 cG P M s w (do Instr.storeAt t (.pointer (some ⟨M.mu o,off,none⟩)) v;pure .skip) (.tuple []) {s with av:=s.av.set o (eH cs off row)}:=by
 obtain⟨h1,h2,h3⟩:=hd.row hr
 obtain⟨w',da,r',e'⟩:=r.adL P ho hk row v.cells.toList (by simpa using h1) (by rw[hl];exact iL) (fun u hu=>h2 u (by simpa using hu)) (fun i d u e1 e2=>h3 i d u e1 (by simpa using e2))
 refine⟨Go.undef,w',M, .inr ⟨?_,rfl⟩,r', .undef,e'⟩
 have cV:v.cells.size=i.size:=by omega
 simp[Instr.storeAt,Instr.sureAddr,storeVar,sizeOf,fD P hi,cV,da]
theorem wg (r:Rel M s w) {d:D} {a:Addr} (hd:RD M s d (.pointer (some a))) :
 cG P M s w (pure (.value (.pointer (some a)))) d s:=cG.pure r rfl hd
theorem xY {t:TypeId} {f off size:Nat} {agg:Bool} (h:kS P t f=some (off,size,agg)) (b k:Nat) :
 (Instr.fieldAt t (.pointer (some ⟨b,k,none⟩)) f).run P w = .ok (.pointer (some ⟨b,k+off,none⟩)) w:=by
 unfold kS at h
 split at h
 ·rename_i fs hu
  split at h
  ·rename_i fd hf
   split at h
   ·rename_i i a hi ha
    split at h
    ·cases h
    ·rename_i dL
     cases h
     simp[Instr.fieldAt,run_underlying hu,hf,Instr.sureAddr,fieldPlace,sizeOf,fD P hi,dL,kT]
   ·cases h
  ·cases h
 ·cases h
theorem Nb {t:TypeId} {f off size:Nat} {agg:Bool} (h:kS P t f=some (off,size,agg)) (vs:Array Value) (us:List Value) (hl:us.length=if agg then size else 1)
 (hg : ∀ j,j<us.length→vs[off+j]? = us[j]?) :
 (Instr.field t (.agg vs) f).run P w = .ok (if agg then .agg us.toArray else us.getD 0 Go.undef) w:=by
 unfold kS at h
 split at h
 ·rename_i fs hu
  split at h
  ·rename_i fd hf
   split at h
   ·rename_i i a hi ha
    split at h
    ·cases h
    ·rename_i dL
     cases h
     have xX:(isAgg fd.type).run P w = .ok agg w:=by
      unfold pe at ha
      unfold isAgg
      cases hu:P.underlying fd.type with
      |none=>rw[hu]at ha;cases ha
      |some d=>
       rw[hu]at ha
       simp only[Sem.run_bind,run_underlying hu,Result.andThen_ok]
       cases d<;>simp_all
     cases agg with
     | true=>
      simp only[if_true]at hl ⊢
      have:vs.extract fd.offset (fd.offset+i.size)=us.toArray:=by
       apply Array.ext_getElem?
       intro j
       rw[Array.getElem?_extract]
       by_cases hj:j<us.length
       ·rw [← hl,if_pos (by
         have h1:=hg j hj
         rw[zak hj]at h1
         have:=(zaN.1 h1).1
         have h2:=hg (us.length - 1) (by omega)
         rw[zak (by omega)]at h2
         have:=(zaN.1 h2).1
         omega),hg j hj]
        simp
       ·have hn:us.toArray[j]? = none:=by simp;omega
        rw[hn,if_neg (by omega)]
      simp[Instr.field,run_underlying hu,hf,asAgg,Go.part,xX,sizeOf,fD P hi,this]
     | false=>
      simp only[zab,if_false]at hl ⊢
      match us,hl with
      | [u],_=>
       have:=hg 0 (by simp)
       simp at this
       simp[Instr.field,run_underlying hu,hf,asAgg,Go.part,xX,this]
   ·cases h
  ·cases h
 ·cases h
end
end Go.Abs
namespace Go.Abs
section
variable {P:Program} {M:Map} {s:St} {w:World}
theorem Kj {op : BinOp} {t : TypeId} {k : IntKind} {a b : Int} {d : D} (h : eQ op k a b = some d) :
   ∃ v, (binOp op t (.int k a) (.int k b)).run P w = .ok v w ∧ RD M s d v := by
 cases op<;>simp only[eQ]at h
 case shl|shr =>
   split at h
   · cases h
   · rename_i hb
     cases h
     refine ⟨_, ?_, .int _ _⟩
     simp only[binOp, Op.shift, if_neg hb]
     rfl
 case and|or|xor =>
   cases h
   refine ⟨_, ?_, .int _ _⟩
   simp only[binOp, Op.intBits, ne_eq, not_true_eq_false, if_false]
   rfl
 all_goals first
   |(cases h; done)
   | (split at h
      · cases h
      · cases h
        exact ⟨_, by simp[binOp, Op.intDiv, *], .int _ _⟩)
   |(cases h; exact ⟨_, by simp[binOp, Op.intArith], .int _ _⟩)
   |(cases h; exact ⟨_, by simp[binOp, Op.intCmp], .bool _⟩)
theorem Kk {op:BinOp} {t:TypeId} {a b:List UInt8} {d:D} (h:jz op a b=some d) :
 ∃ v,(binOp op t (.string ⟨⟨a⟩⟩) (.string ⟨⟨b⟩⟩)).run P w = .ok v w∧RD M s d v:=by
 have sz : ∀ l:List UInt8,(⟨⟨l⟩⟩:ByteArray).size=l.length:=fun _=>rfl
 cases op<;>simp only[jz]at h<;>first
  |(cases h;done)
  |skip
 case add=>
  split at h
  ·rename_i hl
   cases h
   refine⟨.string ⟨⟨a++b⟩⟩, ?_, .str _⟩
   have h1 : ¬ ((((⟨⟨a⟩⟩:ByteArray).size+(⟨⟨b⟩⟩:ByteArray).size:Nat):Int) > IntKind.i64.max):=by
    rw[sz,sz,IntKind.max_i64];simp only[aT]at hl;omega
   simp only[binOp,Op.stringOp,h1,if_false]
   simp only[Sem.run_pure]
   congr 2
  ·cases h
 case eql=>cases h;exact⟨_,by simp[binOp,Op.stringOp], .bool _⟩
 case neq=>cases h;exact⟨_,by simp[binOp,Op.stringOp], .bool _⟩
 case lss=>cases h;exact⟨_,by simp[binOp,Op.stringOp,bytesLess], .bool _⟩
theorem iG {op:BinOp} {t:TypeId} {x y:Operand} {a b:Value} (h:(∀ vs,a≠ .agg vs)∧a≠ .nilIface):(eqGuard op t x y a b).run P w = .ok () w:=by
 obtain⟨h1,h2⟩:=h
 cases a<;>first
  |exact(h2 rfl).elim
  |exact(h1 _ rfl).elim
  |(cases op<;>simp[eqGuard])
theorem QA (r:Rel M s w) {op:BinOp} {t:TypeId} {x y:Operand} {dx dy d:D} {a b:Value} (ha:RD M s dx a) (hb:RD M s dy b) (h:mz op dx dy=some d) :
 cG P M s w (do pure (.value (← (do eqGuard op t x y a b;binOp op t a b)))) d s:=by
 unfold mz at h
 split at h
 ·rename_i k n k' m
  split at h
  ·rename_i hk;subst hk
   rw[ha.gj,hb.gj]
   obtain⟨v,hv,hd⟩:=Kj (P:=P) (M:=M) (s:=s) (w:=w) (t:=t) h
   exact cG.pure r (by simp[iG (P:=P) (w:=w) (op:=op) (t:=t) (x:=x) (y:=y) (a:= .int k n) (b:= .int k m) ⟨by simp,by simp⟩,hv]) hd
  ·cases h
 ·rename_i l m
  rw[ha.jU,hb.jU]
  obtain⟨v,hv,hd⟩:=Kk (P:=P) (M:=M) (s:=s) (w:=w) (t:=t) h
  exact cG.pure r (by simp[iG (P:=P) (w:=w) (op:=op) (t:=t) (x:=x) (y:=y) (a:= .string ⟨⟨l⟩⟩) (b:= .string ⟨⟨m⟩⟩) ⟨by simp,by simp⟩,hv]) hd
 ·cases h
theorem RD.mU {v u:Value} (h:RD M s (.val v) u):u=v:=by cases h;rfl
theorem Kl {k:FloatKind} {x y d:D} (h:sx (.ofInt k) x y=some d) : ∃ j n,x = .int j n∧d = .val (.float k (k.nearest n)):=by
 cases x<;>first|(cases h;done)|(cases h;exact⟨_,_,rfl,rfl⟩)
theorem Km {k:IntKind} {x y d:D} (h:sx (.toInt k) x y=some d) : ∃ s b n,x = .val (.float s b)∧(s.decode b).toInt .zero=some n∧(k.min≤n∧n≤k.max)∧d = .int k n:=by
 cases x with
 | val v=>
  cases v with
  | float s b=>
   simp only[sx]at h
   split at h
   ·rename_i n hn
    split at h
    ·rename_i hr;cases h;exact⟨_,_,_,rfl,hn,hr,rfl⟩
    ·cases h
   ·cases h
  |_=>cases h
 |_=>cases h
theorem Nc {x y d:D} (h:sx .Qv x y=some d) : ∃ k a b,x = .val (.float k a)∧y = .val (.float k b)∧d = .val (.complex k a b):=by
 unfold sx at h
 split at h<;>first|(cases h;done)|skip
 all_goals (first|(rename_i heq;cases heq;done)|skip)
 all_goals
  split at h
  ·rename_i hk;subst hk;cases h;first|exact⟨_,_,_,rfl,rfl,rfl⟩|(rename_i heq _ _;cases heq)
  ·cases h
theorem Nd {x y d:D} (h:sx .real x y=some d) : ∃ k a b,x = .val (.complex k a b)∧d = .val (.float k a):=by
 cases x with
 |val v=>cases v<;>first|(cases h;done)|(cases h;exact⟨_,_,_,rfl,rfl⟩)
 |_=>cases h
theorem Nf {x y d:D} (h:sx .imag x y=some d) : ∃ k a b,x = .val (.complex k a b)∧d = .val (.float k b):=by
 cases x with
 |val v=>cases v<;>first|(cases h;done)|(cases h;exact⟨_,_,_,rfl,rfl⟩)
 |_=>cases h
theorem Ng (r:Rel M s w) {op:BinOp} {o:FO} (ho:(o = .eq∧op = .eql)∨(o = .FD∧op = .add)∨(o = .M5∧op = .eql)) {t:TypeId} {x y:Operand} {dx dy d:D} {a b:Value} (ha:RD M s dx a) (hb:RD M s dy b) (h:sx o dx dy=some d) :
 cG P M s w (do pure (.value (← (do eqGuard op t x y a b;binOp op t a b)))) d s:=by
 unfold sx at h
 split at h<;>(try simp only[reduceCtorEq,false_and,true_and,false_or,or_false]at ho)
 ·rename_i k p k' q
  split at h<;>cases h
  rename_i hk;subst hk;subst ho
  cases ha.mU;cases hb.mU
  exact cG.pure r (by simp[iG (P:=P) (w:=w) (op:= .eql) (t:=t) (x:=x) (y:=y) (a:= .float k p) (b:= .float k q) ⟨by simp,by simp⟩,binOp,Op.floatCmp]) (.bool _)
 ·rename_i k p p' k' q q'
  split at h
  ·rename_i hk;subst hk;subst ho
   cases ha.mU;cases hb.mU
   split at h
   ·rename_i e f h1 h2
    cases h
    simp only[Qx]at h1 h2
    exact cG.pure r (by simp[iG (P:=P) (w:=w) (op:= .add) (t:=t) (x:=x) (y:=y) (a:= .complex k p p') (b:= .complex k q q') ⟨by simp,by simp⟩,binOp,Op.complexOp,Op.Complex.arith,Op.floatArith,h1,h2]) (.val _ rfl)
   ·cases h
  ·cases h
 ·rename_i k p p' k' q q'
  split at h<;>cases h
  rename_i hk;subst hk;subst ho
  cases ha.mU;cases hb.mU
  exact cG.pure r (by simp[iG (P:=P) (w:=w) (op:= .eql) (t:=t) (x:=x) (y:=y) (a:= .complex k p p') (b:= .complex k q q') ⟨by simp,by simp⟩,binOp,Op.complexOp,Op.Complex.cmp,Op.floatCmp,asBool]) (.bool _)
 ·cases h
theorem QB (r:Rel M s w) {neg:Bool} {t:TypeId} {x y:Operand} {p q:Bool} (ht:P.underlying t=some .bool) :
 cG P M s w (do pure (.value (← (do eqGuard (if neg then .neq else .eql) t x y (.bool p) (.bool q);binOp (if neg then .neq else .eql) t (.bool p) (.bool q))))) (.bool (if neg then !(p==q)else p==q)) s:=by
 refine cG.pure (v:= .bool (if neg then !(p==q)else p==q)) r ?_ (.bool _)
 have hg:=iG (P:=P) (w:=w) (op:=if neg then .neq else .eql) (t:=t) (x:=x) (y:=y) (a:= .bool p) (b:= .bool q) ⟨by simp,by simp⟩
 have he:(Op.equal t (.bool p) (.bool q)).run P w = .ok (p==q) w:=by
  exact run_equalIn_bool w 9999 t p q ht
 cases neg
 ·simp only [zab,if_false]at hg ⊢
  simp[hg,binOp,he]
 ·simp only [if_true]at hg ⊢
  simp[hg,binOp,he]
theorem Ic (n:Nat) {t e:TypeId} {a:Option Addr} (ht:P.underlying t=some (.pointer e)):(Op.equalIn (n+1) t (.pointer a) (.pointer none)).run P w = .ok a.isNone w:=by
 cases a<;>simp[Op.equalIn,run_underlying ht]
theorem Ap (r:Rel M s w) {neg:Bool} {t e:TypeId} {x y:Operand} {a:Option Addr} (ht:P.underlying t=some (.pointer e)) :
 cG P M s w (do pure (.value (← (do eqGuard (if neg then .neq else .eql) t x y (.pointer a) (.pointer none);binOp (if neg then .neq else .eql) t (.pointer a) (.pointer none))))) (.bool (if neg then !a.isNone else a.isNone)) s:=by
 refine cG.pure (v:= .bool (if neg then !a.isNone else a.isNone)) r ?_ (.bool _)
 have hg:=iG (P:=P) (w:=w) (op:=if neg then .neq else .eql) (t:=t) (x:=x) (y:=y) (a:= .pointer a) (b:= .pointer none) ⟨by simp,by simp⟩
 have he:(Op.equal t (.pointer a) (.pointer none)).run P w = .ok a.isNone w:=by
  exact Ic 9999 ht
 cases neg
 ·simp only [zab,if_false]at hg ⊢
  simp[hg,binOp,he]
 ·simp only [if_true]at hg ⊢
  simp[hg,binOp,he]
theorem Kn (n:Nat) {t:TypeId} {k:Nat} (hk:jA P t=some k) {x y:D} {v u:Value} (rv:RD M s x v) (ru:RD M s y u) {b:Bool} (h:lb k x y=some b) :
 (Op.equalIn (n+1) t v u).run P w = .ok b w:=by
 unfold jA at hk
 split at hk<;>first|(cases hk;done)|skip
 ·rename_i kk hu
  cases hk
  cases x<;>cases y<;>simp[lb]at h
  obtain⟨rfl,rfl⟩:=h
  rw[rv.gj,ru.gj]
  exact run_equalIn_int w n t _ _ _ _ hu
 ·rename_i hu
  cases hk
  cases x<;>cases y<;>simp[lb]at h
  subst h
  rw[rv.lR,ru.lR]
  exact run_equalIn_bool w n t _ _ hu
 ·rename_i hu
  cases hk
  cases x<;>cases y<;>simp[lb]at h
  subst h
  rw[rv.jU,ru.jU]
  rw[run_equalIn_string w n t _ _ hu]
  simp
theorem xZ (n:Nat) : ∀ (fs:List Field) (off:Nat) (ks:List Nat) (xs ys:List D) (vs us:Array Value) (e:Bool),
 zb P off fs=some ks→(∀ (i:Nat) (d:D) (v:Value),xs[i]? = some d→vs[off+i]? = some v→RD M s d v)→(∀ i,i<xs.length→(vs[off+i]?).isSome)→
 (∀ (i:Nat) (d:D) (v:Value),ys[i]? = some d→us[off+i]? = some v→RD M s d v)→(∀ i,i<ys.length→(us[off+i]?).isSome)→
 jT ks xs ys=some e→(Op.eqFields (n+1) vs us fs).run P w = .ok e w
 | [],off,ks,xs,ys,vs,us,e,hk,_,_,_,_,h=>by
  cases hk
  cases xs<;>cases ys<;>simp[jT]at h
  subst h;rfl
 | f::fs,off,ks,xs,ys,vs,us,e,hk,h1,h2,h3,h4,h=>by
  unfold zb at hk
  split at hk
  ·rename_i hf
   obtain⟨ho,Ko⟩:=hf
   split at hk
   ·rename_i k ks' sA bH
    cases hk
    match xs,ys with
    | [],[]=>cases h
    | [],_::_=>cases h
    |_::_,[]=>cases h
    | x::xs,y::ys=>
     obtain⟨v,hv⟩:=Option.isSome_iff_exists.1 (h2 0 (by simp))
     obtain⟨u,hu⟩:=Option.isSome_iff_exists.1 (h4 0 (by simp))
     simp only[za4]at hv hu
     have rv:=h1 0 x v rfl hv
     have ru:=h3 0 y u rfl hu
     have xX:(isAgg f.type).run P w = .ok false w:=by
      unfold isAgg
      unfold jA at sA
      cases hu:P.underlying f.type with
      |none=>rw[hu]at sA;simp at sA
      |some d=>simp only[Sem.run_bind,run_underlying hu,Result.andThen_ok];rw[hu]at sA;cases d<;>simp_all
     have pv:(Go.part f.type vs f.offset).run P w = .ok v w:=by simp[Go.part,xX,ho,hv]
     have pu:(Go.part f.type us f.offset).run P w = .ok u w:=by simp[Go.part,xX,ho,hu]
     cases hc:lb k x y with
     |none=>simp[jT,hc]at h
     | some b=>
      have hb:=Kn (w:=w) n sA rv ru hc
      simp only[jT,hc]at h
      simp only[Op.eqFields,if_pos Ko,Sem.run_bind,pv,pu,hb,Result.andThen_ok,Sem.run_ite,Sem.run_pure]
      cases b with
      |false=>cases h;rfl
      | true=>
       have:=xZ n fs (off+1) ks' xs ys vs us e bH
        (fun i d v e1 e2=>h1 (i+1) d v (by simpa using e1) (by rw[show off+(i+1)=off+1+i by omega];exact e2))
        (fun i hi=>by have:=h2 (i+1) (by simpa using hi);rwa [show off+(i+1)=off+1+i by omega]at this)
        (fun i d v e1 e2=>h3 (i+1) d v (by simpa using e1) (by rw[show off+(i+1)=off+1+i by omega];exact e2))
        (fun i hi=>by have:=h4 (i+1) (by simpa using hi);rwa [show off+(i+1)=off+1+i by omega]at this) h
       simp[this]
   ·cases hk
  ·cases hk
theorem QD (r:Rel M s w) {neg:Bool} {t:TypeId} {x y:Operand} {ks:List Nat} {xs ys:List D} {a b:Value} {e:Bool} (ht:og P t=some ks) (ha:RD M s (.agg xs) a) (hb:RD M s (.agg ys) b) (he:jT ks xs ys=some e) :
 cG P M s w (do pure (.value (← (do eqGuard (if neg then .neq else .eql) t x y a b;binOp (if neg then .neq else .eql) t a b)))) (.bool (if neg then !e else e)) s:=by
 obtain⟨vs,rfl,hl,_,h1⟩:=ha.CO
 obtain⟨us,rfl,lg,_,h2⟩:=hb.CO
 unfold og at ht
 split at ht
 ·rename_i fs hu
  split at ht
  ·rename_i hg
   obtain⟨va,zO⟩:=hg
   have hf:P.fieldsOf t=fs:=by simp[Program.fieldsOf,hu]
   have da:(Op.equalIn 10000 t (.agg vs) (.agg us)).run P w = .ok e w:=by
    rw[run_equalIn_struct w 9999 t vs us (by rw[hf];exact hu) zO,hf]
    exact xZ 9998 fs.toList 0 ks xs ys vs us e ht (fun i d v e1 e2=>h1 i d v e1 (by simpa using e2)) (fun i hi=>by simp;omega)
     (fun i d v e1 e2=>h2 i d v e1 (by simpa using e2)) (fun i hi=>by simp;omega) he
   have DI:=run_eqGuard_agg (P:=P) w (if neg then .neq else .eql) t x y vs us va
   refine cG.pure (v:= .bool (if neg then !e else e)) r ?_ (.bool _)
   cases neg
   ·simp only [zab,if_false]at DI ⊢
    simp only[Sem.run_bind,DI,Result.andThen_ok,run_eql_struct,da,Sem.run_pure]
   ·simp only [if_true]at DI ⊢
    simp only[Sem.run_bind,DI,Result.andThen_ok,run_neq_struct,da,Sem.run_pure]
  ·cases ht
 ·cases ht
end
end Go.Abs
namespace Go.Abs
section
variable {P:Program} {M:Map} {s:St} {w:World}
theorem zc (l:List UInt8):(⟨⟨l⟩⟩:ByteArray).size=l.length:=rfl
theorem extract_mk (l:List UInt8) (a b:Nat):(⟨⟨l⟩⟩:ByteArray).extract a b = ⟨⟨(l.take b).drop a⟩⟩:=by
 apply ByteArray.ext
 rw[ByteArray.data_extract]
 apply Array.ext'
 simp[List.drop_take]
theorem getElem?_mk (l:List UInt8) (n:Nat):(⟨⟨l⟩⟩:ByteArray)[n]? = l[n]? :=by
 by_cases h:n<l.length
 ·rw[getElem?_pos (⟨⟨l⟩⟩:ByteArray) n h,zak h];rfl
 ·rw [List.getElem?_eq_none (by omega)]
  rw[getElem?_neg (c:=(⟨⟨l⟩⟩:ByteArray)) (i:=n)]
  show ¬ n<(⟨⟨l⟩⟩:ByteArray).size
  rw[zc];omega
theorem Ni (r:Rel M s w) {t:TypeId} {l:List UInt8} {k:IntKind} {n:Int} {c:UInt8} (ht:P.underlying t=some .string) (h0:0≤n) (hc:l[n.toNat]? = some c) :
 cG P M s w (do pure (.value (← Instr.index t (.string ⟨⟨l⟩⟩) (.int k n)))) (.int .u8 c.toNat) s:=by
 refine cG.pure (v:= .int .u8 c.toNat) r ?_ (.int _ _)
 simp[Instr.index,asIntOf,run_underlying ht,h0,getElem?_mk,hc]
theorem FR (r:Rel M s w) {t ty:TypeId} {l:List UInt8} (ht:P.underlying t=some .string) :
 cG P M s w (do pure (.value (← Builtin.len_ #[t] ty #[.string ⟨⟨l⟩⟩]))) (.int .i64 l.length) s:=by
 refine cG.pure (v:= .int .i64 l.length) r ?_ (.int _ _)
 simp[Builtin.len_,run_underlying ht,goInt,zc]
theorem lh (r:Rel M s w) {t ty e:TypeId} {a:Option Addr} {n c:Nat} (ht:P.underlying t=some (.slice e)) :
 cG P M s w (do pure (.value (← Builtin.len_ #[t] ty #[.slice a n c]))) (.int .i64 n) s:=by
 refine cG.pure (v:= .int .i64 n) r ?_ (.int _ _)
 simp[Builtin.len_,run_underlying ht,goInt]
theorem Kp (r:Rel M s w) {t e:TypeId} {i:TypeInfo} {g:Tag} {rows:List (List D)} {row:List D} {v:Value} {k:IntKind} {n:Int} (ht:P.underlying t=some (.slice e)) (hi:P.info? e=some i)
 (hd:RD M s (.slice g i.size rows) v) (h0:0≤n) (hr:rows[n.toNat]? = some row) :
 cG P M s w (do pure (.value (← Instr.indexAt t v (.int k n)))) (.dr row 0) s:=by
 have hF:=(zae.1 hr).1
 rcases hd.hO with ⟨rfl,_,_⟩|⟨rfl,_,_⟩|⟨b,q,cap,rfl,hl,hs,h1,h2,_⟩
 ·simp at hr
 ·simp at hr
 ·refine cG.pure (v:= .pointer (some ⟨b,q+n.toNat*i.size+0,none⟩)) r ?_ ?_
  ·have:n<(rows.length:Int):=by omega
   simp[Instr.indexAt,asIntOf,run_underlying ht,h0,this,sizeOf,fD P hi,kT]
  ·refine .dr row 0 b (q+n.toNat*i.size) (fun j d hj=> ?_) (fun j d u hj hu=> ?_)
   ·obtain⟨u,hu⟩:=h1 n.toNat row j d hr hj
    exact⟨u,by rw[Nat.add_assoc];exact hu⟩
   ·exact h2 n.toNat row j d u hr hj (by rw[← Nat.add_assoc];exact hu)
def Nj (lv:Option Value) (l:Int):Prop:=(lv=none∧l=0)∨∃ k,lv=some (.int k l)
def Nk (hv:Option Value) (len:Nat) (h:Int):Prop:=(hv=none∧h=len)∨∃ k,hv=some (.int k h)
theorem nH {isSlice:Bool} {lv hv:Option Value} {len cap:Nat} {l h:Int} (h1:Nj lv l) (h2:Nk hv len h) (a:0≤l) (b:l≤h) (c:h≤len) (d:len≤cap) :
 (Instr.sliceBounds isSlice len cap lv hv none).run P w = .ok (l.toNat,h.toNat,cap) w:=by
 have h0:0≤h:=by omega
 have hc:h≤cap:=by omega
 rcases h1 with ⟨rfl,rfl⟩|⟨k,rfl⟩<;>rcases h2 with ⟨rfl,rfl⟩|⟨k',rfl⟩
 ·simp[Instr.sliceBounds]
 ·simp[Instr.sliceBounds,run_sliceBound w _ _ _ _ h0 hc]
 ·simp[Instr.sliceBounds,run_sliceBound w _ _ _ _ a b]
 ·have e:(h.toNat:Int)=h:=Int.toNat_of_nonneg h0
  simp[Instr.sliceBounds,run_sliceBound w _ _ _ _ h0 hc,run_sliceBound w _ _ _ _ a (show l≤(h.toNat:Int) by omega)]
theorem Nl (r:Rel M s w) {t:TypeId} {lv hv:Option Value} {x:List UInt8} {l h:Int} (ht:P.underlying t=some .string) (h1:Nj lv l) (h2:Nk hv x.length h) (a:0≤l) (b:l≤h) (c:h≤x.length) :
 cG P M s w (do pure (.value (← Instr.sliceAt t (.string ⟨⟨x⟩⟩) lv hv none))) (.str ((x.take h.toNat).drop l.toNat)) s:=by
 have hb:=nH (P:=P) (w:=w) (isSlice:=false) (cap:=x.length) h1 h2 a b c (zag _)
 refine cG.pure (v:= .string ⟨⟨(x.take h.toNat).drop l.toNat⟩⟩) r ?_ (.str _)
 simp[Instr.sliceAt,run_underlying ht,Instr.slice,zc,hb,extract_mk]
theorem gO.cut {g:Tag} {z len QE cap:Nat} {base:Option (Nat×Nat)} (h:gO M s g z len base cap) (hl:QE≤len) (whole:Bool) (hw:whole=true→QE=len):gO M s (g.cut whole) z QE base cap:=by
 cases g with
 |full=>
  cases whole with
  |true=>rw[hw rfl];exact h
  |false=>trivial
 |shared=>trivial
 |tok t y=>
  obtain⟨x1,x2⟩:=h
  refine⟨x1,fun n hn=>⟨zbb hl (x2 n hn).1,fun e=>?_⟩⟩
  have:len=n:=by have:=(x2 n hn).1;omega
  exact(x2 n hn).2 this
theorem QG (r:Rel M s w) {t e:TypeId} {i:TypeInfo} {g:Tag} {z:Nat} {lv hv:Option Value} {rows:List (List D)} {v:Value} {l h:Int} (ht:P.underlying t=some (.slice e)) (xf:P.info? e=some i) (hz:rows = []∨z=i.size)
 (hd:RD M s (.slice g z rows) v) (h1:Nj lv l) (h2:Nk hv rows.length h) (a:0≤l) (b:l≤h) (c:h≤rows.length) :
 cG P M s w (do pure (.value (← Instr.sliceAt t v lv hv none))) (.slice (if l=0 then g.cut (h=rows.length)else .shared) z ((rows.take h.toNat).drop l.toNat)) s:=by
 have hlen:((rows.take h.toNat).drop l.toNat).length=h.toNat - l.toNat:=by simp;omega
 have tag : ∀ base cap,gO M s g z rows.length base cap→gO M s (if l=0 then g.cut (h=rows.length)else .shared) z ((rows.take h.toNat).drop l.toNat).length base cap:=by
  intro base cap mA
  split
  ·exact mA.cut (by omega) _ (fun hh=>by simp at hh;omega)
  ·trivial
 rcases hd.hO with ⟨rfl,rfl,mA⟩|⟨rfl,rfl,a',cap,rfl⟩|⟨b',q,cap,rfl,hl,hs,g1,g2,mA⟩
 ·have hb:=nH (P:=P) (w:=w) (isSlice:=true) (cap:=0) h1 h2 a b c (zag _)
  have rL:l=0:=by simp at c;omega
  have Xc:h=0:=by simp at c;omega
  subst rL;subst Xc
  refine cG.pure (v:= .slice none 0 0) r ?_ ?_
  ·simp at hb
   simp[Instr.sliceAt,run_underlying ht,Instr.slice,hb,sizeOf,fD P xf]
  ·have:=tag _ _ mA
   simp only[Int.toNat_zero,List.take_nil,List.drop_nil,zaE]at this ⊢
   exact .ig _ _ 0 rfl this
 ·have hb:=nH (P:=P) (w:=w) (isSlice:=true) (cap:=cap) h1 h2 a b c (zar _)
  have rL:l=0:=by simp at c;omega
  have Xc:h=0:=by simp at c;omega
  subst rL;subst Xc
  simp only[zaE]at hb
  have da : ∃ a2:Addr,(Instr.sliceAt t (.slice (some a') 0 cap) lv hv none).run P w = .ok (.slice (some a2) 0 cap) w:=by
   refine⟨if cap=(0:Int).toNat then a' else a'.add ((0:Int).toNat*i.size), ?_⟩
   simp only[Instr.sliceAt,Sem.run_bind,run_underlying ht,Result.andThen_ok,Instr.slice,hb,sizeOf,fD P xf,Sem.run_pure]
   split<;>simp
  obtain⟨a2,da⟩:=da
  refine cG.pure (v:= .slice (some a2) 0 cap) r (by simp[da]) ?_
  simp only[↓reduceIte,Int.toNat_zero,List.take_nil,List.drop_nil]
  have:Tag.cut .shared (decide ((0:Int)=(([] : List (List D)).length:Int))) = .shared:=rfl
  rw[this]
  exact .kR _ a2 cap
 ·have hb:=nH (P:=P) (w:=w) (isSlice:=true) (cap:=cap) h1 h2 a b c hl
  have da:(Instr.sliceAt t (.slice (some ⟨b',q,none⟩) rows.length cap) lv hv none).run P w = .ok (.slice (some (if cap=l.toNat then⟨b',q,none⟩else⟨b',q+l.toNat*i.size,none⟩)) (h.toNat - l.toNat) (cap - l.toNat)) w:=by
   simp only[Instr.sliceAt,Sem.run_bind,run_underlying ht,Result.andThen_ok,Instr.slice,hb,sizeOf,fD P xf,Sem.run_pure]
   split<;>simp[kT]
  by_cases rL:l=0
  ·subst rL
   have e:(if cap=(0:Int).toNat then(⟨b',q,none⟩:Addr)else⟨b',q+(0:Int).toNat*i.size,none⟩) = ⟨b',q,none⟩:=by simp
   rw[e]at da
   refine cG.pure (v:= .slice (some ⟨b',q,none⟩) ((rows.take h.toNat).drop (0:Int).toNat).length cap) r (by simp[da];omega) ?_
   refine .slice _ z _ b' q cap (by omega) (fun row hr=>hs row ?_) (fun i row j d e1 e2=>?_) (fun i row j d u e1 e2 eu=>?_) (tag _ _ mA)
   ·simp at hr;exact zaZ hr
   ·simp[zaX]at e1;exact g1 i row j d e1.2 e2
   ·simp[zaX]at e1;exact g2 i row j d u e1.2 e2 eu
  ·rw [if_neg rL]
   by_cases rz:cap=l.toNat
   ·have:(rows.take h.toNat).drop l.toNat = []:=zbe (by omega)
    rw[this]
    rw[if_pos rz]at da
    refine cG.pure (v:= .slice (some ⟨b',q,none⟩) ([] : List (List D)).length (cap - l.toNat)) r (by simp[da];omega) ?_
    exact .slice _ z [] b' q _ (by simp) (by simp) (by simp) (by simp) trivial
   ·rw [if_neg rz]at da
    refine cG.pure (v:= .slice (some ⟨b',q+l.toNat*i.size,none⟩) ((rows.take h.toNat).drop l.toNat).length (cap - l.toNat)) r (by simp[da];omega) ?_
    have dN : ∀ (k:Nat) (row:List D),((rows.take h.toNat).drop l.toNat)[k]? = some row→rows[l.toNat+k]? = some row:=by
     intro k row e
     rw[zbc,zaX]at e
     split at e
     ·exact e
     ·cases e
    have hzz : ∀ (k:Nat) (row:List D),((rows.take h.toNat).drop l.toNat)[k]? = some row→z=i.size:=by
     intro k row e
     rcases hz with rfl|hz
     ·simp at e
     ·exact hz
    refine .slice _ z _ b' _ _ (by omega) (fun row hr=>hs row (zaZ (zbl hr))) (fun k row j d e1 e2=>?_) (fun k row j d u e1 e2 eu=>?_) trivial
    ·obtain⟨u,hu⟩:=g1 _ row j d (dN k row e1) e2
     refine⟨u, ?_⟩
     rw[← hu, ← hzz k row e1]
     congr 1
     rw[zba];omega
    ·refine g2 _ row j d u (dN k row e1) e2 ?_
     rw[← eu, ← hzz k row e1]
     congr 1
     rw[zba];omega
theorem tv (off:Nat) : ∀ (l:List Value) (k:Nat) (cells:Array Value) (i:Nat),
 ((l.zipIdx k).foldl (fun cs p=>cs.setIfInBounds (off+p.2) p.1) cells).size=cells.size∧
 (off+k+l.length≤cells.size→((l.zipIdx k).foldl (fun cs p=>cs.setIfInBounds (off+p.2) p.1) cells)[i]? = if off+k≤i∧i<off+k+l.length then l[i - (off+k)]? else cells[i]?)
 | [],k,cells,i=>by simp;intro _ h1 h2;omega
 | v::l,k,cells,i=>by
  obtain⟨h1,h2⟩:=tv off l (k+1) (cells.setIfInBounds (off+k) v) i
  simp only[List.zipIdx_cons,List.foldl_cons]
  refine⟨by rw[h1];simp,fun iL=>?_⟩
  simp only[zal]at iL
  rw[h2 (by simp;omega)]
  rw[Array.getElem?_setIfInBounds]
  by_cases hi:off+k=i
  ·subst hi
   rw[if_neg (by omega),if_pos rfl,if_pos (by omega),if_pos (by simp)]
   simp
  ·rw [if_neg hi]
   by_cases hr:off+(k+1)≤i∧i<off+(k+1)+l.length
   ·rw [if_pos hr,if_pos (by simp;omega)]
    rw[show i - (off+k)=(i - (off+(k+1)))+1 by omega]
    simp
   ·rw[if_neg hr,if_neg (by simp;omega)]
def qV (M:Map) (s:St) (ds:List D) (vs:Array Value):Prop:=vs.size=ds.length∧(∀ v∈vs,v.oneCell'=true)∧∀ (i:Nat) (d:D) (v:Value),ds[i]? = some d→vs[i]? = some v→RD M s d v
theorem qV.eH {ds:List D} {vs:Array Value} (h:qV M s ds vs) {d:D} {v:Value} {row:List D} (hd:RD M s d v) (hr:d.row=some row) {off:Nat} (iL:off+row.length≤ds.length) :
 qV M s (eH ds off row) (v.cells.zipIdx.foldl (fun cs (p:Value×Nat)=>cs.setIfInBounds (off+p.2) p.1) vs):=by
 obtain⟨h1,h2,h3⟩:=hd.row hr
 obtain⟨g1,g2,g3⟩:=h
 have e:v.cells.zipIdx.foldl (fun cs (p:Value×Nat)=>cs.setIfInBounds (off+p.2) p.1) vs=(v.cells.toList.zipIdx 0).foldl (fun cs p=>cs.setIfInBounds (off+p.2) p.1) vs:=by
  rw[← Array.foldl_toList];simp
 rw[e]
 have hl:v.cells.toList.length=row.length:=by simpa using h1
 have fs:=fun i=>tv off v.cells.toList 0 vs i
 have get : ∀ i,((v.cells.toList.zipIdx 0).foldl (fun cs p=>cs.setIfInBounds (off+p.2) p.1) vs)[i]? = if off≤i∧i<off+row.length then v.cells.toList[i - off]? else vs[i]? :=by
  intro i
  have:=(fs i).2 (by omega)
  rw[hl]at this
  simpa using this
 refine⟨by rw[(fs 0).1,g1,rr ds off row iL],fun u hu=>?_,fun i d' u e1 e2=>?_⟩
 ·obtain⟨i,hi⟩:=Array.mem_iff_getElem?.1 hu
  rw[get]at hi
  split at hi
  ·exact h2 u (zaQ.1 (zac hi))
  ·exact g2 u (zbp hi)
 ·rw [pf ds off row iL]at e1
  rw[get]at e2
  by_cases h5:off≤i
  ·by_cases h6:i<off+row.length
   ·rw [if_pos ⟨h5,h6⟩]at e2
    rw[if_neg (by omega),if_pos h6]at e1
    exact h3 _ d' u e1 (by simpa using e2)
   ·rw [if_neg (fun h=>h6 h.2)]at e2
    rw[if_neg (by omega),if_neg h6]at e1
    exact g3 i d' u e1 e2
  ·rw [if_neg (fun h=>h5 h.1)]at e2
   rw[if_pos (by omega)]at e1
   exact g3 i d' u e1 e2
theorem FT {place:Nat→Option (Nat×Nat)} : ∀ (vp:List (Nat×Value)) (dp:List (Nat×Nat×D)) (ds:List D) (vs:Array Value) (lM:List D),qV M s ds vs→
 dp.length=vp.length→(∀ (j:Nat) (i:Nat) (v:Value) (off size:Nat) (d:D),vp[j]? = some (i,v)→dp[j]? = some (off,size,d)→place i=some (off,size)∧RD M s d v)→
 pd ds dp=some lM→∃ eR,Instr.fill place vs vp=some eR∧qV M s lM eR
 | [],[],ds,vs,lM,h,_,_,e=>by cases e;exact⟨vs,rfl,h⟩
 | [],_::_,_,_,_,_,hl,_,_=>by simp at hl
 |_::_,[],_,_,_,_,hl,_,_=>by simp at hl
 | (i,v)::vp,(off,size,d)::dp,ds,vs,lM,h,hl,hp,e=>by
  obtain⟨h1,h2⟩:=hp 0 i v off size d rfl rfl
  unfold pd at e
  split at e
  ·cases e
  ·rename_i row hr
   split at e
   ·rename_i hc
    obtain⟨c1,c2⟩:=hc
    have cV:=(h2.row hr).1
    obtain⟨eR,f1,f2⟩:=FT vp dp (eH ds off row) _ lM (h.eH h2 hr (by omega)) (by simpa using hl)
     (fun j i v off size d e1 e2=>hp (j+1) i v off size d (by simpa using e1) (by simpa using e2)) e
    refine⟨eR, ?_,f2⟩
    unfold Instr.fill
    simp only[h1]
    rw[if_neg]
    ·exact f1
    ·simp;exact⟨by omega,by have:=h.1;omega⟩
   ·cases e
end
end Go.Abs
namespace Go.Abs
section
variable {P:Program} {M:Map} {s:St} {w:World}
def kB (M:Map) (s:St) (size:Nat) (rows:List (List D)) (vs:Array Value):Prop:=
 rows.length*size≤vs.size∧(∀ row∈rows,row.length=size)∧(∀ v∈vs,v.oneCell'=true)∧
 ∀ (i:Nat) (row:List D) (j:Nat) (d:D) (v:Value),rows[i]? = some row→row[j]? = some d→vs[i*size+j]? = some v→RD M s d v
theorem x3 {size:Nat} {rows:List (List D)} (hs : ∀ row∈rows,row.length=size) {i:Nat} {row:List D} {j:Nat} {d:D} (h1:rows[i]? = some row) (h2:row[j]? = some d):i*size+j<rows.length*size:=by
 have hi:=(zae.1 h1).1
 have hj:=(zae.1 h2).1
 have:=hs row (zac h1)
 have:i*size+size≤rows.length*size:=by rw[← Nat.succ_mul];exact zaT _ hi
 omega
theorem kB.fixed {size:Nat} {rows:List (List D)} {vs:Array Value} (h:kB M s size rows vs) {M':Map} {s':St} (le:Le M s M' s') {b:Nat}
 (hG : ∀ o,o<rows.length*size→M'.G b o=vs[o]?) :
 (∀ (i:Nat) (row:List D) (j:Nat) (d:D),rows[i]? = some row→row[j]? = some d→∃ u,M'.G b (0+(i*size+j))=some u)∧
 (∀ (i:Nat) (row:List D) (j:Nat) (d:D) (u:Value),rows[i]? = some row→row[j]? = some d→M'.G b (0+(i*size+j))=some u→RD M' s' d u):=by
 obtain⟨h1,h2,h3,h4⟩:=h
 refine⟨fun i row j d e1 e2=>?_,fun i row j d u e1 e2 eu=>?_⟩
 ·have hF:=x3 h2 e1 e2
  rw[za6,hG _ hF]
  exact⟨_,za9 (by omega)⟩
 ·have hF:=x3 h2 e1 e2
  rw[za6,hG _ hF]at eu
  exact(h4 i row j d u e1 e2 eu).mono le
theorem kC (z:List D) : ∀ n,(fC z n).length=n
 | 0=>rfl
 |n+1=>by simp[fC,kC z n]
theorem mV (z:List D) : ∀ n,∀ row∈fC z n,row=z
 | 0,_,h=>by cases h
 |n+1,row,h=>by
  rcases zan.1 h with rfl|h
  ·rfl
  ·exact mV z n row h
theorem kB.zero {z:List D} {zs:Array Value} (h:qV M s z zs) (hp:0<z.length) (n:Nat):kB M s z.length (fC z n) ((Array.range (n*z.length)).map (zs[· % zs.size]!)):=by
 obtain⟨h1,h2,h3⟩:=h
 have get : ∀ q,q<n*z.length→((Array.range (n*z.length)).map (zs[· % zs.size]!))[q]? = zs[q % z.length]? :=by
  intro q hq
  have:q % z.length<zs.size:=by rw[h1];exact Nat.mod_lt _ hp
  simp only[Array.getElem?_map,Array.getElem?_range,hq,if_true,zbs]
  rw[h1,getElem!_pos zs (q % z.length) this,za9 this]
 refine⟨by simp[kC],fun row hr=>by rw[mV z n row hr],fun v hv=>?_,fun i row j d v e1 e2 e3=>?_⟩
 ·obtain⟨q,hq⟩:=Array.mem_iff_getElem?.1 hv
  have hF:q<n*z.length:=by have:=(zaN.1 hq).1;simpa using this
  rw[get q hF]at hq
  exact h2 v (zbp hq)
 ·have dN:=mV z n row (zac e1)
  subst dN
  have hF:=x3 (size:=row.length) (fun r hr=>by rw[mV row n r hr]) e1 e2
  rw[kC]at hF
  rw[get _ hF]at e3
  have hj:=(zae.1 e2).1
  rw[Nat.mul_comm,Nat.mul_add_mod,Nat.mod_eq_of_lt hj]at e3
  exact h3 j d v e2 e3
theorem kB.set {size:Nat} {rows:List (List D)} {vs:Array Value} (h:kB M s size rows vs) {d:D} {v:Value} {row:List D} (hd:RD M s d v) (hr:d.row=some row) (hl:row.length=size) {i:Nat} (hi:i<rows.length) :
 kB M s size (rows.set i row) (v.cells.zipIdx.foldl (fun cs (p:Value×Nat)=>cs.setIfInBounds (i*size+p.2) p.1) vs):=by
 obtain⟨h1,h2,h3⟩:=hd.row hr
 obtain⟨g1,g2,g3,g4⟩:=h
 have e:v.cells.zipIdx.foldl (fun cs (p:Value×Nat)=>cs.setIfInBounds (i*size+p.2) p.1) vs=(v.cells.toList.zipIdx 0).foldl (fun cs p=>cs.setIfInBounds (i*size+p.2) p.1) vs:=by
  rw[← Array.foldl_toList];simp
 rw[e]
 have jZ:v.cells.toList.length=size:=by simp[h1,hl]
 have iL:i*size+size≤vs.size:=by
  have:(i+1)*size≤rows.length*size:=zaT _ hi
  rw[Nat.succ_mul]at this;omega
 have fs:=fun q=>tv (i*size) v.cells.toList 0 vs q
 have get : ∀ q,((v.cells.toList.zipIdx 0).foldl (fun cs p=>cs.setIfInBounds (i*size+p.2) p.1) vs)[q]? = if i*size≤q∧q<i*size+size then v.cells.toList[q - i*size]? else vs[q]? :=by
  intro q
  have:=(fs q).2 (by omega)
  rw[jZ]at this
  simpa using this
 refine⟨by rw[(fs 0).1];simpa using g1,fun r FV=>?_,fun u hu=>?_,fun i' ij j d' u e1 e2 e3=>?_⟩
 ·rcases List.mem_or_eq_of_mem_set FV with h | rfl
  ·exact g2 r h
  ·exact hl
 ·obtain⟨q,hq⟩:=Array.mem_iff_getElem?.1 hu
  rw[get]at hq
  split at hq
  ·exact h2 u (zaQ.1 (zac hq))
  ·exact g3 u (zbp hq)
 ·rw [zaM]at e1
  rw[get]at e3
  split at e1
  ·rename_i heq;subst heq
   simp at e1
   obtain⟨_,rfl⟩:=e1
   have hj:=(zae.1 e2).1
   rw[if_pos (by omega)]at e3
   rw[show i*size+j - i*size=j by omega]at e3
   exact h3 j d' u e2 (by simpa using e3)
  ·rename_i dL
   have hj:=(zae.1 e2).1
   have Ja:=g2 ij (zac e1)
   rw[if_neg]at e3
   ·exact g4 i' ij j d' u e1 e2 e3
   ·rintro⟨a,b⟩
    rcases Nat.lt_or_gt_of_ne dL with h|h
    ·have:(i+1)*size≤i'*size:=zaT _ h
     rw[Nat.succ_mul]at this;omega
    ·have:(i'+1)*size≤i*size:=zaT _ h
     rw[Nat.succ_mul]at this;omega
theorem x4 {size:Nat} : ∀ (vp:List (Nat×Value)) (dp:List (Nat×D)) (rows:List (List D)) (vs:Array Value) (kg:List (List D)),kB M s size rows vs→
 dp.length=vp.length→(∀ (j:Nat) (i:Nat) (v:Value) (i':Nat) (d:D),vp[j]? = some (i,v)→dp[j]? = some (i',d)→i'=i∧RD M s d v)→
 iR size rows dp=some kg→∃ eR,Instr.fill (fun i=>some (i*size,size)) vs vp=some eR∧kB M s size kg eR∧kg.length=rows.length∧eR.size=vs.size
 | [],[],rows,vs,kg,h,_,_,e=>by cases e;exact⟨vs,rfl,h,rfl,rfl⟩
 | [],_::_,_,_,_,_,hl,_,_=>by simp at hl
 |_::_,[],_,_,_,_,hl,_,_=>by simp at hl
 | (i,v)::vp,(i',d)::dp,rows,vs,kg,h,hl,hp,e=>by
  obtain⟨h1,h2⟩:=hp 0 i v i' d rfl rfl
  subst h1
  unfold iR at e
  split at e
  ·cases e
  ·rename_i row hr
   split at e
   ·rename_i hc
    obtain⟨c1,c2⟩:=hc
    have cV:=(h2.row hr).1
    have aaD:=h.set h2 hr c1 c2
    obtain⟨eR,f1,f2,f3,f4⟩:=x4 vp dp (rows.set i' row) _ kg aaD (by simpa using hl)
     (fun j i v i' d e1 e2=>hp (j+1) i v i' d (by simpa using e1) (by simpa using e2)) e
    have iL:i'*size+size≤vs.size:=by
     have:(i'+1)*size≤rows.length*size:=zaT _ c2
     have:=h.1
     rw[Nat.succ_mul]at *;omega
    refine⟨eR, ?_,f2,by rw[f3];simp, ?_⟩
    ·unfold Instr.fill
     simp only
     rw[if_neg]
     ·exact f1
     ·simp;exact⟨by omega,by omega⟩
    ·rw [f4]
     have:=(tv (i'*size) v.cells.toList 0 vs 0).1
     rw[← this, ← Array.foldl_toList];simp
   ·cases e
theorem Kr (r:Rel M s w) {size:Nat} {rows:List (List D)} {vs:Array Value} (T:TypeId) (h:kB M s size rows vs) :
 RD (M.fe w.heap.size vs.size vs) s (.slice .full size rows) (.slice (some ⟨w.heap.size,0,none⟩) rows.length rows.length)∧
 Rel (M.fe w.heap.size vs.size vs) s (w.alloc (.cells vs T))∧Ext M s w (M.fe w.heap.size vs.size vs) s (w.alloc (.cells vs T)):=by
 obtain⟨r',e'⟩:=r.fe vs.size vs T (0,0) h.2.2.1
 obtain⟨g1,g2⟩:=h.fixed e'.le (b:=w.heap.size) (fun o ho=>by
  have:o<vs.size:=Nat.lt_of_lt_of_le ho h.1
  simp[Map.fe,this])
 exact⟨.slice .full size rows w.heap.size 0 rows.length (zag _) h.2.1 g1 g2 rfl,r',e'⟩
theorem j8 {t u ty e:TypeId} {i:TypeInfo} (ht:P.underlying t=some (.slice e)) (hi:P.info? e=some i) {base:Option Addr} {len cap:Nat} {y:Value} (hs:Src P i.size u y 0 [] w) (hc:len≤cap) :
 (Builtin.append_ #[t,u] ty #[.slice base len cap,y]).run P w = .ok (.slice base len cap) w:=by
 have kD:=hs.cells
 rcases hs.kind with ⟨e',hk⟩|hk<;>cases base<;>simp[Builtin.append_,run_underlying ht,run_underlying hk,sizeOf,typeInfo,hi,hs.len,hc,kD,storeCells]
theorem DJ (r:Rel M s w) {u e':TypeId} (hu:P.underlying u=some (.slice e')) {g:Tag} {size:Nat} {rows:List (List D)} {y:Value} (hy:RD M s (.slice g size rows) y) :
 ∃ news:List Value,Src P size u y rows.length news w∧
  (∀ (i:Nat) (row:List D) (j:Nat) (d:D) (v:Value),rows[i]? = some row→row[j]? = some d→news[i*size+j]? = some v→RD M s d v)∧
  ∀ (b q n c:Nat),y = .slice (some ⟨b,q,none⟩) n c→∀ o,o<rows.length*size→M.G b (q+o)=news[o]? :=by
 rcases hy.hO with ⟨rfl,rfl,_⟩|⟨rfl,_,a,cap,rfl⟩|⟨b,q,cap,rfl,hl,hs,g1,g2,_⟩
 ·exact⟨[],Src.ofNil w hu 0,by simp,by simp⟩
 ·exact⟨[],Src.ofSlice w hu a 0 cap [] (by simp) (by simp) (by simp),by simp,by simp⟩
 ·obtain⟨us,hlen,zM⟩:=we (M:=M) (b:=b) (rows.length*size) q (fun k hk=>by
   have hz:0<size:=by
    rcases Nat.eq_zero_or_pos size with h|h
    ·subst h;simp at hk
    ·exact h
   have hi:k / size<rows.length:=by rw[Nat.div_lt_iff_lt_mul hz];exact hk
   obtain⟨row,dN⟩ : ∃ row,rows[k / size]? = some row:=⟨_,zak hi⟩
   have Ja:=hs row (zac dN)
   have hj:k % size<row.length:=by rw[Ja];exact Nat.mod_lt _ hz
   obtain⟨u,hu⟩:=g1 _ row _ _ dN (zak hj)
   refine⟨u, ?_⟩
   rw[← hu,Nat.mul_comm (k / size) size,Nat.div_add_mod])
  refine⟨us,Src.ofSlice w hu ⟨b,q,none⟩ rows.length cap us hlen (fun j u h=>by rw[kT];exact(r.comm _ _ _ (zM j u h)).1) (fun u hu=>?_),fun i row j d v e1 e2 e3=>g2 i row j d v e1 e2 (zM _ v e3),
   fun b' q' n c heq o ho=>by
    cases heq
    rw[zM o _ (zak (by omega)),zak (by omega)]⟩
  obtain⟨j,hj⟩:=List.mem_iff_getElem?.1 hu
  exact(r.comm _ _ _ (zM j u hj)).2
theorem A9 {size:Nat} {rows new:List (List D)} {n7 news:List Value} (Jb : ∀ row∈rows,row.length=size) (Jc : ∀ row∈new,row.length=size)
 (l1:n7.length=rows.length*size) (l2:news.length=new.length*size) (o1 : ∀ u∈n7,u.oneCell'=true) (o2 : ∀ u∈news,u.oneCell'=true)
 (h1 : ∀ (i:Nat) (row:List D) (j:Nat) (d:D) (v:Value),rows[i]? = some row→row[j]? = some d→n7[i*size+j]? = some v→RD M s d v)
 (h2 : ∀ (i:Nat) (row:List D) (j:Nat) (d:D) (v:Value),new[i]? = some row→row[j]? = some d→news[i*size+j]? = some v→RD M s d v)
 (z:Array Value) (hz : ∀ v∈z,v.oneCell'=true):kB M s size (rows++new) ((n7++news).toArray++z):=by
 have hs : ∀ row∈rows++new,row.length=size:=fun row h=>(zaw.1 h).elim (Jb row) (Jc row)
 refine⟨by simp[l1,l2,zba],hs,fun v hv=>?_,fun i row j d v e1 e2 e3=>?_⟩
 ·simp at hv
  rcases hv with (h|h)|h
  ·exact o1 v h
  ·exact o2 v h
  ·exact hz v h
 ·have hF:=x3 hs e1 e2
  rw[zai,zba]at hF
  rw[za0 (by simp[l1,l2];omega),zbj]at e3
  by_cases hi:i<rows.length
  ·rw [zao hi]at e1
   have:=x3 Jb e1 e2
   rw[zao (by omega)]at e3
   exact h1 i row j d v e1 e2 e3
  ·rw [zau (by omega)]at e1
   have dU:rows.length*size≤i*size:=zaT _ (by omega)
   rw[zau (by omega),l1]at e3
   refine h2 (i - rows.length) row j d v e1 e2 ?_
   rw[← e3]
   congr 1
   rw[Nat.sub_mul];omega
theorem rA {z:Array Value} (h : ∀ v∈z,v.oneCell'=true) (n:Nat) : ∀ v∈Builtin.zeroCells z n,v.oneCell'=true:=by
 intro v hv
 unfold Builtin.zeroCells at hv
 obtain⟨q,hq,rfl⟩:=Array.mem_map.1 hv
 have hF:q<n*z.size:=by simpa using hq
 have hz:0<z.size:=by
  rcases Nat.eq_zero_or_pos z.size with h|h
  ·rw[h]at hF;simp at hF
  ·exact h
 have:=Nat.mod_lt q hz
 rw[getElem!_pos z (q % z.size) this]
 exact h _ (Array.getElem_mem this)
def CQ (eb:Bool) (size bytes:Nat) (x y:D) (s:St):Option (D×St):=
 match x,y with
 | .slice g z rows, .slice _ z' new=>
  if(rows = []∨z=size)∧(new = []∨z'=size)∧(rows.length+new.length)*(bytes+1)≤aT then
   match new with
   | []=>some (.slice g z rows,s)
   |_::_=>
    match g with
    | .full=>some (.slice (.tok s.aw.length eb) size (rows++new),{s with aw:=s.aw++ [some (rows.length+new.length)]})
    | .shared=>none
    | .tok t y=>if(y=true→eb=true)∧z=size∧s.aw[t]? = some (some rows.length)then some (.slice (.tok t y) size (rows++new),{s with aw:=s.aw.set t (some (rows.length+new.length))})else none
  else none
 |_,_=>none
theorem Xd {size bytes:Nat} {x y d:D} {s s':St} (h:gV size bytes x y s=some (d,s')):CQ false size bytes x y s=some (d,s'):=by
 unfold gV at h
 unfold CQ
 split at h
 ·split at h
  ·rename_i hc
   simp only[hc,and_self,if_true]
   split at h
   ·exact h
   ·split at h
    ·exact h
    ·exact h
    ·cases h
    ·split at h
     ·rename_i hq
      simp only[hq,and_self,zab,false_imp_iff,if_true]
      exact h
     ·cases h
  ·cases h
 ·cases h
theorem Nn {x y d:D} {s s':St} (h:xQ x y s=some (d,s')):CQ true 1 1 x y s=some (d,s'):=by
 unfold xQ at h
 unfold CQ
 split at h
 ·split at h
  ·rename_i hc
   simp only[hc,and_self,if_true]
   split at h
   ·exact h
   ·split at h
    ·exact h
    ·exact h
    ·split at h
     ·rename_i hq
      simp only[hq,and_self,imp_true_iff,if_true]
      exact h
     ·cases h
  ·cases h
 ·cases h
theorem TK {b:Bool} {n:Nat} (h:b=true→n=1) (hn:0<n):zs (bz b n)=n:=by
 cases b
 ·show(if n=0 then 1 else n)=n
  rw[if_neg (by omega)]
 ·simp[zs,bz,h rfl]
theorem Aq (eb:Bool) (r:Rel M s w) {t u ty e:TypeId} {i:TypeInfo} {z:Value} (ht:P.underlying t=some (.slice e)) (hi:P.info? e=some i) (hz:i.zero=some z)
 (vb:z.cells.size=i.size) (zP : ∀ v∈z.cells,v.oneCell'=true) {dx dy d:D} {x y:Value} {s':St} (hx:RD M s dx x) (TL:eb=true→e=nF∧i.size=1) (mW:0<i.size) (he:CQ eb i.size i.bytes dx dy s=some (d,s'))
 (src : ∀ (g:Tag) (size:Nat) (rows:List (List D)),dy = .slice g size rows→(rows = []→Src P i.size u y 0 [] w)∧(rows≠ []→size=i.size→(∀ row∈rows,row.length=i.size)∧∃ news:List Value,Src P i.size u y rows.length news w∧
  (∀ (k:Nat) (row:List D) (j:Nat) (d:D) (v:Value),rows[k]? = some row→row[j]? = some d→news[k*i.size+j]? = some v→RD M s d v))) :
 ∃ v w' M',(Builtin.append_ #[t,u] ty #[x,y]).run P w = .ok v w'∧Rel M' s' w'∧RD M' s' d v∧Ext M s w M' s' w':=by
 unfold CQ at he
 split at he
 case h_2=>cases he
 rename_i g zx rows g' zy new
 split at he
 case isFalse=>cases he
 rename_i hc
 obtain⟨rM,FW,tw⟩:=hc
 cases new with
 | nil=>
  simp only at he
  cases he
  have No:Src P i.size u y 0 [] w:=(src _ _ _ rfl).1 rfl
  rcases hx.hO with ⟨_,hv,_⟩|⟨_,_,a,cap,hv⟩|⟨b,q,cap,hv,hl,_⟩
  ·refine⟨x,w,M, ?_,r,hx,Ext.refl M s w⟩
   rw[hv]
   exact j8 ht hi No (zag _)
  ·refine⟨x,w,M, ?_,r,hx,Ext.refl M s w⟩
   rw[hv]
   exact j8 ht hi No (zar _)
  ·refine⟨x,w,M, ?_,r,hx,Ext.refl M s w⟩
   rw[hv]
   exact j8 ht hi No hl
 | cons n0 new=>
  have dL:(n0::new)≠ []:=by simp
  generalize dq:n0::new=dI at *
  have Np:zy=i.size:=FW.resolve_left dL
  subst Np
  obtain⟨Ba,news,hs,ze⟩:=(src _ _ _ rfl).2 dL rfl
  have hm:0<dI.length:=zbf.2 dL
  have qX:(rows.length+dI.length)*i.bytes≤140737488355328:=by rw[Nat.mul_succ]at tw;simp only[aT]at tw;omega
  have Nq:rows.length+dI.length≤1099511627776:=by rw[Nat.mul_succ]at tw;simp only[aT]at tw;omega
  -- what the first argument reads as
  obtain⟨base,cap,n7,hxv,hle,je,hod,TN,Xf,hsx,Xg,mA⟩ : ∃ (base:Option Addr) (cap:Nat) (n7:List Value),x = .slice base rows.length cap∧rows.length≤cap∧n7.length=rows.length*i.size∧
   (Builtin.firstCells i.size rows.length (.slice base rows.length cap)).run P w.drew = .ok n7.toArray w.drew∧(∀ u∈n7,u.oneCell'=true)∧
   (∀ (k:Nat) (row:List D) (j:Nat) (d:D) (v:Value),rows[k]? = some row→row[j]? = some d→n7[k*i.size+j]? = some v→RD M s d v)∧(∀ row∈rows,row.length=i.size)∧
   (∀ b q,base=some ⟨b,q,none⟩→∀ o,o<rows.length*i.size→M.G b (q+o)=n7[o]?)∧
   ((base=none∧rows = []∧gO M s g zx 0 none cap)∨∃ b q,base=some ⟨b,q,none⟩∧gO M s g zx rows.length (some (b,q)) cap):=by
   rcases rM with h0|h0
   ·subst h0
    rcases hx.hO with ⟨_,hv,mA⟩|⟨_,rfl,_⟩|⟨b,q,cap,hv,hl,_,_,_,mA⟩
    ·exact⟨none,0,[],hv,zag _,by simp,by simp[Builtin.firstCells],by simp,by simp,by simp,by simp, .inl ⟨rfl,rfl,mA⟩⟩
    ·exfalso;simp only[← dq]at he;cases he
    ·exact⟨some ⟨b,q,none⟩,cap,[],hv,hl,by simp,by simp[Builtin.firstCells,loadCells,loadCellsFrom],by simp,by simp,by simp,by simp, .inr ⟨b,q,rfl,mA⟩⟩
   ·subst h0
    obtain⟨n7,Jd,p9,jn⟩:=DJ r ht hx
    rcases hx.hO with ⟨h0,hv,mA⟩|⟨_,rfl,_⟩|⟨b,q,cap,hv,hl,mX,_,_,mA⟩
    ·subst h0
     refine⟨none,0,n7,hv,zag _,Jd.newsLen, ?_,Jd.one,p9,by simp,by simp, .inl ⟨rfl,rfl,mA⟩⟩
     have:=Jd.cellsD;rw[hv]at this;exact this
    ·exfalso;simp only[← dq]at he;cases he
    ·refine⟨some ⟨b,q,none⟩,cap,n7,hv,hl,Jd.newsLen, ?_,Jd.one,p9,mX,fun b' q' heq o ho=> ?_, .inr ⟨b,q,rfl,mA⟩⟩
     ·have:=Jd.cellsD;rw[hv]at this;exact this
     ·cases heq;exact jn b q _ cap hv o ho
  subst hxv
  -- the way that makes a new row
  have grow : ∀ (hg:cap<rows.length+dI.length),∃ (w':World) (M1:Map) (vs:Array Value) (mY:Nat),
   (Builtin.append_ #[t,u] ty #[.slice base rows.length cap,y]).run P w = .ok (.slice (some ⟨w.heap.size,0,none⟩) (rows.length+dI.length) mY) w'∧
   w'.heap[w.heap.size]? = some (.cells vs e (0,0))∧vs.size=mY*i.size∧rows.length+dI.length≤mY∧M1=M.fe w.heap.size ((rows.length+dI.length)*i.size) vs∧
   kB M s i.size (rows++dI) vs∧Rel M1 s w'∧Ext M s w M1 s w':=by
   intro hg
   have dU:=grownCap_ge w (rows.length+dI.length) cap e
   have da:=run_append_grow_src (P:=P) w t u ty e i z ht hi hz base rows.length cap n7 hod y dI.length news hs hg (by omega) (growslice_fits hg qX)
   have dN:=A9 (M:=M) (s:=s) hsx Ba je hs.newsLen TN hs.one Xf ze (Builtin.zeroCells z.cells (grownCap w (rows.length+dI.length) cap e - (rows.length+dI.length))) (rA zP _)
   obtain⟨r1,e1⟩:=(r.of_heap (w':=w.drew) rfl).fe ((rows.length+dI.length)*i.size) _ e (0,0) dN.2.2.1
   refine⟨_,_,_,_,da,heap_alloc_new w.drew _, ?_,dU,rfl,dN,r1,(Ext.of_heap (M:=M) (s:=s) (w:=w) (w':=w.drew) rfl rfl rfl rfl).trans e1⟩
   simp only[Array.size_append,List.size_toArray,zai,size_zeroCells,vb,je,hs.newsLen, ← zba]
   congr 1;omega
  have hlen:(rows++dI).length=rows.length+dI.length:=by simp
  cases g with
  |shared=>simp only[← dq]at he;cases he
  | full=>
   have rz:cap=rows.length:=by
    rcases mA with ⟨_,h0,h1⟩|⟨_,_,_,h1⟩
    ·subst h0;exact h1
    ·exact h1
   obtain⟨w',M1,vs,mY,da,hh,cV,hn,Bb,dN,r1,e1⟩:=grow (by omega)
   simp only[← dq]at he
   simp only[dq]at he
   cases he
   have FX:zs (bz eb i.size)=i.size:=TK (fun h=>(TL h).2) mW
   have TO:bz eb i.size=0→e=nF:=fun h0=>by
    cases eb with
    |true=>exact(TL rfl).1
    |false=>simp[bz]at h0;omega
   obtain⟨r2,l2⟩:=r1.TJ (rows.length+dI.length) w.heap.size mY (bz eb i.size) vs e hh (by rw[FX];exact cV) hn TO
    (fun off ho=>by rw[FX]at ho;rw[Bb];simp[Map.fe];omega)
    (fun o ho=>by have:=r.ov ho;rw [Bb];show M.mu o≠_;omega) (fun q c z' hl heq=>by
     have:M.be q=some (w.heap.size,c,z'):=by rw[Bb]at heq;exact heq
     have:=r.qx hl this;omega)
   refine⟨_,w',_,da,r2, ?_, ?_⟩
   ·obtain⟨f1,f2⟩:=dN.fixed (e1.le.trans l2) (b:=w.heap.size) (fun o ho=>by
     rw[Bb,hlen]at *
     simp[Map.dX,Map.fe,ho])
    have key:=RD.slice (M:=M1.dX s.aw.length (some (w.heap.size,mY,bz eb i.size))) (s:= {s with aw:=s.aw++ [some (rows.length+dI.length)]}) (.tok s.aw.length eb) i.size (rows++dI) w.heap.size 0 mY (by rw[hlen];exact hn) dN.2.1 f1 f2
     ⟨by simp,fun n mF=>by
      simp at mF
      subst mF
      exact⟨by rw[hlen];exact zag _,fun _=> .inr ⟨_,rfl,by simp[Map.dX]⟩⟩⟩
    rw[hlen]at key
    exact key
   ·refine⟨e1.le.trans l2,e1.kept,e1.n5,fun q b c z' hl heq=> ?_,e1.n6,e1.size,e1.os,e1.tape,e1.output⟩
    obtain⟨k,hk⟩:=hl
    rcases zaI q s.aw.length with h|h
    ·have FY:M1.be q=some (b,c,z'):=by
      have:(M1.dX s.aw.length (some (w.heap.size,mY,bz eb i.size))).be q=M1.be q:=by simp[Map.dX];omega
      rw[this]at heq;exact heq
     simp only[zao h]at hk
     exact e1.mR q b c z' ⟨k,hk⟩ FY
    ·have:=(zae.1 hk).1
     simp at this
     have:q=s.aw.length:=by omega
     subst this
     have:(M1.dX s.aw.length (some (w.heap.size,mY,bz eb i.size))).be s.aw.length=some (w.heap.size,mY,bz eb i.size):=by simp[Map.dX]
     rw[this]at heq;cases heq
     exact .inr (zag _)
  | tok q yb=>
   simp only[← dq]at he
   simp only[dq]at he
   split at he
   case isFalse=>cases he
   rename_i hq
   obtain⟨TO,hzx,hq⟩:=hq
   cases he
   have FX:zs (bz yb i.size)=i.size:=TK (fun h=>(TL (TO h)).2) mW
   have adM:bz yb i.size=0→e=nF:=fun h0=>by
    cases yb with
    |true=>exact(TL (TO rfl)).1
    |false=>simp[bz]at h0;omega
   have Ks : ∀ (hg:cap<rows.length+dI.length),∃ v w' M',(Builtin.append_ #[t,u] ty #[.slice base rows.length cap,y]).run P w = .ok v w'∧Rel M' {s with aw:=s.aw.set q (some (rows.length+dI.length))} w'∧
    RD M' {s with aw:=s.aw.set q (some (rows.length+dI.length))} (.slice (.tok q yb) i.size (rows++dI)) v∧Ext M s w M' {s with aw:=s.aw.set q (some (rows.length+dI.length))} w':=by
    intro hg
    obtain⟨w',M1,vs,mY,da,hh,cV,hn,Bb,dN,r1,e1⟩:=grow hg
    have zQ:q<s.aw.length:=(zae.1 hq).1
    obtain⟨r2,l2⟩:=r1.aaA q rows.length (rows.length+dI.length) w.heap.size mY (bz yb i.size) vs e hq (by omega) hh (by rw[FX];exact cV) hn adM
     (fun off ho=>by rw[FX]at ho;rw[Bb];simp[Map.fe];omega)
     (fun o ho=>by have:=r.ov ho;rw [Bb];show M.mu o≠_;omega) (fun q c z' hl heq=>by
      have:M.be q=some (w.heap.size,c,z'):=by rw[Bb]at heq;exact heq
      have:=r.qx hl this;omega)
    refine⟨_,w',_,da,r2, ?_, ?_⟩
    ·obtain⟨f1,f2⟩:=dN.fixed (e1.le.trans l2) (b:=w.heap.size) (fun o ho=>by
      rw[Bb,hlen]at *
      simp[Map.dX,Map.fe,ho])
     have key:=RD.slice (M:=M1.dX q (some (w.heap.size,mY,bz yb i.size))) (s:= {s with aw:=s.aw.set q (some (rows.length+dI.length))}) (.tok q yb) i.size (rows++dI) w.heap.size 0 mY (by rw[hlen];exact hn) dN.2.1 f1 f2
      ⟨by simp [zQ],fun n mF=>by
       simp[zQ]at mF
       subst mF
       exact⟨by rw[hlen];exact zag _,fun _=> .inr ⟨_,rfl,by simp[Map.dX]⟩⟩⟩
     rw[hlen]at key
     exact key
    ·refine⟨e1.le.trans l2,e1.kept,e1.n5,fun q' b c z' hl heq=> ?_,e1.n6,e1.size,e1.os,e1.tape,e1.output⟩
     obtain⟨k,hk⟩:=hl
     by_cases h:q'=q
     ·subst h
      have:(M1.dX q' (some (w.heap.size,mY,bz yb i.size))).be q'=some (w.heap.size,mY,bz yb i.size):=by simp[Map.dX]
      rw[this]at heq;cases heq
      exact .inr (zag _)
     ·have FY:M1.be q'=some (b,c,z'):=by
       have:(M1.dX q (some (w.heap.size,mY,bz yb i.size))).be q'=M1.be q':=by simp[Map.dX,h]
       rw[this]at heq;exact heq
      simp only[List.getElem?_set_ne (Ne.symm h)]at hk
      exact e1.mR q' b c z' ⟨k,hk⟩ FY
   rcases mA with ⟨rfl,rfl,h1⟩|⟨b,k,rfl,h1⟩
   ·obtain⟨_,h2⟩:=h1
    obtain⟨_,h3⟩:=h2 _ hq
    rcases h3 rfl with ⟨_,h4⟩|⟨b,h4,_⟩
    ·exact Ks (by simp;omega)
    ·cases h4
   ·obtain⟨_,h2⟩:=h1
    obtain⟨_,h3⟩:=h2 _ hq
    rcases h3 rfl with ⟨_,h4⟩|⟨b2,h4,jB⟩
    ·exact Ks (by omega)
    cases h4
    subst hzx
    by_cases de:rows.length+dI.length≤cap
    ·rcases r.tok q rows.length hq with ⟨h4,_⟩ | ⟨b',oI,wa,vs,T,h4,h5,h6,h7,h8⟩
     ·rw[jB]at h4;cases h4
     ·rw [jB]at h4;cases h4
      rw[FX]at h6
      obtain⟨r2,e2⟩:=r.aaB q rows.length dI.length b cap (bz yb i.size) i.size news FX hq jB hs.newsLen de hm hs.one vs T h5 h6 h8.2
      have iL:rows.length*i.size+news.length≤vs.size:=by rw[hs.newsLen,h6, ← zba];exact zaT _ de
      have qT:=run_storeCells_at P b (rows.length*i.size) T news 0 vs w h5 (by simpa using iL) hs.one
      simp only[za4]at qT
      have da:(Builtin.append_ #[t,u] ty #[.slice (some ⟨b,0,none⟩) rows.length cap,y]).run P w = .ok (.slice (some ⟨b,0,none⟩) (rows.length+dI.length) cap) (w.setRow b (vs.toList.take (rows.length*i.size)++news++vs.toList.drop (rows.length*i.size+news.length)).toArray):=by
       rcases hs.kind with ⟨I8,hk⟩|hk<;>simp[Builtin.append_,run_underlying ht,run_underlying hk,sizeOf,typeInfo,hi,hs.len,de,hs.cells,Addr.add_lit,qT]
      refine⟨_,_,_,da,r2, ?_,e2⟩
      have hG : ∀ o,o<(rows++dI).length*i.size→(M.fix b (rows.length*i.size) news).G b o=(n7++news).toArray[o]? :=by
       intro o ho
       rw[hlen,zba]at ho
       rw[zbj]
       by_cases h9:o<rows.length*i.size
       ·rw [zao (by omega)]
        have:(M.fix b (rows.length*i.size) news).G b o=M.G b o:=by simp[Map.fix];omega
        rw[this]
        have:=Xg b 0 rfl o h9
        rwa [za6]at this
       ·rw [zau (by omega),je]
        have:(M.fix b (rows.length*i.size) news).G b o=news[o - rows.length*i.size]? :=by
         simp only[Map.fix];rw[if_pos ⟨trivial,by omega,by rw[hs.newsLen];omega⟩]
        rw[this]
      have dN:=A9 (M:=M) (s:=s) hsx Ba je hs.newsLen TN hs.one Xf ze #[] (by simp)
      rw[Array.append_empty]at dN
      obtain⟨f1,f2⟩:=dN.fixed e2.le (b:=b) hG
      have zQ:q<s.aw.length:=(zae.1 hq).1
      have key:=RD.slice (M:=M.fix b (rows.length*i.size) news) (s:= {s with aw:=s.aw.set q (some (rows.length+dI.length))}) (.tok q yb) i.size (rows++dI) b 0 cap (by rw[hlen];exact de) dN.2.1 f1 f2
       ⟨by simp [zQ],fun n mF=>by
        simp[zQ]at mF
        subst mF
        exact⟨by rw[hlen];exact zag _,fun _=> .inr ⟨_,rfl,jB⟩⟩⟩
      rw[hlen]at key
      exact key
    ·exact Ks (by omega)
theorem CR (r:Rel M s w) {u e':TypeId} {i:TypeInfo} (hu:P.underlying u=some (.slice e')) {y:Value} {dy:D} (hy:RD M s dy y) (g:Tag) (size:Nat) (rows:List (List D)) (Xh:dy = .slice g size rows) :
 (rows = []→Src P i.size u y 0 [] w)∧(rows≠ []→size=i.size→(∀ row∈rows,row.length=i.size)∧∃ news:List Value,Src P i.size u y rows.length news w∧
  (∀ (k:Nat) (row:List D) (j:Nat) (d:D) (v:Value),rows[k]? = some row→row[j]? = some d→news[k*i.size+j]? = some v→RD M s d v)):=by
 subst Xh
 refine⟨fun h0=>?_,fun dL cV=>?_⟩
 ·subst h0
  rcases hy.hO with ⟨_,rfl,_⟩|⟨_,_,a,cap,rfl⟩|⟨b,q,cap,rfl,_⟩
  ·exact Src.ofNil w hu 0
  ·exact Src.ofSlice w hu a 0 cap [] (by simp) (by simp) (by simp)
  ·exact Src.ofSlice w hu ⟨b,q,none⟩ 0 cap [] (by simp) (by simp) (by simp)
 ·subst cV
  obtain⟨news,h1,h2,_⟩:=DJ r hu hy
  refine⟨?_,news,h1,h2⟩
  rcases hy.hO with ⟨h0,_⟩|⟨h0,_⟩|⟨_,_,_,_,_,h,_⟩
  ·exact(dL h0).elim
  ·exact(dL h0).elim
  ·exact h
theorem Nr (r:Rel M s w) {t u ty e e':TypeId} {i:TypeInfo} {z:Value} (ht:P.underlying t=some (.slice e)) (hu:P.underlying u=some (.slice e')) (hi:P.info? e=some i) (hz:i.zero=some z)
 (vb:z.cells.size=i.size) (zP : ∀ v∈z.cells,v.oneCell'=true) {dx dy d:D} {x y:Value} {s':St} (hx:RD M s dx x) (hy:RD M s dy y) (mW:0<i.size) (he:gV i.size i.bytes dx dy s=some (d,s')) :
 ∃ v w' M',(Builtin.append_ #[t,u] ty #[x,y]).run P w = .ok v w'∧Rel M' s' w'∧RD M' s' d v∧Ext M s w M' s' w':=
 Aq false r ht hi hz vb zP hx (fun h=>by cases h) mW (Xd he) (CR r hu hy)
theorem Ku (r:Rel M s w) {t u ty e':TypeId} {i:TypeInfo} {z:Value} (ht:P.underlying t=some (.slice nF)) (hu:P.underlying u=some (.slice e')) (hi:P.info? nF=some i) (hz:i.zero=some z) (h1:i.size=1) (h2:i.bytes=1)
 (vb:z.cells.size=i.size) (zP : ∀ v∈z.cells,v.oneCell'=true) {dx dy d:D} {x y:Value} {s':St} (hx:RD M s dx x) (hy:RD M s dy y) (he:xQ dx dy s=some (d,s')) :
 ∃ v w' M',(Builtin.append_ #[t,u] ty #[x,y]).run P w = .ok v w'∧Rel M' s' w'∧RD M' s' d v∧Ext M s w M' s' w':=
 Aq true r ht hi hz vb zP hx (fun _=>⟨rfl,h1⟩) (by omega) (by rw[h1,h2];exact Nn he) (CR r hu hy)
theorem Kv (r:Rel M s w) {t u ty:TypeId} {i:TypeInfo} {z:Value} (ht:P.underlying t=some (.slice nF)) (hu:P.underlying u=some .string) (hi:P.info? nF=some i) (hz:i.zero=some z) (h1:i.size=1) (h2:i.bytes=1)
 (vb:z.cells.size=i.size) (zP : ∀ v∈z.cells,v.oneCell'=true) {dx d:D} {x:Value} {l:List UInt8} {s':St} (hx:RD M s dx x) (he:xQ dx (.slice .shared 1 (l.map fun c=> [.int .u8 c.toNat])) s=some (d,s')) :
 ∃ v w' M',(Builtin.append_ #[t,u] ty #[x, .string ⟨⟨l⟩⟩]).run P w = .ok v w'∧Rel M' s' w'∧RD M' s' d v∧Ext M s w M' s' w':=by
 have hs:Src P i.size u (.string ⟨⟨l⟩⟩) l.length (l.map fun c=> .int .u8 c.toNat) w:=by
  rw[h1]
  exact Src.ofString w hu ⟨⟨l⟩⟩
 refine Aq true r ht hi hz vb zP hx (fun _=>⟨rfl,h1⟩) (by omega) (by rw[h1,h2];exact Nn he) fun g size rows Xh=>?_
 cases Xh
 refine⟨fun h0=>?_,fun dL cV=>?_⟩
 ·have:l = []:=by simpa using h0
  subst this
  exact hs
 ·refine⟨fun row hr=> ?_,_,by simpa using hs,fun k row j d v e1 e2 e3=> ?_⟩
  ·obtain⟨c,_,rfl⟩:=zaH.1 hr
   rw[h1];rfl
  ·rw [zap,zaq]at e1
   obtain⟨c,e1,rfl⟩:=e1
   cases j with
   |zero=>
    simp at e2
    subst e2
    simp[h1,e1]at e3
    subst e3
    exact .int _ _
   |succ j=>simp at e2
end
end Go.Abs
namespace Go.Abs
section
variable {P:Program} {M:Map} {s:St} {w:World}
theorem map_some {α β:Type} {f:α→β} {x:Option α} {y:β} (h:x.map f=some y) : ∃ a,x=some a∧y=f a:=by
 cases x with
 |none=>cases h
 |some a=>cases h;exact⟨a,rfl,rfl⟩
theorem qy {t:TypeId} {z:List D} (h:zeroOf P t=some z) : ∃ i v,P.info? t=some i∧i.zero=some v∧v.cells.size=i.size∧lQ v.cells.toList=some z:=by
 unfold zeroOf at h
 split at h
 ·rename_i i hi
  split at h
  ·rename_i v hv
   split at h
   ·exact⟨i,v,hi,hv, ‹_›,h⟩
   ·cases h
  ·cases h
 ·cases h
theorem po {z:List D} {v:Value} (h:lQ v.cells.toList=some z):qV M s z v.cells:=by
 obtain⟨h1,h2,h3⟩:=jV (M:=M) (s:=s) h
 exact⟨by simpa using h1.symm,fun u hu=>h2 u (by simpa using hu),fun i d u e1 e2=>h3 i d u e1 (by simpa using e2)⟩
theorem Kw {t:TypeId} {z:List D} (h:v8 P t=some z) : ∃ i v,P.info? t=some i∧i.zero=some v∧v.cells.size=i.size∧qV M s z v.cells:=by
 unfold v8 at h
 split at h
 ·rename_i i hi
  split at h
  ·rename_i v hv
   split at h
   ·refine⟨i,v,hi,hv, ‹_›, ?_⟩
    obtain⟨h1,h2,h3⟩:=zN (M:=M) (s:=s) h
    exact⟨by simpa using h1.symm,fun u hu=>h2 u (by simpa using hu),fun i d u e1 e2=>h3 i d u e1 (by simpa using e2)⟩
   ·cases h
  ·cases h
 ·cases h
theorem x5 {t:TypeId} {tm:Tm} {act:Act} (hr:kA M s tm act.tmps) : ∀ {l:List (Nat×Operand)} {ps:List (Nat×Nat×X)},xT P t l=some ps→
 (ps.map fun p=>(p.1,p.2.1,p.2.2.ev tm)).length=(l.map fun p=>(p.1,act.eval p.2)).length∧
 ∀ (j:Nat) (i:Nat) (v:Value) (off size:Nat) (d:D),(l.map fun p=>(p.1,act.eval p.2))[j]? = some (i,v)→(ps.map fun p=>(p.1,p.2.1,p.2.2.ev tm))[j]? = some (off,size,d)→
  (∃ a,kS P t i=some (off,size,a))∧RD M s d v
 | [],ps,h=>by cases h;exact⟨rfl,by simp⟩
 | (i0,x)::l,ps,h=>by
  unfold xT at h
  split at h
  ·rename_i off size a x' r' h1 h2 h3
   cases h
   obtain⟨g1,g2⟩:=x5 hr h3
   refine⟨by simpa using g1,fun j i v oG wa d e1 e2=>?_⟩
   cases j with
   |zero=>
    simp at e1 e2
    obtain⟨rfl,rfl⟩:=e1
    obtain⟨rfl,rfl,rfl⟩:=e2
    exact⟨⟨a,h1⟩,bS h2 hr⟩
   |succ j=>exact g2 j i v oG wa d (by simpa using e1) (by simpa using e2)
  ·cases h
theorem Bc {tm:Tm} {act:Act} (hr:kA M s tm act.tmps) : ∀ {l:List (Nat×Operand)} {ps:List (Nat×X)},FM l=some ps→
 (ps.map fun p=>(p.1,p.2.ev tm)).length=(l.map fun p=>(p.1,act.eval p.2)).length∧
 ∀ (j:Nat) (i:Nat) (v:Value) (i':Nat) (d:D),(l.map fun p=>(p.1,act.eval p.2))[j]? = some (i,v)→(ps.map fun p=>(p.1,p.2.ev tm))[j]? = some (i',d)→i'=i∧RD M s d v
 | [],ps,h=>by cases h;exact⟨rfl,by simp⟩
 | (i0,x)::l,ps,h=>by
  unfold FM at h
  split at h
  ·rename_i x' r' h1 h2
   cases h
   obtain⟨g1,g2⟩:=Bc hr h2
   refine⟨by simpa using g1,fun j i v i' d e1 e2=>?_⟩
   cases j with
   |zero=>
    simp at e1 e2
    obtain⟨rfl,rfl⟩:=e1
    obtain⟨rfl,rfl⟩:=e2
    exact⟨rfl,bS h1 hr⟩
   |succ j=>exact g2 j i v i' d (by simpa using e1) (by simpa using e2)
  ·cases h
theorem Bd : ∀ (l:List Field),(∀ f∈l,(P.info? f.type).isSome)→
 ∃ ps:List (Nat×Nat),(l.mapM fun f=>do pure (f.offset, ← sizeOf f.type):Sem (List (Nat×Nat))).run P w = .ok ps w∧
  ∀ (j:Nat) (f:Field) (i:TypeInfo),l[j]? = some f→P.info? f.type=some i→ps[j]? = some (f.offset,i.size)
 | [],_=>⟨[],rfl,by simp⟩
 | f::l,h=>by
  obtain⟨i,hi⟩:=Option.isSome_iff_exists.1 (h f (by simp))
  obtain⟨ps,h1,h2⟩:=Bd l (fun g hg=>h g (by simp[hg]))
  refine⟨(f.offset,i.size)::ps, ?_,fun j g i' e1 e2=>?_⟩
  ·rw [List.mapM_cons]
   simp only[Sem.run_bind,sizeOf,fD P hi,Result.andThen_ok,Sem.run_pure]at h1 ⊢
   simp only[h1,Result.andThen_ok]
  ·cases j with
   |zero=>simp at e1;subst e1;rw[hi]at e2;cases e2;rfl
   |succ j=>exact h2 j g i' (by simpa using e1) e2
theorem Kx (r:Rel M s w) {t:TypeId} {fs:Array Field} {z:List D} {l:List (Nat×Operand)} {ps:List (Nat×Nat×X)} {tm:Tm} {act:Act} {cs:List D} (hr:kA M s tm act.tmps)
 (ht:P.underlying t=some (.struct fs)) (Be:(fs.toList.all fun f=>(P.info? f.type).isSome)=true) (hz:v8 P t=some z) (hp:xT P t l=some ps) (hf:pd z (ps.map fun p=>(p.1,p.2.1,p.2.2.ev tm))=some cs) :
 cG P M s w (do pure (.value (← Instr.build t (l.toArray.map fun(i,x)=>(i,act.eval x))))) (.agg cs) s:=by
 obtain⟨i,v,h1,h2,h3,hc⟩:=Kw (M:=M) (s:=s) hz
 obtain⟨g1,g2⟩:=x5 hr hp
 obtain⟨pl,p1,p2⟩:=Bd (P:=P) (w:=w) fs.toList (fun f hf'=>by simpa using zaO.1 Be f hf')
 have U5:(fs.mapM fun f=>do pure (f.offset, ← sizeOf f.type):Sem (Array (Nat×Nat))).run P w = .ok pl.toArray w:=by
  rw[Array.mapM_eq_mapM_toList,Sem.run_map,p1];rfl
 obtain⟨vs,f1,f2⟩:=FT (place:=(pl.toArray[·]?)) (l.map fun p=>(p.1,act.eval p.2)) _ z v.cells cs hc g1 (fun j i v off size d e1 e2=>by
  obtain⟨⟨a,ha⟩,hd⟩:=g2 j i v off size d e1 e2
  refine⟨?_,hd⟩
  unfold kS at ha
  rw[ht]at ha
  simp only at ha
  split at ha
  ·rename_i fd hfd
   split at ha
   ·rename_i i' a' gB _
    split at ha
    ·cases ha
    ·cases ha
     simpa using p2 i fd i' (by simpa using hfd) gB
   ·cases ha
  ·cases ha) hf
 refine cG.pure (v:= .agg vs) r ?_ (.agg _ _ f2.1.symm f2.2.1 f2.2.2)
 have oS:(l.toArray.map fun(i,x)=>(i,act.eval x)).toList=l.map fun p=>(p.1,act.eval p.2):=by simp
 unfold Instr.build
 simp only[Sem.run_bind,zeroValue,fD P h1,h2,Result.andThen_ok,Sem.run_pure,run_underlying ht,U5,oS,f1]
theorem zR (r:Rel M s w) {t e:TypeId} {i:TypeInfo} {z:List D} {n:Nat} {l:List (Nat×Operand)} {ps:List (Nat×X)} {tm:Tm} {act:Act} {rows:List (List D)} (hr:kA M s tm act.tmps)
 (ht:P.underlying t=some (.slice e)) (hi:P.info? e=some i) (hz:zeroOf P e=some z) (mW:0<i.size) (hn:n*i.size≤65536) (hp:FM l=some ps)
 (hf:iR i.size (fC z n) (ps.map fun p=>(p.1,p.2.ev tm))=some rows) :
 ∃ (vs:Array Value) (T:TypeId),kB M s i.size rows vs∧rows.length=n∧vs.size=n*i.size∧
  (Instr.buildSlice t n (l.toArray.map fun(i,x)=>(i,act.eval x))).run P w = .ok (.slice (some ⟨w.heap.size,0,none⟩) n n) (w.alloc (.cells vs T)):=by
 obtain⟨i',v,h1,h2,h3,h4⟩:=qy hz
 rw[hi]at h1;cases h1
 have hc:=po (M:=M) (s:=s) h4
 have TP:z.length=i.size:=by rw[← hc.1,h3]
 have Ns:=kB.zero hc (by omega) n
 rw[TP]at Ns
 obtain⟨g1,g2⟩:=Bc hr hp
 obtain⟨vs,f1,f2,f3,f4⟩:=x4 (l.map fun p=>(p.1,act.eval p.2)) _ _ _ rows Ns g1 g2 hf
 have hzr:=kC z n
 refine⟨vs,e,f2,by rw[f3,hzr],by rw[f4];simp, ?_⟩
 have qX : ¬ (n*i.size > 2 ^ 24):=by omega
 have oS:(l.toArray.map fun(i,x)=>(i,act.eval x)).toList=l.map fun p=>(p.1,act.eval p.2):=by simp
 by_cases h0:n*i.size=0
 ·have kD:(Array.range (n*i.size)).map ((#[] : Array Value)[· % (#[] : Array Value).size]!)=(Array.range (n*i.size)).map (v.cells[· % v.cells.size]!):=by rw [h0];simp
  unfold Instr.buildSlice
  simp only[Sem.run_bind,run_underlying ht,Result.andThen_ok,sizeOf,fD P hi,Sem.run_pure,if_neg qX,if_pos h0,kD,oS,f1,newRow,run_newObj]
  rfl
 ·unfold Instr.buildSlice
  simp only[Sem.run_bind,run_underlying ht,Result.andThen_ok,sizeOf,fD P hi,Sem.run_pure,if_neg qX,if_neg h0,zeroValue,h2,oS,f1,newRow,run_newObj]
  rfl
end
end Go.Abs
namespace Go.Abs
section
variable {P:Program} {M:Map} {s:St} {w:World}
theorem foldl_push (ns:List Int) : ∀ r:ByteArray,ns.foldl (fun r n=>r.push (UInt8.ofNat n.toNat)) r = ⟨r.data++(ns.map fun n=>UInt8.ofNat n.toNat).toArray⟩:=by
 induction ns with
 |nil=>intro r;simp
 |cons n ns ih=>intro r;simp only[List.foldl_cons];rw[ih];simp[ByteArray.push]
theorem sC : ∀ {rows:List (List D)} {l:List UInt8},mj rows=some l→∃ ns:List Int,rows=ns.map (fun n=> [.int .u8 n])∧l=ns.map fun n=>UInt8.ofNat n.toNat
 | [],l,h=>by cases h;exact⟨[],rfl,rfl⟩
 | r::rs,l,h=>by
  unfold mj at h
  split at h
  ·rename_i b bs h1 h2
   cases h
   obtain⟨ns,g1,g2⟩:=sC h2
   unfold DG at h1
   split at h1
   ·rename_i n
    cases h1
    exact⟨n::ns,by rw[g1];rfl,by rw[g2];rfl⟩
   ·cases h1
  ·cases h
theorem Ky (r:Rel M s w) {src dst e:TypeId} {g:Tag} {z:Nat} {rows:List (List D)} {v:Value} {l:List UInt8} (hs:P.underlying src=some (.slice e)) (he:P.underlying e=some (.int .u8)) (hd:P.underlying dst=some .string)
 (hv:RD M s (.slice g z rows) v) (hb:mj rows=some l):cG P M s w (do pure (.value (← convert src dst v))) (.str l) s:=by
 obtain⟨ns,rfl,rfl⟩:=sC hb
 refine cG.pure (v:= .string ⟨⟨ns.map fun n=>UInt8.ofNat n.toNat⟩⟩) r ?_ (.str _)
 rcases hv.hO with ⟨h0,rfl,_⟩|⟨h0,_,a,cap,rfl⟩|⟨b,q,cap,rfl,hl,cV,g1,g2,_⟩
 ·have:ns = []:=by simpa using h0
  subst this
  have:=run_convert_bytes_string w src dst e none 0 0 hs he hd
  simp only[Sem.run_bind,this,Conv.bytesToString,Sem.run_pure,Result.andThen_ok]
  rfl
 ·have:ns = []:=by simpa using h0
  subst this
  have h2:=run_convert_bytes_string w src dst e (some a) 0 cap hs he hd
  simp only[Sem.run_bind,h2,Conv.bytesToString,Sem.run_pure,Result.andThen_ok]
  rfl
 ·have kD:=run_loadCells_list (P:=P) w ⟨b,q,none⟩ (ns.map (Value.int .u8)) (fun j v hj=>by
   rw[kT]
   simp only[zap,zaq]at hj
   obtain⟨n,hn,rfl⟩:=hj
   have dN:(ns.map (fun n=> [D.int .u8 n]))[j]? = some [.int .u8 n]:=by simp[hn]
   have hz:z=1:=by have:=cV [.int .u8 n] (zac dN);simpa using this.symm
   subst hz
   obtain⟨u,hu⟩:=g1 j _ 0 _ dN rfl
   have:=g2 j _ 0 _ u dN rfl hu
   rw[this.gj]at hu
   have:=(r.comm _ _ _ hu).1
   simpa using this)
  simp only[zat]at kD ⊢
  have h1:=run_bytesToString (P:=P) w ⟨b,q,none⟩ ns.length cap ns kD
  have h2:=run_convert_bytes_string w src dst e (some ⟨b,q,none⟩) ns.length cap hs he hd
  simp only[Sem.run_bind,h2,h1,Sem.run_pure,Result.andThen_ok,foldl_push]
  congr 3
  simp[ByteArray.empty,ByteArray.emptyWithCapacity]
  rfl
theorem FZ (r:Rel M s w) {src dst e:TypeId} {l:List UInt8} (hs:P.underlying src=some .string) (hd:P.underlying dst=some (.slice e)) (he:P.underlying e=some (.int .u8)) :
 cG P M s w (do pure (.value (← convert src dst (.string ⟨⟨l⟩⟩)))) (.slice .shared 1 (l.map fun c=> [.int .u8 c.toNat])) s:=by
 have da:=run_bytes_of_string (P:=P) w src dst e ⟨⟨l⟩⟩ hs hd he
 generalize rz:grownCap w (ByteArray.size ⟨⟨l⟩⟩) 0 e=cap at da
 have dU:l.length≤cap:=by rw[← rz];exact grownCap_ge w l.length 0 e
 have dN : ∀ j,j<l.length→(bytesRow ⟨⟨l⟩⟩ cap)[j]? = some (.int .u8 ((l[j]?.getD 0).toNat:Int)):=by
  intro j hj
  unfold bytesRow
  rw[za0 (by simpa using hj)]
  simp[hj]
 have cV:(bytesRow ⟨⟨l⟩⟩ cap).size=cap:=by simp[bytesRow,zc];omega
 have fJ : ∀ v∈bytesRow ⟨⟨l⟩⟩ cap,v.oneCell'=true:=by
  intro v hv
  unfold bytesRow at hv
  simp at hv
  rcases hv with ⟨a,_,rfl⟩|⟨_,rfl⟩<;>rfl
 have hR:kB M s 1 (l.map fun c=> [D.int .u8 c.toNat]) (bytesRow ⟨⟨l⟩⟩ cap):=by
  refine⟨by simp[cV];omega,by simp,fJ,fun i row j d v e1 e2 e3=>?_⟩
  simp only[zap,zaq]at e1
  obtain⟨c,hc,rfl⟩:=e1
  cases j with
  |zero=>
   simp at e2;subst e2
   have hi:=(zae.1 hc).1
   rw[show i*1+0=i by omega,dN i hi,hc]at e3
   cases e3
   exact .int _ _
  |succ j=>simp at e2
 obtain⟨r1,e1⟩:=(r.of_heap (w':=w.drew) rfl).fe l.length (bytesRow ⟨⟨l⟩⟩ cap) e ((bytesRow ⟨⟨l⟩⟩ cap).size,(bytesRow ⟨⟨l⟩⟩ cap).size+1) fJ
 obtain⟨f1,f2⟩:=hR.fixed e1.le (b:=w.heap.size) (fun o ho=>by simp at ho;simp[Map.fe,ho])
 refine⟨.slice (some ⟨w.heap.size,0,none⟩) l.length cap,_,_, .inl (by simp only[Sem.run_bind,da,Result.andThen_ok,Sem.run_pure];rfl),r1, ?_,(Ext.of_heap (M:=M) (s:=s) (w:=w) (w':=w.drew) rfl rfl rfl rfl).trans e1⟩
 have key:=RD.slice (M:=M.fe w.heap.size l.length (bytesRow ⟨⟨l⟩⟩ cap)) (s:=s) .shared 1 (l.map fun c=> [D.int .u8 c.toNat]) w.heap.size 0 cap (by simpa using dU) hR.2.1 f1 f2 trivial
 simp only[zat]at key
 exact key
theorem QH (r:Rel M s w) {t e:TypeId} {q z:Nat} {yb:Bool} {rows:List (List D)} {v:Value} (ht:P.underlying t=some (.slice e)) (he:P.underlying e=some (.int .u8)) (hv:RD M s (.slice (.tok q yb) z rows) v) (dL:rows≠ []) (hq:s.aw[q]? = some (some rows.length)) :
 cG P M s w (do pure (.value (← convert t t v))) (.slice .shared z rows) {s with aw:=s.aw.set q none}:=by
 rcases hv.hO with ⟨h0,_,_⟩|⟨h0,_,_⟩|⟨b,k,cap,rfl,hl,cV,g1,g2,mA⟩
 ·exact(dL h0).elim
 ·exact(dL h0).elim
 ·obtain⟨_,h2⟩:=mA
  obtain⟨_,h3⟩:=h2 _ hq
  rcases h3 rfl with ⟨_,h4,_⟩|⟨b2,h4,jB⟩
  ·subst h4
   exact(dL (zbe (Nat.le_zero.1 hl))).elim
  cases h4
  obtain⟨r1,l1⟩:=r.aaC q
  rcases r.tok q rows.length hq with ⟨h4,_⟩|⟨b',oI,wa,vs,T,h4,h5,h6,h7,h8⟩
  ·rw[jB]at h4;cases h4
  ·rw [jB]at h4;cases h4
   have gI : ∀ p,St.live {s with aw:=s.aw.set q none} p→p≠q∧s.live p:=by
    rintro p ⟨n,hn⟩
    rw[zaM]at hn
    split at hn
    ·simp at hn
    ·rename_i dL;exact⟨fun h=>dL h.symm,n,hn⟩
   obtain⟨r2,hh,mX,ho,Bf,QI⟩:=r1.freeze (b:=b) vs.size 1 (fun o ho=>r.dY q b cap _ o ⟨_,hq⟩ jB ho)
    (fun p c y hp heq=>(gI p hp).1 (r.fB p q b c y cap _ (gI p hp).2 ⟨_,hq⟩ heq jB))
   have Xi:w.shape? b=some (T,vs.size):=by simp[World.shape?,h5]
   refine⟨.slice (some ⟨b,0,none⟩) rows.length cap,_,M, .inl ?_,r2, ?_, ?_⟩
   ·simp[convert,run_underlying ht,run_underlying he,markStringish,Xi]
   ·have h9:=(RD.slice (M:=M) (s:=s) .shared z rows b 0 cap hl cV g1 g2 trivial).mono l1
    exact h9
   ·refine⟨l1,fun p _ _ h4=>hh p (fun e=>h4 q cap (bz yb z) ⟨_,hq⟩ (by rw [jB,e])),fun o h3 h4=> ?_,fun p b' c y hp heq=> .inl ⟨(gI p hp).2,c,y,heq⟩,fun _ _ h=>(h rfl).elim,by rw [mX];exact zag _,ho,Bf,QI⟩
    simp at h4;omega
theorem Nt (r:Rel M s w) {size:Nat} {rows:List (List D)} {vs:Array Value} (T:TypeId) (h:kB M s size rows vs) (cV:vs.size=rows.length*size) (mW:0<size) :
 ∃ M',RD M' {s with aw:=s.aw++ [some rows.length]} (.slice (.tok s.aw.length) size rows) (.slice (some ⟨w.heap.size,0,none⟩) rows.length rows.length)∧
 Rel M' {s with aw:=s.aw++ [some rows.length]} (w.alloc (.cells vs T))∧Ext M s w M' {s with aw:=s.aw++ [some rows.length]} (w.alloc (.cells vs T)):=by
 obtain⟨r1,e1⟩:=r.fe vs.size vs T (0,0) h.2.2.1
 have vb:zs size=size:=by show(if size=0 then 1 else size)=size;rw[if_neg (by omega)]
 obtain⟨r2,l2⟩:=r1.TJ rows.length w.heap.size rows.length size vs T (heap_alloc_new w _) (by rw[vb];exact cV) (zag _) (fun h=>by omega)
  (fun off ho=>by rw[vb]at ho;simp[Map.fe];omega) (fun o ho=>by have:=r.ov ho;show M.mu o≠_;omega)
  (fun q c z' hl heq=>by have:=r.qx hl (show M.be q=some (w.heap.size,c,z')from heq);omega)
 obtain⟨f1,f2⟩:=h.fixed (e1.le.trans l2) (b:=w.heap.size) (fun o ho=>by
  have:o<vs.size:=Nat.lt_of_lt_of_le ho h.1
  simp[Map.dX,Map.fe,this])
 refine⟨_, ?_,r2, ?_⟩
 ·exact .slice _ size rows w.heap.size 0 rows.length (zag _) h.2.1 f1 f2 ⟨by simp,fun n hn=>by
   simp at hn;subst hn
   exact⟨zag _,fun _=> .inr ⟨_,rfl,by simp[Map.dX,bz]⟩⟩⟩
 ·refine⟨e1.le.trans l2,e1.kept,e1.n5,fun q b c z' hl heq=> ?_,e1.n6,e1.size,e1.os,e1.tape,e1.output⟩
  obtain⟨k,hk⟩:=hl
  rcases zaI q s.aw.length with h'|h'
  ·have FY:M.be q=some (b,c,z'):=by
    have:((M.fe w.heap.size vs.size vs).dX s.aw.length (some (w.heap.size,rows.length,size))).be q=M.be q:=by simp[Map.dX,Map.fe];omega
    rw[this]at heq;exact heq
   simp only[zao h']at hk
   exact .inl ⟨⟨k,hk⟩,c,z',FY⟩
  ·have:=(zae.1 hk).1
   simp at this
   have:q=s.aw.length:=by omega
   subst this
   have:((M.fe w.heap.size vs.size vs).dX s.aw.length (some (w.heap.size,rows.length,size))).be s.aw.length=some (w.heap.size,rows.length,size):=by simp[Map.dX]
   rw[this]at heq;cases heq
   exact .inr (zag _)
end
end Go.Abs
namespace Go.Abs
open Go.MapKept
section
variable {P:Program} {M:Map} {s:St} {w:World}
theorem tx : ∀ (a b:List MapEntry),gb (a++b)=gb a++gb b
 | [],b=>rfl
 |e::a,b=>by simp only[zaJ,gb,tx a b]
theorem DK : ∀ (a:List MapEntry) (j:Nat) (e:MapEntry) (k v:Value),a[j]? = some e→e.key=k→gb (a.set j {e with key:=k,val:=v})=(gb a).set (2*j+1) v
 | [],j,e,k,v,h,_=>by simp at h
 |x::a,0,e,k,v,h,hk=>by
  simp at h;subst h;subst hk
  simp[gb]
 |x::a,j+1,e,k,v,h,hk=>by
  have:=DK a j e k v (by simpa using h) hk
  simp only[List.set_cons_succ,gb,this]
  rw[show 2*(j+1)=(2*j+1)+1 by omega,List.set_cons_succ]
theorem QJ (a b:List UInt8):((⟨⟨a⟩⟩:ByteArray) == ⟨⟨b⟩⟩)=(a==b):=by
 show((⟨a⟩:Array UInt8) == ⟨b⟩)=(a==b)
 simp
theorem find_spec {key:List UInt8} : ∀ (es:List MapEntry) (cs:List D) (i:Nat),(gb es).length=cs.length→(∀ (i:Nat) (d:D) (v:Value),cs[i]? = some d→(gb es)[i]? = some v→RD M s d v)→
 (∀ z d,vZ key z cs=some d→(Instr.findNow .string (.string ⟨⟨key⟩⟩) es i=some none∧d=z)∨∃ (j:Nat) (e:MapEntry),Instr.findNow .string (.string ⟨⟨key⟩⟩) es i=some (some (i+j,e.val))∧RD M s d e.val)∧
 (∀ d iF,uy key d cs=some iF→(Instr.findNow .string (.string ⟨⟨key⟩⟩) es i=some none∧iF=cs++ [.str key,d])∨
  ∃ (j:Nat) (e:MapEntry),Instr.findNow .string (.string ⟨⟨key⟩⟩) es i=some (some (i+j,e.val))∧es[j]? = some e∧e.key = .string ⟨⟨key⟩⟩∧iF=cs.set (2*j+1) d)
 | [],cs,i,hl,hr=>by
  have:cs = []:=by cases cs<;>simp[gb]at hl;rfl
  subst this
  refine⟨fun z d h=> .inl ⟨rfl,by simp[vZ]at h;exact h.symm⟩,fun d iF h=> .inl ⟨rfl,by simp[uy]at h;simp[← h]⟩⟩
 | x::es,cs,i,hl,hr=>by
  match cs,hl with
  | [],hl=>simp[gb]at hl
  | [_],hl=>simp[gb]at hl
  | c0::c1::r,hl=>
   simp only[gb,zal]at hl hr
   have h0:=hr 0 c0 x.key rfl rfl
   have h1:=hr 1 c1 x.val rfl rfl
   obtain⟨ih1,ih2⟩:=find_spec es r (i+1) (by omega) (fun j d v e1 e2=>hr (j+2) d v (by simpa using e1) (by simpa using e2))
   have hky : ∀ k,c0 = .str k→x.key = .string ⟨⟨k⟩⟩∧Instr.findNow .string (.string ⟨⟨key⟩⟩) (x::es) i=if key==k then some (some (i,x.val))else Instr.findNow .string (.string ⟨⟨key⟩⟩) es (i+1):=by
    intro k hk
    subst hk
    have hx:=h0.jU
    refine⟨hx, ?_⟩
    simp only[Instr.findNow,hx,Instr.sameNow,QJ]
    cases hb:key==k<;>simp
   refine⟨fun z d h=>?_,fun d iF h=>?_⟩
   ·cases c0 <;> simp only [vZ]at h <;> try (cases h;done)
    rename_i k
    obtain⟨k1,k2⟩:=hky k rfl
    rw[k2]
    by_cases xg:k=key
    ·subst xg
     simp at h
     subst h
     exact .inr ⟨0,x,by simp,h1⟩
    ·have e1:(k==key)=false:=by simpa using xg
     have e2:(key==k)=false:=by simpa using fun e:key=k=>xg (Eq.symm e)
     rw[e1]at h
     rw[e2]
     simp only[zab,↓reduceIte]at h ⊢
     rcases ih1 z d h with h2|⟨j,e,h2,h3⟩
     ·exact .inl h2
     ·exact .inr ⟨j+1,e,by rw[h2];congr 3;omega,h3⟩
   ·cases c0 <;> simp only [uy]at h <;> try (cases h;done)
    rename_i k
    obtain⟨k1,k2⟩:=hky k rfl
    rw[k2]
    by_cases xg:k=key
    ·subst xg
     simp at h
     subst h
     exact .inr ⟨0,x,by simp,rfl,k1,by simp⟩
    ·have e1:(k==key)=false:=by simpa using xg
     have e2:(key==k)=false:=by simpa using fun e:key=k=>xg (Eq.symm e)
     rw[e1]at h
     rw[e2]
     simp only[zab,↓reduceIte]at h ⊢
     split at h
     ·rename_i r' FV
      cases h
      rcases ih2 d r' FV with ⟨h2,h3⟩|⟨j,e,h2,h3,h4,h5⟩
      ·exact .inl ⟨h2,by rw[h3];rfl⟩
      ·refine .inr ⟨j+1,e,by rw [h2];congr 3;omega,by simpa using h3,h4, ?_⟩
       rw[h5,show 2*(j+1)+1=(2*j+1)+1+1 by omega]
       simp only[List.set_cons_succ]
     ·cases h
theorem Rel.Xj (r:Rel M s w) {o:Nat} {cs iF:List D} (he:s.av[o]? = some cs) (hk:M.ob o = .map) (x6:Array MapEntry) (ck:Nat) (hl:(gb x6.toList).length=iF.length)
 (h1 : ∀ v∈gb x6.toList,v.oneCell'=true) (h2 : ∀ (i:Nat) (d:D) (v:Value),iF[i]? = some d→(gb x6.toList)[i]? = some v→RD M s d v) :
 Rel M {s with av:=s.av.set o iF} {w with heap:=w.heap.setIfInBounds (M.mu o) (.map x6 ck)}∧Ext M s w M {s with av:=s.av.set o iF} {w with heap:=w.heap.setIfInBounds (M.mu o) (.map x6 ck)}:=by
 obtain⟨vs,T,hh,hs,⟨fJ,TI⟩,gZ⟩:=r.obj o cs he
 obtain⟨es,ck0,(hh:w.heap[M.mu o]? = _),mZ⟩:=hh.J4 hk
 have ho:o<s.av.length:=(zae.1 he).1
 obtain⟨zf,kz⟩:=heap_set (w:=w) (o':= .map x6 ck) hh
 have le:Le M s M {s with av:=s.av.set o iF}:=
  ⟨fun _ _ _ h=>h,by simp,fun _ _=> .refl _,zag _,fun t n _ h=>⟨n,h,zag _,fun _=>rfl⟩⟩
 refine⟨⟨fun b q v e=>?_,fun o' ds e=>?_,fun q hq oG=>r.iK q (by simpa using hq) oG,fun q q' hq ki e=>r.inj q q' (by simpa using hq) (by simpa using ki) e,fun t n e=>?_,
  fun t b c z q hl e hq=>r.dY t b c z q hl e (by simpa using hq),fun t t' b c z c' z' h h' e e'=>r.fB t t' b c z c' z' h h' e e'⟩, ?_⟩
 ·obtain⟨h3,h4⟩:=r.comm b q v e
  refine⟨?_,h4⟩
  have hb:b≠M.mu o:=fun eq=>by subst eq;rw[r.iK o ho q]at e;cases e
  rw[← h3]
  simp[World.cell?,kz b hb]
 ·rw [zaM]at e
  split at e
  ·rename_i heq
   subst heq
   simp at e
   obtain⟨_,rfl⟩:=e
   refine⟨⟨gb x6.toList⟩,0, ?_,by simpa using hl,⟨fun v hv=>h1 v (by simpa using hv),fun T' h=>?_⟩,fun i d v e1 e2=>(h2 i d v e1 (by simpa using e2)).mono le⟩
   ·exact gH.ofMap hk ⟨x6,ck,zf,rfl⟩
   ·have:M.ty o=none:=by
     have:(M.loc o).2 = .map:=hk
     simp[Map.ty,this,Ob.ty?]
    rw[this]at h;cases h
  ·rename_i dL
   obtain⟨eR,T',h3,h4,h5,h6⟩:=r.obj o' ds e
   have ky:o'<s.av.length:=(zae.1 e).1
   refine⟨eR,T', ?_,h4,h5,fun i d v e1 e2=>(h6 i d v e1 e2).mono le⟩
   exact h3.keep (kz _ (fun eq=>dL (r.inj o o' ho ky eq.symm)))
 ·rcases r.tok t n e with h3 | ⟨b,cap,size,eR,T',h3,h4,h5⟩
  ·exact .inl h3
  ·refine .inr ⟨b,cap,size,eR,T',h3, ?_,h5⟩
   show(w.heap.setIfInBounds (M.mu o) (.map x6 ck))[b]? = _
   rw[kz b (fun eq=>r.dY t b cap size o ⟨n,e⟩ h3 ho eq.symm)];exact h4
 ·refine⟨le,fun b hb h3 _=>kz b (fun eq=>h3 o ho eq.symm),fun q h3 h4=> ?_,fun t b c z h e=> .inl ⟨h,c,z,e⟩,fun _ _ h=>(h rfl).elim,by simp,rfl,rfl,rfl⟩
  simp at h4;rcases h3 with h3|h3;omega;exact(h3 rfl).elim
theorem qY (l:List UInt8):IsKey .string (.string ⟨⟨l⟩⟩):=by simp[IsKey]
theorem Kz (r:Rel M s w) {t kt e:TypeId} (ht:P.underlying t=some (.map kt e)):cG P M s w (do pure (.value (← Instr.makeMap t none))) (.fA s.av.length) {s with av:=s.av++ [[]]}:=by
 obtain⟨r',e'⟩:=r.FN [] (.map #[] 0) #[] 0 .map (fun hp e=>⟨#[],0,e,rfl⟩) (fun _ h=>by cases h) rfl (by simp) (by simp)
 have hm:(M.dE s.av.length w.heap.size .map).mu s.av.length=w.heap.size:=by simp[Map.dE,Map.mu]
 have hv:=RD.fA (M:=M.dE s.av.length w.heap.size .map) (s:= {s with av:=s.av++ [[]]}) s.av.length (by simp) (by simp[Map.dE,Map.ob])
 rw[hm]at hv
 refine⟨_,_,_, .inl ?_,r',hv,e'⟩
 simp only[Instr.makeMap,newObj,Sem.run_bind,Sem.run_pure,Sem.run,Result.andThen_ok]
 rfl
theorem KA (r:Rel M s w) {t kt e:TypeId} {i:TypeInfo} {z:Value} {zd:D} (ht:P.underlying t=some (.map kt e)) (hk:P.underlying kt=some .string) (hi:P.info? e=some i) (hz:i.zero=some z) (Xk:qd z=some zd)
 {o:Nat} {key:List UInt8} {cs:List D} {d:D} (uY:M.ob o = .map) (ho:s.av[o]? = some cs) (hg:vZ key zd cs=some d) :
 cG P M s w (do pure (.value (← Instr.lookup t (.map (some (M.mu o))) (.string ⟨⟨key⟩⟩) false))) d s:=by
 obtain⟨vs,T,hh,hs,⟨fJ,TI⟩,gZ⟩:=r.obj o cs ho
 obtain⟨es,ck,(hh:w.heap[M.mu o]? = _),mZ⟩:=hh.J4 uY
 have Av : ∀ (i:Nat) (d:D) (v:Value),cs[i]? = some d→(gb es.toList)[i]? = some v→RD M s d v:=fun i d v e1 e2=>gZ i d v e1 (by rw[← mZ]at e2;simpa using e2)
 have hzv:(zeroValue e).run P w = .ok z w:=by simp[zeroValue,fD P hi,hz]
 rcases(find_spec es.toList cs 0 (by rw[← mZ];simpa using hs) Av).1 zd d hg with ⟨h1,rfl⟩|⟨j,en,h1,h2⟩
 ·refine cG.pure (v:=z) r ?_ (ow Xk).1
  simp[Instr.lookup,run_underlying ht,MapKept.run_getObj_map hh,run_checkKey hk (qY key),run_findKey hk h1,hzv]
 ·refine cG.pure (v:=en.val) r ?_ h2
  simp[Instr.lookup,run_underlying ht,MapKept.run_getObj_map hh,run_checkKey hk (qY key),run_findKey hk h1]
theorem Nu (r:Rel M s w) {t kt e:TypeId} (ht:P.underlying t=some (.map kt e)) (hk:P.underlying kt=some .string)
 {o:Nat} {key:List UInt8} {cs iF:List D} {d:D} {v:Value} (uY:M.ob o = .map) (ho:s.av[o]? = some cs) (hv:RD M s d v) (Bg:v.oneCell'=true) (hg:uy key d cs=some iF) :
 cG P M s w (do Instr.mapUpdate t (.map (some (M.mu o))) (.string ⟨⟨key⟩⟩) v;pure .skip) (.tuple []) {s with av:=s.av.set o iF}:=by
 obtain⟨vs,T,hh,hs,⟨fJ,TI⟩,gZ⟩:=r.obj o cs ho
 obtain⟨es,ck,(hh:w.heap[M.mu o]? = _),mZ⟩:=hh.J4 uY
 have Av : ∀ (i:Nat) (d:D) (v:Value),cs[i]? = some d→(gb es.toList)[i]? = some v→RD M s d v:=fun i d v e1 e2=>gZ i d v e1 (by rw[← mZ]at e2;simpa using e2)
 have hl:(gb es.toList).length=cs.length:=by rw[← mZ];simpa using hs
 have TQ : ∀ v∈gb es.toList,v.oneCell'=true:=fun v hv=>fJ v (by rw[← mZ]at hv;simpa using hv)
 rcases(find_spec es.toList cs 0 hl Av).2 d iF hg with ⟨h1,rfl⟩|⟨j,en,h1,h2,h3,rfl⟩
 ·obtain⟨r',e'⟩:=r.Xj (iF:=cs++ [.str key,d]) ho uY (es.push {key:= .string ⟨⟨key⟩⟩,val:=v,born:=ck}) (ck+1) (by simp [tx,gb,hl]) (fun u hu=>by
   simp only[Array.toList_push,tx,gb,zaw,zan,zbn,or_false]at hu
   rcases hu with hu|rfl|rfl
   ·exact TQ u hu
   ·rfl
   ·exact Bg) (fun i d' u e1 e2=>by
   simp only[Array.toList_push,tx,gb]at e2
   rcases zaI i cs.length with hi|hi
   ·rw [zao hi]at e1
    rw[zao (by omega)]at e2
    exact Av i d' u e1 e2
   ·rw [zau hi]at e1
    rw[zau (by omega),hl]at e2
    match i - cs.length,e1,e2 with
    | 0,e1,e2=>simp at e1 e2;subst e1 e2;exact .str _
    | 1,e1,e2=>simp at e1 e2;subst e1 e2;exact hv
    |k+2,e1,e2=>simp at e1)
  refine⟨Go.undef,_,M, .inr ⟨?_,rfl⟩,r', .undef,e'⟩
  simp[Instr.mapUpdate,run_underlying ht,MapKept.run_getObj_map hh,run_checkKey hk (qY key),run_findKey hk h1,MapKept.run_setObj_map _ hh]
 ·simp only [za6]at h1
  have hj:es[j]? = some en:=by simpa using h2
  have CS:(es.modify j fun e=> {e with key:= .string ⟨⟨key⟩⟩,val:=v}).toList=es.toList.set j {en with key:= .string ⟨⟨key⟩⟩,val:=v}:=by
   apply List.ext_getElem?
   intro i
   rw[Array.getElem?_toList,zbx,zaM]
   by_cases TR:j=i
   ·subst TR
    have:j<es.size:=by have:=(zae.1 h2).1;simpa using this
    simp[hj,this]
    have:=(zaN.1 hj).2
    rw[this]
   ·simp[TR]
  have ib:=DK es.toList j en (.string ⟨⟨key⟩⟩) v h2 h3
  obtain⟨r',e'⟩:=r.Xj (iF:=cs.set (2*j+1) d) ho uY (es.modify j fun e=> {e with key:= .string ⟨⟨key⟩⟩,val:=v}) ck (by rw[CS,ib];simp[hl]) (fun u hu=>by
   rw[CS,ib]at hu
   rcases List.mem_or_eq_of_mem_set hu with hu|rfl
   ·exact TQ u hu
   ·exact Bg) (fun i d' u e1 e2=>by
   rw[CS,ib,zaM]at e2
   rw[zaM]at e1
   by_cases hi:2*j+1=i
   ·rw [if_pos hi]at e1 e2
    split at e1
    ·split at e2
     ·cases e1;cases e2;exact hv
     ·cases e2
    ·cases e1
   ·rw [if_neg hi]at e1 e2
    exact Av i d' u e1 e2)
  refine⟨Go.undef,_,M, .inr ⟨?_,rfl⟩,r', .undef,e'⟩
  simp[Instr.mapUpdate,run_underlying ht,MapKept.run_getObj_map hh,run_checkKey hk (qY key),run_findKey hk h1,hj,h3,run_keyThatStays (qY key),MapKept.run_setObj_map _ hh]
end
end Go.Abs
namespace Go.Abs
section
variable {M:Map} {s:St} {w:World}
theorem Bh {o g:Nat} {cells:List D} (h:lP s o g=some cells):s.av[o]? = some (.int .i64 g::cells):=by
 unfold lP at h
 split at h
 ·rename_i n cs e
  split at h
  ·rename_i hn;cases h;rw[e,hn]
  ·cases h
 ·cases h
theorem Rel.F0 (r:Rel M s w) {o z g:Nat} {A:Nat→Option (Nat×Nat)} {cells:List D} (hm:M.ob o = .arr z A) (ha:lP s o g=some cells) :
 ∃ (us:Array Value) (T:TypeId) (cap:Nat),w.heap[M.mu o]? = some (.cells us T (0,0))∧A g=some (M.mu o,cap)∧(∀ g',g<g'→A g'=none)∧us.size=cap*z∧cells.length≤us.size∧
  (∀ u∈us,u.oneCell'=true)∧∀ (i:Nat) (d:D) (u:Value),cells[i]? = some d→us[i]? = some u→RD M s d u:=by
 obtain⟨vs,T,hh,hs,_,gZ⟩:=r.obj o _ (Bh ha)
 obtain⟨us,g0,n,cap,h1,h2,h3,h4,h5,h6,h7⟩ : ∃ (us:Array Value) (g n cap:Nat),w.heap[(M.loc o).1]? = some (.cells us T (0,0))∧A g=some ((M.loc o).1,cap)∧(∀ g',g<g'→A g'=none)∧us.size=cap*z∧n≤us.size∧
  vs.toList = .int .i64 g::us.toList.take n∧∀ u∈us,u.oneCell'=true:=by
  unfold gH at hh
  rw[show(M.loc o).2 = .arr z A from hm]at hh
  exact hh
 have hP : ∀ i,vs[i]? = (Value.int .i64 g0::us.toList.take n)[i]? :=fun i=>by rw[← h6,Array.getElem?_toList]
 have hg:g0=g:=by
  have:=(gZ 0 (.int .i64 g) (.int .i64 g0) rfl (by rw[hP];rfl))
  cases this
  rfl
 subst hg
 have hn:n=cells.length:=by
  have:vs.toList.length=(Value.int .i64 g0::us.toList.take n).length:=by rw[h6]
  simp at this hs
  omega
 subst hn
 refine⟨us,T,cap,h1,h2,h3,h4,h5,h7,fun i d u e1 e2=>gZ (i+1) d u (by simpa using e1) ?_⟩
 rw[hP,zaW,zaX,if_pos (zae.1 e1).1]
 simpa using e2
def Map.rC (M:Map) (o:Nat) (l:Nat×Ob):Map:= {M with loc:=fun q=>if q=o then l else M.loc q}
theorem Rel.QK (r:Rel M s w) {o z g:Nat} {A:Nat→Option (Nat×Nat)} {cells:List D} (hm:M.ob o = .arr z A) (ha:lP s o g=some cells) (b' g' oI:Nat) (A':Nat→Option (Nat×Nat))
 (hA : ∀ g x,A g=some x→A' g=some x) (va:A' g'=some (b',oI)) (zO : ∀ Je,g'<Je→A' Je=none) (w':World) (us:Array Value) (T:TypeId) (hh:w'.heap[b']? = some (.cells us T (0,0))) (cV:us.size=oI*z)
 (sD:List D) (hl:sD.length≤us.size) (fJ : ∀ u∈us,u.oneCell'=true) (gZ : ∀ (i:Nat) (d:D) (u:Value),sD[i]? = some d→us[i]? = some u→RD M s d u)
 (hb:b'=M.mu o∨w.heap.size≤b') (Ff : ∀ b,b<w.heap.size→b≠M.mu o→w'.heap[b]? = w.heap[b]?) (qz:w.heap.size≤w'.heap.size) (h1:w'.os=w.os) (h2:w'.tape=w.tape) (h3:w'.output=w.output) :
 Rel (M.rC o (b', .arr z A')) {s with av:=s.av.set o (.int .i64 g'::sD)} w'∧Ext M s w (M.rC o (b', .arr z A')) {s with av:=s.av.set o (.int .i64 g'::sD)} w':=by
 have ho:o<s.av.length:=(zae.1 (Bh ha)).1
 have xe:(M.loc o).2 = .arr z A:=hm
 have zf:(M.rC o (b', .arr z A')).loc o=(b', .arr z A'):=by simp[Map.rC]
 have KB : ∀ q,q≠o→(M.rC o (b', .arr z A')).loc q=M.loc q:=fun q hq=>by simp[Map.rC,hq]
 have ld:(M.rC o (b', .arr z A')).mu o=b':=congrArg Prod.fst zf
 have Aw : ∀ q,q≠o→(M.rC o (b', .arr z A')).mu q=M.mu q:=fun q hq=>congrArg Prod.fst (KB q hq)
 have le:Le M s (M.rC o (b', .arr z A')) {s with av:=s.av.set o (.int .i64 g'::sD)}:=by
  refine⟨fun _ _ _ h=>h,by simp,fun q _=>?_,zag _,fun t n _ h=>⟨n,h,zag _,fun _=>rfl⟩⟩
  by_cases hq:q=o
  ·subst hq
   rw[zf,show M.loc q=((M.loc q).1, .arr z A) by rw[← xe]]
   exact .arr _ _ z A A' hA
  ·rw[KB q hq];exact .refl _
 have dL : ∀ q,q<s.av.length→q≠o→M.mu q≠b':=fun q hq qZ e=>by
  rcases hb with hb|hb
  ·exact qZ (r.inj q o hq ho (e.trans hb))
  ·have:=r.ov hq;omega
 have hG : ∀ off,M.G b' off=none:=fun off=>by
  rcases hb with hb|hb
  ·rw[hb];exact r.iK o ho off
  ·exact r.Ke hb off
 refine⟨⟨fun b q v e=>?_,fun q ds e=>?_,fun q hq off=>?_,fun q q' hq ki e=>?_,fun t n e=>?_,fun t b c z' q hl e hq=>?_,fun t t' b c z c' z' h h' e e'=>r.fB t t' b c z c' z' h h' e e'⟩, ?_⟩
 ·obtain⟨h4,h5⟩:=r.comm b q v e
  refine⟨?_,h5⟩
  have hbo:b≠M.mu o:=fun eq=>by subst eq;have e0:M.G (M.mu o) q=some v:=e;rw[r.iK o ho q]at e0;cases e0
  rw[← h4]
  simp[World.cell?,Ff b (r.Am e) hbo]
 ·simp only [zaM]at e
  split at e
  ·rename_i hq
   subst hq
   cases e
   refine⟨⟨.int .i64 g'::us.toList.take sD.length⟩,T, ?_,by simp;omega,⟨fun v hv=>?_,fun T' hT=>?_⟩,fun i d v e1 e2=>?_⟩
   ·unfold gH
    rw[zf]
    exact⟨us,g',sD.length,oI,hh,va,zO,cV,hl,rfl,fJ⟩
   ·simp at hv
    rcases hv with rfl|hv
    ·rfl
    ·exact fJ v (zaQ.1 (zaZ hv))
   ·have:(M.rC o (b', .arr z A')).ty o=none:=by unfold Map.ty;rw [zf];rfl
    rw[this]at hT;cases hT
   ·cases i with
    |zero=>simp at e1 e2;subst e1 e2;exact .int _ _
    |succ i=>
     simp at e1 e2
     rw[zaX]at e2
     split at e2
     ·exact(gZ i d v e1 (by simpa using e2)).mono le
     ·cases e2
  ·rename_i hq
   have hq:q≠o:=fun e=>hq e.symm
   obtain⟨eR,T',h4,h5,h6,h7⟩:=r.obj q ds e
   have zQ:q<s.av.length:=(zae.1 e).1
   refine⟨eR,T', ?_,h5,⟨h6.1,by unfold Map.ty;rw[KB q hq];exact h6.2⟩,fun i d v e1 e2=>(h7 i d v e1 e2).mono le⟩
   rw[KB q hq]
   exact h4.keep (Ff _ h4.lt fun e=>hq (r.inj q o zQ ho e))
 ·simp at hq
  by_cases qZ:q=o
  ·subst qZ;rw[ld];exact hG off
  ·rw[Aw q qZ];exact r.iK q hq off
 ·simp at hq ki
  by_cases h4:q=o<;>by_cases h5:q'=o
  ·omega
  ·subst h4;rw[ld,Aw q' h5]at e;exact(dL q' ki h5 e.symm).elim
  ·subst h5;rw[ld,Aw q h4]at e;exact(dL q hq h4 e).elim
  ·rw[Aw q h4,Aw q' h5]at e;exact r.inj q q' hq ki e
 ·rcases r.tok t n e with h4 | ⟨b,cap,size,eR,T',h4,h5,h6⟩
  ·exact .inl h4
  ·refine .inr ⟨b,cap,size,eR,T',h4, ?_,h6⟩
   rw[Ff b (jI h5) (fun eq=>r.dY t b cap size o ⟨n,e⟩ h4 ho eq.symm)];exact h5
 ·simp at hq
  by_cases qZ:q=o
  ·subst qZ;rw [ld]
   rcases hb with hb|hb
   ·rw[hb];exact r.dY t b c z' q hl e hq
   ·have:=r.qx hl e;omega
  ·rw[Aw q qZ];exact r.dY t b c z' q hl e hq
 ·refine⟨le,fun b l8 h4 _=>Ff b l8 (fun e=>h4 o ho e.symm),fun q h4 h5=> ?_,fun t b c z h e=> .inl ⟨h,c,z,e⟩,fun _ _ h=>(h rfl).elim,qz,h1,h2,h3⟩
  simp at h5
  by_cases qZ:q=o
  ·subst qZ
   rw[ld]at h4 ⊢
   rcases hb with hb|hb
   ·rcases h4 with h4 | h4
    ·omega
    ·exact(h4 hb).elim
   ·exact hb
  ·rw [Aw q qZ]at h4
   rcases h4 with h4|h4
   ·omega
   ·exact(h4 rfl).elim
theorem Rel.Xl (r:Rel M s w) (z cap:Nat) (us:Array Value) (T:TypeId) (cV:us.size=cap*z) (cells:List D) (hl:cells.length≤us.size) (fJ : ∀ u∈us,u.oneCell'=true)
 (gZ : ∀ (i:Nat) (d:D) (u:Value),cells[i]? = some d→us[i]? = some u→RD M s d u) :
 ∃ M',Rel M' {s with av:=s.av++ [.int .i64 ((0:Nat):Int)::cells]} (w.alloc (.cells us T))∧Ext M s w M' {s with av:=s.av++ [.int .i64 ((0:Nat):Int)::cells]} (w.alloc (.cells us T))∧
  ∀ len,len≤cap→RD M' {s with av:=s.av++ [.int .i64 ((0:Nat):Int)::cells]} (.bX z s.av.length 0 len) (.slice (some ⟨w.heap.size,0,none⟩) len cap):=by
 obtain⟨r',e'⟩:=r.FN (.int .i64 ((0:Nat):Int)::cells) (.cells us T) ⟨.int .i64 ((0:Nat):Int)::us.toList.take cells.length⟩ T (.arr z fun g=>if g=0 then some (w.heap.size,cap)else none)
  (fun hp e=>⟨us,0,cells.length,cap,e,rfl,fun g' h=>if_neg (by omega),cV,hl,rfl,fJ⟩) (fun _ h=>by cases h) (by simp;omega) (fun v hv=>by
   simp at hv
   rcases hv with rfl|hv
   ·rfl
   ·exact fJ v (zaQ.1 (zaZ hv))) (fun i d v e1 e2=>by
   cases i with
   |zero=>simp at e1 e2;subst e1 e2;exact .int _ _
   |succ i=>
    simp at e1 e2
    rw[zaX]at e2
    split at e2
    ·exact(gZ i d v e1 (by simpa using e2)).mono (qe s w.heap.size _ _)
    ·cases e2)
 exact⟨_,r',e',fun len h=> .bX z _ 0 len w.heap.size cap _ (by simp) (by simp[Map.dE,Map.ob];rfl) (if_pos rfl) h⟩
end
end Go.Abs
namespace Go.Abs
section
variable {P:Program} {M:Map} {s:St} {w:World}
theorem Jf (r:Rel M s w) {o g off:Nat} {v:Value} {cells:List D} (hx:RD M s (.ew o g off) v) (ha:lP s o g=some cells) :
 ∃ z A,M.ob o = .arr z A∧v = .pointer (some ⟨M.mu o,off,none⟩):=by
 obtain⟨z,b,cap,A,hv,ho,hm,hg⟩:=hx.An
 obtain⟨us,T,oI,h1,h2,_⟩:=r.F0 hm ha
 rw[hg]at h2;cases h2
 exact⟨z,A,hm,hv⟩
theorem Ie (r:Rel M s w) {t:TypeId} {i:TypeInfo} {agg:Bool} (hi:P.info? t=some i) (hag:pe P t=some agg) {x d:D} {v:Value} {s':St} (hx:RD M s x v) (h:v7 x agg i.size s=some (d,s')) :
 cG P M s w (do pure (.value (← Instr.loadAt t v))) d s':=by
 unfold v7 at h
 split at h
 case h_2=>cases h
 rename_i o g off
 split at h
 case h_2=>cases h
 rename_i cells ha
 split at h
 case h_2=>cases h
 rename_i d' hp
 cases h
 obtain⟨z,A,hm,rfl⟩:=Jf r hx ha
 obtain⟨us,T,cap,hh,_,_,_,hl,fJ,gZ⟩:=r.F0 hm ha
 let n:=if agg then i.size else 1
 have iL:off+n≤us.size:=by
  rcases oR hp with ⟨rfl,h1,_⟩|⟨rfl,h1⟩
  ·simp[n];omega
  ·have:=(zae.1 h1).1;simp[n];omega
 have hlen:((us.toList.drop off).take n).length=n:=by simp;omega
 have hP : ∀ (j:Nat) (u:Value),((us.toList.drop off).take n)[j]? = some u→us[off+j]? = some u:=by
  intro j u h
  rw[zaX]at h
  split at h
  ·rw[zbc]at h;simpa using h
  ·cases h
 have da:=wc (w:=w) P hi hag (M.mu o) off ((us.toList.drop off).take n) hlen (fun j u h=>by rw[gY hh];exact hP j u h)
 refine cG.pure (v:=if agg then .agg ((us.toList.drop off).take n).toArray else((us.toList.drop off).take n).getD 0 Go.undef) r (by simp[Instr.loadAt,Instr.sureAddr,da]) ?_
 refine pj hp _ hlen (fun _ u hu=>fJ u ?_) (fun j d u e1 e2=>gZ _ d u e1 (hP j u e2))
 exact zaQ.1 (zbl (zaZ hu))
theorem vd {vs:Array Value} {off:Nat} {us:List Value} {n:Nat} (hu:us.length=n) (h:off+n≤vs.size) (i:Nat) :
 (vs.toList.take off++us++vs.toList.drop (off+us.length)).toArray[i]? = if i<off then vs[i]? else if i<off+n then us[i - off]? else vs[i]? :=by
 subst hu
 simp only[zbj]
 have hl:(vs.toList.take off).length=off:=by simp;omega
 split
 ·rename_i h3
  rw[zaC,zao (by omega),za5 h3];simp
 ·rename_i h3
  rw[zaC,zau (by omega),hl]
  split
  ·rename_i h4
   rw[zao (by omega)]
  ·rename_i h4
   rw[zau (by omega),zbc]
   rw[show off+us.length+(i - off - us.length)=i by omega];simp
theorem ve {vs:Array Value} {off k:Nat} {us:List Value} (h1 : ∀ v∈vs,v.oneCell'=true) (h2 : ∀ u∈us,u.oneCell'=true) : ∀ v∈(vs.toList.take off++us++vs.toList.drop k).toArray,v.oneCell'=true:=by
 intro v hv
 simp at hv
 rcases hv with hv|hv|hv
 ·exact h1 v (zaQ.1 (zaZ hv))
 ·exact h2 v hv
 ·exact h1 v (zaQ.1 (zbl hv))
theorem F1 (r:Rel M s w) {t:TypeId} {i:TypeInfo} (hi:P.info? t=some i) {x y d:D} {v u:Value} {s':St} (hx:RD M s x v) (hy:RD M s y u) (h:xR x y.row i.size s=some (d,s')) :
 cG P M s w (do Instr.storeAt t v u;pure .skip) d s':=by
 unfold xR at h
 split at h
 case h_2=>cases h
 rename_i o g off row hr
 split at h
 case h_2=>cases h
 rename_i cells ha
 split at h
 case isFalse=>cases h
 rename_i hc
 obtain⟨hl,iL⟩:=hc
 cases h
 obtain⟨z,A,hm,rfl⟩:=Jf r hx ha
 obtain⟨us,T,cap,hh,va,zO,cV,hle,fJ,gZ⟩:=r.F0 hm ha
 obtain⟨h1,h2,h3⟩:=hy.row hr
 have hu:u.cells.toList.length=row.length:=by simpa using h1
 have qT:=run_storeCells_at P (M.mu o) off T u.cells.toList 0 us w hh (by omega) (fun u hu=>h2 u (by simpa using hu))
 simp only[za4]at qT
 generalize dq:(us.toList.take off++u.cells.toList++us.toList.drop (off+u.cells.toList.length)).toArray=gU at qT
 have pg:gU.size=us.size:=by rw[← dq];simp;omega
 have hP : ∀ i,gU[i]? = if i<off then us[i]? else if i<off+row.length then u.cells.toList[i - off]? else us[i]? :=fun i=>by rw[← dq];exact vd hu (by omega) i
 have hlc:(eH cells off row).length=cells.length:=rr cells off row (by omega)
 obtain⟨r',e'⟩:=r.QK hm ha (M.mu o) g cap A (fun _ _ h=>h) va zO (w.setRow (M.mu o) gU) gU T (setRow_heap w (M.mu o) us gU T (0,0) hh) (by rw[pg,cV]) (eH cells off row) (by omega)
  (by rw [← dq];exact ve fJ (fun u hu=>h2 u (by simpa using hu))) (fun i d v e1 e2=>by
   rw[pf cells off row (by omega)]at e1
   rw[hP]at e2
   split at e1
   ·rename_i h4;simp only[h4,if_true]at e2;exact gZ i d v e1 e2
   ·rename_i h4
    simp only[h4,if_false]at e2
    split at e1
    ·rename_i h5;simp only[h5,if_true]at e2;exact h3 _ d v e1 (by simpa using e2)
    ·rename_i h5;simp only[h5,if_false]at e2;exact gZ i d v e1 e2) (.inl rfl) (fun b _ hb=>setRow_other w (M.mu o) b _ hb) (by simp) rfl rfl rfl
 refine⟨Go.undef,_,_, .inr ⟨?_,rfl⟩,r', .undef,e'⟩
 have adN:u.cells.size=i.size:=by omega
 simp[Instr.storeAt,Instr.sureAddr,storeVar,sizeOf,fD P hi,adN,qT]
theorem F2 (r:Rel M s w) {t e:TypeId} {i:TypeInfo} (ht:P.underlying t=some (.slice e)) (hi:P.info? e=some i) {x y d:D} {v u:Value} (hx:RD M s x v) (hy:RD M s y u) (h:oe x y i.size=some d) :
 cG P M s w (do pure (.value (← Instr.indexAt t v u))) d s:=by
 unfold oe at h
 split at h
 case h_2=>cases h
 rename_i z o g len k n
 split at h
 case isFalse=>cases h
 rename_i hc
 obtain⟨h0,h1,rfl⟩:=hc
 cases h
 obtain⟨b,cap,A,rfl,ho,hm,hg,hl⟩:=hx.sr
 rw[hy.gj]
 refine cG.pure (v:= .pointer (some ⟨b,n.toNat*i.size,none⟩)) r ?_ (.ew _ _ _ _ b cap A ho hm hg)
 simp[Instr.indexAt,asIntOf,run_underlying ht,h0,h1,sizeOf,fD P hi,kT]
theorem KD (r:Rel M s w) {t e:TypeId} {i:TypeInfo} {lv hv:Option Value} {lo hi:Option D} (ht:P.underlying t=some (.slice e)) (xf:P.info? e=some i) {x d:D} {v:Value} (hx:RD M s x v)
 (h1 : ∀ l,tq lo=some l→Nj lv l) (h2 : ∀ len l,tr hi len=some l→Nk hv len l) (h:J8 x lo hi=some d) :
 cG P M s w (do pure (.value (← Instr.sliceAt t v lv hv none))) d s:=by
 unfold J8 at h
 split at h
 ·rename_i z o g len
  split at h
  case h_2=>cases h
  rename_i l hh el eh
  split at h
  case isFalse=>cases h
  rename_i hc
  obtain⟨rfl,h0,hle⟩:=hc
  cases h
  obtain⟨b,cap,A,rfl,ho,hm,hg,hl⟩:=hx.sr
  have hb:=nH (P:=P) (w:=w) (isSlice:=true) (cap:=cap) (h1 _ el) (h2 _ _ eh) (zaY 0) h0 hle hl
  refine cG.pure (v:= .slice (some ⟨b,0,none⟩) hh.toNat cap) r ?_ (.bX z o g _ b cap A ho hm hg (by omega))
  simp[Instr.sliceAt,run_underlying ht,Instr.slice,hb,sizeOf,fD P xf,kT]
 ·rename_i z
  split at h
  case h_2=>cases h
  rename_i l hh el eh
  split at h
  case isFalse=>cases h
  rename_i hc
  obtain⟨rfl,rfl⟩:=hc
  cases h
  obtain⟨a,rfl⟩:=hx.Ao
  have hb:=nH (P:=P) (w:=w) (isSlice:=true) (len:=0) (cap:=0) (h1 _ el) (h2 _ _ eh) (zaY 0) (zaY 0) (zaY 0) (zag 0)
  refine cG.pure (v:= .slice a 0 0) r ?_ (.dj z a)
  cases a<;>simp[Instr.sliceAt,run_underlying ht,Instr.slice,hb,sizeOf,fD P xf,kT]
 ·cases h
theorem KE (r:Rel M s w) {t ty e:TypeId} (ht:P.underlying t=some (.slice e)) {x d:D} {v:Value} (hx:RD M s x v) (h:CK x=some d) :
 cG P M s w (do pure (.value (← Builtin.len_ #[t] ty #[v]))) d s:=by
 unfold CK at h
 split at h
 ·cases h
  obtain⟨b,cap,A,rfl,_⟩:=hx.sr
  exact lh r ht
 ·cases h
  obtain⟨a,rfl⟩:=hx.Ao
  exact lh r ht
 ·cases h
theorem sE {size:Nat} : ∀ {rows:List (List D)},(∀ row∈rows,row.length=size)→rows.flatten.length=rows.length*size∧
 ∀ (k:Nat) (d:D),rows.flatten[k]? = some d→∃ (i:Nat) (row:List D) (j:Nat),rows[i]? = some row∧row[j]? = some d∧k=i*size+j
 | [],_=>by simp
 | row::rows,h=>by
  have hr:=h row (zaD ..)
  obtain⟨h1,h2⟩:=sE fun q hq=>h q (zav _ hq)
  refine⟨by simp only[zbt,zai,h1,hr,zal,zba];omega,fun k d e=>?_⟩
  rw[zbt]at e
  rcases zaI k row.length with hk|hk
  ·rw [zao hk]at e
   exact⟨0,row,k,rfl,e,by omega⟩
  ·rw [zau hk]at e
   obtain⟨i,ij,j,g1,g2,g3⟩:=h2 _ d e
   exact⟨i+1,ij,j,by simpa using g1,g2,by rw[zba];omega⟩
theorem KF (r:Rel M s w) {t u ty e e':TypeId} {i:TypeInfo} {z:Value} (ht:P.underlying t=some (.slice e)) (hu:P.underlying u=some (.slice e')) (hi:P.info? e=some i) (hz:i.zero=some z)
 (vb:z.cells.size=i.size) (zP : ∀ v∈z.cells,v.oneCell'=true) {dx dy d:D} {x y:Value} {s':St} (hx:RD M s dx x) (hy:RD M s dy y) (mW:0<i.size) (he:xS i.size i.bytes dx dy s=some (d,s')) :
 ∃ v w' M',(Builtin.append_ #[t,u] ty #[x,y]).run P w = .ok v w'∧Rel M' s' w'∧RD M' s' d v∧Ext M s w M' s' w':=by
 have src:=CR (i:=i) r hu hy
 unfold xS at he
 split at he
 ·-- behind an array
  rename_i z0 o g len g' zy new
  split at he
  case isFalse=>cases he
  rename_i hc
  obtain⟨rfl,FW,tw⟩:=hc
  obtain⟨b,cap,A,rfl,ho,hm,hg,hlc⟩:=hx.sr
  cases new with
  |nil=>
   simp only at he
   cases he
   exact⟨_,w,M,j8 ht hi ((src _ _ _ rfl).1 rfl) hlc,r,hx,Ext.refl M s w⟩
  |cons n0 new=>
  have dL:(n0::new)≠ []:=by simp
  generalize dq:n0::new=dI at *
  have Np:zy=i.size:=FW.resolve_left dL
  subst Np
  obtain⟨Ba,news,hs,ze⟩:=(src _ _ _ rfl).2 dL rfl
  have xe:0<dI.length:=zbf.2 dL
  simp only[← dq]at he
  simp only[dq]at he
  split at he
  case h_2=>cases he
  rename_i cells ha
  split at he
  case isFalse=>cases he
  rename_i rN
  cases he
  obtain⟨us,T,oI,hh,va,zO,cV,hle,fJ,gZ⟩:=r.F0 hm ha
  rw[hg]at va
  simp only[Option.some.injEq,Prod.mk.injEq]at va
  obtain⟨rfl,rfl⟩:=va
  obtain⟨ib,Nv⟩:=sE Ba
  have Nw:(cells.take (len*i.size)).length=len*i.size:=by simp;omega
  have hA : ∀ (b' c':Nat) (g0:Nat) (x:Nat×Nat),A g0=some x→(if g0=g+1 then some (b',c')else A g0)=some x:=fun b' c' g0 x h=>by
   rw[if_neg]
   ·exact h
   ·rintro rfl
    rw[zO (g+1) (by omega)]at h;cases h
  have qX:(len+dI.length)*i.bytes≤140737488355328:=by rw[Nat.mul_succ]at tw;simp only[aT]at tw;omega
  have Nq:len+dI.length≤1099511627776:=by rw[Nat.mul_succ]at tw;simp only[aT]at tw;omega
  have TS:=hs.newsLen
  -- what is laid there
  have TT : ∀ (vs:Array Value),(∀ k,k<len*i.size→vs[k]? = us[k]?)→(∀ k,k<news.length→vs[len*i.size+k]? = news[k]?)→∀ (k:Nat) (d:D) (v:Value),
   (cells.take (len*i.size)++dI.flatten)[k]? = some d→vs[k]? = some v→RD M s d v:=fun vs g1 g2 k d v e1 e2=>by
   rcases zaI k (len*i.size)with hk|hk
   ·rw [zao (by omega),za5 hk]at e1
    rw[g1 k hk]at e2
    exact gZ k d v e1 e2
   ·rw [zau (by omega),Nw]at e1
    have bH:=(zae.1 e1).1
    have:=g2 (k - len*i.size) (by omega)
    rw[show len*i.size+(k - len*i.size)=k by omega]at this
    rw[this]at e2
    obtain⟨a,row,j,f1,f2,f3⟩:=Nv _ d e1
    rw[f3]at e2
    exact ze a row j d v f1 f2 e2
  by_cases de:len+dI.length≤cap
  ·have iL:len*i.size+news.length≤us.size:=by rw [TS,cV, ← zba];exact zaT _ de
   have qT:=run_storeCells_at P (M.mu o) (len*i.size) T news 0 us w hh (by simpa using iL) hs.one
   simp only[za4]at qT
   have da:(Builtin.append_ #[t,u] ty #[.slice (some ⟨M.mu o,0,none⟩) len cap,y]).run P w = .ok (.slice (some ⟨M.mu o,0,none⟩) (len+dI.length) cap) (w.setRow (M.mu o) (us.toList.take (len*i.size)++news++us.toList.drop (len*i.size+news.length)).toArray):=by
    rcases hs.kind with ⟨I8,hk⟩|hk<;>simp[Builtin.append_,run_underlying ht,run_underlying hk,sizeOf,typeInfo,hi,hs.len,de,hs.cells,Addr.add_lit,qT]
   have hP:=vd (vs:=us) (off:=len*i.size) (us:=news) rfl iL
   generalize pw:(us.toList.take (len*i.size)++news++us.toList.drop (len*i.size+news.length)).toArray=gU at da hP
   have pg:gU.size=us.size:=by rw[← pw];simp;omega
   obtain⟨r',e'⟩:=r.QK hm ha (M.mu o) (g+1) cap (fun g0=>if g0=g+1 then some (M.mu o,cap)else A g0) (hA _ _) (if_pos rfl) (fun Je h=>by rw[if_neg (by omega)];exact zO Je (by omega))
    (w.setRow (M.mu o) gU) gU T (setRow_heap w (M.mu o) us gU T (0,0) hh) (by rw[pg,cV]) (cells.take (len*i.size)++dI.flatten) (by rw[zai,Nw,ib,pg];omega)
    (by rw[← pw];exact ve fJ hs.one) (TT gU (fun k hk=>by rw[hP,if_pos hk]) (fun k hk=>by rw[hP,if_neg (by omega),if_pos (by omega)];congr 1;omega)) (.inl rfl) (fun b _ hb=>setRow_other w (M.mu o) b _ hb) (by simp) rfl rfl rfl
   refine⟨_,_,_,da,r', ?_,e'⟩
   exact .bX i.size o (g+1) _ (M.mu o) cap _ (by simpa using ho) (by simp[Map.ob,Map.rC];rfl) (if_pos rfl) de
  ·have oh:cap<len+dI.length:=by omega
   have dU:=grownCap_ge w (len+dI.length) cap e
   have Xm:(Builtin.firstCells i.size len (.slice (some ⟨M.mu o,0,none⟩) len cap)).run P w.drew = .ok (us.toList.take (len*i.size)).toArray w.drew:=
    (Src.ofSlice w ht ⟨M.mu o,0,none⟩ len cap (us.toList.take (len*i.size)) (by simp;omega) (fun j v hj=>by
     rw[kT,za6,gY hh]
     rw[zaX]at hj
     split at hj
     ·simpa using hj
     ·cases hj) (fun v hv=>fJ v (zaQ.1 (zaZ hv)))).cellsD
   have da:=run_append_grow_src (P:=P) w t u ty e i z ht hi hz (some ⟨M.mu o,0,none⟩) len cap (us.toList.take (len*i.size)) Xm y dI.length news hs oh (by omega) (growslice_fits oh qX)
   generalize pw:(us.toList.take (len*i.size)++news).toArray++Builtin.zeroCells z.cells (grownCap w (len+dI.length) cap e - (len+dI.length))=gU at da
   have uZ:(us.toList.take (len*i.size)).length=len*i.size:=by simp;omega
   have pg:gU.size=grownCap w (len+dI.length) cap e*i.size:=by
    rw[← pw]
    simp only[Array.size_append,List.size_toArray,zai,size_zeroCells,vb,uZ,TS, ← zba]
    congr 1;omega
   have KH : ∀ v∈gU,v.oneCell'=true:=fun v hv=>by
    rw[← pw,Array.mem_append]at hv
    rcases hv with hv|hv
    ·simp at hv
     rcases hv with hv|hv
     ·exact fJ v (zaQ.1 (zaZ hv))
     ·exact hs.one v hv
    ·exact rA zP _ v hv
   have aaF : ∀ k,k<len*i.size→gU[k]? = us[k]? :=fun k hk=>by
    rw[← pw,za0 (by simp;omega),zbj,zao (by omega),za5 hk];simp
   have KI : ∀ k,k<news.length→gU[len*i.size+k]? = news[k]? :=fun k hk=>by
    rw[← pw,za0 (by simp;omega),zbj,zau (by omega),uZ]
    congr 1;omega
   have Xn:(len+dI.length)*i.size≤gU.size:=by rw[pg];exact zaT _ dU
   have KK:w.heap.size≤(w.drew.alloc (.cells gU e)).heap.size:=by
    have e1:w.drew.heap.size=w.heap.size:=rfl
    have e2:(w.drew.alloc (.cells gU e)).heap.size=w.drew.heap.size+1:=by simp
    omega
   obtain⟨r',e'⟩:=r.QK hm ha w.heap.size (g+1) (grownCap w (len+dI.length) cap e) (fun g0=>if g0=g+1 then some (w.heap.size,grownCap w (len+dI.length) cap e)else A g0) (hA _ _) (if_pos rfl) (fun Je h=>by rw[if_neg (by omega)];exact zO Je (by omega))
    (w.drew.alloc (.cells gU e)) gU e (heap_alloc_new w.drew _) pg (cells.take (len*i.size)++dI.flatten) (by rw[zai,Nw,ib];rw[zba]at Xn;omega)
    KH (TT gU aaF KI) (.inr (zag _)) (fun b hb _=>heap_alloc_old w.drew _ b hb) KK rfl rfl rfl
   refine⟨_,_,_,da,r', ?_,e'⟩
   exact .bX i.size o (g+1) _ w.heap.size _ _ (by simpa using ho) (by simp[Map.ob,Map.rC];rfl) (if_pos rfl) dU
 ·-- the first array
  rename_i z0 g' zy new
  split at he
  case isFalse=>cases he
  rename_i hc
  obtain⟨rfl,FW,tw⟩:=hc
  obtain⟨a,rfl⟩:=hx.Ao
  cases new with
  |nil=>
   simp only at he
   cases he
   exact⟨_,w,M,j8 ht hi ((src _ _ _ rfl).1 rfl) (zag 0),r,hx,Ext.refl M s w⟩
  |cons n0 new=>
  have dL:(n0::new)≠ []:=by simp
  generalize dq:n0::new=dI at *
  have Np:zy=i.size:=FW.resolve_left dL
  subst Np
  obtain⟨Ba,news,hs,ze⟩:=(src _ _ _ rfl).2 dL rfl
  have xe:0<dI.length:=zbf.2 dL
  simp only[← dq]at he
  simp only[dq]at he
  cases he
  obtain⟨ib,Nv⟩:=sE Ba
  have TS:=hs.newsLen
  have qX:(0+dI.length)*i.bytes≤140737488355328:=by rw[Nat.mul_succ]at tw;simp only[aT]at tw;rw[za6];omega
  have Nq:dI.length≤1099511627776:=by rw[Nat.mul_succ]at tw;simp only[aT]at tw;omega
  have oh:0<0+dI.length:=by omega
  have dU:=grownCap_ge w (0+dI.length) 0 e
  have Xm:(Builtin.firstCells i.size 0 (.slice a 0 0)).run P w.drew = .ok ([] : List Value).toArray w.drew:=by
   cases a with
   |none=>simp[Builtin.firstCells]
   |some a=>simp[Builtin.firstCells,loadCells,loadCellsFrom]
  have da:=run_append_grow_src (P:=P) w t u ty e i z ht hi hz a 0 0 [] Xm y dI.length news hs oh (by omega) (growslice_fits oh qX)
  generalize pw:(([] : List Value)++news).toArray++Builtin.zeroCells z.cells (grownCap w (0+dI.length) 0 e - (0+dI.length))=gU at da
  have pg:gU.size=grownCap w (0+dI.length) 0 e*i.size:=by
   rw[← pw]
   simp only[Array.size_append,List.size_toArray,zaR,size_zeroCells,vb,TS, ← zba]
   congr 1;omega
  have KH : ∀ v∈gU,v.oneCell'=true:=fun v hv=>by
   rw[← pw,Array.mem_append]at hv
   rcases hv with hv|hv
   ·exact hs.one v (by simpa using hv)
   ·exact rA zP _ v hv
  have KI : ∀ k,k<news.length→gU[k]? = news[k]? :=fun k hk=>by
   rw[← pw,za0 (by simpa using hk)];simp
  have Xn:dI.length*i.size≤gU.size:=by rw[pg];exact zaT _ (by omega)
  have rd:Rel M s w.drew:=r.of_heap rfl
  obtain⟨M',r',e',f'⟩:=rd.Xl i.size (grownCap w (0+dI.length) 0 e) gU e pg dI.flatten (by omega) KH (fun k d v e1 e2=>by
   have hk:=(zae.1 e1).1
   rw[KI k (by omega)]at e2
   obtain⟨a,row,j,f1,f2,f3⟩:=Nv _ d e1
   rw[f3]at e2
   exact ze a row j d v f1 f2 e2)
  refine⟨_,_,M',da,r', ?_,(Ext.of_heap (M:=M) (s:=s) (w:=w) (w':=w.drew) rfl rfl rfl rfl).trans e'⟩
  have:=f' dI.length (by omega)
  simpa using this
 ·cases he
theorem KM (r:Rel M s w) {t e:TypeId} {i:TypeInfo} {z:List D} (ht:P.underlying t=some (.slice e)) (hi:P.info? e=some i) (hz:zeroOf P e=some z) (mW:0<i.size) {n:Int} (h0:0≤n) (h1:n*((i.bytes:Int)+1)≤aT) :
 cG P M s w (do pure (.value (← Instr.makeSlice t (.int .i64 n) (.int .i64 n)))) (.bX i.size s.av.length 0 n.toNat) {s with av:=s.av++ [.int .i64 ((0:Nat):Int)::(fC z n.toNat).flatten]}:=by
 obtain⟨i',v,g1,g2,g3,g4⟩:=qy hz
 rw[hi]at g1;cases g1
 have DL:=po (M:=M) (s:=s) g4
 have hmul:n*((i.bytes:Int)+1)=(i.bytes:Int)*n+n:=by rw[Int.mul_add,Int.mul_one,Int.mul_comm]
 have Xo:0≤(i.bytes:Int)*n:=Int.mul_nonneg (by omega) h0
 have hmx:(aT:Int)=1099511627776:=rfl
 have da:=run_make (P:=P) w t e i v ht hi g2 .i64 .i64 n n h0 (zaY _) (by omega) (by omega)
 have TP:z.length=i.size:=by have:=DL.1;omega
 obtain⟨q1,q2,q3,q4⟩:=kB.zero DL (by omega) n.toNat
 obtain⟨ib,Nv⟩:=sE (rows:=fC z n.toNat) (size:=z.length) (fun row hr=>by rw[mV z _ row hr])
 rw[kC]at ib
 have TU:madeCells v.cells (n.toNat*i.size)=(Array.range (n.toNat*z.length)).map (v.cells[· % v.cells.size]!):=by rw[TP];rfl
 obtain⟨M',r',e',f'⟩:=r.Xl i.size n.toNat (madeCells v.cells (n.toNat*i.size)) e (by rw[TU];simp[TP]) (fC z n.toNat).flatten (by rw[ib,TU];simp) (by rw[TU];exact q3) (fun k d u e1 e2=>by
  obtain⟨a,row,j,f1,f2,f3⟩:=Nv k d e1
  rw[TU,f3]at e2
  exact q4 a row j d u f1 f2 e2)
 refine⟨_,_,M', .inl ?_,r',f' n.toNat (zag _),e'⟩
 simp only[Sem.run_bind,da,Result.andThen_ok,Sem.run_pure]
end
end Go.Abs
namespace Go.Abs
section
variable {P:Program} {M:Map} {s:St} {w:World}
theorem Jg {tm:Tm} {act:Act} (hr:kA M s tm act.tmps) : ∀ {l:List Operand} {xs:List X},uX l=some xs→
 xs.length=l.length∧∀ (i:Nat) (d:D) (v:Value),(xs.map (·.ev tm))[i]? = some d→(l.map act.eval)[i]? = some v→RD M s d v
 | [],xs,h=>by cases h;exact⟨rfl,by simp⟩
 | x::l,xs,h=>by
  unfold uX at h
  split at h
  ·rename_i x' r' h1 h2
   cases h
   obtain⟨g1,g2⟩:=Jg hr h2
   refine⟨by simp[g1],fun i d v e1 e2=>?_⟩
   cases i with
   |zero=>simp at e1 e2;subst e1;subst e2;exact bS h1 hr
   |succ i=>exact g2 i d v (by simpa using e1) (by simpa using e2)
  ·cases h
theorem F3 {lo:Option Operand} {DM:Option X} {tm:Tm} {act:Act} (hr:kA M s tm act.tmps) (h:TF lo=some DM) {l:Int} (hl:tq (DM.map (·.ev tm))=some l):Nj (lo.map act.eval) l:=by
 cases lo with
 |none=>cases h;simp only[zby,tq,Option.some.injEq]at hl;exact .inl ⟨rfl,hl.symm⟩
 |some x=>
  obtain⟨y,hy,rfl⟩:=map_some (f:=some) h
  have:=bS hy hr
  simp only[zbs]at hl ⊢
  cases hd:y.ev tm<;>rw[hd]at hl this<;>simp only[tq]at hl<;>try (cases hl;done)
  cases hl
  rw[this.gj]
  exact .inr ⟨_,rfl⟩
theorem F4 {hi:Option Operand} {gB:Option X} {tm:Tm} {act:Act} (hr:kA M s tm act.tmps) (h:TF hi=some gB) {len:Nat} {l:Int} (hl:tr (gB.map (·.ev tm)) len=some l):Nk (hi.map act.eval) len l:=by
 cases hi with
 |none=>cases h;simp only[zby,tr,Option.some.injEq]at hl;exact .inl ⟨rfl,hl.symm⟩
 |some x=>
  obtain⟨y,hy,rfl⟩:=map_some (f:=some) h
  have:=bS hy hr
  simp only[zbs]at hl ⊢
  cases hd:y.ev tm<;>rw[hd]at hl this<;>simp only[tr]at hl<;>try (cases hl;done)
  cases hl
  rw[this.gj]
  exact .inr ⟨_,rfl⟩
theorem KN {t:TypeId} {f off size:Nat} {agg:Bool} (h:kS P t f=some (off,size,agg)) {cs:List D} {vs:Array Value} (hl:cs.length=vs.size) (h1 : ∀ v∈vs,v.oneCell'=true)
 (h2 : ∀ (i:Nat) (d:D) (v:Value),cs[i]? = some d→vs[i]? = some v→RD M s d v) {d:D} (hp:part cs off agg size=some d) (r:Rel M s w) :
 cG P M s w (do pure (.value (← Instr.field t (.agg vs) f))) d s:=by
 let n:=if agg then size else 1
 have iL:off+n≤vs.size:=by
  rcases oR hp with ⟨rfl,h1,_⟩|⟨rfl,h1⟩
  ·simp[n];omega
  ·have:=(zae.1 h1).1;simp[n];omega
 have hlen:((vs.toList.drop off).take n).length=n:=by simp;omega
 have hP : ∀ (j:Nat),j<((vs.toList.drop off).take n).length→vs[off+j]? = ((vs.toList.drop off).take n)[j]? :=by
  intro j h
  rw[hlen]at h
  rw[zaX,if_pos h,zbc];simp
 refine cG.pure (v:=if agg then .agg ((vs.toList.drop off).take n).toArray else((vs.toList.drop off).take n).getD 0 Go.undef) r (by simp only[Sem.run_bind,Nb h vs _ hlen hP,Result.andThen_ok,Sem.run_pure]) ?_
 refine pj hp _ hlen (fun _ u hu=>h1 u (zaQ.1 (zbl (zaZ hu)))) (fun j d u e1 e2=>h2 _ d u e1 ?_)
 rw[hP j (zae.1 e2).1];exact e2
theorem qA {o:Oper} {ao:AO} {tm:Tm} {act:Act} {d:D} {s':St} (hc:A7 P o=some ao) (r:Rel M s w) (hr:kA M s tm act.tmps) (he:aU ao tm s=some (d,s')) :
 cG P M s w (execOp act.eval o) d s':=by
 obtain⟨dst,op,type,pos,after,guard⟩:=o
 unfold A7 at hc
 simp only at hc
 cases op with
 |move x=>
  obtain⟨y,hy,rfl⟩:=map_some hc
  cases he
  exact cG.pure r rfl (bS hy hr)
 |assign x=>
  obtain⟨y,hy,rfl⟩:=map_some hc
  cases he
  exact cG.pure r rfl (bS hy hr)
 | pick c a b=>
  simp only at hc
  split at hc
  ·rename_i c' a' b' h1 h2 h3
   cases hc
   simp only[aU]at he
   split at he
   ·rename_i t ht
    cases he
    have hcb:=bS h1 hr
    rw[ht]at hcb
    have:=hcb.lR
    refine cG.pure (v:=if t then act.eval a else act.eval b) r ?_ ?_
    ·simp only [execOp,this,asBool]
     simp
    ·cases t
     ·exact bS h3 hr
     ·exact bS h2 hr
   ·cases he
  ·cases hc
 | alloc t=>
  simp only at hc
  split at hc
  ·obtain⟨z,hz,rfl⟩:=map_some hc
   simp only[aU]at he
   split at he
   ·cases he;exact Ia r hz
   ·cases he
  ·obtain⟨z,hz,rfl⟩:=map_some hc
   cases he
   exact Kh r hz
 | box t x=>
  simp only at hc
  split at hc
  ·obtain⟨y,hy,rfl⟩:=map_some hc
   simp only[aU]at he
   split at he
   ·rename_i row dN
    cases he
    exact Na r (bS hy hr) dN
   ·cases he
  ·obtain⟨y,hy,rfl⟩:=map_some hc
   simp only[aU]at he
   split at he
   ·rename_i row dN
    cases he
    exact Qz r (bS hy hr) dN
   ·cases he
 | build t parts=>
  simp only at hc
  split at hc
  ·rename_i fs z ps h1 h2 h3
   split at hc
   ·rename_i Be
    cases hc
    simp only[aU]at he
    split at he
    ·rename_i cs px
     cases he
     have:=Kx r hr h1 Be h2 h3 px
     simpa[execOp]using this
    ·cases he
   ·cases hc
  ·cases hc
 | buildSlice t n parts=>
  simp only at hc
  split at hc
  ·rename_i e hu
   split at hc
   ·rename_i i z ps h1 h2 h3
    split at hc
    ·rename_i j9
     cases hc
     simp only[aU]at he
     split at he
     ·rename_i rows kh
      cases he
      obtain⟨vs,T,g1,g2,g3,g4⟩:=zR r hr hu h1 h2 j9.1 j9.2 h3 kh
      obtain⟨f1,f2,f3⟩:=Kr r T g1
      refine⟨_,_,_, .inl ?_,f2,f1,f3⟩
      simp only[zaU]at g4
      simp only[execOp,Sem.run_bind,g4,Result.andThen_ok,Sem.run_pure]
      rw[g2]
     ·cases he
    ·cases hc
   ·cases hc
  ·cases hc
 | load t x=>
  simp only at hc
  split at hc
  ·rename_i y a i h1 h2 h3
   cases hc
   have hx:=bS h1 hr
   simp only[aU]at he
   split at he
   ·rename_i o off ho
    rw[ho]at hx
    have F5:=hx.xW
    obtain⟨hv,_⟩:=hx.qg
    split at he
    ·rename_i cs px
     split at he
     ·rename_i d' jC
      cases he
      have:=EN r h3 h2 px F5 jC
      simp only[execOp,hv]
      exact this
     ·cases he
    ·cases he
   ·rename_i row off ho
    rw[ho]at hx
    obtain⟨b,k,hv,g1,g2⟩:=hx.wb
    split at he
    ·rename_i d' jC
     cases he
     have:=EO r h3 h2 g1 g2 jC
     simp only[execOp,hv]
     exact this
    ·cases he
   ·exact Ie r h3 h2 hx he
  ·cases hc
 | store t a x=>
  simp only at hc
  split at hc
  ·rename_i a' x' i h1 h2 h3
   cases hc
   have ha:=bS h1 hr
   have hx:=bS h2 hr
   simp only[aU]at he
   split at he
   ·rename_i o off row ho dN
    rw[ho]at ha
    have F5:=ha.xW
    obtain⟨hv,_⟩:=ha.qg
    split at he
    ·rename_i cs px
     split at he
     ·rename_i iL
      cases he
      have:=Ki r h3 px F5 hx dN iL.1 iL.2
      simp only[execOp,hv]
      exact this
     ·cases he
    ·cases he
   ·exact F1 r h3 ha hx he
  ·cases hc
 | nilCheck x=>
  obtain⟨y,hy,rfl⟩:=map_some hc
  have hx:=bS hy hr
  simp only[aU]at he
  split at he
  ·rename_i o off ho
   cases he
   rw[ho]at hx
   have hv:=hx.qg.1
   rw[hv]at hx
   simp only[execOp,hv]
   exact wg r hx
  ·rename_i row off ho
   cases he
   rw[ho]at hx
   obtain⟨b,k,hv,_⟩:=hx.wb
   rw[hv]at hx
   simp only[execOp,hv]
   exact wg r hx
  ·split at he
   case h_2=>cases he
   rename_i d' q5
   cases he
   unfold J7 at q5
   split at q5
   ·rename_i o g off hq
    cases q5
    rw[hq]at hx
    obtain⟨z,b,cap,A,hv,_⟩:=hx.An
    rw[hv]at hx
    simp only[execOp,hv]
    exact wg r hx
   ·cases q5
 | binOp op t x y yt=>
  simp only at hc
  split at hc
  ·rename_i x' y' h1 h2
   have hx:=bS h1 hr
   have hy:=bS h2 hr
   have fin : ∀ d',mz op (x'.ev tm) (y'.ev tm)=some d'→(d',s)=(d,s')→cG P M s w (execOp act.eval ⟨dst, .binOp op t x y yt,type,pos,after,guard⟩) d s':=by
    intro d' jC heq
    cases heq
    exact QA r hx hy jC
   have Xp:(match mz op (x'.ev tm) (y'.ev tm)with|some d=>some (d,s)|none=>none)=some (d,s')→cG P M s w (execOp act.eval ⟨dst, .binOp op t x y yt,type,pos,after,guard⟩) d s':=by
    intro h
    split at h
    ·rename_i d' jC
     exact fin d' jC (by cases h;rfl)
    ·cases h
   have QL : ∀ o:FO,((o = .eq∧op = .eql)∨(o = .FD∧op = .add)∨(o = .M5∧op = .eql))→aU (.tn o x' y') tm s=some (d,s')→cG P M s w (execOp act.eval ⟨dst, .binOp op t x y yt,type,pos,after,guard⟩) d s':=by
    intro o ho h
    simp only[aU]at h
    split at h
    ·rename_i d' jC
     cases h
     exact Ng r ho hx hy jC
    ·cases h
   have Xq : ∀ neg,op=(if neg then .neq else .eql)→P.underlying t=some .bool→aU (.FE neg x' y') tm s=some (d,s')→cG P M s w (execOp act.eval ⟨dst, .binOp op t x y yt,type,pos,after,guard⟩) d s':=by
    intro neg kZ ht h
    simp only[aU]at h
    split at h
    ·rename_i p q hp hq
     cases h
     rw[hp]at hx;rw[hq]at hy
     simp only[execOp,hx.lR,hy.lR,kZ]
     exact QB r ht
    ·cases h
   have Xr : ∀ neg e,op=(if neg then .neq else .eql)→P.underlying t=some (.pointer e)→aU (.FF neg x' y') tm s=some (d,s')→cG P M s w (execOp act.eval ⟨dst, .binOp op t x y yt,type,pos,after,guard⟩) d s':=by
    intro neg e kZ ht h
    simp only[aU]at h
    split at h
    ·rename_i hp hq
     cases h
     rw[hp]at hx;rw[hq]at hy
     simp only[execOp,hx.qf,hy.qf,kZ]
     have:=Ap r (neg:=neg) (x:=x) (y:=y) (a:=none) ht
     cases neg<;>simpa using this
    ·rename_i o off hp hq
     cases h
     rw[hp]at hx;rw[hq]at hy
     simp only[execOp,hx.qg.1,hy.qf,kZ]
     have:=Ap r (neg:=neg) (x:=x) (y:=y) (a:=some ⟨M.mu o,off,none⟩) ht
     cases neg<;>simpa using this
    ·rename_i row off hp hq
     cases h
     rw[hp]at hx;rw[hq]at hy
     obtain⟨b,k,hv,_⟩:=hx.wb
     simp only[execOp,hv,hy.qf,kZ]
     have:=Ap r (neg:=neg) (x:=x) (y:=y) (a:=some ⟨b,k+off,none⟩) ht
     cases neg<;>simpa using this
    ·cases h
   have Xs : ∀ neg ks,op=(if neg then .neq else .eql)→og P t=some ks→aU (.eqs neg ks x' y') tm s=some (d,s')→cG P M s w (execOp act.eval ⟨dst, .binOp op t x y yt,type,pos,after,guard⟩) d s':=by
    intro neg ks kZ ht h
    simp only[aU]at h
    split at h
    ·rename_i p q hp hq
     split at h
     ·rename_i e' q5
      cases h
      rw[hp]at hx;rw[hq]at hy
      simp only[execOp,kZ]
      exact QD r ht hx hy q5
     ·cases h
    ·cases h
   split at hc
   ·cases hc;exact Xp he
   ·cases hc;exact Xp he
   ·rename_i hu;cases hc;exact Xq false rfl hu he
   ·rename_i hu;cases hc;exact Xq true rfl hu he
   ·rename_i hu;cases hc;exact Xr false _ rfl hu he
   ·rename_i hu;cases hc;exact Xr true _ rfl hu he
   ·obtain⟨ks,hk,rfl⟩:=map_some hc;exact Xs false ks rfl hk he
   ·obtain⟨ks,hk,rfl⟩:=map_some hc;exact Xs true ks rfl hk he
   ·cases hc;exact QL .eq (.inl ⟨rfl,rfl⟩) he
   ·cases hc;exact QL .FD (.inr (.inl ⟨rfl,rfl⟩)) he
   ·cases hc;exact QL .M5 (.inr (.inr ⟨rfl,rfl⟩)) he
   ·cases hc
  ·cases hc
 | unOp op t x=>
  obtain⟨y,hy,rfl⟩:=map_some hc
  have hx:=bS hy hr
  simp only[aU]at he
  split at he
  ·rename_i d' jC
   cases he
   unfold DF at jC
   split at jC
   ·rename_i k n hk
    cases jC
    rw[hk]at hx
    exact cG.pure (v:= .int k (k.wrap (0 - n))) r (by simp[execOp,hx.gj,Op.unary,Op.intArith]) (.int _ _)
   ·rename_i b hb
    cases jC
    rw[hb]at hx
    exact cG.pure (v:= .bool (!b)) r (by simp[execOp,hx.lR,Op.unary]) (.bool _)
   ·rename_i k n hk
    cases jC
    rw[hk]at hx
    exact cG.pure (v:= .int k (FK k (if k.signed then -1 else k.max) n)) r (by simp only[execOp,hx.gj,Op.unary,Op.intBits];rfl) (.int _ _)
   ·cases jC
  ·cases he
 | convert src ah1 x=>
  simp only at hc
  split at hc
  ·rename_i y k1 k h1 h2 h3
   cases hc
   have hx:=bS h1 hr
   simp only[aU]at he
   split at he
   ·rename_i k2 n hn
    cases he
    rw[hn]at hx
    refine cG.pure (v:= .int k (k.wrap n)) r ?_ (.int _ _)
    simp[execOp,hx.gj,convert,run_underlying h2,run_underlying h3,Conv.intToInt]
   ·cases he
  ·rename_i y e h1 h2 h3
   split at hc
   ·rename_i h4
    cases hc
    have hx:=bS h1 hr
    simp only[aU]at he
    split at he
    ·rename_i g z rows kh
     split at he
     ·rename_i b hb
      cases he
      rw[kh]at hx
      exact Ky r h2 h4 h3 hx hb
     ·cases he
    ·cases he
   ·cases hc
  ·rename_i y e e2 h1 h2 h3
   split at hc
   ·rename_i h4
    split at hc
    ·rename_i Jh
     cases hc
     subst Jh
     have hx:=bS h1 hr
     simp only[aU]at he
     split at he
     ·rename_i t z rows kh
      split at he
      ·rename_i j9
       cases he
       rw[kh]at hx
       exact QH r h2 h4 hx j9.1 j9.2
      ·cases he
     ·cases he
    ·cases hc
   ·cases hc
  ·rename_i y e h1 h2 h3
   split at hc
   ·rename_i i h4 h5
    split at hc
    ·cases hc
     have hx:=bS h1 hr
     simp only[aU]at he
     split at he
     ·rename_i l hl
      cases he
      rw[hl]at hx
      simp only[execOp,hx.jU]
      exact FZ r h2 h3 h4
     ·cases he
    ·cases hc
   ·cases hc
  ·rename_i y k0 k h1 h2 h3
   cases hc
   have hx:=bS h1 hr
   simp only[aU]at he
   split at he
   ·rename_i d' jC
    cases he
    obtain⟨j,n,hn,rfl⟩:=Kl jC
    rw[hn]at hx
    refine cG.pure (v:= .float k (k.nearest n)) r ?_ (.val _ rfl)
    simp[execOp,hx.gj,convert,run_underlying h2,run_underlying h3,Conv.intToFloat]
   ·cases he
  ·rename_i y k0 k h1 h2 h3
   cases hc
   have hx:=bS h1 hr
   simp only[aU]at he
   split at he
   ·rename_i d' jC
    cases he
    obtain⟨f,b,n,hn,h4,h5,rfl⟩:=Km jC
    rw[hn]at hx
    refine cG.pure (v:= .int k n) r ?_ (.int _ _)
    simp[execOp,hx.mU,convert,run_underlying h2,run_underlying h3,Conv.floatToInt,h4,h5]
   ·cases he
  ·cases hc
 | slice t x lo hi mx=>
  cases mx with
  |some m=>cases hc
  | none=>
   simp only at hc
   split at hc
   ·rename_i y DM gB h1 h2 h3 h4
    cases hc
    have hx:=bS h1 hr
    simp only[aU]at he
    split at he
    ·rename_i u hu
     rw[hu]at hx
     split at he
     ·rename_i l h hl hh
      split at he
      ·rename_i j9
       cases he
       have:=Nl r h4 (F3 hr h2 hl) (F4 hr h3 hh) j9.1 j9.2.1 j9.2.2
       simp only[execOp,hx.jU,zby]
       exact this
      ·cases he
     ·cases he
    ·cases he
   ·rename_i y DM gB e h1 h2 h3 h4
    split at hc
    ·rename_i i xf
     cases hc
     have hx:=bS h1 hr
     simp only[aU]at he
     split at he
     ·rename_i g z rows kh
      rw[kh]at hx
      split at he
      ·rename_i l h hl hh
       split at he
       ·rename_i j9
        cases he
        have:=QG r h4 xf j9.1 hx (F3 hr h2 hl) (F4 hr h3 hh) j9.2.1 j9.2.2.1 j9.2.2.2
        simp only[execOp,zby]
        exact this
       ·cases he
      ·cases he
     ·split at he
      case h_2=>cases he
      rename_i d' q5
      cases he
      have:=KD r h4 xf hx (fun l e=>F3 hr h2 e) (fun len l e=>F4 hr h3 e) q5
      simp only[execOp,zby]
      exact this
    ·cases hc
   ·cases hc
 | fieldAddr t x f=>
  simp only at hc
  split at hc
  ·rename_i y off size a h1 h2
   cases hc
   have hx:=bS h1 hr
   simp only[aU]at he
   split at he
   ·rename_i o k ho
    cases he
    rw[ho]at hx
    have F5:=hx.xW
    obtain⟨hv,hF⟩:=hx.qg
    refine cG.pure (v:= .pointer (some ⟨M.mu o,k+off,none⟩)) r ?_ (.ptr _ _ hF F5)
    simp only[execOp,hv,Sem.run_bind,xY h2,Result.andThen_ok,Sem.run_pure]
   ·rename_i row k ho
    cases he
    rw[ho]at hx
    obtain⟨b,q,hv,g1,g2⟩:=hx.wb
    refine cG.pure (v:= .pointer (some ⟨b,q+(k+off),none⟩)) r ?_ (.dr _ _ _ _ g1 g2)
    simp only[execOp,hv,Sem.run_bind,xY h2,Result.andThen_ok,Sem.run_pure,Nat.add_assoc]
   ·split at he
    case h_2=>cases he
    rename_i d' q5
    cases he
    unfold A6 at q5
    split at q5
    ·rename_i o g k hq
     cases q5
     rw[hq]at hx
     obtain⟨z,b,cap,A,hv,ho,hm,hg⟩:=hx.An
     refine cG.pure (v:= .pointer (some ⟨b,k+off,none⟩)) r ?_ (.ew _ _ _ _ b cap A ho hm hg)
     simp only[execOp,hv,Sem.run_bind,xY h2,Result.andThen_ok,Sem.run_pure]
    ·cases q5
  ·cases hc
 | field t x f=>
  simp only at hc
  split at hc
  ·rename_i y off size a h1 h2
   cases hc
   have hx:=bS h1 hr
   simp only[aU]at he
   split at he
   ·rename_i cs px
    split at he
    ·rename_i d' jC
     cases he
     rw[px]at hx
     obtain⟨vs,hv,g1,g2,g3⟩:=hx.CO
     simp only[execOp,hv]
     exact KN h2 g1 g2 g3 jC r
    ·cases he
   ·cases he
  ·cases hc
 | indexAddr t x i=>
  simp only at hc
  split at hc
  ·rename_i y j e h1 h2 h3
   split at hc
   ·rename_i inf KP
    split at hc
    ·cases hc
     have hx:=bS h1 hr
     have hj:=bS h2 hr
     simp only[aU]at he
     split at he
     ·rename_i g z rows k n kh hn
      split at he
      ·rename_i j9
       obtain⟨zS,hz⟩:=j9
       subst hz
       split at he
       ·rename_i row dN
        cases he
        rw[kh]at hx;rw[hn]at hj
        simp only[execOp,hj.gj]
        exact Kp r h3 KP hx zS dN
       ·cases he
      ·cases he
     ·split at he
      case h_2=>cases he
      rename_i d' q5
      cases he
      exact F2 r h3 KP hx hj q5
    ·cases hc
   ·cases hc
  ·cases hc
 | index t x i=>
  simp only at hc
  split at hc
  ·rename_i y j h1 h2 h3
   cases hc
   have hx:=bS h1 hr
   have hj:=bS h2 hr
   simp only[aU]at he
   split at he
   ·rename_i l k n hl hn
    split at he
    ·rename_i zS
     split at he
     ·rename_i c Xt
      cases he
      rw[hl]at hx;rw[hn]at hj
      simp only[execOp,hj.gj,hx.jU]
      exact Ni r h3 zS Xt
     ·cases he
    ·cases he
   ·cases he
  ·cases hc
 | extract x i=>
  obtain⟨y,hy,rfl⟩:=map_some hc
  have hx:=bS hy hr
  simp only[aU]at he
  split at he
  ·rename_i ds Bi
   split at he
   ·rename_i d' jC
    cases he
    rw[Bi]at hx
    obtain⟨vs,hv,g1,g2⟩:=hx.DH
    have hF:=(zae.1 jC).1
    have F6:vs[i]? = some vs[i]:=za9 (by omega)
    refine cG.pure (v:=vs[i]) r ?_ (g2 i _ _ jC F6)
    simp[execOp,hv,Instr.extract,F6]
   ·cases he
  ·cases he
 | call c=>
  obtain⟨callee,args,k6⟩:=c
  cases callee with
  |value f=>cases hc
  |invoke f m=>cases hc
  | builtin bi=>
   have two : ∀ {x y:Operand} {x' y':X} {isMax:Bool},cX x=some x'→cX y=some y'→bi=(if isMax then .max else .min)→args.toList = [x,y]→aU (.mm isMax x' y') tm s=some (d,s')→
    cG P M s w (execOp act.eval ⟨dst, .call ⟨.builtin bi,args,k6⟩,type,pos,after,guard⟩) d s':=by
    intro x y x' y' isMax h1 h2 hb ha h
    have gW:args = #[x,y]:=by rw[← zaU (xs:=args),ha]
    subst gW
    have hx:=bS h1 hr
    have hy:=bS h2 hr
    simp only[aU]at h
    split at h
    ·rename_i k a k' b x7 F5
     split at h
     ·rename_i xg
      subst xg
      cases h
      rw[x7]at hx;rw[F5]at hy
      refine cG.pure (v:= .int k (if isMax then(if b > a then b else a)else(if b<a then b else a))) r ?_ (.int _ _)
      subst hb
      cases isMax
      ·simp[execOp,resolve,invoke,builtin,Builtin.min_,Builtin.min2,hx.gj,hy.gj]
      ·simp[execOp,resolve,invoke,builtin,Builtin.max_,Builtin.max2,hx.gj,hy.gj]
     ·cases h
    ·cases h
   cases bi<;>simp only at hc<;>try (cases hc;done)
   case append=>
    split at hc
    ·rename_i x y t u ha rO
     split at hc
     ·rename_i e e' x' y' h1 h2 h3 h4
      split at hc
      ·rename_i i z hi hz
       split at hc
       ·rename_i mW
        cases hc
        have gW:args = #[x,y]:=by rw[← zaU (xs:=args),ha]
        have F7:k6 = #[t,u]:=by rw[← zaU (xs:=k6),rO]
        subst gW;subst F7
        obtain⟨i',v,g1,g2,g3,g4⟩:=qy hz
        rw[hi]at g1;cases g1
        have DL:=po (M:=M) (s:=s) g4
        split at he
        ·rename_i hb
         obtain⟨rfl,F8,Xu⟩:=hb
         obtain⟨v',w',M',f1,f2,f3,f4⟩:=Ku (ty:=type) r h1 h2 hi g2 F8 Xu g3 DL.2.1 (bS h3 hr) (bS h4 hr) he
         refine⟨v',w',M', .inl ?_,f2,f3,f4⟩
         simp[execOp,resolve,invoke,builtin,f1]
        ·have Xv:=bS h3 hr
         simp only[aU]at he
         split at he
         ·rename_i gq zq rq hq
          rw[hq]at Xv
          obtain⟨v',w',M',f1,f2,f3,f4⟩:=Nr (ty:=type) r h1 h2 hi g2 g3 DL.2.1 Xv (bS h4 hr) mW he
          refine⟨v',w',M', .inl ?_,f2,f3,f4⟩
          simp[execOp,resolve,invoke,builtin,f1]
         ·obtain⟨v',w',M',f1,f2,f3,f4⟩:=KF (ty:=type) r h1 h2 hi g2 g3 DL.2.1 Xv (bS h4 hr) mW he
          refine⟨v',w',M', .inl ?_,f2,f3,f4⟩
          simp[execOp,resolve,invoke,builtin,f1]
       ·cases hc
      ·cases hc
     ·rename_i e x' y' h1 h2 h3 h4
      split at hc
      ·rename_i i z hi hz
       split at hc
       ·rename_i hb
        cases hc
        obtain⟨rfl,F8,Xu⟩:=hb
        have gW:args = #[x,y]:=by rw[← zaU (xs:=args),ha]
        have F7:k6 = #[t,u]:=by rw[← zaU (xs:=k6),rO]
        subst gW;subst F7
        obtain⟨i',v,g1,g2,g3,g4⟩:=qy hz
        rw[hi]at g1;cases g1
        have DL:=po (M:=M) (s:=s) g4
        have hy:=bS h4 hr
        simp only[aU]at he
        split at he
        ·rename_i l hl
         rw[hl]at hy
         obtain⟨v',w',M',f1,f2,f3,f4⟩:=Kv (ty:=type) r h1 h2 hi g2 F8 Xu g3 DL.2.1 (bS h3 hr) he
         refine⟨v',w',M', .inl ?_,f2,f3,f4⟩
         simp[execOp,resolve,invoke,builtin,hy.jU,f1]
        ·cases he
       ·cases hc
      ·cases hc
     ·cases hc
    ·cases hc
   case len=>
    split at hc
    ·rename_i x t ha rO
     have gW:args = #[x]:=by rw[← zaU (xs:=args),ha]
     have F7:k6 = #[t]:=by rw[← zaU (xs:=k6),rO]
     subst gW;subst F7
     have hex:execOp act.eval ⟨dst, .call ⟨.builtin .len, #[x], #[t]⟩,type,pos,after,guard⟩=(do pure (.value (← Builtin.len_ #[t] type #[act.eval x]))):=by
      simp[execOp,resolve,invoke,builtin]
     rw[hex]
     split at hc
     ·rename_i ht
      obtain⟨y,hy,rfl⟩:=map_some hc
      have hx:=bS hy hr
      simp only[aU]at he
      split at he
      ·rename_i l hl
       cases he
       rw[hl]at hx
       rw[hx.jU]
       exact FR r ht
      ·cases he
     ·rename_i e ht
      obtain⟨y,hy,rfl⟩:=map_some hc
      have hx:=bS hy hr
      simp only[aU]at he
      split at he
      ·rename_i g z rows kh
       cases he
       rw[kh]at hx
       rcases hx.hO with ⟨h0,hv,_⟩|⟨h0,_,a,cap,hv⟩|⟨b,q,cap,hv,_⟩
       ·rw[hv,h0];exact lh r ht
       ·rw[hv,h0];exact lh r ht
       ·rw[hv];exact lh r ht
      ·split at he
       case h_2=>cases he
       rename_i d' q5
       cases he
       exact KE r ht hx q5
     ·cases hc
    ·cases hc
   case max=>
    split at hc
    ·rename_i x y ha
     split at hc
     ·rename_i x' y' h1 h2
      cases hc
      exact two (isMax:=true) h1 h2 rfl ha he
     ·cases hc
    ·cases hc
   case min=>
    split at hc
    ·rename_i x y ha
     split at hc
     ·rename_i x' y' h1 h2
      cases hc
      exact two (isMax:=false) h1 h2 rfl ha he
     ·cases hc
    ·cases hc
   case complex=>
    split at hc
    ·rename_i x y ha
     split at hc
     ·rename_i x' y' h1 h2
      cases hc
      have gW:args = #[x,y]:=by rw[← zaU (xs:=args),ha]
      subst gW
      have hx:=bS h1 hr
      have hy:=bS h2 hr
      simp only[aU]at he
      split at he
      ·rename_i d' jC
       cases he
       obtain⟨k,a,b,vf,l8,rfl⟩:=Nc jC
       rw[vf]at hx;rw[l8]at hy
       refine cG.pure (v:= .complex k a b) r ?_ (.val _ rfl)
       have hb:Builtin.complex_ k6 type #[.float k a, .float k b] = pure (.complex k a b):=if_pos rfl
       simp[execOp,resolve,invoke,builtin,hb,hx.mU,hy.mU]
      ·cases he
     ·cases hc
    ·cases hc
   case real=>
    split at hc
    ·rename_i x ha
     obtain⟨x',h1,rfl⟩:=map_some hc
     have gW:args = #[x]:=by rw[← zaU (xs:=args),ha]
     subst gW
     have hx:=bS h1 hr
     simp only[aU]at he
     split at he
     ·rename_i d' jC
      cases he
      obtain⟨k,a,b,vf,rfl⟩:=Nd jC
      rw[vf]at hx
      refine cG.pure (v:= .float k a) r ?_ (.val _ rfl)
      have hb:Builtin.real_ k6 type #[.complex k a b] = pure (.float k a):=rfl
      simp[execOp,resolve,invoke,builtin,hb,hx.mU]
     ·cases he
    ·cases hc
   case imag=>
    split at hc
    ·rename_i x ha
     obtain⟨x',h1,rfl⟩:=map_some hc
     have gW:args = #[x]:=by rw[← zaU (xs:=args),ha]
     subst gW
     have hx:=bS h1 hr
     simp only[aU]at he
     split at he
     ·rename_i d' jC
      cases he
      obtain⟨k,a,b,vf,rfl⟩:=Nf jC
      rw[vf]at hx
      refine cG.pure (v:= .float k b) r ?_ (.val _ rfl)
      have hb:Builtin.imag_ k6 type #[.complex k a b] = pure (.float k b):=rfl
      simp[execOp,resolve,invoke,builtin,hb,hx.mU]
     ·cases he
    ·cases hc
 | makeFunc fn first captured=>
  cases fn<;>simp only at hc<;>try (cases hc;done)
  split at hc
  ·rename_i f h0
   obtain⟨xs,jD,rfl⟩:=map_some hc
   simp only[aU,Option.some.injEq,Prod.mk.injEq]at he
   obtain⟨rfl,rfl⟩:=he
   obtain⟨c1,c2⟩:=Jg hr jD
   have hf:first = #[]:=Array.eq_empty_of_size_eq_zero h0
   subst hf
   refine cG.pure (v:= .func (.func f) #[] (captured.map act.eval)) r ?_ (.fL _ _ _ (by simp[c1]) (fun i d v e1 e2=>c2 i d v e1 (by simpa using e2)))
   simp[execOp,Instr.makeFunc]
  ·cases hc
 | makeMap t rv=>
  cases rv with
  | none=>
   simp only at hc
   split at hc
   ·rename_i ht
    cases hc
    simp only[aU,Option.some.injEq,Prod.mk.injEq]at he
    obtain⟨rfl,rfl⟩:=he
    simp only[execOp,zby]
    exact Kz r ht
   ·cases hc
  |some x=>cases hc
 | makeSlice t l c=>
  simp only at hc
  split at hc
  ·rename_i l' c' e h1 h2 ht
   split at hc
   ·rename_i i z hi hz
    split at hc
    ·rename_i mW
     cases hc
     have hl:=bS h1 hr
     have hcx:=bS h2 hr
     simp only[aU]at he
     split at he
     ·rename_i n m hn hm
      split at he
      ·rename_i j9
       obtain⟨rfl,h0,hmx⟩:=j9
       cases he
       rw[hn]at hl;rw[hm]at hcx
       simp only[execOp,hl.gj,hcx.gj]
       exact KM r ht hi hz mW h0 hmx
      ·cases he
     ·cases he
    ·cases hc
   ·cases hc
  ·cases hc
 | mapUpdate t m k v=>
  simp only at hc
  split at hc
  ·rename_i kt et m' k' v' ht h1 h2 h3
   split at hc
   ·rename_i Xw
    cases hc
    have hm:=bS h1 hr
    have hk:=bS h2 hr
    have hv:=bS h3 hr
    simp only[aU]at he
    split at he
    ·rename_i o key g z rows ho QN kh
     rw[ho]at hm;rw[QN]at hk;rw[kh]at hv
     obtain⟨Xx,hF,uY⟩:=hm.FQ
     split at he
     ·rename_i cs px
      split at he
      ·rename_i iF adR
       cases he
       have Bg:(act.eval v).oneCell'=true:=by
        rcases hv.hO with ⟨_,h,_⟩|⟨_,_,a,cap,h⟩|⟨b,q,cap,h,_⟩<;>rw[h]<;>rfl
       simp only[execOp,Xx,hk.jU]
       exact Nu r ht Xw uY px hv Bg adR
      ·cases he
     ·cases he
    ·cases he
   ·cases hc
  ·cases hc
 | lookup t m k ok=>
  cases ok<;>simp only at hc<;>try (cases hc;done)
  split at hc
  ·rename_i kt et m' k' ht h1 h2
   split at hc
   ·rename_i i Xw hi
    split at hc
    ·rename_i z hz
     obtain⟨zd,Xk,rfl⟩:=map_some hc
     have hm:=bS h1 hr
     have hk:=bS h2 hr
     simp only[aU]at he
     split at he
     ·rename_i o key ho QN
      rw[ho]at hm;rw[QN]at hk
      obtain⟨Xx,hF,uY⟩:=hm.FQ
      split at he
      ·rename_i cs px
       split at he
       ·rename_i d' jC
        cases he
        simp only[execOp,Xx,hk.jU]
        exact KA r ht Xw hi hz Xk uY px jC
       ·cases he
      ·cases he
     ·cases he
    ·cases hc
   ·cases hc
  ·cases hc
 |_=>cases hc
theorem wh {o:Oper} {z:List D} {k n:Nat} {ps:List (Nat×X)} {tm:Tm} {act:Act} {d:D} {s':St} (hc:A7 P o=some (.mS z k n ps)) (r:Rel M s w) (hr:kA M s tm act.tmps) (he:aU (.sv z k n ps) tm s=some (d,s')) :
 cG P M s w (execOp act.eval o) d s':=by
 obtain⟨dst,op,type,pos,after,guard⟩:=o
 unfold A7 at hc
 simp only at hc
 cases op with
 | buildSlice t n' parts=>
  simp only at hc
  split at hc
  ·rename_i e hu
   split at hc
   ·rename_i i z ps h1 h2 h3
    split at hc
    ·rename_i j9
     cases hc
     simp only[aU]at he
     split at he
     ·rename_i rows kh
      cases he
      obtain⟨vs,T,g1,g2,g3,g4⟩:=zR r hr hu h1 h2 j9.1 j9.2 h3 kh
      obtain⟨M',f1,f2,f3⟩:=Nt r T g1 (by rw[g3,g2]) j9.1
      refine⟨_,_,_, .inl ?_,f2,f1,f3⟩
      simp only[zaU]at g4
      simp only[execOp,Sem.run_bind,g4,Result.andThen_ok,Sem.run_pure]
      rw[g2]
     ·cases he
    ·cases hc
   ·cases hc
  ·cases hc
 |_=>
  exfalso
  revert hc
  try simp only
  repeat' split
  all_goals (first|(intro h;cases h;done)|(intro h;obtain⟨_,_,h⟩:=map_some h;cases h;done)|contradiction|(simp;done)|(intro h;simp_all;done))
end
end Go.Abs
namespace Go.Abs
structure ey where
 M:Map
 s:St
 w:World
 laid:Laid M s w
 old : ∀ b o v,M.G b o=some v→b<w.heap.size
def Holds (B:ey) (nt:Nat) (tm:Tm) (s:St) (act:Act) (w:World):Prop:=
 ∃ M,Ext B.M B.s B.w M s w∧Rel M s w∧kA M s tm act.tmps∧act.tmps.size=nt∧act.defers = []
def km (B:ey) (nt:Nat) (Q:Exit→Tm→St→Prop):Exit→Act→World→Prop:=fun e act w=>∃ tm s,Q e tm s∧Holds B nt tm s act w
def dt (P:Program) (f:FuncId) (args:List D) (s:St) (Q:D→St→Prop):Prop:=
 ∀ (M:Map) (w:World) (fi:Array Value),Rel M s w→Laid M s w→fi.size=args.length→(∀ (i:Nat) (d:D) (v:Value),args[i]? = some d→fi[i]? = some v→RD M s d v)→
  Calls P f fi w fun e w'=>∃ M' d v s',e = .returned v∧Q d s'∧Ext M s w M' s' w'∧Rel M' s' w'∧RD M' s' d v
theorem dt.mono {P:Program} {f:FuncId} {args:List D} {s:St} {Q Q':D→St→Prop} (h:dt P f args s Q) (hq : ∀ d s',Q d s'→Q' d s'):dt P f args s Q':=
 fun M w fi r hd hl ha=>(h M w fi r hd hl ha).mono fun _ _ ⟨M',d,v,s',h1,h2,h3⟩=>⟨M',d,v,s',h1,hq _ _ h2,h3⟩
def guarded (g:Option (Nat×Bool)) (tm:Tm) (A B:Prop):Prop:=
 match g with
 |none=>A
 |some (t,want)=>
  match tm.get t with
  | .bool b=>(b=want→A)∧(b=(!want)→B)
  | .tuple _=>B
  |_=>False
def gk (P:Program):List AI→(Tm→St→Prop)→Tm→St→Prop
 | [],K,tm,s=>K tm s
 | .op dst g o::r,K,tm,s=>
  guarded g tm (match aU o tm s with|some (d,s')=>gk P r K (tm.put dst d) s'|none=>False) (gk P r K (tm.put dst (.tuple [])) s)
 | .call dst g f xs::r,K,tm,s=>
  guarded g tm (dt P f (xs.map (·.ev tm)) s fun d s'=>gk P r K (tm.put dst d) s') (gk P r K (tm.put dst (.tuple [])) s)
 | .nil dst g neg x::r,K,tm,s=>
  guarded g tm (match x.ev tm with
   | .slice _ _ rows=>∀ b:Bool,(rows≠ []→b=false)→gk P r K (tm.put dst (.bool (if neg then !b else b))) s
   |_=>False) (gk P r K (tm.put dst (.tuple [])) s)
 | .iY dst g t xs::r,K,tm,s=>
  guarded g tm (match tm.get t with
   | .fL f lO=>enters P f=true∧dt P f (xs.map (·.ev tm)++lO) s fun d s'=>gk P r K (tm.put dst d) s'
   |_=>False) (gk P r K (tm.put dst (.tuple [])) s)
section
variable {P:Program}
theorem x9 {f:FuncId} (h:enters P f=true) (args:Array Value) (w:World):(callFunc f args).run P w = .ok (.enter f args) w:=by
 unfold enters at h
 split at h
 ·rename_i fn hf
  simp only[zam,zaF]at h
  obtain⟨h1,h2⟩:=h
  have h3:fn.body.isNone=false:=by cases hb:fn.body<;>simp_all
  simp only[callFunc,Sem.run_bind,run_program,Result.andThen_ok,hf,h2,h3]
  simp
 ·cases h
theorem uz (ρ:Operand→Value) (dst:Option Tmp) (f:FuncId) (args:Array Operand) (k6:Array TypeId) (ty:TypeId) (pos:String) (after:Array Edge) (g:Option (Nat×Bool))
 (hρ:ρ (.func f) = .func (.func f) #[] #[]) (h:enters P f=true) (w:World) :
 (execOp ρ ⟨dst, .call ⟨.value (.func f),args,k6⟩,ty,pos,after,g⟩).run P w = .ok (.enter f (args.map ρ)) w:=by
 simp[execOp,resolve,hρ,Deferred.ofValue,invoke,x9 h]
theorem ya (ρ:Operand→Value) (dst:Option Tmp) (x:Operand) (f:FuncId) (lO:Array Value) (args:Array Operand) (k6:Array TypeId) (ty:TypeId) (pos:String) (after:Array Edge) (g:Option (Nat×Bool))
 (hρ:ρ x = .func (.func f) #[] lO) (h:enters P f=true) (w:World) :
 (execOp ρ ⟨dst, .call ⟨.value x,args,k6⟩,ty,pos,after,g⟩).run P w = .ok (.enter f (args.map ρ++lO)) w:=by
 simp[execOp,resolve,hρ,Deferred.ofValue,invoke,x9 h]
theorem tz {M:Map} {s:St} {tm:Tm} {act:Act} (hr:kA M s tm act.tmps) : ∀ {l:List Operand} {xs:List X},uX l=some xs→
 xs.length=l.length∧∀ (i:Nat) (d:D) (v:Value),(xs.map (·.ev tm))[i]? = some d→(l.map act.eval)[i]? = some v→RD M s d v
 | [],xs,h=>by cases h;exact⟨rfl,by simp⟩
 | x::l,xs,h=>by
  unfold uX at h
  split at h
  ·rename_i x' r' h1 h2
   cases h
   obtain⟨g1,g2⟩:=tz hr h2
   refine⟨by simp[g1],fun i d v e1 e2=>?_⟩
   cases i with
   |zero=>simp at e1 e2;subst e1;subst e2;exact bS h1 hr
   |succ i=>exact g2 i d v (by simpa using e1) (by simpa using e2)
  ·cases h
theorem DN {M:Map} {s:St} {tm:Tm} {act:Act} {args:Array Operand} {xs:List X} {lO:List D} {vs:Array Value} (jD:uX args.toList=some xs) (ht:kA M s tm act.tmps) (hlen:lO.length=vs.size)
 (Bj : ∀ (i:Nat) (d:D) (v:Value),lO[i]? = some d→vs[i]? = some v→RD M s d v) :
 (args.map act.eval++vs).size=(xs.map (·.ev tm)++lO).length∧∀ (i:Nat) (d:D) (v:Value),(xs.map (·.ev tm)++lO)[i]? = some d→(args.map act.eval++vs)[i]? = some v→RD M s d v:=by
 obtain⟨c1,c2⟩:=tz ht jD
 refine⟨by simp[c1,hlen],fun i d v e1 e2=>?_⟩
 rcases zaI i args.size with rP|rP
 ·rw [zao (by simp [c1];exact rP)]at e1
  rw[za0 (by simp;exact rP)]at e2
  exact c2 i d v e1 (by simpa using e2)
 ·rw [zau (by simp [c1];exact rP)]at e1
  rw[Array.getElem?_append_right (by simp;exact rP)]at e2
  simp only[zat,c1,Array.size_map,Array.length_toList]at e1 e2
  exact Bj _ d v e1 e2
theorem xh {M:Map} {s:St} {w:World} {o:Oper} {neg:Bool} {x:X} {tm:Tm} {act:Act} (hc:CN P o=some (neg,x)) (hr:kA M s tm act.tmps) {g:Tag} {z:Nat} {rows:List (List D)} (hx:x.ev tm = .slice g z rows) :
 ∃ b:Bool,(rows≠ []→b=false)∧(execOp act.eval o).run P w = .ok (.value (.bool (if neg then !b else b))) w:=by
 obtain⟨dst,op,type,pos,after,guard⟩:=o
 unfold CN at hc
 split at hc
 ·rename_i op t y yt heq
  simp only at heq
  subst heq
  have fin : ∀ e,P.underlying t=some (.slice e)→cX y=some x→op=(if neg then .neq else .eql)→∃ b:Bool,(rows≠ []→b=false)∧
   (execOp act.eval ⟨dst, .binOp op t y (.const (.slice none 0 0)) yt,type,pos,after,guard⟩).run P w = .ok (.value (.bool (if neg then !b else b))) w:=by
   intro e ht hy kZ
   have hv:=bS hy hr
   rw[hx]at hv
   have key : ∀ (a:Option Addr) (n c:Nat),act.eval y = .slice a n c→(execOp act.eval ⟨dst, .binOp op t y (.const (.slice none 0 0)) yt,type,pos,after,guard⟩).run P w = .ok (.value (.bool (if neg then !a.isNone else a.isNone))) w:=by
    intro a n c py
    have hg:=iG (P:=P) (w:=w) (op:=op) (t:=t) (x:=y) (y:= .const (.slice none 0 0)) (a:= .slice a n c) (b:= .slice none 0 0) ⟨by simp,by simp⟩
    have he:(Op.equal t (.slice a n c) (.slice none 0 0)).run P w = .ok a.isNone w:=by
     have : ∀ d,(Op.equalIn (d+1) t (.slice a n c) (.slice none 0 0)).run P w = .ok a.isNone w:=by
      intro d
      cases a<;>simp[Op.equalIn,run_underlying ht]
     exact this 9999
    have adT:act.eval (.const (.slice none 0 0)) = .slice none 0 0:=rfl
    simp only[execOp,py,adT]
    rw[kZ]at hg ⊢
    cases neg
    ·simp only [zab,if_false]at hg ⊢
     simp[hg,binOp,he]
    ·simp only [if_true]at hg ⊢
     simp[hg,binOp,he]
   rcases hv.hO with ⟨h0,py,_⟩|⟨_,_,a,cap,py⟩|⟨b,q,cap,py,_⟩
   ·exact⟨true,fun h=>(h h0).elim,key none 0 0 py⟩
   ·exact⟨false,fun _=>rfl,key _ _ _ py⟩
   ·exact⟨false,fun _=>rfl,key _ _ _ py⟩
  split at hc
  ·cases hc
   exact fin _ ‹_› ‹_› rfl
  ·cases hc
   exact fin _ ‹_› ‹_› rfl
  ·cases hc
 ·cases hc
variable {B:ey} {nt:Nat}
theorem Holds.put {tm:Tm} {s:St} {act:Act} {w:World} {M':Map} {s':St} {w':World} {M:Map} (e:Ext B.M B.s B.w M s w) (ht:kA M s tm act.tmps) (hn:act.tmps.size=nt) (hd:act.defers = [])
 {dst:Option Nat} (oK : ∀ t,dst=some t→t<nt) {d:D} {v:Value} (e':Ext M s w M' s' w') (r':Rel M' s' w') (hv:RD M' s' d v):Holds B nt (tm.put dst d) s' (act.put dst v) w':=by
 refine⟨M',e.trans e',r',(ht.mono e'.le).put (fun t h=>by rw[hn];exact oK t h) hv, ?_, ?_⟩
 ·cases dst<;>simp[Act.put,hn]
 ·cases dst<;>simp[Act.put,hd]
theorem sF {ops:Array Oper} {o:Oper} {ai:AI} (h:cI P nt ops o=some ai) : ∀ t,o.dst=some t→t<nt:=by
 intro t ht
 unfold cI at h
 split at h
 ·cases h
 ·split at h
  ·rename_i hF;rw[ht]at hF;simpa[TG]using hF
  ·cases h
theorem iZ {ops:Array Oper} {o:Oper} {g:Option (Nat×Bool)} (hg:sy ops o.guard=some g) {M:Map} {s:St} {tm:Tm} {act:Act} (hr:kA M s tm act.tmps) {A C:Prop} (h:guarded g tm A C) :
 (Region.wanted o (yielded ops act.tmps)=true∧A)∨(Region.wanted o (yielded ops act.tmps)=false∧C):=by
 unfold sy at hg
 split at hg
 ·rename_i hn
  cases hg
  exact .inl ⟨by simp[Region.wanted,hn],h⟩
 ·rename_i j want hn
  split at hg
  ·rename_i t ht
   cases hg
   have sG:=hr t
   unfold guarded at h
   simp only at h
   split at h
   ·rename_i b hb
    rw[hb]at sG
    have hv:=sG.lR
    have aaI:act.tmps[t]? = some (.bool b):=by
     cases hc:act.tmps[t]? with
     |none=>simp[zbg,hc,Go.undef]at hv
     |some v=>simp[zbg,hc]at hv;rw[hv]
    have hy:yielded ops act.tmps j=some b:=by simp[yielded,ht,aaI]
    have hw:Region.wanted o (yielded ops act.tmps)=(some b==some want):=by simp[Region.wanted,hn,hy]
    by_cases Xy:b=want
    ·exact .inl ⟨by rw[hw,Xy];simp,h.1 Xy⟩
    ·refine .inr ⟨by rw [hw];simp [Xy],h.2 ?_⟩
     cases b<;>cases want<;>simp_all
   ·rename_i ds Bi
    rw[Bi]at sG
    obtain⟨vs,hv,_⟩:=sG.DH
    refine .inr ⟨?_,h⟩
    have hy:yielded ops act.tmps j=none:=by
     unfold yielded
     rw[ht]
     cases hc:act.tmps[t]? with
     |none=>simp[hc]
     |some v=>simp[zbg,hc]at hv;simp[hc,hv]
    simp[Region.wanted,hn,hy]
   ·exact h.elim
  ·cases hg
theorem yc {ops:Array Oper} {Q:Exit→Tm→St→Prop} : ∀ (l:List Nat) (ol:List Oper) (is:List AI),l.map (ops[·]?)=ol.map some→nY P nt ops ol=some is→
 ∀ (tm:Tm) (s:St) (act:Act) (w:World),gk P is (Q .normal) tm s→Holds B nt tm s act w→wpOps P ops (km B nt Q) l act w
 | [],[],is,_,hc,tm,s,act,w,h,hh=>by cases hc;exact⟨tm,s,h,hh⟩
 | [],_::_,_,hl,_,_,_,_,_,_,_=>by simp at hl
 |_::_,[],_,hl,_,_,_,_,_,_,_=>by simp at hl
 | i::l,o::ol,is,hl,hc,tm,s,act,w,h,hh=>by
  simp only[zaf,List.cons.injEq]at hl
  obtain⟨hi,hl⟩:=hl
  unfold nY at hc
  split at hc
  ·rename_i ai Ny h1 h2
   cases hc
   obtain⟨M,e,r,ht,hn,hd⟩:=hh
   have oK:=sF h1
   have ih:=fun tm s act w=>yc (Q:=Q) l ol Ny hl h2 tm s act w
   have skip : ∀ (x:Prop),gk P Ny (Q .normal) (tm.put o.dst (.tuple [])) s→wpOps P ops (km B nt Q) l (act.put o.dst Go.undef) w:=fun _ hk=>
    ih _ _ _ _ hk (Holds.put e ht hn hd oK (Ext.refl M s w) r .undef)
   simp only[wpOps,hi]
   unfold cI at h1
   split at h1
   ·cases h1
   ·rename_i g hg
    split at h1
    ·unfold qw at h1
     split at h1
     ·-- a call
      rename_i f args k6 kZ
      split at h1
      ·rename_i wi
       obtain⟨xs,jD,rfl⟩:=map_some h1
       unfold gk at h
       rcases iZ hg ht h with ⟨hw,hA⟩|⟨hw,hB⟩
       ·simp only [hw,if_true]
        left
        have hex:(execOp act.eval o).run P w = .ok (.enter f (args.map act.eval)) w:=by
         obtain⟨dst,op,type,pos,after,guard⟩:=o
         simp only at kZ
         subst kZ
         exact uz act.eval dst f args k6 type pos after guard rfl wi w
        obtain⟨c1,c2⟩:=tz ht jD
        unfold Oper.wp
        rw[hex,Oper.upon_enter]
        refine(hA M w (args.map act.eval) r (B.laid.ext e) (by simp[c1]) (fun i d v e1 e2=>c2 i d v e1 (by simpa using e2))).mono ?_
        rintro en w' ⟨M',d,v,s',rfl,hk,e',r',hv⟩
        exact ih _ _ _ _ hk (Holds.put e ht hn hd oK e' r' hv)
       ·simp only [hw]
        exact skip True hB
      ·cases h1
     ·-- what a slot holds is called
      rename_i t args k6 kZ
      obtain⟨xs,jD,rfl⟩:=map_some h1
      unfold gk at h
      rcases iZ hg ht h with ⟨hw,hA⟩|⟨hw,hB⟩
      ·simp only [hw,if_true]
       left
       split at hA
       ·rename_i f lO rN
        obtain⟨wi,hA⟩:=hA
        have Nz:=ht t
        rw[rN]at Nz
        obtain⟨vs,mZ,hlen,Bj⟩:=Nz.I9
        have hex:(execOp act.eval o).run P w = .ok (.enter f (args.map act.eval++vs)) w:=by
         obtain⟨dst,op,type,pos,after,guard⟩:=o
         simp only at kZ
         subst kZ
         exact ya act.eval dst (.tmp t) f vs args k6 type pos after guard mZ wi w
        unfold Oper.wp
        rw[hex,Oper.upon_enter]
        have cc:=DN jD ht hlen Bj
        refine(hA M w (args.map act.eval++vs) r (B.laid.ext e) cc.1 cc.2).mono ?_
        rintro en w' ⟨M',d,v,s',rfl,hk,e',r',hv⟩
        exact ih _ _ _ _ hk (Holds.put e ht hn hd oK e' r' hv)
       ·exact hA.elim
      ·simp only [hw]
       exact skip True hB
     ·split at h1
      ·-- a slice held against nil
       rename_i neg x F9
       cases h1
       unfold gk at h
       rcases iZ hg ht h with ⟨hw,hA⟩|⟨hw,hB⟩
       ·simp only [hw,if_true]
        left
        split at hA
        ·rename_i g' z rows hx
         obtain⟨b,hb,hex⟩:=xh (w:=w) F9 ht hx
         unfold Oper.wp
         rw[hex,Oper.upon_value]
         exact ih _ _ _ _ (hA b hb) (Holds.put e ht hn hd oK (Ext.refl M s w) r (.bool _))
        ·exact hA.elim
       ·simp only [hw]
        exact skip True hB
      ·-- any other operation
       have fin : ∀ ao,ai = .op o.dst g ao→(∀ d s',aU ao tm s=some (d,s')→cG P M s w (execOp act.eval o) d s')→
        (if Region.wanted o (yielded ops act.tmps)=true then o.wp P act w (wpOps P ops (km B nt Q) l) (km B nt Q)∨(o.asks P act w∧LetsOut (km B nt Q))else wpOps P ops (km B nt Q) l (act.put o.dst Go.undef) w):=by
        intro ao tA XA
        subst tA
        unfold gk at h
        rcases iZ hg ht h with ⟨hw,hA⟩|⟨hw,hB⟩
        ·simp only [hw,if_true]
         left
         split at hA
         ·rename_i d s' oT
          obtain⟨v,w',M',da,r',hv,e'⟩:=XA d s' oT
          unfold Oper.wp
          rcases da with da|⟨da,rfl⟩
          ·rw [da,Oper.upon_value]
           exact ih _ _ _ _ hA (Holds.put e ht hn hd oK e' r' hv)
          ·rw [da,Oper.upon_skip]
           exact ih _ _ _ _ hA (Holds.put e ht hn hd oK e' r' hv)
         ·exact hA.elim
        ·simp only [hw]
         exact skip True hB
       split at h1
       ·rename_i z k n ps l9
        cases h1
        refine fin _ rfl (fun d s' oT=>?_)
        split at oT
        ·exact wh l9 r ht oT
        ·exact qA l9 r ht oT
       ·rename_i ao l9
        cases h1
        exact fin _ rfl (fun d s' oT=>qA l9 r ht oT)
       ·cases h1
    ·cases h1
  ·cases hc
end
end Go.Abs
namespace Go.Abs
def Turned (P:Program) (nt:Nat):AC→Code→Prop
 | .skip,c=>c = .skip
 | .run is,c=>∃ id ops,c = .region id ops false∧nY P nt ops ops.toList=some is
 | .par is kl,c=>∃ id ops,c = .region id ops true∧nY P nt ops ops.toList=some is∧P.follows .mixedOrders=true∧∃ pt,A4 is (ops.toList.map gL) pt kl=true
 | .any a d,c=>∃ id ops,c = .region id ops true∧nY P nt ops ops.toList=some [.op (some a) none (.alloc [.bool false]), .op none none (.store (.s a) (.k (.bool true)) 1), .op none none (.store (.s a) (.k (.bool false)) 1), .op (some d) none (.load (.s a) false 1)]∧P.follows .mixedOrders=true∧ops.toList.map gL = [[],[0],[0],[0,0,1,2]]
 | .seq a b,c=>∃ x y,c = .seq x y∧cC P nt x=some a∧cC P nt y=some b
 | .cond x a b,c=>∃ o p q,c = .cond o p q∧cX o=some x∧cC P nt p=some a∧cC P nt q=some b
 | .block id a,c=>∃ x,c = .block id x∧cC P nt x=some a
 | .loop a,c=>∃ x,c = .loop x∧cC P nt x=some a
 | .exit id,c=>c = .exit id
 | .scope a,c=>∃ x,c = .scope x∧cC P nt x=some a
 | .label l,c=>c = .label l
 | .goto l,c=>c = .goto l
 | .ret,c=>c = .ret
theorem jE {P:Program} {nt:Nat} {c:Code} {ac:AC} (h:cC P nt c=some ac):Turned P nt ac c:=by
 cases c with
 |skip=>cases h;rfl
 | region id ops draw=>
  cases draw
  ·obtain⟨is,h1,rfl⟩:=map_some (x:=nY P nt ops ops.toList) (f:=AC.run) (by simpa [cC]using h)
   exact⟨id,ops,rfl,h1⟩
  ·simp only [cC]at h
   split at h
   ·rename_i hm
    obtain⟨is,h1,h2⟩:=zas.1 h
    unfold xU at h2
    split at h2
    ·rename_i c' hq
     unfold Kc at hq
     cases h2
     split at hq
     ·rename_i hp
      cases hq
      exact⟨id,ops,rfl,h1,hm,_,hp⟩
     ·cases hq
    ·unfold TH at h2
     split at h2
     ·split at h2
      ·rename_i hc
       obtain⟨rfl,rfl,rfl,NA⟩:=hc
       cases h2
       exact⟨id,ops,rfl,h1,hm,NA⟩
      ·cases h2
     ·cases h2
   ·cases h
 |seq a b=>
  simp only[cC]at h
  split at h
  ·rename_i a' b' h1 h2;cases h;exact⟨a,b,rfl,h1,h2⟩
  ·cases h
 |cond x a b=>
  simp only[cC]at h
  split at h
  ·rename_i x' a' b' h1 h2 h3;cases h;exact⟨x,a,b,rfl,h1,h2,h3⟩
  ·cases h
 |block id a=>
  obtain⟨a',h1,rfl⟩:=map_some (x:=cC P nt a) (f:=AC.block id) (by simpa[cC]using h)
  exact⟨a,rfl,h1⟩
 |loop a=>
  obtain⟨a',h1,rfl⟩:=map_some (x:=cC P nt a) (f:=AC.loop) (by simpa[cC]using h)
  exact⟨a,rfl,h1⟩
 |rangeFunc f p a b=>simp[cC]at h
 |exit id=>cases h;rfl
 |scope a=>
  obtain⟨a',h1,rfl⟩:=map_some (x:=cC P nt a) (f:=AC.scope) (by simpa[cC]using h)
  exact⟨a,rfl,h1⟩
 |label l=>cases h;rfl
 |goto l=>cases h;rfl
 |ret=>cases h;rfl
 |refuse w=>simp[cC]at h
def Sem (P:Program) (B:ey) (nt:Nat) (ac:AC) (Q:Exit→Tm→St→Prop) (tm:Tm) (s:St):Prop:=
 ∀ c,cC P nt c=some ac→∀ act w,Holds B nt tm s act w→c.wp P (km B nt Q) act w
def eK (next:Tm→St→Prop) (Q:Exit→Tm→St→Prop):Exit→Tm→St→Prop
 | .normal,tm,s=>next tm s
 |e,tm,s=>Q e tm s
def dF (id:Nat) (Q:Exit→Tm→St→Prop):Exit→Tm→St→Prop
 | .exit i,tm,s=>if i=id then Q .normal tm s else Q (.exit i) tm s
 |e,tm,s=>Q e tm s
section
variable {P:Program} {B:ey} {nt:Nat} {Q:Exit→Tm→St→Prop} {tm:Tm} {s:St}
theorem Sem.mono {ac:AC} {Q':Exit→Tm→St→Prop} (h:Sem P B nt ac Q tm s) (hq : ∀ e tm s,Q e tm s→Q' e tm s):Sem P B nt ac Q' tm s:=
 fun c hc act w hh=>wp_mono (h c hc act w hh) fun _ _ _ ⟨tm,s,h1,h2⟩=>⟨tm,s,hq _ _ _ h1,h2⟩
theorem Sem.skip (h:Q .normal tm s):Sem P B nt .skip Q tm s:=by
 intro c hc act w hh
 cases jE hc
 exact wp_skip ⟨tm,s,h,hh⟩
theorem Sem.label {l:Nat} (h:Q .normal tm s):Sem P B nt (.label l) Q tm s:=by
 intro c hc act w hh
 cases jE hc
 exact wp_label ⟨tm,s,h,hh⟩
theorem Sem.exit {id:Nat} (h:Q (.exit id) tm s):Sem P B nt (.exit id) Q tm s:=by
 intro c hc act w hh
 cases jE hc
 exact wp_exit ⟨tm,s,h,hh⟩
theorem Sem.goto {l:Nat} (h:Q (.goto l) tm s):Sem P B nt (.goto l) Q tm s:=by
 intro c hc act w hh
 cases jE hc
 exact wp_goto ⟨tm,s,h,hh⟩
theorem Sem.ret (h:Q .ret tm s):Sem P B nt .ret Q tm s:=by
 intro c hc act w hh
 cases jE hc
 exact wp_ret ⟨tm,s,h,hh⟩
theorem yd (ops:Array Oper):(List.range ops.size).map (ops[·]?)=ops.toList.map some:=by
 apply List.ext_getElem?
 intro i
 by_cases h:i<ops.size
 ·simp[h]
 ·simp[h]
theorem Sem.run {is:List AI} (h:gk P is (Q .normal) tm s):Sem P B nt (.run is) Q tm s:=by
 intro c hc act w hh
 obtain⟨id,ops,rfl,hi⟩:=jE hc
 exact wp_region (yc (Q:=Q) (List.range ops.size) ops.toList is (yd ops) hi tm s act w h hh)
theorem Sem.seq {a b:AC} (h:Sem P B nt a (eK (Sem P B nt b Q) Q) tm s):Sem P B nt (.seq a b) Q tm s:=by
 intro c hc act w hh
 obtain⟨x,y,rfl,h1,h2⟩:=jE hc
 refine wp_seq (wp_mono (h x h1 act w hh) fun e act w hp=>?_)
 obtain⟨bB,s',hq,iH⟩:=hp
 cases e with
 |normal=>exact hq y h2 act w iH
 |exit id=>exact⟨bB,s',hq,iH⟩
 |goto l=>exact⟨bB,s',hq,iH⟩
 |ret=>exact⟨bB,s',hq,iH⟩
 |panic ch=>exact⟨bB,s',hq,iH⟩
 |outgrown=>exact⟨bB,s',hq,iH⟩
theorem Sem.cond {x:X} {a b:AC} {t:Bool} (hx:x.ev tm = .bool t) (h1:t=true→Sem P B nt a Q tm s) (h2:t=false→Sem P B nt b Q tm s):Sem P B nt (.cond x a b) Q tm s:=by
 intro c hc act w hh
 obtain⟨o,p,q,rfl,g1,g2,g3⟩:=jE hc
 have iH:=hh
 obtain⟨M,e,r,ht,hn,hd⟩:=hh
 have hv:=bS g1 ht
 rw[hx]at hv
 exact wp_cond_split hv.lR (fun h=>h1 h p g2 act w iH) (fun h=>h2 h q g3 act w iH)
theorem Sem.block {id:Nat} {a:AC} (h:Sem P B nt a (dF id Q) tm s):Sem P B nt (.block id a) Q tm s:=by
 intro c hc act w hh
 obtain⟨x,rfl,h1⟩:=jE hc
 refine wp_block (wp_mono (h x h1 act w hh) fun e act w hp=>?_)
 obtain⟨bB,s',hq,iH⟩:=hp
 cases e with
 |exit i=>
  simp only[dF]at hq
  simp only[Exit.inBlock]
  split at hq
  ·rename_i h;rw[if_pos h];exact⟨bB,s',hq,iH⟩
  ·rename_i h;rw[if_neg h];exact⟨bB,s',hq,iH⟩
 |normal=>exact⟨bB,s',hq,iH⟩
 |goto l=>exact⟨bB,s',hq,iH⟩
 |ret=>exact⟨bB,s',hq,iH⟩
 |panic ch=>exact⟨bB,s',hq,iH⟩
 |outgrown=>exact⟨bB,s',hq,iH⟩
def wj (P:Program) (c:Code) (Q:Exit→Act→World→Prop) (a:Act) (w:World):Prop:=
 ∀ (b:Frame) (k:List Item) (cs:List Frame),∃ e a' w',Q e a' w'∧Arrives P (lone (b.at a (.code c:: .inLoop c::k)) cs w) b k cs e a' w'
theorem wj.wp {c:Code} {Q:Exit→Act→World→Prop} {a:Act} {w:World} (h:wj P c Q a w):(Code.loop c).wp P Q a w:=fun b k cs=>
 let ⟨e,a',w',hq,gW⟩:=h b k cs
 ⟨e,a',w',hq, .of_steps (.one step_loop) gW⟩
theorem wj.once {c:Code} {Q:Exit→Act→World→Prop} {a:Act} {w:World} (h:c.wp P (Exit.then (wj P c Q) Q) a w):wj P c Q a w:=by
 intro b k cs
 obtain⟨e,a₁,w₁,hq,gW⟩:=h b (.inLoop c::k) cs
 cases e with
 |normal=>
  obtain⟨e₂,a₂,w₂,XB,KQ⟩:=hq b k cs
  exact⟨e₂,a₂,w₂,XB, .of_steps (Steps.trans gW (.one step_inLoop)) KQ⟩
 |exit id=>exact⟨_,a₁,w₁,hq, .pass (x:= .inLoop c) rfl (fun _ _=> .inl (by simp)) gW⟩
 |goto l=>exact⟨_,a₁,w₁,hq, .pass (x:= .inLoop c) rfl (fun _ _=> .inl (by simp)) gW⟩
 |ret=>exact⟨_,a₁,w₁,hq, .pass (x:= .inLoop c) rfl (fun _ _=> .inl (by simp)) gW⟩
 |panic ch=>exact⟨_,a₁,w₁,hq, .pass (x:= .inLoop c) rfl (fun _ _=> .inl (by simp)) gW⟩
 |outgrown=>exact⟨_,a₁,w₁,hq, .pass (x:= .inLoop c) rfl (fun _ _=> .inl (by simp)) gW⟩
def aY (P:Program) (B:ey) (nt:Nat) (ac:AC) (Q:Exit→Tm→St→Prop) (tm:Tm) (s:St):Prop:=
 ∀ c,cC P nt c=some ac→∀ act w,Holds B nt tm s act w→wj P c (km B nt Q) act w
theorem Sem.loop {a:AC} (h:aY P B nt a Q tm s):Sem P B nt (.loop a) Q tm s:=by
 intro c hc act w hh
 obtain⟨x,rfl,h1⟩:=jE hc
 exact(h x h1 act w hh).wp
theorem aY.once {a:AC} (h:Sem P B nt a (eK (aY P B nt a Q) Q) tm s):aY P B nt a Q tm s:=by
 intro c hc act w hh
 refine wj.once (wp_mono (h c hc act w hh) fun e act w hp=>?_)
 obtain⟨bB,s',hq,iH⟩:=hp
 cases e with
 |normal=>exact hq c hc act w iH
 |exit id=>exact⟨bB,s',hq,iH⟩
 |goto l=>exact⟨bB,s',hq,iH⟩
 |ret=>exact⟨bB,s',hq,iH⟩
 |panic ch=>exact⟨bB,s',hq,iH⟩
 |outgrown=>exact⟨bB,s',hq,iH⟩
def sH (P:Program) (c r:Code) (Q:Exit→Act→World→Prop) (a:Act) (w:World):Prop:=
 ∀ (b:Frame) (k:List Item) (cs:List Frame),∃ e a' w',Q e a' w'∧Arrives P (lone (b.at a (.code r:: .inScope c::k)) cs w) b k cs e a' w'
def aaJ (P:Program) (c:Code) (Q:Exit→Act→World→Prop):Exit→Act→World→Prop
 | .goto l,a,w=>∃ rest,findLabel c l=some rest∧sH P c rest Q a w
 |e,a,w=>Q e a w
theorem sH.wp {c:Code} {Q:Exit→Act→World→Prop} {a:Act} {w:World} (h:sH P c c Q a w):(Code.scope c).wp P Q a w:=fun b k cs=>
 let ⟨e,a',w',hq,gW⟩:=h b k cs
 ⟨e,a',w',hq, .of_steps (.one step_scope) gW⟩
theorem sH.once {c r:Code} {Q:Exit→Act→World→Prop} {a:Act} {w:World} (h:r.wp P (aaJ P c Q) a w):sH P c r Q a w:=by
 intro b k cs
 obtain⟨e,a₁,w₁,hq,gW⟩:=h b (.inScope c::k) cs
 cases e with
 |normal=>exact⟨.normal,a₁,w₁,hq,Steps.trans gW (.one step_inScope)⟩
 |exit id=>exact⟨.exit id,a₁,w₁,hq,fun k' hk=>gW k' (by simp[exitTo,hk])⟩
 |goto l=>
  obtain⟨rest,hf,hs⟩:=hq
  obtain⟨e₂,a₂,w₂,XB,KQ⟩:=hs b k cs
  exact⟨e₂,a₂,w₂,XB, .of_steps (gW _ (by simp[gotoIn,hf])) KQ⟩
 |ret=>exact⟨_,a₁,w₁,hq,gW⟩
 |panic ch=>exact⟨_,a₁,w₁,hq,gW⟩
 |outgrown=>exact⟨_,a₁,w₁,hq,gW⟩
def qB:AC→Nat→Option AC
 | .seq a b,l=>
  match qB a l with
  |some r=>some (.seq r b)
  |none=>qB b l
 | .label l',l=>if l'==l then some .skip else none
 |_,_=>none
theorem Ig : ∀ {c:Code} {ac:AC},cC P nt c=some ac→∀ l,(qB ac l=none→findLabel c l=none)∧∀ r,qB ac l=some r→∃ rest,findLabel c l=some rest∧cC P nt rest=some r:=by
 intro c
 induction c with
 | seq a b NC ND=>
  intro ac h l
  simp only[cC]at h
  split at h
  ·rename_i a' b' h1 h2
   cases h
   obtain⟨n1,s1⟩:=NC h1 l
   obtain⟨n2,s2⟩:=ND h2 l
   simp only[qB,findLabel]
   cases hf:qB a' l with
   |none=>
    rw[n1 hf]
    exact⟨n2,s2⟩
   |some r=>
    obtain⟨rest,g1,g2⟩:=s1 r hf
    rw[g1]
    refine⟨(by intro h;cases h),fun r' h=>?_⟩
    cases h
    exact⟨_,rfl,by simp[cC,g2,h2]⟩
  ·cases h
 |label l'=>
  intro ac h l
  cases h
  simp only[qB,findLabel]
  split
  ·exact⟨(by intro h;cases h),(by intro r h;cases h;exact⟨_,rfl,rfl⟩)⟩
  ·exact⟨fun _=>rfl,(by intro r h;cases h)⟩
 | _=>
  intro ac h l
  have:=jE h
  cases ac<;>simp only[Turned]at this<;>first
   |(exfalso;obtain⟨_,_,this⟩:=this;cases this.1;done)
   |exact⟨fun _=>rfl,(by intro r h;cases h)⟩
   |(exfalso;cases this;done)
   |(exfalso;obtain⟨_,this⟩:=this;cases this.1;done)
   |(exfalso;obtain⟨_,_,_,_,this⟩:=this;cases this.1;done)
def mB (P:Program) (B:ey) (nt:Nat) (ac r:AC) (Q:Exit→Tm→St→Prop) (tm:Tm) (s:St):Prop:=
 ∀ c rest,cC P nt c=some ac→cC P nt rest=some r→∀ act w,Holds B nt tm s act w→sH P c rest (km B nt Q) act w
def ja (P:Program) (B:ey) (nt:Nat) (ac:AC) (Q:Exit→Tm→St→Prop):Exit→Tm→St→Prop
 | .goto l,tm,s=>∃ r,qB ac l=some r∧mB P B nt ac r Q tm s
 |e,tm,s=>Q e tm s
theorem Sem.scope {a:AC} (h:mB P B nt a a Q tm s):Sem P B nt (.scope a) Q tm s:=by
 intro c hc act w hh
 obtain⟨x,rfl,h1⟩:=jE hc
 exact(h x x h1 h1 act w hh).wp
theorem mB.once {a r:AC} (h:Sem P B nt r (ja P B nt a Q) tm s):mB P B nt a r Q tm s:=by
 intro c rest hc Fg act w hh
 refine sH.once (wp_mono (h rest Fg act w hh) fun e act w hp=>?_)
 obtain⟨bB,s',hq,iH⟩:=hp
 cases e with
 |normal=>exact⟨bB,s',hq,iH⟩
 |exit id=>exact⟨bB,s',hq,iH⟩
 |goto l=>
  obtain⟨r',hf,hs⟩:=hq
  obtain⟨ox,g1,g2⟩:=(Ig hc l).2 r' hf
  exact⟨ox,g1,hs c ox hc g2 act w iH⟩
 |ret=>exact⟨bB,s',hq,iH⟩
 |panic ch=>exact⟨bB,s',hq,iH⟩
 |outgrown=>exact⟨bB,s',hq,iH⟩
def Tag.fg (m:Nat):Tag→Tag
 | .tok t y=>if t<m then .tok t y else .shared
 |g=>g
mutual
def D.fg (n m:Nat):D→D
 | .ptr o off=>if o<n then .ptr o off else .junk
 | .dr row off=> .dr (D.eI n m row) off
 | .slice g z rows=> .slice (g.fg m) z (D.iI n m rows)
 | .agg cs=> .agg (D.eI n m cs)
 | .tuple ds=> .tuple (D.eI n m ds)
 | .junk=> .junk
 | .int k x=> .int k x
 | .bool b=> .bool b
 | .str l=> .str l
 | .er=> .er
 | .val v=> .val v
 | .eC T o=>if o<n then .eC T o else .junk
 | .fL f cs=> .fL f (D.eI n m cs)
 | .fA o=>if o<n then .fA o else .junk
 | .bX z o g len=>if o<n then .bX z o g len else .junk
 | .ew o g off=>if o<n then .ew o g off else .junk
 | .dj z=> .dj z
def D.eI (n m:Nat):List D→List D
 | []=> []
 |d::r=>D.fg n m d::D.eI n m r
def D.iI (n m:Nat):List (List D)→List (List D)
 | []=> []
 |d::r=>D.eI n m d::D.iI n m r
end
theorem jF (n m:Nat) : ∀ l,D.eI n m l=l.map (D.fg n m)
 | []=>by simp[D.eI]
 |d::r=>by simp[D.eI,jF n m r]
theorem NF (n m:Nat) : ∀ l,D.iI n m l=l.map (D.eI n m)
 | []=>by simp[D.iI]
 |d::r=>by simp[D.iI,NF n m r]
def St.cut (s:St) (n m:Nat):St:=⟨(s.av.take n).map (D.eI n m),s.aw.take m⟩
def Tm.fg (n m:Nat) (tm:Tm):Tm:=tm.map fun p=>(p.1,p.2.fg n m)
def Tm.keep (ks:List Nat) (tm:Tm):Tm:=tm.filter fun p=>ks.contains p.1
theorem ju (s:St) (n m:Nat):(s.cut n m).av.length=min n s.av.length:=by simp[St.cut]
theorem gO.fg {M:Map} {g:Tag} {z len cap:Nat} {base:Option (Nat×Nat)} (n m:Nat) (h:gO M s g z len base cap):gO M (s.cut n m) (g.fg m) z len base cap:=by
 cases g with
 |full=>exact h
 |shared=>exact h
 | tok t y=>
  simp only[Tag.fg]
  split
  ·rename_i ht
   obtain⟨h1,h2⟩:=h
   refine⟨by simp[St.cut];omega,fun k hk=>h2 k ?_⟩
   simpa[St.cut,za5 ht]using hk
  ·trivial
theorem RD.fg {M:Map} {d:D} {v:Value} (n m:Nat) (h:RD M s d v):RD M (s.cut n m) (d.fg n m) v:=by
 induction h with
 |junk v=>simp only[D.fg];exact .junk v
 |int k x=>simp only[D.fg];exact .int k x
 |bool b=>simp only[D.fg];exact .bool b
 |str l=>simp only[D.fg];exact .str l
 |er=>simp only[D.fg];exact .er
 |val v hv=>simp only[D.fg];exact .val v hv
 |eC T o v h ht hv=>
  simp only[D.fg]
  split
  ·exact .eC T o v (by rw[ju];omega) ht hv
  ·exact .junk _
 |fA o h hm=>
  simp only[D.fg]
  split
  ·exact .fA o (by rw[ju];omega) hm
  ·exact .junk _
 |dj z a=>simp only[D.fg];exact .dj z a
 |bX z o g len b cap A h hm ha hl=>
  simp only[D.fg]
  split
  ·exact .bX z o g len b cap A (by rw[ju];omega) hm ha hl
  ·exact .junk _
 |ew z o g off b cap A h hm ha=>
  simp only[D.fg]
  split
  ·exact .ew z o g off b cap A (by rw[ju];omega) hm ha
  ·exact .junk _
 |fL f ds vs hl _ ih=>
  simp only[D.fg,jF]
  refine .fL f _ vs (by simpa using hl) (fun i d v e1 e2=>?_)
  simp only[zap,zaq]at e1
  obtain⟨d',e1,rfl⟩:=e1
  exact ih i d' v e1 e2
 |ptr o off h hm=>
  simp only[D.fg]
  split
  ·exact .ptr o off (by rw[ju];omega) hm
  ·exact .junk _
 | dr row off b k h1 h2 ih=>
  simp only[D.fg,jF]
  refine .dr _ off b k (fun i d e=>?_) (fun i d u e eu=>?_)
  ·simp only [zap,zaq]at e
   obtain⟨d',e,rfl⟩:=e
   exact h1 i d' e
  ·simp only [zap,zaq]at e
   obtain⟨d',e,rfl⟩:=e
   exact ih i d' u e eu
 |ig g z cap hc ht=>simp only[D.fg,D.iI];exact .ig _ z cap hc (ht.fg n m)
 |kR z a cap=>simp only[D.fg,D.iI,Tag.fg];exact .kR z a cap
 | slice g z rows b k cap hl hs h1 h2 ht ih=>
  simp only[D.fg,NF]
  have hlen:(rows.map (D.eI n m)).length=rows.length:=by simp
  have key:=RD.slice (M:=M) (s:=s.cut n m) (g.fg m) z (rows.map (D.eI n m)) b k cap (by rw[hlen];exact hl) (fun row hr=>by
   obtain⟨ij,h',rfl⟩:=zaH.1 hr
   rw[jF,zat];exact hs ij h')
   (fun i row j d e1 e2=>by
    simp only[zap,zaq]at e1
    obtain⟨ij,e1,rfl⟩:=e1
    rw[jF]at e2
    simp only[zap,zaq]at e2
    obtain⟨d',e2,rfl⟩:=e2
    exact h1 i ij j d' e1 e2)
   (fun i row j d u e1 e2 eu=>by
    simp only[zap,zaq]at e1
    obtain⟨ij,e1,rfl⟩:=e1
    rw[jF]at e2
    simp only[zap,zaq]at e2
    obtain⟨d',e2,rfl⟩:=e2
    exact ih i ij j d' u e1 e2 eu)
   (by rw[hlen];exact ht.fg n m)
  rw[hlen]at key
  exact key
 |agg cells vs hl h1 _ ih=>
  simp only[D.fg,jF]
  refine .agg _ vs (by simpa using hl) h1 (fun i d v e1 e2=>?_)
  simp only[zap,zaq]at e1
  obtain⟨d',e1,rfl⟩:=e1
  exact ih i d' v e1 e2
 |tuple ds vs hl _ ih=>
  simp only[D.fg,jF]
  refine .tuple _ vs (by simpa using hl) (fun i d v e1 e2=>?_)
  simp only[zap,zaq]at e1
  obtain⟨d',e1,rfl⟩:=e1
  exact ih i d' v e1 e2
theorem CT {t k n m:Nat} (h:(s.cut n m).aw[t]? = some (some k)):s.aw[t]? = some (some k):=by
 simp only[St.cut,zaX]at h
 split at h
 ·exact h
 ·cases h
theorem sI {t n m:Nat} (h:(s.cut n m).live t):s.live t:=by
 obtain⟨k,hk⟩:=h
 exact⟨k,CT hk⟩
theorem Rel.cut {M:Map} {w:World} (n m:Nat) (r:Rel M s w):Rel M (s.cut n m) w:=by
 have hF : ∀ o,o<(s.cut n m).av.length→o<s.av.length:=fun o h=>by rw[ju]at h;omega
 refine⟨r.comm,fun o ds e=>?_,fun o ho=>r.iK o (hF o ho),fun o o' h h'=>r.inj o o' (hF o h) (hF o' h'),fun t k e=>r.tok t k (CT e),
  fun t b c z o hl e ho=>r.dY t b c z o (sI hl) e (hF o ho),fun t t' b c z c' z' h h' e e'=>r.fB t t' b c z c' z' (sI h) (sI h') e e'⟩
 simp only[St.cut,zap,zaq,zaX]at e
 obtain⟨lM,e,rfl⟩:=e
 split at e
 ·obtain⟨vs,T,h1,h2,h3,h4⟩:=r.obj o lM e
  refine⟨vs,T,h1,by rw[jF];simpa using h2,h3,fun i d v e1 e2=>?_⟩
  rw[jF]at e1
  simp only[zap,zaq]at e1
  obtain⟨d',e1,rfl⟩:=e1
  exact(h4 i d' v e1 e2).fg n m
 ·cases e
theorem Ext.cut {M0 M:Map} {s0:St} {w0 w:World} {n m:Nat} (e:Ext M0 s0 w0 M s w) (hn:s0.av.length≤n) (hm:s0.aw.length≤m):Ext M0 s0 w0 M (s.cut n m) w:=by
 have hF : ∀ o,o<(s.cut n m).av.length→o<s.av.length:=fun o h=>by rw[ju]at h;omega
 refine⟨⟨e.le.G,by rw[ju];have:=e.le.n;omega,e.le.loc,by simp[St.cut];have:=e.le.t;omega,fun t k h1 h2=>e.le.tk t k h1 (CT h2)⟩,e.kept,fun o h1 h2=>e.n5 o h1 (hF o h2),fun t b c z h=>e.mR t b c z (sI h),e.n6,e.size,e.os,e.tape,e.output⟩
end
end Go.Abs
namespace Go.Abs
def lV:Nat→List D→Tm
 |_,[]=> []
 |n,d::r=>(n,d)::lV (n+1) r
def bt:List (Nat×Option (Bool×Nat))→Tm→St→Option (List D)
 | [],_,_=>some []
 |(t,none)::r,tm,s=>match bt r tm s with|some l=>some (tm.get t::l)|none=>none
 | (t,some (agg,size))::r,tm,s=>
  match tm.get t with
  | .ptr o off=>
   match s.av[o]? with
   |some cs=>match part cs off agg size,bt r tm s with|some d,some l=>some (d::l)|_,_=>none
   |none=>none
  |_=>none
def bx:List D→D
 | [d]=>d
 |l=> .tuple l
def adX (B:ey) (res:List (Nat×Option (Bool×Nat))) (Q:D→St→Prop):Exit→Tm→St→Prop
 | .normal,tm,s| .ret,tm,s=>∃ l,bt res tm s=some l∧∃ n m,B.s.av.length≤n∧B.s.aw.length≤m∧Q ((bx l).fg n m) (s.cut n m)
 |_,_,_=>False
section
variable {P:Program} {M:Map} {s:St} {w:World}
theorem DO : ∀ (l:List D) (n t:Nat),(lV n l).get t=if n≤t then(l[t - n]?).getD .junk else .junk
 | [],n,t=>by simp[lV,Tm.get]
 | d::r,n,t=>by
  simp only[lV,Tm.get,DO r (n+1) t]
  by_cases h:n=t
  ·subst h;simp
  ·rw [if_neg h]
   by_cases h2:n+1≤t
   ·rw[if_pos h2,if_pos (by omega),show t - n=(t - (n+1))+1 by omega];simp
   ·rw[if_neg h2,if_neg (by omega)]
def ye (tmps:Array Value):ResultVar→Go.Sem Value
 | .tmp t=>pure (tmps.getD t Go.undef)
 | .cell a t=>do loadVar t (← asAddr (tmps.getD a Go.undef))
theorem Ay (r:Rel M s w) {tm:Tm} {tmps:Array Value} (ht:kA M s tm tmps) : ∀ {rs:List ResultVar} {res:List (Nat×Option (Bool×Nat))} {l:List D},xV P rs=some res→bt res tm s=some l→
 ∃ vs:List Value,(rs.mapM (ye tmps)).run P w = .ok vs w∧vs.length=l.length∧
  ∀ (i:Nat) (d:D) (v:Value),l[i]? = some d→vs[i]? = some v→RD M s d v
 | [],res,l,hc,hl=>by cases hc;cases hl;exact⟨[],rfl,rfl,by simp⟩
 | .tmp t::rs,res,l,hc,hl=>by
  obtain⟨adY,h1,rfl⟩:=map_some (by simpa[xV]using hc)
  simp only[bt]at hl
  split at hl
  ·rename_i l' lg
   cases hl
   obtain⟨vs,g1,g2,g3⟩:=Ay r ht h1 lg
   refine⟨tmps.getD t Go.undef::vs, ?_,by simp[g2],fun i d v e1 e2=>?_⟩
   ·rw [List.mapM_cons]
    simp only[ye,Go.Sem.run_bind,Go.Sem.run_pure,Result.andThen_ok,g1]
   ·cases i with
    |zero=>simp only[zaK,Option.some.injEq]at e1 e2;subst e1;subst e2;exact ht t
    |succ i=>exact g3 i d v (by simpa using e1) (by simpa using e2)
  ·cases hl
 | .cell a t::rs,res,l,hc,hl=>by
  simp only[xV]at hc
  split at hc
  ·rename_i g i adY h1 h2 h3
   cases hc
   simp only[bt]at hl
   split at hl
   ·rename_i o off ho
    split at hl
    ·rename_i cs px
     split at hl
     ·rename_i d l' hd lg
      cases hl
      obtain⟨vs,g1,g2,g3⟩:=Ay r ht h3 lg
      have hv:=ht a
      rw[ho]at hv
      have hk:=hv.xW
      obtain⟨hv,_⟩:=hv.qg
      have aaK : ∃ v,(loadVar t ⟨M.mu o,off,none⟩).run P w = .ok v w∧RD M s d v:=by
       obtain⟨eR,T,hh,cV,⟨fJ,_⟩,Av⟩:=r.obj o cs px
       replace hh:w.heap[M.mu o]? = some (.cells eR T (0,0)):=hh.cells hk
       let n:=if g then i.size else 1
       have iL:off+n≤eR.size:=by
        rcases oR hd with ⟨rfl,hq,_⟩|⟨rfl,hq⟩
        ·simp[n];omega
        ·have:=(zae.1 hq).1;simp[n];omega
       have hlen:((eR.toList.drop off).take n).length=n:=by simp;omega
       have hP : ∀ (j:Nat) (u:Value),((eR.toList.drop off).take n)[j]? = some u→eR[off+j]? = some u:=by
        intro j u h
        rw[zaX]at h
        split at h
        ·rw[zbc]at h;simpa using h
        ·cases h
       refine⟨_,wc (w:=w) P h2 h1 (M.mu o) off ((eR.toList.drop off).take n) hlen (fun j u h=>by rw[gY hh];exact hP j u h), ?_⟩
       exact pj hd _ hlen (fun _ u hu=>fJ u (zaQ.1 (zbl (zaZ hu)))) (fun j d u e1 e2=>Av _ d u e1 (hP j u e2))
      obtain⟨v,hlv,hvd⟩:=aaK
      refine⟨v::vs, ?_,by simp[g2],fun i d' v' e1 e2=>?_⟩
      ·rw [List.mapM_cons]
       have fJ:(ye tmps (.cell a t)).run P w = .ok v w:=by
        simp only[ye,Go.Sem.run_bind,hv,asAddr,Go.Sem.run_pure,Result.andThen_ok,hlv]
       simp only[Go.Sem.run_bind,fJ,Result.andThen_ok,g1,Go.Sem.run_pure]
      ·cases i with
       |zero=>simp only[zaK,Option.some.injEq]at e1 e2;subst e1;subst e2;exact hvd
       |succ i=>exact g3 i d' v' (by simpa using e1) (by simpa using e2)
     ·cases hl
    ·cases hl
   ·cases hl
  ·cases hc
theorem EP (r:Rel M s w) {tm:Tm} {tmps:Array Value} (ht:kA M s tm tmps) {fn:Func} {res:List (Nat×Option (Bool×Nat))} {l:List D} (hc:xV P fn.results.toList=some res) (hl:bt res tm s=some l) :
 ∃ v,(results fn tmps).run P w = .ok v w∧RD M s (bx l) v:=by
 obtain⟨vs,g1,g2,g3⟩:=Ay (P:=P) r ht hc hl
 have da:(results fn tmps).run P w = .ok (if h:vs.toArray.size=1 then vs.toArray[0]else .tuple vs.toArray) w:=by
  have e:results fn tmps=(do let vs ← fn.results.mapM (ye tmps);pure (if h:vs.size=1 then vs[0]else .tuple vs)):=by
   unfold results
   rfl
  rw[e,Array.mapM_eq_mapM_toList]
  simp only[Go.Sem.run_bind,Go.Sem.run_map,g1,Result.andThen_ok,Go.Sem.run_pure]
 refine⟨_,da, ?_⟩
 clear da g1 hl
 match l,vs,g2,g3 with
 | [],[],_,_=>exact .tuple [] #[] rfl (by simp)
 | [d],[v],_,g3=>exact g3 0 d v rfl rfl
 |d::d'::l,v::v'::vs,h,g3=>
  have : ¬ ((v::v'::vs).toArray.size=1):=by simp
  rw[dif_neg this]
  exact .tuple _ _ (by simpa using h.symm) (fun i d v e1 e2=>g3 i d v e1 (by simpa using e2))
def adZ (res:List (Nat×Option (Bool×Nat))) (Q:D→St→Prop):Exit→Tm→St→Prop
 | .normal,tm,s| .ret,tm,s=>∃ l,bt res tm s=some l∧Q (bx l) s
 |_,_,_=>False
theorem dt.XC {f:FuncId} {fn:Func} {af:AF} {args:List D} {Q:D→St→Prop} (hf:P.funcs[f]? = some fn) (hc:cF P fn=some af) (hl:args.length≤af.ntmps)
 (h : ∀ B:ey,B.s=s→Sem P B af.ntmps af.body (adZ af.results Q) (lV 0 args) s):dt P f args s Q:=by
 intro M w fi r iM cV ha
 unfold cF at hc
 split at hc
 ·rename_i c KR
  split at hc
  ·rename_i b res h1 h2
   cases hc
   simp only at h hl
   refine calls_of_wp hf KR ?_
   have hs:=h ⟨M,s,w,iM,fun b o v e=>r.Am e⟩ rfl c h1 {tmps:=fi++Array.replicate (fn.ntmps - fi.size) Go.undef,defers:= []} w
    ⟨M,Ext.refl M s w,r,fun t=>by
     rw[DO]
     simp only[zar,if_true,Nat.sub_zero]
     cases hd:args[t]? with
     |none=>exact .junk _
     | some d=>
      have hF:=(zae.1 hd).1
      have hv:fi[t]? = some fi[t]:=za9 (by omega)
      have:(fi++Array.replicate (fn.ntmps - fi.size) Go.undef).getD t Go.undef=fi[t]:=by
       rw[zbg,za0 (by omega),hv];rfl
      rw[this]
      exact ha t d _ hd hv,by simp;omega,rfl⟩
   refine wp_mono hs fun e act w' hp=>?_
   obtain⟨tm,s',hq,M',ad0,r',ht,_,hdf⟩:=hp
   have fin:(∃ l,bt res tm s'=some l∧Q (bx l) s')→act.defers = []∧∃ v,(results fn act.tmps).run P w' = .ok v w'∧
    ∃ M' d v' s',Ending.returned v = .returned v'∧Q d s'∧Ext M s w M' s' w'∧Rel M' s' w'∧RD M' s' d v':=by
    rintro⟨l,hl,hQ⟩
    obtain⟨v,da,gZ⟩:=EP (P:=P) r' ht h2 hl
    exact⟨hdf,v,da,M',_,v,_,rfl,hQ,ad0,r',gZ⟩
   cases e with
   |normal=>exact fin hq
   |ret=>exact fin hq
   |exit id=>exact hq.elim
   |goto l=>exact hq.elim
   |panic ch=>exact hq.elim
   |outgrown=>exact hq.elim
  ·cases hc
 ·cases hc
theorem dt.intro {f:FuncId} {fn:Func} {af:AF} {args:List D} {Q:D→St→Prop} (hf:P.funcs[f]? = some fn) (hc:cF P fn=some af) (hl:args.length≤af.ntmps)
 (h : ∀ B:ey,B.s=s→Sem P B af.ntmps af.body (adX B af.results Q) (lV 0 args) s):dt P f args s Q:=by
 intro M w fi r iM cV ha
 refine(dt.XC (Q:=fun d s'=>∃ n m,s.av.length≤n∧s.aw.length≤m∧Q (d.fg n m) (s'.cut n m)) hf hc hl (fun B hB=>(h B hB).mono fun e tm s' hq=>?_) M w fi r iM cV ha).mono ?_
 ·subst hB
  cases e<;>exact hq
 ·rintro e w' ⟨M',d,v,s',h1,⟨n,m,hn,hm,hQ⟩,h3,h4,h5⟩
  exact⟨M',_,v,_,h1,hQ,h3.cut hn hm,h4.cut n m,h5.fg n m⟩
end
end Go.Abs
