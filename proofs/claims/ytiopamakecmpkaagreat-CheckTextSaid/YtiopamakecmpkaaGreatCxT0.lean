/-
  What is proved here: part 0 of the road to the claim (Globs, Abs, Lang, Rel, Sound, Sound2, Sound3, Sound4, Sound5, Sound6, Sound7, SoundM, RelA, SoundA, Sound8, Code, Flow, Call).
  No conditions.
-/
import GoSem.Core.Value
import Derived.Orders
import Derived.Calls
import Derived.Below
import Derived.Laws.AppendOwn
import Derived.Deep.AppendSrc
import Derived.Laws.StructEq
import Derived.Laws.Slices
import Derived.Laws.Strings
import Derived.Laws.IdiomStrings
import Derived.Laws.BytesString
import Derived.MapKept
import Derived.Laws.MakeOwn
import Derived.Scope

set_option linter.unusedSimpArgs false
set_option linter.unusedVariables false
namespace Go.Abs
abbrev zaa:=@Bool.false_eq_true
abbrev zab:=@Option.bind_eq_some_iff
abbrev zac:=@Nat.lt_succ_self
abbrev zad:=@Bool.eq_false_or_eq_true
abbrev zae:=@List.mem_of_getElem?
abbrev zaf:=@List.map_cons
abbrev zag:=@List.map_append
abbrev zah:=@List.map_nil
abbrev zai:=@List.getElem?_eq_some_iff
abbrev zaj:=@Nat.le_refl
abbrev zak:=@List.length_append
abbrev zal:=@List.length_cons
abbrev zam:=@Option.bind_some
abbrev zan:=@Bool.not_true
abbrev zao:=@Bool.not_false
abbrev zap:=@List.getElem?_eq_getElem
abbrev zaq:=@Bool.and_eq_true
abbrev zar:=@List.getElem?_append_left
abbrev zas:=@Nat.zero_lt_one
abbrev zat:=@List.getElem?_map
abbrev zau:=@Nat.zero_le
abbrev zav:=@List.getElem?_append_right
abbrev zaw:=@List.mem_cons
abbrev zax:=@List.length_nil
abbrev zay:=@Bool.or_eq_true
abbrev zaz:=@Option.map_eq_some_iff
abbrev zaA:=@List.mem_cons_of_mem
abbrev zaB:=@List.mem_append
abbrev zaC:=@List.length_map
abbrev zaD:=@List.append_assoc
abbrev zaE:=@List.mem_cons_self
abbrev zaF:=@Nat.lt_or_ge
abbrev zaG:=@Bool.not_eq_true'
abbrev zaH:=@List.cons_append
abbrev zaI:=@List.length_drop
abbrev zaJ:=@List.append_nil
abbrev zaK:=@List.getElem?_set
abbrev zaL:=@List.length_take
abbrev zaM:=@Nat.not_lt_zero
abbrev zaN:=@Nat.le_trans
abbrev zaO:=@Bool.false_and
abbrev zaP:=@Nat.add_zero
abbrev zaQ:=@Array.mem_toList_iff
abbrev zaR:=@List.nil_append
abbrev zaS:=@Array.getElem?_eq_some_iff
abbrev zaT:=@List.mem_map_of_mem
abbrev zaU:=@Nat.mul_le_mul_right
abbrev zaV:=@List.getElem?_take
abbrev zaW:=@Array.toArray_toList
abbrev zaX:=@List.drop_eq_nil_iff
abbrev zaY:=@Option.bind_assoc
abbrev zaZ:=@List.mem_of_mem_take
abbrev za0:=@List.all_eq_true
abbrev za1:=@Array.getElem?_append_left
abbrev za2:=@List.contains_iff_mem
abbrev za3:=@Nat.zero_add
abbrev za4:=@Bool.not_eq_false
abbrev za5:=@List.getElem?_take_of_lt
abbrev za6:=@Bool.true_or
abbrev za7:=@Int.cast_ofNat_Int
abbrev za8:=@Nat.le_of_ble_eq_true
abbrev za9:=@Int.le_refl
abbrev zba:=@List.getElem?_cons_succ
abbrev zbb:=@List.mem_append_left
abbrev zbc:=@Bool.true_and
abbrev zbd:=@Bool.false_or
abbrev zbe:=@List.getElem?_cons_zero
abbrev zbf:=@Bool.and_false
abbrev zbg:=@List.getElem?_drop
abbrev zbh:=@List.mem_map
abbrev zbi:=@List.eq_nil_of_length_eq_zero
abbrev zbj:=@Nat.add_mul
abbrev zbk:=@Array.getD_eq_getD_getElem?
abbrev zbl:=@Option.isSome_some
abbrev zbm:=@List.mem_of_mem_drop
abbrev zbn:=@Bool.and_true
abbrev zbo:=@Nat.le_succ
abbrev zbp:=@List.take_succ_cons
abbrev zbq:=@Array.getElem?_eq_getElem
abbrev zbr:=@List.getElem?_toArray
abbrev zbs:=@List.mem_append_right
abbrev zbt:=@Bool.or_true
abbrev zbu:=@Option.isSome_none
abbrev zbv:=@Option.getD_some
abbrev zbw:=@Array.getElem?_setIfInBounds_ne
abbrev zbx:=@Option.map_some
abbrev zby:=@Bool.or_eq_false_iff
abbrev zbz:=@Bool.or_self
abbrev zbA:=@Bool.not_eq_true
abbrev zbB:=@Bool.not_not
abbrev zbC:=@Array.mem_of_getElem?
abbrev zbD:=@Array.getElem?_modify
abbrev zbE:=@Option.map_none
abbrev zbF:=@List.getElem?_eq_none_iff
abbrev zbG:=@List.drop_drop
abbrev zbH:=@Option.getD_none
abbrev zbI:=@Bool.or_false
abbrev zbJ:=@Bool.and_self
abbrev zbK:=@List.mem_singleton
def aaC:Nat→Option (Array Value):=fun _=>none
def oZ:TypeId:=1000000
inductive Tag where
 |full
 |shared
 |tok (t:Nat) (byte:Bool:=false) -- 'byte': its row's block bears the bytes' type
inductive D where
 |junk
 |int (k:IntKind) (n:Int)
 |bool (b:Bool)
 |str (s:List UInt8)
 |fx
 |ptr (o off:Nat)
 |dJ (row:List D) (off:Nat)
 |slice (g:Tag) (size:Nat) (rows:List (List D))
 |agg (cells:List D)
 |tuple (vs:List D)
 |val (v:Value)
 |fC (T:TypeId) (o:Nat)
 |gK (f:Nat) (nn:List D) -- a function value with what it captured
 |gH (o:Nat) -- a map, kept as an object: keys and values by turns
 |jD (z o g len:Nat) -- a slice from an array's beginning: the object, its generation
 |iT (o g off:Nat) -- a pointer into an array
 |jK (z:Nat) -- an empty slice without room: what is laid behind it becomes an array
instance:Inhabited D:=⟨.junk⟩
inductive Ob where
 |any
 |ty (T:TypeId)
 |map
 |arr (z:Nat) (A:Nat→Option (Nat×Nat))
def Ob.plain:Ob→Prop
 | .any=>True
 | .ty _=>True
 |_=>False
inductive tI:Nat×Ob→Nat×Ob→Prop where
 |refl (x:Nat×Ob):tI x x
 |arr (b b' z:Nat) (A A':Nat→Option (Nat×Nat)) (h : ∀ g x,A g=some x→A' g=some x):tI (b, .arr z A) (b', .arr z A')
theorem tI.trans {x y z:Nat×Ob} (h:tI x y) (k:tI y z):tI x z:=by
 cases h with
 |refl=>exact k
 |arr b b' z A A' h=>
  cases k with
  |refl=>exact .arr b b' z A A' h
  |arr _ b'' _ _ A'' h'=>exact .arr b b'' z A A'' fun g x e=>h' g x (h g x e)
structure Map where
 G:Nat→Nat→Option Value
 loc:Nat→Nat×Ob
 be:Nat→Option (Nat×Nat×Nat)
def Map.mu (M:Map) (o:Nat):Nat:=(M.loc o).1
def Ob.ty? : Ob→Option TypeId
 | .ty T=>some T
 |_=>none
def Map.ob (M:Map) (o:Nat):Ob:=(M.loc o).2
def Map.ty (M:Map) (o:Nat):Option TypeId:=(M.loc o).2.ty?
structure St where
 aw:List (List D)
 aE:List (Option Nat)
def zs (z:Nat):Nat:=if z=0 then 1 else z
def bz (byte:Bool) (size:Nat):Nat:=match byte with|true=>0|false=>size
def iM (M:Map) (s:St) (g:Tag) (size len:Nat) (base:Option (Nat×Nat)) (cap:Nat):Prop:=
 match g with
 | .full=>cap=len
 | .shared=>True
 | .tok t y=>t<s.aE.length∧∀ n,s.aE[t]? = some (some n)→len≤n∧
  (len=n→(M.be t=none∧cap=0∧(y=true→base=none))∨∃ b,base=some (b,0)∧M.be t=some (b,cap,bz y size))
inductive RD (M:Map) (s:St):D→Value→Prop where
 |junk (v:Value):RD M s .junk v
 |int (k:IntKind) (n:Int):RD M s (.int k n) (.int k n)
 |bool (b:Bool):RD M s (.bool b) (.bool b)
 |str (l:List UInt8):RD M s (.str l) (.string ⟨⟨l⟩⟩)
 |fx:RD M s .fx (.pointer none)
 |ptr (o off:Nat) (h:o<s.aw.length) (hm:(M.ob o).plain):RD M s (.ptr o off) (.pointer (some ⟨M.mu o,off,none⟩))
 |dJ (row:List D) (off b k:Nat) (h1 : ∀ (i:Nat) (d:D),row[i]? = some d→∃ u,M.G b (k+i)=some u)
  (h2 : ∀ (i:Nat) (d:D) (u:Value),row[i]? = some d→M.G b (k+i)=some u→RD M s d u) :
  RD M s (.dJ row off) (.pointer (some ⟨b,k+off,none⟩))
 |jX (g:Tag) (size cap:Nat) (hc:cap=0) (ht:iM M s g size 0 none cap):RD M s (.slice g size []) (.slice none 0 cap)
 |nX (size:Nat) (a:Addr) (cap:Nat):RD M s (.slice .shared size []) (.slice (some a) 0 cap)
 |slice (g:Tag) (size:Nat) (rows:List (List D)) (b k cap:Nat) (hl:rows.length≤cap)
  (hs : ∀ row∈rows,row.length=size)
  (h1 : ∀ (i:Nat) (row:List D) (j:Nat) (d:D),rows[i]? = some row→row[j]? = some d→∃ u,M.G b (k+(i*size+j))=some u)
  (h2 : ∀ (i:Nat) (row:List D) (j:Nat) (d:D) (u:Value),rows[i]? = some row→row[j]? = some d→M.G b (k+(i*size+j))=some u→RD M s d u)
  (ht:iM M s g size rows.length (some (b,k)) cap) :
  RD M s (.slice g size rows) (.slice (some ⟨b,k,none⟩) rows.length cap)
 |agg (cells:List D) (vs:Array Value) (hl:cells.length=vs.size) (h1 : ∀ v∈vs,v.oneCell'=true)
  (h : ∀ (i:Nat) (d:D) (v:Value),cells[i]? = some d→vs[i]? = some v→RD M s d v):RD M s (.agg cells) (.agg vs)
 |tuple (ds:List D) (vs:Array Value) (hl:ds.length=vs.size)
  (h : ∀ (i:Nat) (d:D) (v:Value),ds[i]? = some d→vs[i]? = some v→RD M s d v):RD M s (.tuple ds) (.tuple vs)
 |val (v:Value) (h:v.oneCell'=true):RD M s (.val v) v
 |fC (T:TypeId) (o:Nat) (v:Value) (h:o<s.aw.length) (ht:M.ty o=some T) (hv:v = .pointer none∨v = .pointer (some ⟨M.mu o,0,none⟩)):RD M s (.fC T o) v
 |gK (f:Nat) (ds:List D) (vs:Array Value) (hl:ds.length=vs.size)
  (h : ∀ (i:Nat) (d:D) (v:Value),ds[i]? = some d→vs[i]? = some v→RD M s d v):RD M s (.gK f ds) (.func (.func f) #[] vs)
 |gH (o:Nat) (h:o<s.aw.length) (hm:M.ob o = .map):RD M s (.gH o) (.map (some (M.mu o)))
 |jD (z o g len b cap:Nat) (A:Nat→Option (Nat×Nat)) (h:o<s.aw.length) (hm:M.ob o = .arr z A) (ha:A g=some (b,cap)) (hl:len≤cap):RD M s (.jD z o g len) (.slice (some ⟨b,0,none⟩) len cap)
 |iT (z o g off b cap:Nat) (A:Nat→Option (Nat×Nat)) (h:o<s.aw.length) (hm:M.ob o = .arr z A) (ha:A g=some (b,cap)):RD M s (.iT o g off) (.pointer (some ⟨b,off,none⟩))
 |jK (z:Nat) (a:Option Addr):RD M s (.jK z) (.slice a 0 0)
structure Le (M:Map) (s:St) (M':Map) (s':St):Prop where
 G : ∀ b o v,M.G b o=some v→M'.G b o=some v
 n:s.aw.length≤s'.aw.length
 loc : ∀ o,o<s.aw.length→tI (M.loc o) (M'.loc o)
 t:s.aE.length≤s'.aE.length
 tk : ∀ t n',t<s.aE.length→s'.aE[t]? = some (some n')→∃ n,s.aE[t]? = some (some n)∧n≤n'∧(n'=n→M'.be t=M.be t)
theorem Le.same {M:Map} {s:St} {M':Map} {s':St} (h:Le M s M' s') {o:Nat} (ho:o<s.aw.length) (hk : ∀ z A,M.ob o≠ .arr z A):M'.loc o=M.loc o:=by
 have:=h.loc o ho
 have mw : ∀ z A,(M.loc o).2≠ .arr z A:=hk
 generalize M.loc o=x at *
 generalize M'.loc o=y at *
 cases this with
 |refl=>rfl
 |arr b b' z A A' h=>exact(mw z A rfl).elim
theorem Ob.Fu {x:Ob} (h:x.plain) : ∀ z A,x≠ .arr z A:=fun z A e=>by subst e;exact h
theorem Le.mu {M:Map} {s:St} {M':Map} {s':St} (h:Le M s M' s') {o:Nat} (ho:o<s.aw.length) (hk : ∀ z A,M.ob o≠ .arr z A):M'.mu o=M.mu o:=congrArg Prod.fst (h.same ho hk)
theorem Le.ob {M:Map} {s:St} {M':Map} {s':St} (h:Le M s M' s') {o:Nat} (ho:o<s.aw.length) (hk : ∀ z A,M.ob o≠ .arr z A):M'.ob o=M.ob o:=congrArg Prod.snd (h.same ho hk)
theorem tI.ty {x y:Nat×Ob} (h:tI x y):y.2.ty? = x.2.ty? :=by cases h<;>rfl
theorem Le.ty {M:Map} {s:St} {M':Map} {s':St} (h:Le M s M' s') : ∀ o,o<s.aw.length→M'.ty o=M.ty o:=fun o ho=>(h.loc o ho).ty
theorem Le.arr {M:Map} {s:St} {M':Map} {s':St} (h:Le M s M' s') {o z:Nat} {A:Nat→Option (Nat×Nat)} (ho:o<s.aw.length) (hm:M.ob o = .arr z A) : ∃ A',M'.ob o = .arr z A'∧∀ g x,A g=some x→A' g=some x:=by
 have:=h.loc o ho
 have Lo:(M.loc o).2 = .arr z A:=hm
 show ∃ A',(M'.loc o).2=_∧_
 generalize M.loc o=x at *
 generalize M'.loc o=y at *
 cases this with
 |refl=>exact⟨A,Lo,fun _ _ h=>h⟩
 |arr b b' z A A' h=>cases Lo;exact⟨A',rfl,h⟩
theorem Le.refl (M:Map) (s:St):Le M s M s:=⟨fun _ _ _ h=>h,zaj _,fun _ _=> .refl _,zaj _,fun _ n _ h=>⟨n,h,zaj _,fun _=>rfl⟩⟩
theorem Le.trans {M M' Lp:Map} {s s' Qf:St} (h:Le M s M' s') (k:Le M' s' Lp Qf):Le M s Lp Qf:=
 ⟨fun b o v e=>k.G b o v (h.G b o v e),zaN h.n k.n,fun o ho=>(h.loc o ho).trans (k.loc o (Nat.lt_of_lt_of_le ho h.n)),zaN h.t k.t,
  fun t n'' ht e=>by
   obtain⟨n',e',l,b⟩:=k.tk t n'' (Nat.lt_of_lt_of_le ht h.t) e
   obtain⟨n,Lq,l',b'⟩:=h.tk t n' ht e'
   refine⟨n,Lq,zaN l' l,fun eq=>?_⟩
   have h1:n'=n:=by omega
   have h2:n''=n':=by omega
   rw[b h2,b' h1]⟩
theorem iM.mono {M M':Map} {s s':St} (h:Le M s M' s') {g:Tag} {size len cap:Nat} {base:Option (Nat×Nat)} (ht:iM M s g size len base cap) :
 iM M' s' g size len base cap:=by
 cases g with
 |full=>exact ht
 |shared=>trivial
 |tok t y=>
  obtain⟨hC,ht⟩:=ht
  refine⟨Nat.lt_of_lt_of_le hC h.t,fun n' e'=>?_⟩
  obtain⟨n,e,l,b⟩:=h.tk t n' hC e'
  obtain⟨l',b'⟩:=ht n e
  refine⟨zaN l' l,fun eq=>?_⟩
  have h1:n'=n:=by omega
  have h2:len=n:=by omega
  rw[b h1]
  exact b' h2
theorem RD.mono {M M':Map} {s s':St} (h:Le M s M' s') {d:D} {v:Value} (r:RD M s d v):RD M' s' d v:=by
 induction r with
 |junk v=>exact .junk v
 |int k n=>exact .int k n
 |bool b=>exact .bool b
 |str l=>exact .str l
 |fx=>exact .fx
 |ptr o off ho hm=>rw[← h.mu ho (Ob.Fu hm)];exact .ptr o off (Nat.lt_of_lt_of_le ho h.n) (by rw[h.ob ho (Ob.Fu hm)];exact hm)
 | dJ row off b k h1 h2 ih=>
  refine .dJ row off b k (fun i d e=>?_) (fun i d u e eu=>?_)
  ·obtain⟨u,hu⟩:=h1 i d e;exact⟨u,h.G _ _ _ hu⟩
  ·obtain⟨u',hu⟩:=h1 i d e
   have:=h.G _ _ _ hu
   rw[eu]at this
   cases this
   exact ih i d u e hu
 |jX g size cap hc ht=>exact .jX g size cap hc (ht.mono h)
 |nX size a cap=>exact .nX size a cap
 | slice g size rows b k cap hl hs h1 h2 ht ih=>
  refine .slice g size rows b k cap hl hs (fun i row j d e e2=>?_) (fun i row j d u e e2 eu=>?_) (ht.mono h)
  ·obtain⟨u,hu⟩:=h1 i row j d e e2;exact⟨u,h.G _ _ _ hu⟩
  ·obtain⟨u',hu⟩:=h1 i row j d e e2
   have:=h.G _ _ _ hu
   rw[eu]at this
   cases this
   exact ih i row j d u e e2 hu
 |agg cells vs hl h1 _ ih=>exact .agg cells vs hl h1 ih
 |tuple ds vs hl _ ih=>exact .tuple ds vs hl ih
 |val v hv=>exact .val v hv
 |fC T o v ho ht hv=>exact .fC T o v (Nat.lt_of_lt_of_le ho h.n) (by rw[h.ty o ho];exact ht) (by rw[h.mu ho (fun z A e=>by rw[Map.ty,show(M.loc o).2=_ from e]at ht;cases ht)];exact hv)
 |gK f ds vs hl _ ih=>exact .gK f ds vs hl ih
 |gH o ho hm=>
  have hk : ∀ z A,M.ob o≠ .arr z A:=fun z A e=>by rw[hm]at e;cases e
  rw[← h.mu ho hk];exact .gH o (Nat.lt_of_lt_of_le ho h.n) (by rw[h.ob ho hk];exact hm)
 |jD z o g len b cap A ho hm ha hl=>
  obtain⟨A',h1,h2⟩:=h.arr ho hm
  exact .jD z o g len b cap A' (Nat.lt_of_lt_of_le ho h.n) h1 (h2 g _ ha) hl
 |iT z o g off b cap A ho hm ha=>
  obtain⟨A',h1,h2⟩:=h.arr ho hm
  exact .iT z o g off b cap A' (Nat.lt_of_lt_of_le ho h.n) h1 (h2 g _ ha)
 |jK z a=>exact .jK z a
def St.live (s:St) (t:Nat):Prop:=∃ n,s.aE[t]? = some (some n)
def gm:List MapEntry→List Value
 | []=> []
 |e::l=>e.key::e.val::gm l
def iu (hp:Array Obj) (l:Nat×Ob) (vs:Array Value) (T:TypeId):Prop:=
 match l.2 with
 | .map=>∃ es ck,hp[l.1]? = some (.map es ck)∧vs.toList=gm es.toList
 | .arr z A=>∃ (us:Array Value) (g n cap:Nat),hp[l.1]? = some (.cells us T (0,0))∧A g=some (l.1,cap)∧(∀ g',g<g'→A g'=none)∧us.size=cap*z∧n≤us.size∧
  vs.toList = .int .i64 g::us.toList.take n∧∀ u∈us,u.oneCell'=true
 |_=>hp[l.1]? = some (.cells vs T (0,0))
theorem iu.cells {hp:Array Obj} {l:Nat×Ob} {vs:Array Value} {T:TypeId} (h:iu hp l vs T) (hk:l.2.plain):hp[l.1]? = some (.cells vs T (0,0)):=by
 obtain⟨b,k⟩:=l
 cases k with
 |map=>exact hk.elim
 |arr _ _=>exact hk.elim
 |any=>exact h
 |ty _=>exact h
theorem iu.of {hp:Array Obj} {l:Nat×Ob} {vs:Array Value} {T:TypeId} (h:hp[l.1]? = some (.cells vs T (0,0))) (hk:l.2.plain):iu hp l vs T:=by
 obtain⟨b,k⟩:=l
 cases k with
 |map=>exact hk.elim
 |arr _ _=>exact hk.elim
 |any=>exact h
 |ty _=>exact h
theorem iu.Mx {hp:Array Obj} {l:Nat×Ob} {vs:Array Value} {T:TypeId} (h:iu hp l vs T) (hk:l.2 = .map) : ∃ es ck,hp[l.1]? = some (.map es ck)∧vs.toList=gm es.toList:=by
 unfold iu at h
 rw[hk]at h
 exact h
theorem iu.ofMap {hp:Array Obj} {l:Nat×Ob} {vs:Array Value} {T:TypeId} (hk:l.2 = .map) (h : ∃ es ck,hp[l.1]? = some (.map es ck)∧vs.toList=gm es.toList):iu hp l vs T:=by
 unfold iu
 rw[hk]
 exact h
theorem iu.some {hp:Array Obj} {l:Nat×Ob} {vs:Array Value} {T:TypeId} (h:iu hp l vs T) : ∃ o,hp[l.1]? = some o:=by
 obtain⟨b,k⟩:=l
 cases k with
 |map=>obtain⟨es,ck,h,_⟩:=h;exact⟨_,h⟩
 |arr _ _=>obtain⟨us,g,n,cap,h,_⟩:=h;exact⟨_,h⟩
 |any=>exact⟨_,h⟩
 |ty _=>exact⟨_,h⟩
theorem iu.lt {hp:Array Obj} {l:Nat×Ob} {vs:Array Value} {T:TypeId} (h:iu hp l vs T):l.1<hp.size:=by
 obtain⟨o,h⟩:=h.some
 exact(zaS.1 h).1
theorem iu.keep {hp mI:Array Obj} {l:Nat×Ob} {vs:Array Value} {T:TypeId} (h:iu hp l vs T) (e:mI[l.1]? = hp[l.1]?):iu mI l vs T:=by
 unfold iu at h ⊢
 rw[e];exact h
structure Rel (M:Map) (s:St) (w:World):Prop where
 comm : ∀ b o v,M.G b o=some v→w.cell? ⟨b,o,none⟩=some v∧v.oneCell'=true
 obj : ∀ (o:Nat) (ds:List D),s.aw[o]? = some ds→∃ (vs:Array Value) (T:TypeId),iu w.heap (M.loc o) vs T∧vs.size=ds.length∧
  ((∀ v∈vs,v.oneCell'=true)∧∀ T',M.ty o=some T'→T'=T)∧∀ (i:Nat) (d:D) (v:Value),ds[i]? = some d→vs[i]? = some v→RD M s d v
 jY : ∀ o,o<s.aw.length→∀ off,M.G (M.mu o) off=none
 inj : ∀ o o',o<s.aw.length→o'<s.aw.length→M.mu o=M.mu o'→o=o'
 tok : ∀ t n,s.aE[t]? = some (some n)→(M.be t=none∧n=0)∨∃ (b cap z:Nat) (vs:Array Value) (T:TypeId),M.be t=some (b,cap,z)∧
  w.heap[b]? = some (.cells vs T (0,0))∧vs.size=cap*zs z∧n≤cap∧(∀ off,n*zs z≤off→M.G b off=none)∧(z=0→T=oZ)
 eP : ∀ t b c z o,s.live t→M.be t=some (b,c,z)→o<s.aw.length→M.mu o≠b
 fM : ∀ t t' b c z c' z',s.live t→s.live t'→M.be t=some (b,c,z)→M.be t'=some (b,c',z')→t=t'
structure Ext (M:Map) (s:St) (w:World) (M':Map) (s':St) (w':World):Prop where
 le:Le M s M' s'
 kept : ∀ b,b<w.heap.size→(∀ o,o<s.aw.length→M.mu o≠b)→(∀ t c z,s.live t→M.be t≠some (b,c,z))→w'.heap[b]? = w.heap[b]?
 uc : ∀ o,(s.aw.length≤o∨M'.mu o≠M.mu o)→o<s'.aw.length→w.heap.size≤M'.mu o
 qA : ∀ t b c z,s'.live t→M'.be t=some (b,c,z)→(s.live t∧∃ c' z',M.be t=some (b,c',z'))∨w.heap.size≤b
 sT : ∀ b o,M'.G b o≠M.G b o→w.heap.size≤b∨∃ t c z,s.live t∧M.be t=some (b,c,z)
 size:w.heap.size≤w'.heap.size
 os:w'.os=w.os
 tape:w'.tape=w.tape
 output:w'.output=w.output
theorem Ext.refl (M:Map) (s:St) (w:World):Ext M s w M s w:=
 ⟨Le.refl M s,fun _ _ _ _=>rfl,fun o h h'=>by rcases h with h|h;omega;exact(h rfl).elim,fun t b c z h e=> .inl ⟨h,c,z,e⟩,fun _ _ h=>(h rfl).elim,zaj _,rfl,rfl,rfl⟩
theorem Ext.mo {M M':Map} {s s':St} {w w':World} (h:Ext M s w M' s' w') {o:Nat} (ho:o<s'.aw.length):(o<s.aw.length∧M'.mu o=M.mu o)∨w.heap.size≤M'.mu o:=by
 by_cases h1:s.aw.length≤o
 ·exact .inr (h.uc o (.inl h1) ho)
 ·by_cases h2:M'.mu o=M.mu o
  ·exact .inl ⟨by omega,h2⟩
  ·exact .inr (h.uc o (.inr h2) ho)
theorem Ext.trans {M M' Lp:Map} {s s' Qf:St} {w w' w'':World} (h:Ext M s w M' s' w') (k:Ext M' s' w' Lp Qf w''):Ext M s w Lp Qf w'':=by
 refine⟨h.le.trans k.le,fun b hb ho ht=>?_,fun o h1 h2=>?_,fun t b c z h1 e=>?_,fun b o eF=>?_,zaN h.size k.size,
  k.os.trans h.os,k.tape.trans h.tape,k.output.trans h.output⟩
 ·rw [k.kept b (Nat.lt_of_lt_of_le hb h.size) (fun o hC e=> ?_) (fun t c z hC e=> ?_),h.kept b hb ho ht]
  ·rcases h.mo hC with ⟨h1,h2⟩ | h1
   ·exact ho o h1 (h2.symm.trans e)
   ·omega
  ·rcases h.qA t b c z hC e with ⟨h1,c',z',e'⟩ | h1
   ·exact ht t c' z' h1 e'
   ·omega
 ·rcases k.mo h2 with ⟨h3,h4⟩ | h3
  ·rw [h4]
   refine h.uc o ?_ h3
   rcases h1 with h1|h1
   ·exact .inl h1
   ·exact .inr (by rw[h4]at h1;exact h1)
  ·exact zaN h.size h3
 ·rcases k.qA t b c z h1 e with ⟨h2,c',z',e'⟩ | h2
  ·exact h.qA t b c' z' h2 e'
  ·exact .inr (zaN h.size h2)
 ·by_cases e:M'.G b o=M.G b o
  ·have:Lp.G b o≠M'.G b o:=fun e'=>eF (e'.trans e)
   rcases k.sT b o this with h1|⟨t,c,z,h1,h2⟩
   ·exact .inl (zaN h.size h1)
   ·rcases h.qA t b c z h1 h2 with ⟨h3,c',z',e'⟩ | h3
    ·exact .inr ⟨t,c',z',h3,e'⟩
    ·exact .inl h3
  ·exact h.sT b o e
def Laid (M:Map) (s:St) (w:World):Prop:=∀ g cs,aaC g=some cs→
 (∃ T fr,w.heap[g]? = some (.cells cs T fr))∧(∀ o,o<s.aw.length→M.mu o≠g)∧∀ t c z,s.live t→M.be t≠some (g,c,z)
theorem Laid.ext {M M':Map} {s s':St} {w w':World} (h:Laid M s w) (e:Ext M s w M' s' w'):Laid M' s' w':=by
 intro g cs hg
 obtain⟨⟨T,fr,h1⟩,h2,h3⟩:=h g cs hg
 have hC:g<w.heap.size:=(zaS.1 h1).1
 refine⟨⟨T,fr,by rw[e.kept g hC h2 h3];exact h1⟩,fun o ho=>?_,fun t c z hl hb=>?_⟩
 ·rcases e.mo ho with ⟨h4,h5⟩ | h4
  ·rw[h5];exact h2 o h4
  ·omega
 ·rcases e.qA t g c z hl hb with ⟨h4,c',z',h5⟩ | h4
  ·exact h3 t c' z' h4 h5
  ·omega
abbrev Tm:=List (Nat×D)
def Tm.get:Tm→Nat→D
 | [],_=> .junk
 |(k,d)::r,t=>if k=t then d else Tm.get r t
def Tm.set:Tm→Nat→D→Tm
 | [],t,d=> [(t,d)]
 |(k,e)::r,t,d=>if k=t then(k,d)::r else(k,e)::Tm.set r t d
def Tm.put (tm:Tm) (dst:Option Nat) (d:D):Tm:=
 match dst with
 |some t=>tm.set t d
 |none=>tm
inductive X where
 |s (t:Nat)
 |k (d:D)
def X.ev (tm:Tm):X→D
 | .s t=>tm.get t
 | .k d=>d
inductive FO where
 |ofInt (k:FloatKind)
 |toInt (k:IntKind)
 |TY
 |real
 |imag
 |eq
 |HI
 |Qg
inductive AO where
 |mv (x:X)
 |pick (c a b:X)
 |alloc (zero:List D)
 |box (x:X)
 |build (zero:List D) (parts:List (Nat×Nat×X))
 |om (zero:List D) (size n:Nat) (parts:List (Nat×X))
 |ud (zero:List D) (size n:Nat) (parts:List (Nat×X))
 |zp (x:X)
 |load (x:X) (agg:Bool) (size:Nat)
 |store (p x:X) (size:Nat)
 |CI (x:X)
 |bin (op:BinOp) (x y:X)
 |HJ (neg:Bool) (x y:X)
 |eqs (neg:Bool) (ks:List Nat) (x y:X) -- the fields' kinds: 0 an integer, 1 a bool, 2 a text
 |HK (neg:Bool) (x y:X)
 |un (op:UnOp) (x:X)
 |conv (k:IntKind) (x:X)
 |CJ (x:X)
 |wO (x:X)
 |Qh (size:Nat) (x:X) (lo hi:Option X)
 |HL (x:X) (lo hi:Option X)
 |CK (x:X) (off:Nat)
 |Qi (x:X) (off:Nat) (agg:Bool) (size:Nat)
 |CM (x i:X) (size:Nat)
 |HM (x i:X)
 |ext (x:X) (i:Nat)
 |len (x:X)
 |Ep (x:X)
 |app (size bytes:Nat) (x y:X)
 |mm (isMax:Bool) (x y:X)
 |sg (zero:List D) (T:TypeId) -- a new object whose first cell is to hold its own address
 |zr (x:X) (T:TypeId)
 |zt (x y:X) -- bytes behind others
 |apps (x y:X) -- a text's bytes behind others
 |AV (f:Nat) (xs:List X) -- a function value
 |vb
 |zu (m k v:X) -- a text's slice in a map
 |x4 (m k:X) (zero:D)
 |zv (size bytes:Nat) (zero:List D) (l c:X) -- a new array of zeros
 |sh (o:FO) (x y:X)
inductive AI where
 |jT (dst:Option Nat) (g:Option (Nat×Bool)) (t:Nat) (xs:List X) -- what a slot holds is called
 |nil (dst:Option Nat) (g:Option (Nat×Bool)) (neg:Bool) (x:X) -- is a slice nil? (of an empty one nothing is known)
 |op (dst:Option Nat) (g:Option (Nat×Bool)) (o:AO)
 |call (dst:Option Nat) (g:Option (Nat×Bool)) (f:Nat) (xs:List X)
inductive AC where
 |skip
 |run (is:List AI)
 |par (is:List AI) (lH:List (Nat×Nat))
 |seq (a b:AC)
 |cond (x:X) (a b:AC)
 |block (id:Nat) (a:AC)
 |loop (a:AC)
 |exit (id:Nat)
 |scope (a:AC)
 |label (l:Nat)
 |goto (l:Nat)
 |ret
structure AF where
 ntmps:Nat
 results:List (Nat×Option (Bool×Nat)) -- a slot; or a slot that holds the address, whether an aggregate, how many cells
 body:AC
inductive AK where
 |pure
 |load
 |alloc
 |core
 deriving DecidableEq
def AO.kind:AO→AK
 | .alloc _=> .core
 | .box _=> .core
 | .ud .. => .core
 | .zp _=> .core
 | .store .. => .core
 | .app .. => .core
 | .sg .. => .core
 | .zr .. => .core
 | .zt .. => .core
 | .apps .. => .core
 | .vb=> .core
 | .zu .. => .core
 | .zv .. => .core
 | .x4 .. => .load
 | .load .. => .load
 |_=> .pure
def AI.kind:AI→AK
 | .op (some _) none (.alloc _)=> .alloc
 | .op _ _ o=>o.kind
 |_=> .core
def AI.dst:AI→Option Nat
 | .op d _ _=>d
 | .call d _ _ _=>d
 | .nil d _ _ _=>d
 | .jT d _ _ _=>d
def X.reads:X→List Nat
 | .s t=> [t]
 | .k _=> []
def nH:List X→List Nat
 | []=> []
 |x::r=>x.reads++nH r
def zw:Option X→List Nat
 |none=> []
 |some x=>x.reads
def AO.reads:AO→List Nat
 | .mv x=>x.reads
 | .pick c a b=>c.reads++(a.reads++b.reads)
 | .alloc _=> []
 | .box x=>x.reads
 | .build _ ps=>nH (ps.map (·.2.2))
 | .om _ _ _ ps=>nH (ps.map (·.2))
 | .ud _ _ _ ps=>nH (ps.map (·.2))
 | .zp x=>x.reads
 | .load x _ _=>x.reads
 | .store p x _=>p.reads++x.reads
 | .CI x=>x.reads
 | .bin _ x y=>x.reads++y.reads
 | .HJ _ x y=>x.reads++y.reads
 | .eqs _ _ x y=>x.reads++y.reads
 | .HK _ x y=>x.reads++y.reads
 | .un _ x=>x.reads
 | .conv _ x=>x.reads
 | .CJ x=>x.reads
 | .wO x=>x.reads
 | .Qh _ x lo hi=>x.reads++(zw lo++zw hi)
 | .HL x lo hi=>x.reads++(zw lo++zw hi)
 | .CK x _=>x.reads
 | .Qi x _ _ _=>x.reads
 | .CM x i _=>x.reads++i.reads
 | .HM x i=>x.reads++i.reads
 | .ext x _=>x.reads
 | .len x=>x.reads
 | .Ep x=>x.reads
 | .app _ _ x y=>x.reads++y.reads
 | .mm _ x y=>x.reads++y.reads
 | .sg _ _=> []
 | .zr x _=>x.reads
 | .zt x y=>x.reads++y.reads
 | .apps x y=>x.reads++y.reads
 | .AV _ xs=>nH xs
 | .vb=> []
 | .zu m k v=>m.reads++(k.reads++v.reads)
 | .x4 m k _=>m.reads++k.reads
 | .zv _ _ _ l c=>l.reads++c.reads
 | .sh _ x y=>x.reads++y.reads
def uf:Option (Nat×Bool)→List Nat
 |none=> []
 |some (t,_)=> [t]
def AI.reads:AI→List Nat
 | .op _ g o=>uf g++o.reads
 | .call _ g _ xs=>uf g++nH xs
 | .nil _ g _ x=>uf g++x.reads
 | .jT _ g t xs=>uf g++(t::nH xs)
def CO (d:Option Nat) (l:List Nat):Bool:=
 match d with
 |none=>true
 |some t=> !l.contains t
def AI.apart (a q:AI):Bool:=
 CO a.dst q.reads && CO q.dst a.reads && (match a.dst,q.dst with|some x,some y=>x != y|_,_=>true)
def gQ (l:List (List Nat)) (i:Nat):List Nat:=l.getD i []
def jb (is:List AI) (i:Nat):AK:=
 match is[i]? with
 |some a=>a.kind
 |none=> .core
def kX (is:List AI) (i j:Nat):Bool:=
 match is[i]?,is[j]? with
 |some a,some b=>a.apart b
 |_,_=>false
def gn:AK→Bool
 | .core=>true
 | .alloc=>true
 |_=>false
def jn (is:List AI) (l:List Nat):Nat:=(l.filter fun i=>gn (jb is i)).length
def kS (is:List AI) (pq:List Nat):List Nat→Bool
 | []=>true
 |a::r=>(!(jb is a == .alloc && pq.contains a) ||r.all pq.contains) && kS is pq r
def oo (is:List AI) (pt:List (List Nat)) (pre:List Nat) (q b:Nat):Bool:=
 match jb is q with
 | .core=>pre.all (gQ pt q).contains
 | .alloc=>pre.all fun a=>kX is a q
 | .pure=>(pre.all fun a=>(gQ pt q).contains a ||kX is a q) && kS is (gQ pt q) pre
 | .load=>(pre.all fun a=>(gQ pt q).contains a ||kX is a q) && kS is (gQ pt q) pre &&
  decide (jn is (pre.filter fun a=> !(gQ pt q).contains a)≤b)
def tj (is:List AI) (af pt:List (List Nat)):List Nat→List (Nat×Nat)→Bool
 |_,[]=>true
 |pre,(q,b)::r=>oo is pt pre q b && !pre.contains q && ((gQ af q).all fun j=>j != q && !(r.map (·.1)).contains j) && tj is af pt (q::pre) r
def wP (af pt:List (List Nat)):Nat→Bool
 | 0=>true
 |i+1=>((gQ pt i).all fun j=>(gQ af i).contains j ||(gQ af i).any fun k=>(gQ pt k).contains j) && wP af pt i
def CP (is:List AI) (af pt:List (List Nat)) (lH:List (Nat×Nat)):Bool:=
 wP af pt is.length && tj is af pt [] lH && (List.range is.length).all (lH.map (·.1)).contains && lH.all (fun p=>decide (p.1<is.length)) &&
  (List.range is.length).all fun i=>(gQ af i).all fun j=>decide (j<is.length)
def kY (o:Oper):List Nat:=(o.after.toList.filter (Region.binds .any)).map (·.on)
def CQ:List (List Nat)→List (List Nat)→List (List Nat)
 |done,[]=>done
 |done,es::r=>CQ (done++ [(es.flatMap fun k=>gQ done k).foldl (fun l j=>if l.contains j then l else l++ [j]) es]) r
def My (is:List AI) (pt:List (List Nat)):List Nat→List Nat→List Nat→List Nat
 | [],rest,out=>out++((rest.filter fun j=>jb is j == .alloc)++rest.filter fun j=> !(jb is j == .alloc))
 |c::cs,rest,out=>
  let T5:=rest.filter fun j=>(gQ pt c).contains j
  My is pt cs (rest.filter fun j=> !(T5.contains j) && j != c) (out++((T5.filter fun j=>jb is j == .alloc)++(T5.filter fun j=> !(jb is j == .alloc))++ [c]))
def Mz (is:List AI) (pt:List (List Nat)):List Nat→List Nat→List (Nat×Nat)
 |_,[]=> []
 |pre,q::r=>(q,if jb is q == .load then jn is (pre.filter fun a=> !(gQ pt q).contains a)else 0)::Mz is pt (q::pre) r
def Qj (is:List AI) (af:List (List Nat)):List (Nat×Nat):=
 let pt:=CQ [] af
 let all:=List.range is.length
 Mz is pt [] (My is pt (all.filter fun i=>jb is i == .core) all [])
def D.row:D→Option (List D)
 | .agg cs=>some cs
 | .junk=>none
 | .tuple _=>none
 |d=>some [d]
def part (cs:List D) (off:Nat) (agg:Bool) (size:Nat):Option D:=
 match agg with
 |true=>if off+size≤cs.length then some (.agg ((cs.drop off).take size))else none
 |false=>cs[off]?
def iD (cs:List D) (off:Nat) (r:List D):List D:=cs.take off++r++cs.drop (off+r.length)
def qB (cells:List D):List (Nat×Nat×D)→Option (List D)
 | []=>some cells
 |(off,size,d)::rest=>
  match d.row with
  |none=>none
  |some r=>if r.length=size∧off+size≤cells.length then qB (iD cells off r) rest else none
def fE (zero:List D):Nat→List (List D)
 | 0=> []
 |n+1=>zero::fE zero n
def jM (size:Nat) (rows:List (List D)):List (Nat×D)→Option (List (List D))
 | []=>some rows
 |(i,d)::rest=>
  match d.row with
  |none=>none
  |some r=>if r.length=size∧i<rows.length then jM size (rows.set i r) rest else none
def bytesLess:List UInt8→List UInt8→Bool:=Op.bytesLess
def bh:Nat:=1099511627776
def aaD (k:IntKind) (a b:Int):Int:=k.wrap ((BitVec.ofInt k.bits a &&& BitVec.ofInt k.bits b).toNat)
def bOr (k:IntKind) (a b:Int):Int:=k.wrap ((BitVec.ofInt k.bits a |||BitVec.ofInt k.bits b).toNat)
def HN (k:IntKind) (a b:Int):Int:=k.wrap ((BitVec.ofInt k.bits a ^^^ BitVec.ofInt k.bits b).toNat)
def aaE (k:IntKind) (a b:Int):Int:=k.wrap (a*2 ^ (min b.toNat k.bits))
def aaF (k:IntKind) (a b:Int):Int:=a.fdiv (2 ^ (min b.toNat k.bits))
def eZ (op:BinOp) (k:IntKind) (a b:Int):Option D:=
 match op with
 | .add=>some (.int k (k.wrap (a+b)))
 | .sub=>some (.int k (k.wrap (a - b)))
 | .mul=>some (.int k (k.wrap (a*b)))
 | .quo=>if b=0 then none else some (.int k (k.wrap (a.tdiv b)))
 | .rem=>if b=0 then none else some (.int k (a.tmod b))
 | .eql=>some (.bool (a==b))
 | .neq=>some (.bool (a != b))
 | .lss=>some (.bool (decide (a<b)))
 | .leq=>some (.bool (decide (a≤b)))
 | .gtr=>some (.bool (decide (a > b)))
 | .geq=>some (.bool (decide (a≥b)))
 | .and=>some (.int k (aaD k a b))
 | .or=>some (.int k (bOr k a b))
 | .xor=>some (.int k (HN k a b))
 | .shl=>if b<0 then none else some (.int k (aaE k a b))
 | .shr=>if b<0 then none else some (.int k (aaF k a b))
 |_=>none
def nI (op:BinOp) (a b:List UInt8):Option D:=
 match op with
 | .add=>if a.length+b.length≤bh then some (.str (a++b))else none
 | .eql=>some (.bool (a==b))
 | .neq=>some (.bool (!(a==b)))
 | .lss=>some (.bool (bytesLess a b))
 |_=>none
def v8 (op:BinOp) (x y:D):Option D:=
 match x,y with
 | .int k a, .int k' b=>if k=k' then eZ op k a b else none
 | .str a, .str b=>nI op a b
 |_,_=>none
def mJ:Nat→D→D→Option Bool
 | 0, .int k a, .int k' b=>if k=k' then some (a==b)else none
 | 1, .bool a, .bool b=>some (a==b)
 | 2, .str a, .str b=>some (a==b)
 |_,_,_=>none
def kZ:List Nat→List D→List D→Option Bool
 | [],[],[]=>some true
 |k::ks,x::xs,y::ys=>
  match mJ k x y with
  |none=>none
  |some true=>kZ ks xs ys
  |some false=>some false
 |_,_,_=>none
def Fv (op:UnOp) (x:D):Option D:=
 match op,x with
 | .neg, .int k n=>some (.int k (k.wrap (0 - n)))
 | .not, .bool b=>some (.bool (!b))
 | .xor, .int k n=>some (.int k (HN k (if k.signed then -1 else k.max) n))
 |_,_=>none
def Fw:List D→Option UInt8
 | [.int .u8 n]=>some (UInt8.ofNat n.toNat)
 |_=>none
def nS:List (List D)→Option (List UInt8)
 | []=>some []
 |r::rs=>
  match Fw r,nS rs with
  |some b,some bs=>some (b::bs)
  |_,_=>none
def Tag.cut (g:Tag) (whole:Bool):Tag:=
 match g with
 | .full=>if whole then .full else .shared
 |g=>g
def vd (lo:Option D):Option Int:=
 match lo with
 |none=>some 0
 |some (.int _ n)=>some n
 |_=>none
def ve (hi:Option D) (len:Nat):Option Int:=
 match hi with
 |none=>some len
 |some (.int _ n)=>some n
 |_=>none
def fP (size bytes:Nat) (x y:D) (s:St):Option (D×St):=
 match x,y with
 | .slice g z rows, .slice _ z' new=>
  if(rows = []∨z=size)∧(new = []∨z'=size)∧(rows.length+new.length)*(bytes+1)≤bh then
   match new with
   | []=>some (.slice g z rows,s)
   |_::_=>
    match g with
    | .full=>some (.slice (.tok s.aE.length) size (rows++new),{s with aE:=s.aE++ [some (rows.length+new.length)]})
    | .shared=>none
    | .tok _ true=>none
    | .tok t false=>if z=size∧s.aE[t]? = some (some rows.length)then some (.slice (.tok t) size (rows++new),{s with aE:=s.aE.set t (some (rows.length+new.length))})else none
  else none
 |_,_=>none
def zz (x y:D) (s:St):Option (D×St):=
 match x,y with
 | .slice g z rows, .slice _ z' new=>
  if(rows = []∨z=1)∧(new = []∨z'=1)∧(rows.length+new.length)*2≤bh then
   match new with
   | []=>some (.slice g z rows,s)
   |_::_=>
    match g with
    | .full=>some (.slice (.tok s.aE.length true) 1 (rows++new),{s with aE:=s.aE++ [some (rows.length+new.length)]})
    | .shared=>none
    | .tok t y=>if z=1∧s.aE[t]? = some (some rows.length)then some (.slice (.tok t y) 1 (rows++new),{s with aE:=s.aE.set t (some (rows.length+new.length))})else none
  else none
 |_,_=>none
def x5 (key:List UInt8) (zero:D):List D→Option D
 | []=>some zero
 | .str k::d::r=>if k==key then some d else x5 key zero r
 |_=>none
def we (key:List UInt8) (v:D):List D→Option (List D)
 | []=>some [.str key,v]
 | .str k::d::r=>if k==key then some (.str k::v::r)else match we key v r with|some r'=>some (.str k::d::r')|none=>none
 |_=>none
def vf (s:St) (o g:Nat):Option (List D):=
 match s.aw[o]? with
 |some (.int .i64 n::cells)=>if n=(g:Int)then some cells else none
 |_=>none
def AW (d:D) (agg:Bool) (size:Nat) (s:St):Option (D×St):=
 match d with
 | .iT o g off=>
  match vf s o g with
  |some cells=>(match part cells off agg size with|some d=>some (d,s)|none=>none)
  |none=>none
 |_=>none
def CR (d:D) (r:Option (List D)) (size:Nat) (s:St):Option (D×St):=
 match d,r with
 | .iT o g off,some r=>match vf s o g with
  |some cells=>if r.length=size∧off+size≤cells.length then some (.tuple [],{s with aw:=s.aw.set o (.int .i64 g::iD cells off r)})else none
  |none=>none
 |_,_=>none
def T6 (d:D):Option D:=
 match d with
 | .iT o g off=>some (.iT o g off)
 |_=>none
def HO (d:D) (off:Nat):Option D:=
 match d with
 | .iT o g k=>some (.iT o g (k+off))
 |_=>none
def CS (d e:D) (size:Nat):Option D:=
 match d,e with
 | .jD z o g len, .int _ n=>if 0≤n∧n<len∧z=size then some (.iT o g (n.toNat*z))else none
 |_,_=>none
def MA (d:D) (lo hi:Option D):Option D:=
 match d with
 | .jD z o g len=>
  match vd lo,ve hi len with
  |some l,some h=>if l=0∧0≤h∧h≤len then some (.jD z o g h.toNat)else none
  |_,_=>none
 | .jK z=>
  match vd lo,ve hi 0 with
  |some l,some h=>if l=0∧h=0 then some (.jK z)else none
  |_,_=>none
 |_=>none
def MB (d:D):Option D:=
 match d with
 | .jD _ _ _ len=>some (.int .i64 len)
 | .jK _=>some (.int .i64 0)
 |_=>none
def MC (size bytes:Nat) (x y:D) (s:St):Option (D×St):=
 match x,y with
 | .jD z o g len, .slice _ z' new=>
  if z=size∧(new = []∨z'=size)∧(len+new.length)*(bytes+1)≤bh then
   match new with
   | []=>some (.jD z o g len,s)
   |_::_=>match vf s o g with
    |some cells=>if len*z≤cells.length then some (.jD z o (g+1) (len+new.length),{s with aw:=s.aw.set o (.int .i64 ((g+1:Nat):Int)::(cells.take (len*z)++new.flatten))})else none
    |none=>none
  else none
 | .jK z, .slice _ z' new=>
  if z=size∧(new = []∨z'=size)∧new.length*(bytes+1)≤bh then
   match new with
   | []=>some (.jK z,s)
   |_::_=>some (.jD z s.aw.length 0 new.length,{s with aw:=s.aw++ [.int .i64 ((0:Nat):Int)::new.flatten]})
  else none
 |_,_=>none
def T7 (k:FloatKind) (a b:Nat):Option Nat:=k.format.add a b
def ug (o:FO) (x y:D):Option D:=
 match o,x,y with
 | .ofInt k, .int _ n,_=>some (.val (.float k (k.nearest n)))
 | .toInt k, .val (.float s b),_=>match (s.decode b).toInt .zero with|some n=>if k.min≤n∧n≤k.max then some (.int k n)else none|none=>none
 | .TY, .val (.float k a), .val (.float k' b)=>if k=k' then some (.val (.complex k a b))else none
 | .real, .val (.complex k a _),_=>some (.val (.float k a))
 | .imag, .val (.complex k _ b),_=>some (.val (.float k b))
 | .eq, .val (.float k a), .val (.float k' b)=>if k=k' then some (.bool (k.format.order a b==some .eq))else none
 | .HI, .val (.complex k a b), .val (.complex k' c d)=>if k=k' then(match T7 k a c,T7 k b d with|some e,some f=>some (.val (.complex k e f))|_,_=>none)else none
 | .Qg, .val (.complex k a b), .val (.complex k' c d)=>if k=k' then some (.bool (k.format.order a c==some .eq && k.format.order b d==some .eq))else none
 |_,_,_=>none
def a6 (o:AO) (tm:Tm) (s:St):Option (D×St):=
 match o with
 | .mv x=>some (x.ev tm,s)
 | .pick c a b=>
  match c.ev tm with
  | .bool t=>some (if t then a.ev tm else b.ev tm,s)
  |_=>none
 | .alloc zero=>some (.ptr s.aw.length 0,{s with aw:=s.aw++ [zero]})
 | .box x=>
  match (x.ev tm).row with
  |some r=>some (.ptr s.aw.length 0,{s with aw:=s.aw++ [r]})
  |none=>none
 | .build zero parts=>
  match qB zero (parts.map fun p=>(p.1,p.2.1,p.2.2.ev tm))with
  |some cs=>some (.agg cs,s)
  |none=>none
 | .om zero size n parts=>
  match jM size (fE zero n) (parts.map fun p=>(p.1,p.2.ev tm))with
  |some rows=>some (.slice .full size rows,s)
  |none=>none
 | .ud zero size n parts=>
  match jM size (fE zero n) (parts.map fun p=>(p.1,p.2.ev tm))with
  |some rows=>some (.slice (.tok s.aE.length) size rows,{s with aE:=s.aE++ [some rows.length]})
  |none=>none
 | .zp x=>
  match x.ev tm with
  | .slice (.tok t _) z rows=>if rows≠ []∧s.aE[t]? = some (some rows.length)then some (.slice .shared z rows,{s with aE:=s.aE.set t none})else none
  |_=>none
 | .load x agg size=>
  match x.ev tm with
  | .ptr o off=>
   match s.aw[o]? with
   |some cs=>match part cs off agg size with|some d=>some (d,s)|none=>none
   |none=>none
  | .dJ row off=>match part row off agg size with|some d=>some (d,s)|none=>none
  |d=>AW d agg size s
 | .store p x size=>
  match p.ev tm,(x.ev tm).row with
  | .ptr o off,some r=>
   match s.aw[o]? with
   |some cs=>if r.length=size∧off+size≤cs.length then some (.tuple [],{s with aw:=s.aw.set o (iD cs off r)})else none
   |none=>none
  |d,r=>CR d r size s
 | .CI x=>
  match x.ev tm with
  | .ptr o off=>some (.ptr o off,s)
  | .dJ row off=>some (.dJ row off,s)
  |d=>match T6 d with|some d=>some (d,s)|none=>none
 | .bin op x y=>match v8 op (x.ev tm) (y.ev tm)with|some d=>some (d,s)|none=>none
 | .HJ neg x y=>
  match x.ev tm,y.ev tm with
  | .bool a, .bool b=>some (.bool (if neg then !(a==b)else a==b),s)
  |_,_=>none
 | .eqs neg ks x y=>
  match x.ev tm,y.ev tm with
  | .agg a, .agg b=>match kZ ks a b with|some e=>some (.bool (if neg then !e else e),s)|none=>none
  |_,_=>none
 | .HK neg x y=>
  match x.ev tm,y.ev tm with
  | .fx, .fx=>some (.bool (!neg),s)
  | .ptr _ _, .fx=>some (.bool neg,s)
  | .dJ _ _, .fx=>some (.bool neg,s)
  |_,_=>none
 | .un op x=>match Fv op (x.ev tm)with|some d=>some (d,s)|none=>none
 | .conv k x=>match x.ev tm with| .int _ n=>some (.int k (k.wrap n),s)|_=>none
 | .CJ x=>
  match x.ev tm with
  | .slice _ _ rows=>match nS rows with|some b=>some (.str b,s)|none=>none
  |_=>none
 | .wO x=>
  match x.ev tm with
  | .str l=>some (.slice .shared 1 (l.map fun c=> [.int .u8 c.toNat]),s)
  |_=>none
 | .Qh size x lo hi=>
  match x.ev tm with
  | .slice g z rows=>
   match vd (lo.map (·.ev tm)),ve (hi.map (·.ev tm)) rows.length with
   | some l,some h=>
    if(rows = []∨z=size)∧0≤l∧l≤h∧h≤rows.length then
     some (.slice (if l=0 then g.cut (h=rows.length)else .shared) z ((rows.take h.toNat).drop l.toNat),s)else none
   |_,_=>none
  |d=>match MA d (lo.map (·.ev tm)) (hi.map (·.ev tm))with|some d=>some (d,s)|none=>none
 | .HL x lo hi=>
  match x.ev tm with
  | .str t=>
   match vd (lo.map (·.ev tm)),ve (hi.map (·.ev tm)) t.length with
   |some l,some h=>if 0≤l∧l≤h∧h≤t.length then some (.str ((t.take h.toNat).drop l.toNat),s)else none
   |_,_=>none
  |_=>none
 | .CK x off=>
  match x.ev tm with
  | .ptr o k=>some (.ptr o (k+off),s)
  | .dJ row k=>some (.dJ row (k+off),s)
  |d=>match HO d off with|some d=>some (d,s)|none=>none
 | .Qi x off agg size=>
  match x.ev tm with
  | .agg cs=>match part cs off agg size with|some d=>some (d,s)|none=>none
  |_=>none
 | .CM x i size=>
  match x.ev tm,i.ev tm with
  | .slice _ z rows, .int _ n=>
   if 0≤n∧z=size then
    match rows[n.toNat]? with
    |some row=>some (.dJ row 0,s)
    |none=>none
   else none
  |d,e=>match CS d e size with|some d=>some (d,s)|none=>none
 | .HM x i=>
  match x.ev tm,i.ev tm with
  | .str t, .int _ n=>
   if 0≤n then
    match t[n.toNat]? with
    |some c=>some (.int .u8 c.toNat,s)
    |none=>none
   else none
  |_,_=>none
 | .ext x i=>
  match x.ev tm with
  | .tuple ds=>match ds[i]? with|some d=>some (d,s)|none=>none
  |_=>none
 | .Ep x=>
  match x.ev tm with
  | .str t=>some (.int .i64 t.length,s)
  |_=>none
 | .len x=>
  match x.ev tm with
  | .slice _ _ rows=>some (.int .i64 rows.length,s)
  |d=>match MB d with|some d=>some (d,s)|none=>none
 | .app size bytes x y=>
  match x.ev tm with
  | .slice g z rows=>fP size bytes (.slice g z rows) (y.ev tm) s
  |d=>MC size bytes d (y.ev tm) s
 | .mm isMax x y=>
  match x.ev tm,y.ev tm with
  | .int k a, .int k' b=>if k=k' then some (.int k (if isMax then(if b > a then b else a)else(if b<a then b else a)),s)else none
  |_,_=>none
 | .sg zero T=>
  match zero with
  | .fx::r=>some (.ptr s.aw.length 0,{s with aw:=s.aw++ [.fC T s.aw.length::r]})
  |_=>none
 | .zr x T=>
  match (x.ev tm).row with
  |some (.fx::r)=>some (.ptr s.aw.length 0,{s with aw:=s.aw++ [.fC T s.aw.length::r]})
  |_=>none
 | .zt x y=>zz (x.ev tm) (y.ev tm) s
 | .apps x y=>
  match y.ev tm with
  | .str l=>zz (x.ev tm) (.slice .shared 1 (l.map fun c=> [.int .u8 c.toNat])) s
  |_=>none
 | .AV f xs=>some (.gK f (xs.map (·.ev tm)),s)
 | .vb=>some (.gH s.aw.length,{s with aw:=s.aw++ [[]]})
 | .zu m k v=>
  match m.ev tm,k.ev tm,v.ev tm with
  | .gH o, .str key, .slice g z rows=>
   match s.aw[o]? with
   |some cs=>match we key (.slice g z rows) cs with|some ph=>some (.tuple [],{s with aw:=s.aw.set o ph})|none=>none
   |none=>none
  |_,_,_=>none
 | .x4 m k zero=>
  match m.ev tm,k.ev tm with
  | .gH o, .str key=>
   match s.aw[o]? with
   |some cs=>match x5 key zero cs with|some d=>some (d,s)|none=>none
   |none=>none
  |_,_=>none
 | .zv size bytes zero l c=>
  match l.ev tm,c.ev tm with
  | .int .i64 n, .int .i64 m=>if n=m∧0≤n∧n*((bytes:Int)+1)≤bh then some (.jD size s.aw.length 0 n.toNat,{s with aw:=s.aw++ [.int .i64 ((0:Nat):Int)::(fE zero n.toNat).flatten]})else none
  |_,_=>none
 | .sh o x y=>match ug o (x.ev tm) (y.ev tm)with|some d=>some (d,s)|none=>none
def T8 (b:ByteArray):List UInt8:=b.data.toList
def rz:Value→Option D
 | .int k n=>some (.int k n)
 | .bool b=>some (.bool b)
 | .string b=>some (.str (T8 b))
 | .pointer none=>some .fx
 | .slice none 0 0=>some (.slice .full 0 [])
 | .nilIface=>some (.val .nilIface)
 | .float k b=>some (.val (.float k b))
 | .complex k a b=>some (.val (.complex k a b))
 |_=>none
def np:List Value→Option (List D)
 | []=>some []
 |v::r=>match rz v,np r with|some d,some ds=>some (d::ds)|_,_=>none
def BY:Value→Option D
 | .slice none 0 0=>some (.val (.slice none 0 0))
 |v=>rz v
def vg:List Value→Option (List D)
 | []=>some []
 |v::r=>match BY v,vg r with|some d,some ds=>some (d::ds)|_,_=>none
def MD:Value→Option D
 | .agg cs=>(np cs.toList).map .agg
 | .tuple ⟨[]⟩=>some (.tuple [])
 |v=>rz v
def cX:Operand→Option X
 | .tmp t=>some (.s t)
 | .const v=>(MD v).map .k
 | .func f=>some (.k (.gK f []))
 |_=>none
def wQ:List Operand→Option (List X)
 | []=>some []
 |x::r=>match cX x,wQ r with|some d,some ds=>some (d::ds)|_,_=>none
def Xv:Option Operand→Option (Option X)
 |none=>some none
 |some x=>(cX x).map some
section
variable (P:Program)
def qC (t:TypeId):Option Bool:=
 match P.underlying t with
 |some (.struct _)|some (.array _ _)=>some true
 |some _=>some false
 |none=>none
def zeroOf (t:TypeId):Option (List D):=
 match P.info? t with
 |some i=>match i.zero with|some z=>if z.cells.size=i.size then np z.cells.toList else none|none=>none
 |none=>none
def ma (t:TypeId) (f:Nat):Option (Nat×Nat×Bool):=
 match P.underlying t with
 | some (.struct fs)=>
  match fs[f]? with
  |some fd=>match P.info? fd.type,qC P fd.type with
   |some i,some a=>if i.size=0 then none else some (fd.offset,i.size,a)
   |_,_=>none
  |none=>none
 |_=>none
def Qk (t u:TypeId):Bool:=
 match P.underlying u with
 |some (.pointer e)=>e==t
 |_=>false
def aaG (t:TypeId):Bool:=
 match P.underlying t with
 |some (.struct fs)=>
  match fs[0]? with
  |some f=>Qk P t f.type
  |none=>false
 |_=>false
def ME (t:TypeId):Bool:=
 match P.underlying t with
 |some (.struct fs)=>
  match fs[0]? with
  |some f=>Qk P t f.type ||aaG P f.type
  |none=>false
 |_=>false
def MF (self:Bool) (l:List Value):Option (List D):=if self then vg l else np l
def x6 (t:TypeId):Option (List D):=
 match P.info? t with
 |some i=>match i.zero with|some z=>if z.cells.size=i.size then MF (ME P t) z.cells.toList else none|none=>none
 |none=>none
def zC (t:TypeId):List (Nat×Operand)→Option (List (Nat×Nat×X))
 | []=>some []
 |(i,x)::r=>match ma P t i,cX x,zC t r with
  |some (off,size,_),some x',some r'=>some ((off,size,x')::r')
  |_,_,_=>none
def HP:List (Nat×Operand)→Option (List (Nat×X))
 | []=>some []
 |(i,x)::r=>match cX x,HP r with
  |some x',some r'=>some ((i,x')::r')
  |_,_=>none
def jZ (t:TypeId):Option Nat:=
 match P.underlying t with
 |some (.int _)=>some 0
 |some .bool=>some 1
 |some .string=>some 2
 |_=>none
def AX:Nat→List Field→Option (List Nat)
 |_,[]=>some []
 | n,f::fs=>
  if f.offset=n∧f.name≠ "_" then
   match jZ P f.type,AX (n+1) fs with
   |some k,some ks=>some (k::ks)
   |_,_=>none
  else none
def pJ (t:TypeId):Option (List Nat):=
 match P.underlying t with
 |some (.struct fs)=>if P.eqGuardType P.depth t=false∧P.stoodInHeld t=false then AX P 0 fs.toList else none
 |_=>none
def CT (o:Oper):Option AO:=
 match o.op with
 | .move x| .assign x=>(cX x).map .mv
 | .pick c a b=>match cX c,cX a,cX b with|some c,some a,some b=>some (.pick c a b)|_,_,_=>none
 | .alloc t=>if ME P t then(x6 P t).map (.sg · t)else(zeroOf P t).map .alloc
 | .box t x=>if ME P t then(cX x).map (.zr · t)else(cX x).map .box
 | .build t parts=>
  match P.underlying t,x6 P t,zC P t parts.toList with
  |some (.struct fs),some z,some ps=>if fs.toList.all fun f=>(P.info? f.type).isSome then some (.build z ps)else none
  |_,_,_=>none
 | .buildSlice t n parts=>
  match P.underlying t with
  |some (.slice e)=>
   match P.info? e,zeroOf P e,HP parts.toList with
   |some i,some z,some ps=>if 0<i.size∧n*i.size≤65536 then some (.om z i.size n ps)else none
   |_,_,_=>none
  |_=>none
 | .load t x=>
  match cX x,qC P t,P.info? t with
  |some x,some a,some i=>some (.load x a i.size)
  |_,_,_=>none
 | .store t a x=>
  match cX a,cX x,P.info? t with
  |some a,some x,some i=>some (.store a x i.size)
  |_,_,_=>none
 | .nilCheck x=>(cX x).map .CI
 | .binOp op t x y _=>
  match cX x,cX y with
  |some x,some y=>
   match P.underlying t,op with
   |some (.int _),_=>some (.bin op x y)
   |some .string,_=>some (.bin op x y)
   |some .bool, .eql=>some (.HJ false x y)
   |some .bool, .neq=>some (.HJ true x y)
   |some (.pointer _), .eql=>some (.HK false x y)
   |some (.pointer _), .neq=>some (.HK true x y)
   |some (.struct _), .eql=>(pJ P t).map (.eqs false · x y)
   |some (.struct _), .neq=>(pJ P t).map (.eqs true · x y)
   |some (.float _), .eql=>some (.sh .eq x y)
   |some (.complex _), .add=>some (.sh .HI x y)
   |some (.complex _), .eql=>some (.sh .Qg x y)
   |_,_=>none
  |_,_=>none
 | .unOp op _ x=>(cX x).map (.un op)
 | .convert src dst x=>
  match cX x,P.underlying src,P.underlying dst with
  |some x,some (.int _),some (.int k)=>some (.conv k x)
  |some x,some (.slice e),some .string=>match P.underlying e with|some (.int .u8)=>some (.CJ x)|_=>none
  |some x,some (.slice e),some (.slice _)=>match P.underlying e with|some (.int .u8)=>if src=dst then some (.zp x)else none|_=>none
  |some x,some .string,some (.slice e)=>match P.underlying e,P.info? e with|some (.int .u8),some i=>if i.size=1 then some (.wO x)else none|_,_=>none
  |some x,some (.int _),some (.float k)=>some (.sh (.ofInt k) x x)
  |some x,some (.float _),some (.int k)=>some (.sh (.toInt k) x x)
  |_,_,_=>none
 | .slice t x lo hi none=>
  match cX x,Xv lo,Xv hi,P.underlying t with
  |some x,some lo,some hi,some .string=>some (.HL x lo hi)
  |some x,some lo,some hi,some (.slice e)=>match P.info? e with|some i=>some (.Qh i.size x lo hi)|none=>none
  |_,_,_,_=>none
 | .fieldAddr t x f=>match cX x,ma P t f with|some x,some (off,_,_)=>some (.CK x off)|_,_=>none
 | .field t x f=>match cX x,ma P t f with|some x,some (off,size,a)=>some (.Qi x off a size)|_,_=>none
 | .indexAddr t x i=>
  match cX x,cX i,P.underlying t with
  |some x,some i,some (.slice e)=>match P.info? e with|some j=>if 0<j.size then some (.CM x i j.size)else none|none=>none
  |_,_,_=>none
 | .index t x i=>match cX x,cX i,P.underlying t with|some x,some i,some .string=>some (.HM x i)|_,_,_=>none
 | .extract x i=>(cX x).map (.ext · i)
 | .call {callee:= .builtin .len,args,argTypes}=>
  match args.toList,argTypes.toList with
  | [x],[t]=>match P.underlying t with
   |some .string=>(cX x).map .Ep
   |some (.slice _)=>(cX x).map .len
   |_=>none
  |_,_=>none
 | .call {callee:= .builtin .append,args,argTypes}=>
  match args.toList,argTypes.toList with
  | [x,y],[t,u]=>match P.underlying t,P.underlying u,cX x,cX y with
   |some (.slice e),some (.slice _),some x,some y=>match P.info? e,zeroOf P e with
    |some i,some _=>if 0<i.size then some (if e=oZ∧i.size=1∧i.bytes=1 then .zt x y else .app i.size i.bytes x y)else none
    |_,_=>none
   |some (.slice e),some .string,some x,some y=>match P.info? e,zeroOf P e with
    |some i,some _=>if e=oZ∧i.size=1∧i.bytes=1 then some (.apps x y)else none
    |_,_=>none
   |_,_,_,_=>none
  |_,_=>none
 | .call {callee:= .builtin .max,args, ..}=>
  match args.toList with
  | [x,y]=>match cX x,cX y with|some x,some y=>some (.mm true x y)|_,_=>none
  |_=>none
 | .call {callee:= .builtin .min,args, ..}=>
  match args.toList with
  | [x,y]=>match cX x,cX y with|some x,some y=>some (.mm false x y)|_,_=>none
  |_=>none
 | .call {callee:= .builtin .complex,args, ..}=>
  match args.toList with
  | [x,y]=>match cX x,cX y with|some x,some y=>some (.sh .TY x y)|_,_=>none
  |_=>none
 | .call {callee:= .builtin .real,args, ..}=>
  match args.toList with
  | [x]=>(cX x).map fun x=> .sh .real x x
  |_=>none
 | .call {callee:= .builtin .imag,args, ..}=>
  match args.toList with
  | [x]=>(cX x).map fun x=> .sh .imag x x
  |_=>none
 | .makeSlice t l c=>
  match cX l,cX c,P.underlying t with
  |some l,some c,some (.slice e)=>match P.info? e,zeroOf P e with
   |some i,some z=>if 0<i.size then some (.zv i.size i.bytes z l c)else none
   |_,_=>none
  |_,_,_=>none
 | .makeFunc (.func f) first captured=>if first.size=0 then(wQ captured.toList).map (.AV f)else none
 | .makeMap t none=>match P.underlying t with|some (.map _ _)=>some .vb|_=>none
 | .mapUpdate t m k v=>
  match P.underlying t,cX m,cX k,cX v with
  |some (.map kt _),some m,some k,some v=>match P.underlying kt with|some .string=>some (.zu m k v)|_=>none
  |_,_,_,_=>none
 | .lookup t m k false=>
  match P.underlying t,cX m,cX k with
  |some (.map kt e),some m,some k=>
   match P.underlying kt,P.info? e with
   |some .string,some i=>match i.zero with|some z=>(rz z).map (.x4 m k)|none=>none
   |_,_=>none
  |_,_,_=>none
 |_=>none
def uh (ops:Array Oper):Option (Nat×Bool)→Option (Option (Nat×Bool))
 |none=>some none
 |some (j,b)=>
  match (ops[j]?).bind (·.dst)with
  |some t=>some (some (t,b))
  |none=>none
def enters (f:FuncId):Bool:=
 match P.funcs[f]? with
 |some fn=>fn.body.isSome && !(fn.name == "runtime.NumGoroutine")
 |none=>false
def frozenIn (ops:Array Oper) (dst:Option Nat):Bool:=
 ops.toList.any fun o=>match o.op,dst with
  | .convert s d (.tmp t),some t'=>t==t' && s==d
  |_,_=>false
def Es (o:Oper):Option (Bool×X):=
 match o.op with
 | .binOp op t x (.const (.slice none 0 0)) _=>
  match P.underlying t,op,cX x with
  |some (.slice _), .eql,some x=>some (false,x)
  |some (.slice _), .neq,some x=>some (true,x)
  |_,_,_=>none
 |_=>none
def Xw (nt:Nat) (dst:Option Nat):Bool:=
 match dst with
 |some d=>decide (d<nt)
 |none=>true
def rS (ops:Array Oper) (o:Oper) (g:Option (Nat×Bool)):Option AI:=
 match o.op with
 | .call {callee:= .value (.func f),args, ..}=>if enters P f then(wQ args.toList).map (.call o.dst g f)else none
 | .call {callee:= .value (.tmp t),args, ..}=>(wQ args.toList).map (.jT o.dst g t)
 | _=>
  match Es P o with
  |some (neg,x)=>some (.nil o.dst g neg x)
  |none=>
   match CT P o with
   |some (.om z k n ps)=>some (.op o.dst g (if frozenIn ops o.dst then .ud z k n ps else .om z k n ps))
   |some ao=>some (.op o.dst g ao)
   |none=>none
def cI (nt:Nat) (ops:Array Oper) (o:Oper):Option AI:=
 match uh ops o.guard with
 |none=>none
 |some g=>if Xw nt o.dst=true then rS P ops o g else none
def pK (nt:Nat) (ops:Array Oper):List Oper→Option (List AI)
 | []=>some []
 |o::r=>match cI P nt ops o,pK nt ops r with|some i,some is=>some (i::is)|_,_=>none
def MG (is:List AI) (af:List (List Nat)):Option AC:=
 if CP is af (CQ [] af) (Qj is af)then some (.par is (Qj is af))else none
def cC (nt:Nat):Code→Option AC
 | .skip=>some .skip
 | .region _ ops false=>(pK P nt ops ops.toList).map .run
 | .region _ ops true=>if P.follows .mixedOrders then(pK P nt ops ops.toList).bind (MG · (ops.toList.map kY))else none
 | .seq a b=>match cC nt a,cC nt b with|some a,some b=>some (.seq a b)|_,_=>none
 | .cond x a b=>match cX x,cC nt a,cC nt b with|some x,some a,some b=>some (.cond x a b)|_,_,_=>none
 | .block id a=>(cC nt a).map (.block id)
 | .loop a=>(cC nt a).map .loop
 | .exit id=>some (.exit id)
 | .scope a=>(cC nt a).map .scope
 | .label l=>some (.label l)
 | .goto l=>some (.goto l)
 | .ret=>some .ret
 |_=>none
def zD:List ResultVar→Option (List (Nat×Option (Bool×Nat)))
 | []=>some []
 | .tmp t::r=>(zD r).map ((t,none):: ·)
 | .cell a t::r=>match qC P t,P.info? t,zD r with
  |some g,some i,some r'=>some ((a,some (g,i.size))::r')
  |_,_,_=>none
def cF (fn:Func):Option AF:=
 match fn.body with
 |some c=>match cC P fn.ntmps c,zD P fn.results.toList with
  |some b,some r=>some ⟨fn.ntmps,r,b⟩
  |_,_=>none
 |none=>none
end
end Go.Abs
namespace Go.Abs
theorem ju {w:World} {b:Nat} {vs:Array Value} {T:TypeId} {fr:Nat×Nat} (h:w.heap[b]? = some (.cells vs T fr)) (o:Nat):w.cell? ⟨b,o,none⟩=vs[o]? :=by
 simp[World.cell?,h]
theorem kI {w:World} {b:Nat} {o:Obj} (h:w.heap[b]? = some o):b<w.heap.size:=(zaS.1 h).1
section
variable {M:Map} {s:St} {w:World}
theorem Rel.B0 (r:Rel M s w) {b o:Nat} {v:Value} (h:M.G b o=some v):b<w.heap.size:=World.block_lt_of_cell? w _ (r.comm b o v h).1
theorem Rel.MI (r:Rel M s w) {b:Nat} (h:w.heap.size≤b) (o:Nat):M.G b o=none:=by
 cases e:M.G b o with
 |none=>rfl
 |some v=>have:=r.B0 e;omega
theorem Rel.pT (r:Rel M s w) {o:Nat} (h:o<s.aw.length):M.mu o<w.heap.size:=by
 obtain⟨vs,T,hh,_⟩:=r.obj o _ (zap h)
 exact hh.lt
theorem Rel.rT (r:Rel M s w) {t b c z:Nat} (h:s.live t) (e:M.be t=some (b,c,z)):b<w.heap.size:=by
 obtain⟨n,hn⟩:=h
 rcases r.tok t n hn with ⟨h1,_⟩|⟨b',cap,size,vs,T,h1,h2,_⟩
 ·rw[e]at h1;cases h1
 ·rw[e]at h1;cases h1;exact kI h2
theorem Rel.of_heap (r:Rel M s w) {w':World} (h:w'.heap=w.heap):Rel M s w':=by
 refine⟨fun b o v e=>?_,fun o ds e=>?_,r.jY,r.inj,fun t n e=>?_,r.eP,r.fM⟩
 ·obtain⟨h1,h2⟩:=r.comm b o v e
  refine⟨?_,h2⟩
  rw[← h1];simp[World.cell?,h]
 ·rw[h];exact r.obj o ds e
 ·rw[h];exact r.tok t n e
theorem Ext.of_heap {w':World} (h:w'.heap=w.heap) (h1:w'.os=w.os) (h2:w'.tape=w.tape) (h3:w'.output=w.output):Ext M s w M s w':=
 ⟨Le.refl M s,fun _ _ _ _=>by rw[h],fun o h h'=>by rcases h with h|h;omega;exact(h rfl).elim,fun t b c z h e=> .inl ⟨h,c,z,e⟩,fun _ _ h=>(h rfl).elim,by rw[h];exact zaj _,h1,h2,h3⟩
def Map.dF (M:Map) (n b:Nat) (x:Ob:= .any):Map:= {M with loc:=fun o=>if o=n then(b,x)else M.loc o}
theorem si (M:Map) {n:Nat} (b:Nat) (x:Ob) {o:Nat} (ho:o<n):(M.dF n b x).loc o=M.loc o:=by simp[Map.dF];omega
theorem rC (s:St) (b:Nat) (ds:List D) (x:Ob:= .any):Le M s (M.dF s.aw.length b x) {s with aw:=s.aw++ [ds]}:=
 ⟨fun _ _ _ h=>h,by simp,fun o ho=>by rw[si M b x ho];exact .refl _,zaj _,fun t n _ h=>⟨n,h,zaj _,fun _=>rfl⟩⟩
theorem Rel.HQ (r:Rel M s w) (ds:List D) (ob:Obj) (vs:Array Value) (T:TypeId) (x:Ob) (wR : ∀ hp:Array Obj,hp[w.heap.size]? = some ob→iu hp (w.heap.size,x) vs T) (hx : ∀ T',x.ty? = some T'→T'=T) (hl:vs.size=ds.length) (h1 : ∀ v∈vs,v.oneCell'=true)
 (h2 : ∀ (i:Nat) (d:D) (v:Value),ds[i]? = some d→vs[i]? = some v→RD (M.dF s.aw.length w.heap.size x) {s with aw:=s.aw++ [ds]} d v) :
 Rel (M.dF s.aw.length w.heap.size x) {s with aw:=s.aw++ [ds]} (w.alloc ob)∧
 Ext M s w (M.dF s.aw.length w.heap.size x) {s with aw:=s.aw++ [ds]} (w.alloc ob):=by
 have le:=rC (M:=M) s w.heap.size ds x
 have p7 : ∀ o,o<s.aw.length→(M.dF s.aw.length w.heap.size x).loc o=M.loc o:=fun o ho=>si M _ x ho
 have nJ : ∀ o,o<s.aw.length→(M.dF s.aw.length w.heap.size x).mu o=M.mu o:=fun o ho=>congrArg Prod.fst (p7 o ho)
 have dK:(M.dF s.aw.length w.heap.size x).mu s.aw.length=w.heap.size:=by simp[Map.dF,Map.mu]
 have aeb:(M.dF s.aw.length w.heap.size x).ty s.aw.length=x.ty? :=by simp[Map.dF,Map.ty]
 have aec:(M.dF s.aw.length w.heap.size x).loc s.aw.length=(w.heap.size,x):=by simp[Map.dF]
 refine⟨⟨fun b o v e=>?_,fun o rn e=>?_,fun o ho off=>?_,fun o o' ho my e=>?_,fun t n e=>?_,fun t b c z o hl e ho=>?_,fun t t' b c z c' z' h h' e e'=>r.fM t t' b c z c' z' h h' e e'⟩, ?_⟩
 ·obtain⟨h3,h4⟩:=r.comm b o v e
  refine⟨?_,h4⟩
  rw[World.cell?_alloc_lt]
  ·exact h3
  ·exact r.B0 e
 ·rcases zaF o s.aw.length with ho | ho
  ·rw [zar ho]at e
   obtain⟨fe,T',h3,h4,h5,h6⟩:=r.obj o rn e
   refine⟨fe,T', ?_,h4,⟨h5.1,by rw[le.ty o ho];exact h5.2⟩,fun i d v e1 e2=>(h6 i d v e1 e2).mono le⟩
   rw[p7 o ho];exact h3.keep (heap_alloc_old w _ _ h3.lt)
  ·rw [zav ho]at e
   have:o=s.aw.length:=by
    have:=(zai.1 e).1
    simp at this;omega
   subst this
   simp at e;subst e
   refine⟨vs,T, ?_,hl,⟨h1,by rw[aeb];exact hx⟩,fun i d v e1 e2=>h2 i d v e1 e2⟩
   rw[aec];exact wR _ (heap_alloc_new w _)
 ·simp at ho
  rcases zaF o s.aw.length with h3|h3
  ·rw[nJ o h3];exact r.jY o h3 off
  ·have:o=s.aw.length:=by omega
   subst this
   rw[dK];exact r.MI (zaj _) off
 ·simp at ho my
  rcases zaF o s.aw.length with h3|h3<;>rcases zaF o' s.aw.length with h4|h4
  ·rw[nJ o h3,nJ o' h4]at e;exact r.inj o o' h3 h4 e
  ·have:o'=s.aw.length:=by omega
   subst this
   rw[nJ o h3,dK]at e
   have:=r.pT h3;omega
  ·have:o=s.aw.length:=by omega
   subst this
   rw[nJ o' h4,dK]at e
   have:=r.pT h4;omega
  ·omega
 ·rcases r.tok t n e with h3 | ⟨b,cap,size,fe,T',h3,h4,h5⟩
  ·exact .inl h3
  ·exact .inr ⟨b,cap,size,fe,T',h3,by rw[heap_alloc_old w _ _ (kI h4)];exact h4,h5⟩
 ·simp at ho
  rcases zaF o s.aw.length with h3|h3
  ·rw[nJ o h3];exact r.eP t b c z o hl e h3
  ·have:o=s.aw.length:=by omega
   subst this
   rw[dK]
   have:=r.rT hl e;omega
 ·refine⟨le,fun b hb _ _=>heap_alloc_old w _ b hb,fun o h3 h4=> ?_,fun t b c z h e=> .inl ⟨h,c,z,e⟩,fun _ _ h=>(h rfl).elim,by simp,rfl,rfl,rfl⟩
  simp at h4
  rcases zaF o s.aw.length with h5|h5
  ·rcases h3 with h3 | h3
   ·omega
   ·exact(h3 (nJ o h5)).elim
  have:o=s.aw.length:=by omega
  subst this
  rw[dK];exact zaj _
theorem Rel.HR (r:Rel M s w) (ds:List D) (vs:Array Value) (T:TypeId) (x:Ob) (hk:x.plain) (hx : ∀ T',x.ty? = some T'→T'=T) (hl:vs.size=ds.length) (h1 : ∀ v∈vs,v.oneCell'=true)
 (h2 : ∀ (i:Nat) (d:D) (v:Value),ds[i]? = some d→vs[i]? = some v→RD (M.dF s.aw.length w.heap.size x) {s with aw:=s.aw++ [ds]} d v) :
 Rel (M.dF s.aw.length w.heap.size x) {s with aw:=s.aw++ [ds]} (w.alloc (.cells vs T))∧
 Ext M s w (M.dF s.aw.length w.heap.size x) {s with aw:=s.aw++ [ds]} (w.alloc (.cells vs T)):=
 r.HQ ds _ vs T x (fun hp e=>iu.of e hk) hx hl h1 h2
theorem Rel.dF (r:Rel M s w) (ds:List D) (vs:Array Value) (T:TypeId) (hl:vs.size=ds.length) (h1 : ∀ v∈vs,v.oneCell'=true)
 (h2 : ∀ (i:Nat) (d:D) (v:Value),ds[i]? = some d→vs[i]? = some v→RD M s d v) :
 Rel (M.dF s.aw.length w.heap.size) {s with aw:=s.aw++ [ds]} (w.alloc (.cells vs T))∧
 Ext M s w (M.dF s.aw.length w.heap.size) {s with aw:=s.aw++ [ds]} (w.alloc (.cells vs T)):=
 r.HR ds vs T .any trivial (fun _ h=>by cases h) hl h1 fun i d v e1 e2=>(h2 i d v e1 e2).mono (rC s w.heap.size ds)
theorem qD (cs:List D) (off:Nat) (r:List D) (h:off+r.length≤cs.length) (i:Nat) :
 (iD cs off r)[i]? = if i<off then cs[i]? else if i<off+r.length then r[i - off]? else cs[i]? :=by
 unfold iD
 have hl:(cs.take off).length=off:=by simp;omega
 split
 ·rename_i h1
  rw[zaD,zar (by omega),za5 h1]
 ·rename_i h1
  rw[zaD,zav (by omega),hl]
  split
  ·rename_i h2
   rw[zar (by omega)]
  ·rename_i h2
   rw[zav (by omega),zbg]
   congr 1;omega
theorem sU (cs:List D) (off:Nat) (r:List D) (h:off+r.length≤cs.length):(iD cs off r).length=cs.length:=by
 unfold iD;simp;omega
theorem Rel.ag2 (P:Program) (r:Rel M s w) {o off:Nat} {cs:List D} (he:s.aw[o]? = some cs) (hk:(M.ob o).plain) (row:List D) (us:List Value) (hu:us.length=row.length) (iU:off+row.length≤cs.length)
 (h1 : ∀ u∈us,u.oneCell'=true) (h2 : ∀ (i:Nat) (d:D) (v:Value),row[i]? = some d→us[i]? = some v→RD M s d v) :
 ∃ w',(storeCells (⟨M.mu o,off,none⟩:Addr) us).run P w = .ok () w'∧Rel M {s with aw:=s.aw.set o (iD cs off row)} w'∧Ext M s w M {s with aw:=s.aw.set o (iD cs off row)} w':=by
 obtain⟨vs,T,hh,hs,⟨fF,Xx⟩,j8⟩:=r.obj o cs he
 replace hh:=hh.cells hk
 have ho:o<s.aw.length:=(zai.1 he).1
 have sj:=run_storeCells_at P (M.mu o) off T us 0 vs w hh (by omega) h1
 simp only[zaP]at sj
 have le:Le M s M {s with aw:=s.aw.set o (iD cs off row)}:=
  ⟨fun _ _ _ h=>h,by simp,fun _ _=> .refl _,zaj _,fun t n _ h=>⟨n,h,zaj _,fun _=>rfl⟩⟩
 generalize dK:(vs.toList.take off++us++vs.toList.drop (off+us.length)).toArray=iQ at sj
 have qE:iQ.size=vs.size:=by rw[← dK];simp;omega
 have hE : ∀ i,iQ[i]? = if i<off then vs[i]? else if i<off+row.length then us[i - off]? else vs[i]? :=by
  intro i
  rw[← dK]
  simp only[zbr]
  have hl:(vs.toList.take off).length=off:=by simp;omega
  split
  ·rename_i h3
   rw[zaD,zar (by omega),za5 h3];simp
  ·rename_i h3
   rw[zaD,zav (by omega),hl]
   split
   ·rename_i h4
    rw[zar (by omega)]
   ·rename_i h4
    rw[zav (by omega),zbg]
    rw[show off+us.length+(i - off - us.length)=i by omega];simp
 have lL : ∀ b,b≠M.mu o→(w.setRow (M.mu o) iQ).heap[b]? = w.heap[b]? :=fun b hb=>setRow_other w (M.mu o) b _ hb
 refine⟨_,sj,⟨fun b q v e=>?_,fun o' ds e=>?_,fun q hq wg=>r.jY q (by simpa using hq) wg,fun q q' hq pj e=>r.inj q q' (by simpa using hq) (by simpa using pj) e,fun t n e=>?_,
  fun t b c z q hl e hq=>r.eP t b c z q hl e (by simpa using hq),fun t t' b c z c' z' h h' e e'=>r.fM t t' b c z c' z' h h' e e'⟩, ?_⟩
 ·obtain⟨h3,h4⟩:=r.comm b q v e
  refine⟨?_,h4⟩
  have hb:b≠M.mu o:=fun eq=>by subst eq;rw[r.jY o ho q]at e;cases e
  rw[← h3]
  simp[World.cell?,lL b hb]
 ·rw [zaK]at e
  split at e
  ·rename_i heq
   subst heq
   simp at e
   obtain⟨_,rfl⟩:=e
   refine⟨iQ,T,iu.of (l:=M.loc o) (setRow_heap w (M.mu o) vs iQ T (0,0) hh) hk,by rw[qE,hs,sU cs off row iU],⟨fun v hv=>?_,Xx⟩,fun i d v e1 e2=>?_⟩
   ·rw [← dK]at hv
    simp at hv
    rcases hv with hv|hv|hv
    ·exact fF v (zaQ.1 (zaZ hv))
    ·exact h1 v hv
    ·exact fF v (zaQ.1 (zbm hv))
   ·rw [qD cs off row iU]at e1
    rw[hE]at e2
    split at e1
    ·rename_i h3;simp only[h3,if_true]at e2;exact(j8 i d v e1 e2).mono le
    ·rename_i h3
     simp only[h3,if_false]at e2
     split at e1
     ·rename_i h4;simp only[h4,if_true]at e2;exact(h2 _ d v e1 e2).mono le
     ·rename_i h4;simp only[h4,if_false]at e2;exact(j8 i d v e1 e2).mono le
  ·rename_i eF
   obtain⟨fe,T',h3,h4,h5,h6⟩:=r.obj o' ds e
   have my:o'<s.aw.length:=(zai.1 e).1
   refine⟨fe,T', ?_,h4,h5,fun i d v e1 e2=>(h6 i d v e1 e2).mono le⟩
   exact h3.keep (lL _ (fun eq=>eF (r.inj o o' ho my eq.symm)))
 ·rcases r.tok t n e with h3 | ⟨b,cap,size,fe,T',h3,h4,h5⟩
  ·exact .inl h3
  ·refine .inr ⟨b,cap,size,fe,T',h3, ?_,h5⟩
   rw[lL b (fun eq=>r.eP t b cap size o ⟨n,e⟩ h3 ho eq.symm)];exact h4
 ·refine⟨le,fun b hb h3 _=>lL b (fun eq=>h3 o ho eq.symm),fun q h3 h4=> ?_,fun t b c z h e=> .inl ⟨h,c,z,e⟩,fun _ _ h=>(h rfl).elim,by simp,rfl,rfl,rfl⟩
  simp at h4;rcases h3 with h3|h3;omega;exact(h3 rfl).elim
def Map.fq (M:Map) (b n:Nat) (vs:Array Value):Map:= {M with G:=fun b' o=>if b'=b then(if o<n then vs[o]? else none)else M.G b' o}
theorem Ql (r:Rel M s w) (n:Nat) (vs:Array Value):Le M s (M.fq w.heap.size n vs) s:=
 ⟨fun b o v h=>by
  have hb:b≠w.heap.size:=fun e=>by have:=r.B0 h;omega
  simp[Map.fq,hb,h],zaj _,fun _ _=> .refl _,zaj _,fun t n _ h=>⟨n,h,zaj _,fun _=>rfl⟩⟩
theorem Rel.fq (r:Rel M s w) (n:Nat) (vs:Array Value) (T:TypeId) (fr:Nat×Nat) (h1 : ∀ v∈vs,v.oneCell'=true) :
 Rel (M.fq w.heap.size n vs) s (w.alloc (.cells vs T fr))∧Ext M s w (M.fq w.heap.size n vs) s (w.alloc (.cells vs T fr)):=by
 have le:=Ql r n vs
 have hold : ∀ b,b<w.heap.size→∀ o,(M.fq w.heap.size n vs).G b o=M.G b o:=fun b hb o=>by
  have:b≠w.heap.size:=by omega
  simp[Map.fq,this]
 refine⟨⟨fun b o v e=>?_,fun o ds e=>?_,fun o ho off=>?_,r.inj,fun t k e=>?_,r.eP,r.fM⟩, ?_⟩
 ·by_cases hb:b=w.heap.size
  ·subst hb
   simp[Map.fq]at e
   obtain⟨_,e⟩:=e
   refine⟨by rw[ju (heap_alloc_new w _)];exact e,h1 v (zbC e)⟩
  ·simp [Map.fq,hb]at e
   obtain⟨h3,h4⟩:=r.comm b o v e
   refine⟨?_,h4⟩
   rw[World.cell?_alloc_lt]
   ·exact h3
   ·exact r.B0 e
 ·obtain⟨fe,T',h3,h4,h5,h6⟩:=r.obj o ds e
  exact⟨fe,T',h3.keep (heap_alloc_old w _ _ h3.lt),h4,h5,fun i d v e1 e2=>(h6 i d v e1 e2).mono le⟩
 ·rw [hold]
  ·exact r.jY o ho off
  ·exact r.pT ho
 ·rcases r.tok t k e with h3 | ⟨b,cap,size,fe,T',h3,h4,h5,h6,h7⟩
  ·exact .inl h3
  ·exact .inr ⟨b,cap,size,fe,T',h3,by rw[heap_alloc_old w _ _ (kI h4)];exact h4,h5,h6,fun off ho=>by rw[hold b (kI h4)];exact h7.1 off ho,h7.2⟩
 ·refine⟨le,fun b hb _ _=>heap_alloc_old w _ b hb,fun o h3 h4=>by rcases h3 with h3 | h3;omega;exact(h3 rfl).elim,fun t b c z h e=> .inl ⟨h,c,z,e⟩,fun b o h=> ?_,by simp,rfl,rfl,rfl⟩
  rcases zaF b w.heap.size with hb|hb
  ·exact(h (hold b hb o)).elim
  ·exact .inl hb
def Map.eG (M:Map) (t:Nat) (x:Option (Nat×Nat×Nat)):Map:= {M with be:=fun t'=>if t'=t then x else M.be t'}
theorem Rel.Xy (r:Rel M s w) (n b cap size:Nat) (vs:Array Value) (T:TypeId) (hb:w.heap[b]? = some (.cells vs T (0,0))) (dz:vs.size=cap*zs size) (hn:n≤cap) (hy:size=0→T=oZ)
 (hG : ∀ off,n*zs size≤off→M.G b off=none) (ho : ∀ o,o<s.aw.length→M.mu o≠b) (ht : ∀ t c z,s.live t→M.be t≠some (b,c,z)) :
 Rel (M.eG s.aE.length (some (b,cap,size))) {s with aE:=s.aE++ [some n]} w∧Le M s (M.eG s.aE.length (some (b,cap,size))) {s with aE:=s.aE++ [some n]}:=by
 have ix : ∀ t,St.live {s with aE:=s.aE++ [some n]} t→s.live t∨t=s.aE.length:=by
  rintro t ⟨k,hk⟩
  rcases zaF t s.aE.length with h|h
  ·rw[zar h]at hk;exact .inl ⟨k,hk⟩
  ·have:=(zai.1 hk).1
   simp at this;exact .inr (by omega)
 have hC : ∀ t,s.live t→t<s.aE.length:=fun t ⟨k,hk⟩=>(zai.1 hk).1
 have hold : ∀ t,t<s.aE.length→(M.eG s.aE.length (some (b,cap,size))).be t=M.be t:=fun t h=>by simp[Map.eG];omega
 have dK:(M.eG s.aE.length (some (b,cap,size))).be s.aE.length=some (b,cap,size):=by simp[Map.eG]
 have le:Le M s (M.eG s.aE.length (some (b,cap,size))) {s with aE:=s.aE++ [some n]}:=
  ⟨fun _ _ _ h=>h,zaj _,fun _ _=> .refl _,by simp,fun t k h e=>by
   rw[zar h]at e
   exact⟨k,e,zaj _,fun _=>hold t h⟩⟩
 refine⟨⟨r.comm,fun o ds e=>?_,r.jY,r.inj,fun t k e=>?_,fun t b' c z o hl e my=>?_,fun t t' b' c z c' z' h h' e e'=>?_⟩,le⟩
 ·obtain⟨fe,T',h3,h4,h5,h6⟩:=r.obj o ds e
  exact⟨fe,T',h3,h4,h5,fun i d v e1 e2=>(h6 i d v e1 e2).mono le⟩
 ·rcases zaF t s.aE.length with h | h
  ·rw [zar h]at e
   rw[hold t h];exact r.tok t k e
  ·have:=(zai.1 e).1
   simp at this
   have:t=s.aE.length:=by omega
   subst this
   simp at e;subst e
   exact .inr ⟨b,cap,size,vs,T,dK,hb,dz,hn,hG,hy⟩
 ·rcases ix t hl with h | h
  ·rw[hold t (hC t h)]at e;exact r.eP t b' c z o h e my
  ·subst h;rw[dK]at e;cases e;exact ho o my
 ·rcases ix t h with h | h <;> rcases ix t' h' with h' | h'
  ·rw[hold t (hC t h)]at e;rw[hold t' (hC t' h')]at e';exact r.fM t t' b' c z c' z' h h' e e'
  ·subst h';rw[dK]at e';cases e';rw[hold t (hC t h)]at e;exact(ht t c z h e).elim
  ·subst h;rw[dK]at e;cases e;rw[hold t' (hC t' h')]at e';exact(ht t' c' z' h' e').elim
  ·omega
theorem Rel.aed (r:Rel M s w) (t n n' b cap size:Nat) (vs:Array Value) (T:TypeId) (CW:s.aE[t]? = some (some n)) (hnn:n<n') (hb:w.heap[b]? = some (.cells vs T (0,0))) (dz:vs.size=cap*zs size) (hn:n'≤cap) (hy:size=0→T=oZ)
 (hG : ∀ off,n'*zs size≤off→M.G b off=none) (ho : ∀ o,o<s.aw.length→M.mu o≠b) (ht : ∀ t c z,s.live t→M.be t≠some (b,c,z)) :
 Rel (M.eG t (some (b,cap,size))) {s with aE:=s.aE.set t (some n')} w∧Le M s (M.eG t (some (b,cap,size))) {s with aE:=s.aE.set t (some n')}:=by
 have Fx:t<s.aE.length:=(zai.1 CW).1
 have ix : ∀ q,St.live {s with aE:=s.aE.set t (some n')} q→s.live q:=by
  rintro q ⟨k,hk⟩
  rw[zaK]at hk
  split at hk
  ·rename_i h;subst h;exact⟨n,CW⟩
  ·exact⟨k,hk⟩
 have hold : ∀ q,q≠t→(M.eG t (some (b,cap,size))).be q=M.be q:=fun q h=>by simp[Map.eG,h]
 have dK:(M.eG t (some (b,cap,size))).be t=some (b,cap,size):=by simp[Map.eG]
 have le:Le M s (M.eG t (some (b,cap,size))) {s with aE:=s.aE.set t (some n')}:=
  ⟨fun _ _ _ h=>h,zaj _,fun _ _=> .refl _,by simp,fun q k h e=>by
   rw[zaK]at e
   split at e
   ·rename_i h2;subst h2
    simp at e;subst e
    exact⟨n,CW,by omega,fun h=>by omega⟩
   ·rename_i h2
    exact⟨k,e,zaj _,fun _=>hold q (fun h=>h2 h.symm)⟩⟩
 refine⟨⟨r.comm,fun o ds e=>?_,r.jY,r.inj,fun q k e=>?_,fun q b' c z o hl e my=>?_,fun q q' b' c z c' z' h h' e e'=>?_⟩,le⟩
 ·obtain⟨fe,T',h3,h4,h5,h6⟩:=r.obj o ds e
  exact⟨fe,T',h3,h4,h5,fun i d v e1 e2=>(h6 i d v e1 e2).mono le⟩
 ·rw [zaK]at e
  split at e
  ·rename_i h2;subst h2
   simp at e;subst e
   exact .inr ⟨b,cap,size,vs,T,dK,hb,dz,hn,hG,hy⟩
  ·rename_i h2
   rw[hold q (fun h=>h2 h.symm)];exact r.tok q k e
 ·by_cases h:q=t
  ·subst h;rw[dK]at e;cases e;exact ho o my
  ·rw[hold q h]at e;exact r.eP q b' c z o (ix q hl) e my
 ·by_cases h1:q=t <;> by_cases h2:q'=t
  ·omega
  ·subst h1;rw[dK]at e;cases e;rw[hold q' h2]at e';exact(ht q' c' z' (ix q' h') e').elim
  ·subst h2;rw[dK]at e';cases e';rw[hold q h1]at e;exact(ht q c z (ix q h) e).elim
  ·rw[hold q h1]at e;rw[hold q' h2]at e';exact r.fM q q' b' c z c' z' (ix q h) (ix q' h') e e'
def Map.fix (M:Map) (b lo:Nat) (us:List Value):Map:=
 {M with G:=fun b' o=>if b'=b∧lo≤o∧o<lo+us.length then us[o - lo]? else M.G b' o}
theorem Rel.aee (r:Rel M s w) (t n m b cap z size:Nat) (us:List Value) (hz:zs z=size) (CW:s.aE[t]? = some (some n)) (kC:M.be t=some (b,cap,z)) (BA:us.length=m*size) (eN:n+m≤cap) (hm:0<m)
 (h1 : ∀ u∈us,u.oneCell'=true) (vs:Array Value) (T:TypeId) (hh:w.heap[b]? = some (.cells vs T (0,0))) (dz:vs.size=cap*size) (hy:z=0→T=oZ) :
 Rel (M.fix b (n*size) us) {s with aE:=s.aE.set t (some (n+m))} (w.setRow b (vs.toList.take (n*size)++us++vs.toList.drop (n*size+us.length)).toArray)∧
 Ext M s w (M.fix b (n*size) us) {s with aE:=s.aE.set t (some (n+m))} (w.setRow b (vs.toList.take (n*size)++us++vs.toList.drop (n*size+us.length)).toArray):=by
 have Fx:t<s.aE.length:=(zai.1 CW).1
 have wS:s.live t:=⟨n,CW⟩
 have MJ : ∀ off,n*size≤off→M.G b off=none:=by
  rcases r.tok t n CW with ⟨h3,_⟩|⟨b',ui,x7,fe,T',h3,h4,h5,h6,h7⟩
  ·rw[kC]at h3;cases h3
  ·rw[kC]at h3;cases h3;rw[← hz];exact h7.1
 have iU:n*size+us.length≤vs.size:=by rw[BA,dz, ← zbj];exact zaU _ eN
 have ix : ∀ q,St.live {s with aE:=s.aE.set t (some (n+m))} q→s.live q:=by
  rintro q ⟨k,hk⟩
  rw[zaK]at hk
  split at hk
  ·rename_i h;subst h;exact wS
  ·exact⟨k,hk⟩
 generalize dK:(vs.toList.take (n*size)++us++vs.toList.drop (n*size+us.length)).toArray=iQ
 have qE:iQ.size=vs.size:=by rw[← dK];simp;omega
 have hE : ∀ i,iQ[i]? = if i<n*size then vs[i]? else if i<n*size+us.length then us[i - n*size]? else vs[i]? :=by
  intro i
  rw[← dK]
  simp only[zbr]
  have hl:(vs.toList.take (n*size)).length=n*size:=by simp;omega
  split
  ·rename_i h3
   rw[zaD,zar (by omega),za5 h3];simp
  ·rename_i h3
   rw[zaD,zav (by omega),hl]
   split
   ·rename_i h4
    rw[zar (by omega)]
   ·rename_i h4
    rw[zav (by omega),zbg]
    rw[show n*size+us.length+(i - n*size - us.length)=i by omega];simp
 have eD:(w.setRow b iQ).heap[b]? = some (.cells iQ T (0,0)):=setRow_heap w b vs iQ T (0,0) hh
 have lL : ∀ q,q≠b→(w.setRow b iQ).heap[q]? = w.heap[q]? :=fun q hq=>setRow_other w b q _ hq
 have le:Le M s (M.fix b (n*size) us) {s with aE:=s.aE.set t (some (n+m))}:=by
  refine⟨fun b' o v h=>?_,zaj _,fun _ _=> .refl _,by simp,fun q k h e=>?_⟩
  ·show(if b'=b∧n*size≤o∧o<n*size+us.length then us[o - n*size]? else M.G b' o)=some v
   rw[if_neg]
   ·exact h
   ·rintro⟨rfl,h3,_⟩;rw[MJ o h3]at h;cases h
  ·rw [zaK]at e
   split at e
   ·rename_i h2;subst h2
    simp at e;subst e
    exact⟨n,CW,by omega,fun h=>by omega⟩
   ·exact⟨k,e,zaj _,fun _=>rfl⟩
 have sk : ∀ b' o,b'≠b→(M.fix b (n*size) us).G b' o=M.G b' o:=fun b' o h=>by simp[Map.fix,h]
 refine⟨⟨fun b' o v e=>?_,fun o ds e=>?_,fun o ho off=>?_,r.inj,fun q k e=>?_,fun q b' c z o hl e my=>r.eP q b' c z o (ix q hl) e my,
  fun q q' b' c z c' z' h h' e e'=>r.fM q q' b' c z c' z' (ix q h) (ix q' h') e e'⟩, ?_⟩
 ·by_cases hb:b'=b
  ·subst hb
   rw[ju eD,hE]
   have e':(if b'=b'∧n*size≤o∧o<n*size+us.length then us[o - n*size]? else M.G b' o)=some v:=e
   by_cases h3:n*size≤o
   ·by_cases h4:o<n*size+us.length
    ·rw [if_pos ⟨rfl,h3,h4⟩]at e'
     rw[if_neg (by omega),if_pos h4]
     exact⟨e',h1 v (zae e')⟩
    ·rw[if_neg (fun h=>h4 h.2.2),MJ o h3]at e';cases e'
   ·rw [if_neg (fun h=>h3 h.2.1)]at e'
    obtain⟨h5,h6⟩:=r.comm b' o v e'
    rw[ju hh]at h5
    rw[if_pos (by omega)]
    exact⟨h5,h6⟩
  ·rw [sk b' o hb]at e
   obtain⟨h5,h6⟩:=r.comm b' o v e
   refine⟨?_,h6⟩
   rw[← h5]
   simp[World.cell?,lL b' hb]
 ·obtain⟨fe,T',h3,h4,h5,h6⟩:=r.obj o ds e
  have ho:o<s.aw.length:=(zai.1 e).1
  refine⟨fe,T', ?_,h4,h5,fun i d v e1 e2=>(h6 i d v e1 e2).mono le⟩
  exact h3.keep (lL _ (r.eP t b cap z o wS kC ho))
 ·show(M.fix b (n*size) us).G (M.mu o) off=none
  rw[sk _ _ (r.eP t b cap z o wS kC ho)];exact r.jY o ho off
 ·rw [zaK]at e
  split at e
  ·rename_i h2;subst h2
   simp at e;subst e
   refine .inr ⟨b,cap,z,iQ,T,kC,eD,by rw[qE,dz,hz],eN,fun off ho=>?_,hy⟩
   rw[hz]at ho
   show(if b=b∧n*size≤off∧off<n*size+us.length then us[off - n*size]? else M.G b off)=none
   rw[zbj]at ho
   rw[if_neg (by rintro⟨_,_,h⟩;omega)]
   exact MJ off (by omega)
  ·rename_i h2
   rcases r.tok q k e with h3|⟨b',ui,x7,fe,T',h3,h4,h5,h6,h7⟩
   ·exact .inl h3
   ·have eF:b'≠b:=fun h=>h2 (r.fM t q b cap z ui x7 wS ⟨k,e⟩ kC (by rw [h3,h]))
    exact .inr ⟨b',ui,x7,fe,T',h3,by rw[lL b' eF];exact h4,h5,h6,fun off ho=>by rw[sk b' off eF];exact h7.1 off ho,h7.2⟩
 ·refine⟨le,fun q _ _ h4=>lL q (fun h=>h4 t cap z wS (by rw [kC,h])),fun o h3 h4=>by simp at h4;rcases h3 with h3 | h3;omega;exact(h3 rfl).elim,fun q b' c z h e=> .inl ⟨ix q h,c,z,e⟩,fun b' o h=> ?_,by simp,rfl,rfl,rfl⟩
  by_cases hb:b'=b
  ·exact .inr ⟨t,cap,z,wS,by rw[kC,hb]⟩
  ·exact(h (sk b' o hb)).elim
theorem Rel.freeze (r:Rel M s w) {b:Nat} (off n:Nat) (ho : ∀ o,o<s.aw.length→M.mu o≠b) (ht : ∀ t c z,s.live t→M.be t≠some (b,c,z)) :
 Rel M s (w.freeze ⟨b,off,none⟩ n)∧(∀ q,q≠b→(w.freeze ⟨b,off,none⟩ n).heap[q]? = w.heap[q]?)∧(w.freeze ⟨b,off,none⟩ n).heap.size=w.heap.size∧
 (w.freeze ⟨b,off,none⟩ n).os=w.os∧(w.freeze ⟨b,off,none⟩ n).tape=w.tape∧(w.freeze ⟨b,off,none⟩ n).output=w.output:=by
 by_cases hn:n=0
 ·simp[World.freeze,hn,r]
 ·have hh : ∀ q,q≠b→(w.freeze ⟨b,off,none⟩ n).heap[q]? = w.heap[q]? :=fun q hq=>by
   simp[World.freeze,hn,zbD,Ne.symm hq]
  have AY : ∀ q o,(w.freeze ⟨b,off,none⟩ n).cell? ⟨q,o,none⟩=w.cell? ⟨q,o,none⟩:=by
   intro q o
   by_cases hq:q=b
   ·subst hq
    unfold World.cell?
    simp only[World.freeze,hn,if_false,zbD,if_true]
    cases h:w.heap[q]? with
    |none=>rfl
    |some x=>cases x<;>rfl
   ·simp[World.cell?,hh q hq]
  refine⟨⟨fun q o v e=>?_,fun o ds e=>?_,r.jY,r.inj,fun t k e=>?_,r.eP,r.fM⟩,hh,by simp[World.freeze,hn],by simp[World.freeze,hn],by simp[World.freeze,hn],by simp[World.freeze,hn]⟩
  ·rw[AY];exact r.comm q o v e
  ·obtain⟨vs,T,h1,h2⟩:=r.obj o ds e
   exact⟨vs,T,h1.keep (hh _ (ho o (zai.1 e).1)),h2⟩
  ·rcases r.tok t k e with h3 | ⟨b',cap,size,vs,T,h3,h4,h5⟩
   ·exact .inl h3
   ·refine .inr ⟨b',cap,size,vs,T,h3, ?_,h5⟩
    rw[hh]
    ·exact h4
    ·rintro rfl;exact ht t cap size ⟨k,e⟩ h3
theorem Rel.aef (r:Rel M s w) (t:Nat):Rel M {s with aE:=s.aE.set t none} w∧Le M s M {s with aE:=s.aE.set t none}:=by
 have ix : ∀ q,St.live {s with aE:=s.aE.set t none} q→s.live q:=by
  rintro q ⟨k,hk⟩
  rw[zaK]at hk
  split at hk
  ·split at hk<;>simp at hk
  ·exact⟨k,hk⟩
 have nY : ∀ (q k:Nat),(s.aE.set t none)[q]? = some (some k)→s.aE[q]? = some (some k):=by
  intro q k e
  rw[zaK]at e
  split at e
  ·split at e<;>simp at e
  ·exact e
 have le:Le M s M {s with aE:=s.aE.set t none}:=
  ⟨fun _ _ _ h=>h,zaj _,fun _ _=> .refl _,by simp,fun q k _ e=>⟨k,nY q k e,zaj _,fun _=>rfl⟩⟩
 refine⟨⟨r.comm,fun o ds e=>?_,r.jY,r.inj,fun q k e=>r.tok q k (nY q k e),fun q b' c z o hl e my=>r.eP q b' c z o (ix q hl) e my,
  fun q q' b' c z c' z' h h' e e'=>r.fM q q' b' c z c' z' (ix q h) (ix q' h') e e'⟩,le⟩
 obtain⟨fe,T',h3,h4,h5,h6⟩:=r.obj o ds e
 exact⟨fe,T',h3,h4,h5,fun i d v e1 e2=>(h6 i d v e1 e2).mono le⟩
end
end Go.Abs
namespace Go.Abs
section
variable {M:Map} {s:St} {w:World}
theorem RD.gL {k:IntKind} {n:Int} {v:Value} (h:RD M s (.int k n) v):v = .int k n:=by cases h;rfl
theorem RD.nq {b:Bool} {v:Value} (h:RD M s (.bool b) v):v = .bool b:=by cases h;rfl
theorem RD.k5 {l:List UInt8} {v:Value} (h:RD M s (.str l) v):v = .string ⟨⟨l⟩⟩:=by cases h;rfl
theorem RD.rD {v:Value} (h:RD M s .fx v):v = .pointer none:=by cases h;rfl
theorem RD.rE {o off:Nat} {v:Value} (h:RD M s (.ptr o off) v):v = .pointer (some ⟨M.mu o,off,none⟩)∧o<s.aw.length:=by
 cases h with|ptr _ _ h hm=>exact⟨rfl,h⟩
theorem RD.zE {o off:Nat} {v:Value} (h:RD M s (.ptr o off) v):(M.ob o).plain:=by cases h with|ptr _ _ h hm=>exact hm
theorem RD.HS {o:Nat} {v:Value} (h:RD M s (.gH o) v):v = .map (some (M.mu o))∧o<s.aw.length∧M.ob o = .map:=by cases h with|gH _ h hm=>exact⟨rfl,h,hm⟩
theorem RD.AZ {z o g len:Nat} {v:Value} (h:RD M s (.jD z o g len) v) : ∃ b cap A,v = .slice (some ⟨b,0,none⟩) len cap∧o<s.aw.length∧M.ob o = .arr z A∧A g=some (b,cap)∧len≤cap:=by
 cases h with|jD _ _ _ _ b cap A h hm ha hl=>exact⟨b,cap,A,rfl,h,hm,ha,hl⟩
theorem RD.B1 {o g off:Nat} {v:Value} (h:RD M s (.iT o g off) v) : ∃ z b cap A,v = .pointer (some ⟨b,off,none⟩)∧o<s.aw.length∧M.ob o = .arr z A∧A g=some (b,cap):=by
 cases h with|iT z _ _ _ b cap A h hm ha=>exact⟨z,b,cap,A,rfl,h,hm,ha⟩
theorem RD.B2 {z:Nat} {v:Value} (h:RD M s (.jK z) v) : ∃ a,v = .slice a 0 0:=by cases h with|jK _ a=>exact⟨a,rfl⟩
theorem RD.Lr {f:Nat} {ds:List D} {v:Value} (h:RD M s (.gK f ds) v) : ∃ vs:Array Value,v = .func (.func f) #[] vs∧ds.length=vs.size∧
 ∀ (i:Nat) (d:D) (v:Value),ds[i]? = some d→vs[i]? = some v→RD M s d v:=by
 cases h with|gK _ _ vs h1 h2=>exact⟨vs,rfl,h1,h2⟩
theorem RD.x8 {row:List D} {off:Nat} {v:Value} (h:RD M s (.dJ row off) v) : ∃ b k,v = .pointer (some ⟨b,k+off,none⟩)∧
 (∀ (i:Nat) (d:D),row[i]? = some d→∃ u,M.G b (k+i)=some u)∧(∀ (i:Nat) (d:D) (u:Value),row[i]? = some d→M.G b (k+i)=some u→RD M s d u):=by
 cases h with|dJ _ _ b k h1 h2=>exact⟨b,k,rfl,h1,h2⟩
theorem RD.Et {ds:List D} {v:Value} (h:RD M s (.agg ds) v) : ∃ vs:Array Value,v = .agg vs∧ds.length=vs.size∧(∀ v∈vs,v.oneCell'=true)∧
 ∀ (i:Nat) (d:D) (v:Value),ds[i]? = some d→vs[i]? = some v→RD M s d v:=by
 cases h with|agg _ vs h1 h2 h3=>exact⟨vs,rfl,h1,h2,h3⟩
theorem RD.Fy {ds:List D} {v:Value} (h:RD M s (.tuple ds) v) : ∃ vs:Array Value,v = .tuple vs∧ds.length=vs.size∧
 ∀ (i:Nat) (d:D) (v:Value),ds[i]? = some d→vs[i]? = some v→RD M s d v:=by
 cases h with|tuple _ vs h1 h2=>exact⟨vs,rfl,h1,h2⟩
theorem RD.undef:RD M s (.tuple []) Go.undef:= .tuple [] #[] rfl (fun i d v h=>by simp at h)
theorem RD.jc {g:Tag} {z:Nat} {rows:List (List D)} {v:Value} (h:RD M s (.slice g z rows) v) :
 (rows = []∧v = .slice none 0 0∧iM M s g z 0 none 0)∨(rows = []∧g = .shared∧∃ a cap,v = .slice (some a) 0 cap)∨
 ∃ b k cap,v = .slice (some ⟨b,k,none⟩) rows.length cap∧rows.length≤cap∧(∀ row∈rows,row.length=z)∧
  (∀ (i:Nat) (row:List D) (j:Nat) (d:D),rows[i]? = some row→row[j]? = some d→∃ u,M.G b (k+(i*z+j))=some u)∧
  (∀ (i:Nat) (row:List D) (j:Nat) (d:D) (u:Value),rows[i]? = some row→row[j]? = some d→M.G b (k+(i*z+j))=some u→RD M s d u)∧
  iM M s g z rows.length (some (b,k)) cap:=by
 cases h with
 |jX _ _ cap hc ht=>subst hc;exact .inl ⟨rfl,rfl,ht⟩
 |nX _ a cap=>exact .inr (.inl ⟨rfl,rfl,a,cap,rfl⟩)
 |slice _ _ _ b k cap hl hs h1 h2 ht=>exact .inr (.inr ⟨b,k,cap,rfl,hl,hs,h1,h2,ht⟩)
theorem RD.row {d:D} {v:Value} (h:RD M s d v) {r:List D} (hr:d.row=some r):v.cells.size=r.length∧(∀ u∈v.cells,u.oneCell'=true)∧
 ∀ (i:Nat) (d':D) (u:Value),r[i]? = some d'→v.cells[i]? = some u→RD M s d' u:=by
 have one : ∀ (x:Value),x.oneCell'=true→x.cells = #[x]:=by intro x hx;cases x<;>first|rfl|(simp[Value.oneCell']at hx)
 have go : ∀ (x:Value),x.oneCell'=true→RD M s d x→d.row=some [d]→x.cells.size=r.length∧(∀ u∈x.cells,u.oneCell'=true)∧
  ∀ (i:Nat) (d':D) (u:Value),r[i]? = some d'→x.cells[i]? = some u→RD M s d' u:=by
  intro x hx hd h1
  rw[h1]at hr;cases hr
  rw[one x hx]
  refine⟨rfl,by simp[hx],fun i d' u e1 e2=>?_⟩
  cases i with
  |zero=>simp at e1 e2;subst e1;subst e2;exact hd
  |succ i=>simp at e1
 cases h with
 |junk v=>cases hr
 |int k n=>exact go _ rfl (.int k n) rfl
 |bool b=>exact go _ rfl (.bool b) rfl
 |str l=>exact go _ rfl (.str l) rfl
 |fx=>exact go _ rfl .fx rfl
 |val v hv=>exact go _ hv (.val v hv) rfl
 |fC T o v h ht hv=>exact go _ (by rcases hv with rfl|rfl<;>rfl) (.fC T o v h ht hv) rfl
 |ptr o off h hm=>exact go _ rfl (.ptr o off h hm) rfl
 |gK f ds vs hl h=>exact go _ rfl (.gK f ds vs hl h) rfl
 |gH o h hm=>exact go _ rfl (.gH o h hm) rfl
 |dJ row off b k h1 h2=>exact go _ rfl (.dJ row off b k h1 h2) rfl
 |jX g z cap hc ht=>exact go _ rfl (.jX g z cap hc ht) rfl
 |nX z a cap=>exact go _ rfl (.nX z a cap) rfl
 |slice g z rows b k cap hl hs h1 h2 ht=>exact go _ rfl (.slice g z rows b k cap hl hs h1 h2 ht) rfl
 |jD z o g len b cap A h hm ha hl=>exact go _ rfl (.jD z o g len b cap A h hm ha hl) rfl
 |iT z o g off b cap A h hm ha=>exact go _ rfl (.iT z o g off b cap A h hm ha) rfl
 |jK z a=>exact go _ rfl (.jK z a) rfl
 |agg cells vs hl h1 h2=>cases hr;exact⟨hl.symm,h1,h2⟩
 |tuple ds vs hl h1=>cases hr
theorem pU {v:Value} {d:D} (h:rz v=some d):RD M s d v∧v.oneCell'=true:=by
 unfold rz at h
 split at h<;>first|(cases h;done)|skip
 ·cases h;exact⟨.int _ _,rfl⟩
 ·cases h;exact⟨.bool _,rfl⟩
 ·cases h;exact⟨.str _,rfl⟩
 ·cases h;exact⟨.fx,rfl⟩
 ·cases h;exact⟨.jX _ _ 0 rfl rfl,rfl⟩
 ·cases h;exact⟨.val _ rfl,rfl⟩
 ·cases h;exact⟨.val _ rfl,rfl⟩
 ·cases h;exact⟨.val _ rfl,rfl⟩
theorem k6 : ∀ {vs:List Value} {ds:List D},np vs=some ds→ds.length=vs.length∧(∀ v∈vs,v.oneCell'=true)∧
 ∀ (i:Nat) (d:D) (v:Value),ds[i]? = some d→vs[i]? = some v→RD M s d v
 | [],ds,h=>by cases h;exact⟨rfl,by simp,by simp⟩
 | v::r,ds,h=>by
  unfold np at h
  split at h
  ·rename_i d rn h1 h2
   cases h
   obtain⟨a,b⟩:=pU (M:=M) (s:=s) h1
   obtain⟨i1,i2,i3⟩:=k6 h2
   refine⟨by simp[i1],fun u hu=>?_,fun i d' u e1 e2=>?_⟩
   ·rcases zaw.1 hu with rfl | hu
    ·exact b
    ·exact i2 u hu
   ·cases i with
    |zero=>simp at e1 e2;subst e1;subst e2;exact a
    |succ i=>simp at e1 e2;exact i3 i d' u e1 e2
  ·cases h
theorem Eu {v:Value} {d:D} (h:BY v=some d):RD M s d v∧v.oneCell'=true:=by
 unfold BY at h
 split at h
 ·cases h;exact⟨.val _ rfl,rfl⟩
 ·exact pU h
theorem vh : ∀ {vs:List Value} {ds:List D},vg vs=some ds→ds.length=vs.length∧(∀ v∈vs,v.oneCell'=true)∧
 ∀ (i:Nat) (d:D) (v:Value),ds[i]? = some d→vs[i]? = some v→RD M s d v
 | [],ds,h=>by cases h;exact⟨rfl,by simp,by simp⟩
 | v::r,ds,h=>by
  unfold vg at h
  split at h
  ·rename_i d rn h1 h2
   cases h
   obtain⟨g1,g2⟩:=Eu (M:=M) (s:=s) h1
   obtain⟨k1,k2,k3⟩:=vh h2
   refine⟨by simp[k1],fun u hu=>?_,fun i d' u e1 e2=>?_⟩
   ·rcases zaw.1 hu with rfl | hu
    ·exact g2
    ·exact k2 u hu
   ·cases i with
    |zero=>simp at e1 e2;subst e1;subst e2;exact g1
    |succ i=>exact k3 i d' u (by simpa using e1) (by simpa using e2)
  ·cases h
theorem BB {b:Bool} {vs:List Value} {ds:List D} (h:MF b vs=some ds):ds.length=vs.length∧(∀ v∈vs,v.oneCell'=true)∧
 ∀ (i:Nat) (d:D) (v:Value),ds[i]? = some d→vs[i]? = some v→RD M s d v:=by
 unfold MF at h
 split at h
 ·exact vh h
 ·exact k6 h
theorem MK {v:Value} {d:D} (h:MD v=some d):RD M s d v:=by
 unfold MD at h
 split at h
 ·rename_i cs
  cases hc:np cs.toList with
  |none=>rw[hc]at h;cases h
  |some ds=>
   rw[hc]at h;cases h
   obtain⟨h1,h2,h3⟩:=k6 (M:=M) (s:=s) hc
   exact .agg ds cs (by simpa using h1) (fun v hv=>h2 v (by simpa using hv)) (fun i d v e1 e2=>h3 i d v e1 (by simpa using e2))
 ·cases h;exact .undef
 ·exact(pU h).1
def lM (M:Map) (s:St) (tm:Tm) (tmps:Array Value):Prop:=∀ t,RD M s (tm.get t) (tmps.getD t Go.undef)
theorem lM.mono {M':Map} {s':St} {tm:Tm} {tmps:Array Value} (h:lM M s tm tmps) (le:Le M s M' s'):lM M' s' tm tmps:=fun t=>(h t).mono le
theorem cj {x:Operand} {y:X} (h:cX x=some y) {tm:Tm} {act:Act} (hr:lM M s tm act.tmps):RD M s (y.ev tm) (act.eval x):=by
 unfold cX at h
 split at h
 ·cases h;exact hr _
 ·rename_i v
  cases hv:MD v with
  |none=>rw[hv]at h;cases h
  |some d=>rw[hv]at h;cases h;exact MK hv
 ·cases h;exact .gK _ [] #[] rfl (by simp)
 ·cases h
theorem Tm.A0 (tm:Tm) (t:Nat) (d:D) (u:Nat):(tm.set t d).get u=if u=t then d else tm.get u:=by
 induction tm with
 |nil=>
  simp only[Tm.set,Tm.get]
  by_cases h:t=u
  ·simp[h]
  ·rw[if_neg h,if_neg (fun e=>h e.symm)]
 | cons p r ih=>
  obtain⟨k,e⟩:=p
  simp only[Tm.set]
  split
  ·rename_i h
   subst h
   simp only[Tm.get]
   by_cases h:k=u
   ·simp[h]
   ·rw[if_neg h,if_neg (fun e=>h e.symm),if_neg h]
  ·rename_i h
   simp only[Tm.get,ih]
   by_cases h1:k=u
   ·subst h1;simp[h]
   ·simp[h1]
theorem lM.put {tm:Tm} {act:Act} (h:lM M s tm act.tmps) {dst:Option Nat} (hd : ∀ t,dst=some t→t<act.tmps.size) {d:D} {v:Value} (hv:RD M s d v) :
 lM M s (tm.put dst d) (act.put dst v).tmps:=by
 intro u
 cases dst with
 |none=>exact h u
 | some t=>
  simp only[Tm.put,Act.put,Tm.A0]
  have ht:=hd t rfl
  by_cases hu:u=t
  ·subst hu
   simp[ht];exact hv
  ·rw [if_neg hu]
   have:=h u
   simpa[zbw (fun e=>hu e.symm)]using this
theorem fG (P:Program) {t:TypeId} {i:TypeInfo} (h:P.info? t=some i) (w:World):(typeInfo t).run P w = .ok i w:=by
 simp[typeInfo,h]
theorem mb (b o n:Nat):Addr.add ⟨b,o,none⟩ n = ⟨b,o+n,none⟩:=Addr.add_lit b o n
theorem x9 (P:Program) {t:TypeId} {i:TypeInfo} {agg:Bool} (hi:P.info? t=some i) (ha:qC P t=some agg) (b k:Nat) (us:List Value)
 (hl:us.length=if agg then i.size else 1) (h : ∀ (j:Nat) (u:Value),us[j]? = some u→w.cell? ⟨b,k+j,none⟩=some u) :
 (loadVar t ⟨b,k,none⟩).run P w = .ok (if agg then .agg us.toArray else us.getD 0 Go.undef) w:=by
 have zF:(isAgg t).run P w = .ok agg w:=by
  unfold qC at ha
  unfold isAgg
  cases hu:P.underlying t with
  |none=>rw[hu]at ha;cases ha
  |some d=>
   rw[hu]at ha
   simp only[Sem.run_bind,run_underlying hu,Result.andThen_ok]
   cases d<;>simp_all
 cases agg with
 |true=>
  simp only[if_true]at hl ⊢
  have hc:=run_loadCells_list (P:=P) w ⟨b,k,none⟩ us (fun j v e=>by rw[mb];exact h j v e)
  simp[loadVar,zF,sizeOf,fG P hi, ← hl,hc]
 | false=>
  simp only[zaa,if_false]at hl ⊢
  match us,hl with
  | [u],_=>
   have:=h 0 u rfl
   simp only[zaP]at this
   simp[loadVar,zF,this]
theorem qh {cs:List D} {off:Nat} {agg:Bool} {size:Nat} {d:D} (h:part cs off agg size=some d) :
 (agg=true∧off+size≤cs.length∧d = .agg ((cs.drop off).take size))∨(agg=false∧cs[off]? = some d):=by
 unfold part at h
 split at h
 ·split at h
  ·cases h;exact .inl ⟨rfl, ‹_›,rfl⟩
  ·cases h
 ·exact .inr ⟨rfl,h⟩
theorem qF {cs:List D} {off size:Nat} {agg:Bool} {d:D} (h:part cs off agg size=some d) (us:List Value) (hl:us.length=if agg then size else 1)
 (fF:agg=true→∀ u∈us,u.oneCell'=true)
 (hr : ∀ (j:Nat) (d:D) (u:Value),cs[off+j]? = some d→us[j]? = some u→RD M s d u):RD M s d (if agg then .agg us.toArray else us.getD 0 Go.undef):=by
 rcases qh h with ⟨rfl,h1,rfl⟩|⟨rfl,h1⟩
 ·simp only [if_true]at hl ⊢
  refine .agg _ _ (by simp[hl];omega) (fun v hv=>fF rfl v (by simpa using hv)) (fun i d v e1 e2=>?_)
  rw[zaV]at e1
  split at e1
  ·rw [zbg]at e1
   exact hr i d v e1 (by simpa using e2)
  ·cases e1
 ·simp only [zaa,if_false]at hl ⊢
  match us,hl with
  | [u],_=>exact hr 0 d u (by simpa using h1) rfl
end
end Go.Abs
namespace Go.Abs
def cH (P:Program) (M:Map) (s:St) (w:World) (x:Sem Next) (d:D) (s':St):Prop:=
 ∃ v w' M',(x.run P w = .ok (.value v) w'∨(x.run P w = .ok .skip w'∧v=Go.undef))∧Rel M' s' w'∧RD M' s' d v∧Ext M s w M' s' w'
section
variable {P:Program} {M:Map} {s:St} {w:World}
theorem cH.pure {x:Sem Next} {d:D} {v:Value} (r:Rel M s w) (h:x.run P w = .ok (.value v) w) (hd:RD M s d v):cH P M s w x d s:=
 ⟨v,w,M, .inl h,r,hd,Ext.refl M s w⟩
theorem MM (r:Rel M s w) {t:TypeId} {z:List D} (hz:zeroOf P t=some z) :
 cH P M s w (do pure (.value (← Instr.alloc t true (.tuple #[])))) (.ptr s.aw.length 0) {s with aw:=s.aw++ [z]}:=by
 unfold zeroOf at hz
 split at hz
 ·rename_i i hi
  split at hz
  ·rename_i v hv
   split at hz
   ·rename_i dz
    obtain⟨h1,h2,h3⟩:=k6 (M:=M) (s:=s) hz
    obtain⟨r',e'⟩:=r.dF z v.cells t (by rw[h1];simp) (fun u hu=>h2 u (by simpa using hu)) (fun i d u e1 e2=>h3 i d u e1 (by simpa using e2))
    refine⟨_,_,_, .inl ?_,r', .ptr _ _ (by simp) (by simp[Map.dF,Map.ob,Ob.plain]),e'⟩
    simp[Instr.alloc,zeroValue,fG P hi,hv,newVar,newRow,Map.dF,Map.mu]
   ·cases hz
  ·cases hz
 ·cases hz
theorem Ki (r:Rel M s w) {t:TypeId} {z:List D} (hz:x6 P t=some (.fx::z)) :
 cH P M s w (do pure (.value (← Instr.alloc t true (.tuple #[])))) (.ptr s.aw.length 0) {s with aw:=s.aw++ [.fC t s.aw.length::z]}:=by
 unfold x6 at hz
 split at hz
 ·rename_i i hi
  split at hz
  ·rename_i v hv
   split at hz
   ·rename_i dz
    obtain⟨h1,h2,h3⟩:=BB (M:=M) (s:=s) hz
    obtain⟨r',e'⟩:=r.HR (.fC t s.aw.length::z) v.cells t (.ty t) trivial (fun _ h=>by cases h;rfl) (by simp at h1 ⊢;omega) (fun u hu=>h2 u (by simpa using hu)) (fun i d u e1 e2=>by
     cases i with
     |zero=>
      simp at e1;subst e1
      have:=(h3 0 .fx u rfl (by simpa using e2)).rD
      exact .fC t _ u (by simp) (by simp[Map.dF,Map.ty,Ob.ty?]) (.inl this)
     |succ i=>exact(h3 (i+1) d u (by simpa using e1) (by simpa using e2)).mono (rC s w.heap.size _ _))
    refine⟨_,_,_, .inl ?_,r', .ptr _ _ (by simp) (by simp[Map.dF,Map.ob,Ob.plain]),e'⟩
    simp[Instr.alloc,zeroValue,fG P hi,hv,newVar,newRow,Map.dF,Map.mu]
   ·cases hz
  ·cases hz
 ·cases hz
theorem T9 (r:Rel M s w) {t:TypeId} {d:D} {v:Value} {row:List D} (hd:RD M s d v) (hr:d.row=some row) :
 cH P M s w (do pure (.value (← Instr.box t v))) (.ptr s.aw.length 0) {s with aw:=s.aw++ [row]}:=by
 obtain⟨h1,h2,h3⟩:=hd.row hr
 obtain⟨r',e'⟩:=r.dF row v.cells t h1 h2 h3
 refine⟨_,_,_, .inl ?_,r', .ptr _ _ (by simp) (by simp[Map.dF,Map.ob,Ob.plain]),e'⟩
 simp[Instr.box,newVar,newRow,Map.dF,Map.mu]
theorem Qm (r:Rel M s w) {t:TypeId} {d:D} {v:Value} {row:List D} (hd:RD M s d v) (hr:d.row=some (.fx::row)) :
 cH P M s w (do pure (.value (← Instr.box t v))) (.ptr s.aw.length 0) {s with aw:=s.aw++ [.fC t s.aw.length::row]}:=by
 obtain⟨h1,h2,h3⟩:=hd.row hr
 obtain⟨r',e'⟩:=r.HR (.fC t s.aw.length::row) v.cells t (.ty t) trivial (fun _ h=>by cases h;rfl) (by simp at h1 ⊢;omega) h2 (fun i d u e1 e2=>by
  cases i with
  |zero=>
   simp at e1;subst e1
   have:=(h3 0 .fx u rfl e2).rD
   exact .fC t _ u (by simp) (by simp[Map.dF,Map.ty,Ob.ty?]) (.inl this)
  |succ i=>exact(h3 (i+1) d u (by simpa using e1) e2).mono (rC s w.heap.size _ _))
 refine⟨_,_,_, .inl ?_,r', .ptr _ _ (by simp) (by simp[Map.dF,Map.ob,Ob.plain]),e'⟩
 simp[Instr.box,newVar,newRow,Map.dF,Map.mu]
theorem GY (r:Rel M s w) {t:TypeId} {i:TypeInfo} {agg:Bool} (hi:P.info? t=some i) (ha:qC P t=some agg) {o off:Nat} {cs:List D} {d:D}
 (ho:s.aw[o]? = some cs) (hk:(M.ob o).plain) (hp:part cs off agg i.size=some d) :
 cH P M s w (do pure (.value (← Instr.loadAt t (.pointer (some ⟨M.mu o,off,none⟩))))) d s:=by
 obtain⟨vs,T,hh,dz,⟨fF,_⟩,j8⟩:=r.obj o cs ho
 replace hh:w.heap[M.mu o]? = some (.cells vs T (0,0)):=hh.cells hk
 let n:=if agg then i.size else 1
 have iU:off+n≤vs.size:=by
  rcases qh hp with ⟨rfl,h1,_⟩|⟨rfl,h1⟩
  ·simp[n];omega
  ·have:=(zai.1 h1).1;simp[n];omega
 have hlen:((vs.toList.drop off).take n).length=n:=by simp;omega
 have hE : ∀ (j:Nat) (u:Value),((vs.toList.drop off).take n)[j]? = some u→vs[off+j]? = some u:=by
  intro j u h
  rw[zaV]at h
  split at h
  ·rw[zbg]at h;simpa using h
  ·cases h
 have c7:=x9 (w:=w) P hi ha (M.mu o) off ((vs.toList.drop off).take n) hlen (fun j u h=>by rw[ju hh];exact hE j u h)
 refine cH.pure (v:=if agg then .agg ((vs.toList.drop off).take n).toArray else((vs.toList.drop off).take n).getD 0 Go.undef) r (by simp[Instr.loadAt,Instr.sureAddr,c7]) ?_
 refine qF hp _ hlen (fun _ u hu=>fF u ?_) (fun j d u e1 e2=>j8 _ d u e1 (hE j u e2))
 exact zaQ.1 (zbm (zaZ hu))
theorem ya {b:Nat} : ∀ (n k:Nat),(∀ j,j<n→∃ u,M.G b (k+j)=some u)→∃ us:List Value,us.length=n∧∀ (j:Nat) (u:Value),us[j]? = some u→M.G b (k+j)=some u
 | 0,_,_=>⟨[],rfl,fun j u h=>by simp at h⟩
 |n+1,k,h=>by
  obtain⟨u0,h0⟩:=h 0 (by omega)
  obtain⟨us,h1,h2⟩:=ya n (k+1) (fun j hj=>by obtain⟨u,hu⟩:=h (j+1) (by omega);exact⟨u,by rw[show k+1+j=k+(j+1) by omega];exact hu⟩)
  refine⟨u0::us,by simp[h1],fun j u hj=>?_⟩
  cases j with
  |zero=>simp at hj;subst hj;exact h0
  |succ j=>simp at hj;have:=h2 j u hj;rw[show k+(j+1)=k+1+j by omega];exact this
theorem GZ (r:Rel M s w) {t:TypeId} {i:TypeInfo} {agg:Bool} (hi:P.info? t=some i) (ha:qC P t=some agg) {row:List D} {off b k:Nat} {d:D}
 (h1 : ∀ (i:Nat) (d:D),row[i]? = some d→∃ u,M.G b (k+i)=some u) (h2 : ∀ (i:Nat) (d:D) (u:Value),row[i]? = some d→M.G b (k+i)=some u→RD M s d u)
 (hp:part row off agg i.size=some d) :
 cH P M s w (do pure (.value (← Instr.loadAt t (.pointer (some ⟨b,k+off,none⟩))))) d s:=by
 let n:=if agg then i.size else 1
 have iU:off+n≤row.length:=by
  rcases qh hp with ⟨rfl,h1,_⟩|⟨rfl,h1⟩
  ·simp[n];omega
  ·have:=(zai.1 h1).1;simp[n];omega
 obtain⟨us,hl,BA⟩:=ya (M:=M) (b:=b) n (k+off) (fun j hj=>by
  obtain⟨d,hd⟩ : ∃ d,row[off+j]? = some d:=⟨_,zap (by omega)⟩
  obtain⟨u,hu⟩:=h1 _ d hd
  exact⟨u,by rw[show k+off+j=k+(off+j) by omega];exact hu⟩)
 have c7:=x9 (w:=w) P hi ha b (k+off) us hl (fun j u h=>(r.comm _ _ _ (BA j u h)).1)
 refine cH.pure (v:=if agg then .agg us.toArray else us.getD 0 Go.undef) r (by simp[Instr.loadAt,Instr.sureAddr,c7]) ?_
 refine qF hp us hl (fun _ u hu=>?_) (fun j d u e1 e2=>h2 _ d u e1 (by rw[show k+(off+j)=k+off+j by omega];exact BA j u e2))
 obtain⟨j,hj⟩:=List.mem_iff_getElem?.1 hu
 exact(r.comm _ _ _ (BA j u hj)).2
theorem MN (r:Rel M s w) {t:TypeId} {i:TypeInfo} (hi:P.info? t=some i) {o off:Nat} {cs row:List D} {d:D} {v:Value} (ho:s.aw[o]? = some cs) (hk:(M.ob o).plain)
 (hd:RD M s d v) (hr:d.row=some row) (hl:row.length=i.size) (iU:off+i.size≤cs.length) :
 cH P M s w (do Instr.storeAt t (.pointer (some ⟨M.mu o,off,none⟩)) v;pure .skip) (.tuple []) {s with aw:=s.aw.set o (iD cs off row)}:=by
 obtain⟨h1,h2,h3⟩:=hd.row hr
 obtain⟨w',c7,r',e'⟩:=r.ag2 P ho hk row v.cells.toList (by simpa using h1) (by rw[hl];exact iU) (fun u hu=>h2 u (by simpa using hu)) (fun i d u e1 e2=>h3 i d u e1 (by simpa using e2))
 refine⟨Go.undef,w',M, .inr ⟨?_,rfl⟩,r', .undef,e'⟩
 have dz:v.cells.size=i.size:=by omega
 simp[Instr.storeAt,Instr.sureAddr,storeVar,sizeOf,fG P hi,dz,c7]
theorem yc (r:Rel M s w) {d:D} {a:Addr} (hd:RD M s d (.pointer (some a))) :
 cH P M s w (pure (.value (.pointer (some a)))) d s:=cH.pure r rfl hd
theorem zG {t:TypeId} {f off size:Nat} {agg:Bool} (h:ma P t f=some (off,size,agg)) (b k:Nat) :
 (Instr.fieldAt t (.pointer (some ⟨b,k,none⟩)) f).run P w = .ok (.pointer (some ⟨b,k+off,none⟩)) w:=by
 unfold ma at h
 split at h
 ·rename_i fs hu
  split at h
  ·rename_i fd hf
   split at h
   ·rename_i i a hi ha
    split at h
    ·cases h
    ·rename_i eF
     cases h
     simp[Instr.fieldAt,run_underlying hu,hf,Instr.sureAddr,fieldPlace,sizeOf,fG P hi,eF,mb]
   ·cases h
  ·cases h
 ·cases h
theorem Qn {t:TypeId} {f off size:Nat} {agg:Bool} (h:ma P t f=some (off,size,agg)) (vs:Array Value) (us:List Value) (hl:us.length=if agg then size else 1)
 (hg : ∀ j,j<us.length→vs[off+j]? = us[j]?) :
 (Instr.field t (.agg vs) f).run P w = .ok (if agg then .agg us.toArray else us.getD 0 Go.undef) w:=by
 unfold ma at h
 split at h
 ·rename_i fs hu
  split at h
  ·rename_i fd hf
   split at h
   ·rename_i i a hi ha
    split at h
    ·cases h
    ·rename_i eF
     cases h
     have zF:(isAgg fd.type).run P w = .ok agg w:=by
      unfold qC at ha
      unfold isAgg
      cases hu:P.underlying fd.type with
      |none=>rw[hu]at ha;cases ha
      |some d=>
       rw[hu]at ha
       simp only[Sem.run_bind,run_underlying hu,Result.andThen_ok]
       cases d<;>simp_all
     cases agg with
     | true=>
      simp only[if_true]at hl ⊢
      have:vs.extract fd.offset (fd.offset+i.size)=us.toArray:=by
       apply Array.ext_getElem?
       intro j
       rw[Array.getElem?_extract]
       by_cases hj:j<us.length
       ·rw [← hl,if_pos (by
         have h1:=hg j hj
         rw[zap hj]at h1
         have:=(zaS.1 h1).1
         have h2:=hg (us.length - 1) (by omega)
         rw[zap (by omega)]at h2
         have:=(zaS.1 h2).1
         omega),hg j hj]
        simp
       ·have hn:us.toArray[j]? = none:=by simp;omega
        rw[hn,if_neg (by omega)]
      simp[Instr.field,run_underlying hu,hf,asAgg,Go.part,zF,sizeOf,fG P hi,this]
     | false=>
      simp only[zaa,if_false]at hl ⊢
      match us,hl with
      | [u],_=>
       have:=hg 0 (by simp)
       simp at this
       simp[Instr.field,run_underlying hu,hf,asAgg,Go.part,zF,this]
   ·cases h
  ·cases h
 ·cases h
end
end Go.Abs
namespace Go.Abs
section
variable {P:Program} {M:Map} {s:St} {w:World}
theorem MO {op : BinOp} {t : TypeId} {k : IntKind} {a b : Int} {d : D} (h : eZ op k a b = some d) :
   ∃ v, (binOp op t (.int k a) (.int k b)).run P w = .ok v w ∧ RD M s d v := by
 cases op<;>simp only[eZ]at h
 case shl|shr =>
   split at h
   · cases h
   · rename_i hb
     cases h
     refine ⟨_, ?_, .int _ _⟩
     simp only[binOp, Op.shift, if_neg hb]
     rfl
 case and|or|xor =>
   cases h
   refine ⟨_, ?_, .int _ _⟩
   simp only[binOp, Op.intBits, ne_eq, not_true_eq_false, if_false]
   rfl
 all_goals first
   |(cases h; done)
   | (split at h
      · cases h
      · cases h
        exact ⟨_, by simp[binOp, Op.intDiv, *], .int _ _⟩)
   |(cases h; exact ⟨_, by simp[binOp, Op.intArith], .int _ _⟩)
   |(cases h; exact ⟨_, by simp[binOp, Op.intCmp], .bool _⟩)
theorem MP {op:BinOp} {t:TypeId} {a b:List UInt8} {d:D} (h:nI op a b=some d) :
 ∃ v,(binOp op t (.string ⟨⟨a⟩⟩) (.string ⟨⟨b⟩⟩)).run P w = .ok v w∧RD M s d v:=by
 have sz : ∀ l:List UInt8,(⟨⟨l⟩⟩:ByteArray).size=l.length:=fun _=>rfl
 cases op<;>simp only[nI]at h<;>first
  |(cases h;done)
  |skip
 case add=>
  split at h
  ·rename_i hl
   cases h
   refine⟨.string ⟨⟨a++b⟩⟩, ?_, .str _⟩
   have h1 : ¬ ((((⟨⟨a⟩⟩:ByteArray).size+(⟨⟨b⟩⟩:ByteArray).size:Nat):Int) > IntKind.i64.max):=by
    rw[sz,sz,IntKind.max_i64];simp only[bh]at hl;omega
   simp only[binOp,Op.stringOp,h1,if_false]
   simp only[Sem.run_pure]
   congr 2
  ·cases h
 case eql=>cases h;exact⟨_,by simp[binOp,Op.stringOp], .bool _⟩
 case neq=>cases h;exact⟨_,by simp[binOp,Op.stringOp], .bool _⟩
 case lss=>cases h;exact⟨_,by simp[binOp,Op.stringOp,bytesLess], .bool _⟩
theorem jv {op:BinOp} {t:TypeId} {x y:Operand} {a b:Value} (h:(∀ vs,a≠ .agg vs)∧a≠ .nilIface):(eqGuard op t x y a b).run P w = .ok () w:=by
 obtain⟨h1,h2⟩:=h
 cases a<;>first
  |exact(h2 rfl).elim
  |exact(h1 _ rfl).elim
  |(cases op<;>simp[eqGuard])
theorem Ua (r:Rel M s w) {op:BinOp} {t:TypeId} {x y:Operand} {dx dy d:D} {a b:Value} (ha:RD M s dx a) (hb:RD M s dy b) (h:v8 op dx dy=some d) :
 cH P M s w (do pure (.value (← (do eqGuard op t x y a b;binOp op t a b)))) d s:=by
 unfold v8 at h
 split at h
 ·rename_i k n k' m
  split at h
  ·rename_i hk;subst hk
   rw[ha.gL,hb.gL]
   obtain⟨v,hv,hd⟩:=MO (P:=P) (M:=M) (s:=s) (w:=w) (t:=t) h
   exact cH.pure r (by simp[jv (P:=P) (w:=w) (op:=op) (t:=t) (x:=x) (y:=y) (a:= .int k n) (b:= .int k m) ⟨by simp,by simp⟩,hv]) hd
  ·cases h
 ·rename_i l m
  rw[ha.k5,hb.k5]
  obtain⟨v,hv,hd⟩:=MP (P:=P) (M:=M) (s:=s) (w:=w) (t:=t) h
  exact cH.pure r (by simp[jv (P:=P) (w:=w) (op:=op) (t:=t) (x:=x) (y:=y) (a:= .string ⟨⟨l⟩⟩) (b:= .string ⟨⟨m⟩⟩) ⟨by simp,by simp⟩,hv]) hd
 ·cases h
theorem RD.ou {v u:Value} (h:RD M s (.val v) u):u=v:=by cases h;rfl
theorem MQ {k:FloatKind} {x y d:D} (h:ug (.ofInt k) x y=some d) : ∃ j n,x = .int j n∧d = .val (.float k (k.nearest n)):=by
 cases x<;>first|(cases h;done)|(cases h;exact⟨_,_,rfl,rfl⟩)
theorem MR {k:IntKind} {x y d:D} (h:ug (.toInt k) x y=some d) : ∃ s b n,x = .val (.float s b)∧(s.decode b).toInt .zero=some n∧(k.min≤n∧n≤k.max)∧d = .int k n:=by
 cases x with
 | val v=>
  cases v with
  | float s b=>
   simp only[ug]at h
   split at h
   ·rename_i n hn
    split at h
    ·rename_i hr;cases h;exact⟨_,_,_,rfl,hn,hr,rfl⟩
    ·cases h
   ·cases h
  |_=>cases h
 |_=>cases h
theorem Qo {x y d:D} (h:ug .TY x y=some d) : ∃ k a b,x = .val (.float k a)∧y = .val (.float k b)∧d = .val (.complex k a b):=by
 unfold ug at h
 split at h<;>first|(cases h;done)|skip
 all_goals (first|(rename_i heq;cases heq;done)|skip)
 all_goals
  split at h
  ·rename_i hk;subst hk;cases h;first|exact⟨_,_,_,rfl,rfl,rfl⟩|(rename_i heq _ _;cases heq)
  ·cases h
theorem Qp {x y d:D} (h:ug .real x y=some d) : ∃ k a b,x = .val (.complex k a b)∧d = .val (.float k a):=by
 cases x with
 |val v=>cases v<;>first|(cases h;done)|(cases h;exact⟨_,_,_,rfl,rfl⟩)
 |_=>cases h
theorem Qq {x y d:D} (h:ug .imag x y=some d) : ∃ k a b,x = .val (.complex k a b)∧d = .val (.float k b):=by
 cases x with
 |val v=>cases v<;>first|(cases h;done)|(cases h;exact⟨_,_,_,rfl,rfl⟩)
 |_=>cases h
theorem Qr (r:Rel M s w) {op:BinOp} {o:FO} (ho:(o = .eq∧op = .eql)∨(o = .HI∧op = .add)∨(o = .Qg∧op = .eql)) {t:TypeId} {x y:Operand} {dx dy d:D} {a b:Value} (ha:RD M s dx a) (hb:RD M s dy b) (h:ug o dx dy=some d) :
 cH P M s w (do pure (.value (← (do eqGuard op t x y a b;binOp op t a b)))) d s:=by
 unfold ug at h
 split at h<;>(try simp only[reduceCtorEq,false_and,true_and,false_or,or_false]at ho)
 ·rename_i k p k' q
  split at h<;>cases h
  rename_i hk;subst hk;subst ho
  cases ha.ou;cases hb.ou
  exact cH.pure r (by simp[jv (P:=P) (w:=w) (op:= .eql) (t:=t) (x:=x) (y:=y) (a:= .float k p) (b:= .float k q) ⟨by simp,by simp⟩,binOp,Op.floatCmp]) (.bool _)
 ·rename_i k p p' k' q q'
  split at h
  ·rename_i hk;subst hk;subst ho
   cases ha.ou;cases hb.ou
   split at h
   ·rename_i e f h1 h2
    cases h
    simp only[T7]at h1 h2
    exact cH.pure r (by simp[jv (P:=P) (w:=w) (op:= .add) (t:=t) (x:=x) (y:=y) (a:= .complex k p p') (b:= .complex k q q') ⟨by simp,by simp⟩,binOp,Op.complexOp,Op.Complex.arith,Op.floatArith,h1,h2]) (.val _ rfl)
   ·cases h
  ·cases h
 ·rename_i k p p' k' q q'
  split at h<;>cases h
  rename_i hk;subst hk;subst ho
  cases ha.ou;cases hb.ou
  exact cH.pure r (by simp[jv (P:=P) (w:=w) (op:= .eql) (t:=t) (x:=x) (y:=y) (a:= .complex k p p') (b:= .complex k q q') ⟨by simp,by simp⟩,binOp,Op.complexOp,Op.Complex.cmp,Op.floatCmp,asBool]) (.bool _)
 ·cases h
theorem Ub (r:Rel M s w) {neg:Bool} {t:TypeId} {x y:Operand} {p q:Bool} (ht:P.underlying t=some .bool) :
 cH P M s w (do pure (.value (← (do eqGuard (if neg then .neq else .eql) t x y (.bool p) (.bool q);binOp (if neg then .neq else .eql) t (.bool p) (.bool q))))) (.bool (if neg then !(p==q)else p==q)) s:=by
 refine cH.pure (v:= .bool (if neg then !(p==q)else p==q)) r ?_ (.bool _)
 have hg:=jv (P:=P) (w:=w) (op:=if neg then .neq else .eql) (t:=t) (x:=x) (y:=y) (a:= .bool p) (b:= .bool q) ⟨by simp,by simp⟩
 have he:(Op.equal t (.bool p) (.bool q)).run P w = .ok (p==q) w:=by
  exact run_equalIn_bool w 9999 t p q ht
 cases neg
 ·simp only [zaa,if_false]at hg ⊢
  simp[hg,binOp,he]
 ·simp only [if_true]at hg ⊢
  simp[hg,binOp,he]
theorem Kk (n:Nat) {t e:TypeId} {a:Option Addr} (ht:P.underlying t=some (.pointer e)):(Op.equalIn (n+1) t (.pointer a) (.pointer none)).run P w = .ok a.isNone w:=by
 cases a<;>simp[Op.equalIn,run_underlying ht]
theorem B3 (r:Rel M s w) {neg:Bool} {t e:TypeId} {x y:Operand} {a:Option Addr} (ht:P.underlying t=some (.pointer e)) :
 cH P M s w (do pure (.value (← (do eqGuard (if neg then .neq else .eql) t x y (.pointer a) (.pointer none);binOp (if neg then .neq else .eql) t (.pointer a) (.pointer none))))) (.bool (if neg then !a.isNone else a.isNone)) s:=by
 refine cH.pure (v:= .bool (if neg then !a.isNone else a.isNone)) r ?_ (.bool _)
 have hg:=jv (P:=P) (w:=w) (op:=if neg then .neq else .eql) (t:=t) (x:=x) (y:=y) (a:= .pointer a) (b:= .pointer none) ⟨by simp,by simp⟩
 have he:(Op.equal t (.pointer a) (.pointer none)).run P w = .ok a.isNone w:=by
  exact Kk 9999 ht
 cases neg
 ·simp only [zaa,if_false]at hg ⊢
  simp[hg,binOp,he]
 ·simp only [if_true]at hg ⊢
  simp[hg,binOp,he]
theorem MS (n:Nat) {t:TypeId} {k:Nat} (hk:jZ P t=some k) {x y:D} {v u:Value} (rv:RD M s x v) (ru:RD M s y u) {b:Bool} (h:mJ k x y=some b) :
 (Op.equalIn (n+1) t v u).run P w = .ok b w:=by
 unfold jZ at hk
 split at hk<;>first|(cases hk;done)|skip
 ·rename_i kk hu
  cases hk
  cases x<;>cases y<;>simp[mJ]at h
  obtain⟨rfl,rfl⟩:=h
  rw[rv.gL,ru.gL]
  exact run_equalIn_int w n t _ _ _ _ hu
 ·rename_i hu
  cases hk
  cases x<;>cases y<;>simp[mJ]at h
  subst h
  rw[rv.nq,ru.nq]
  exact run_equalIn_bool w n t _ _ hu
 ·rename_i hu
  cases hk
  cases x<;>cases y<;>simp[mJ]at h
  subst h
  rw[rv.k5,ru.k5]
  rw[run_equalIn_string w n t _ _ hu]
  simp
theorem zH (n:Nat) : ∀ (fs:List Field) (off:Nat) (ks:List Nat) (xs ys:List D) (vs us:Array Value) (e:Bool),
 AX P off fs=some ks→(∀ (i:Nat) (d:D) (v:Value),xs[i]? = some d→vs[off+i]? = some v→RD M s d v)→(∀ i,i<xs.length→(vs[off+i]?).isSome)→
 (∀ (i:Nat) (d:D) (v:Value),ys[i]? = some d→us[off+i]? = some v→RD M s d v)→(∀ i,i<ys.length→(us[off+i]?).isSome)→
 kZ ks xs ys=some e→(Op.eqFields (n+1) vs us fs).run P w = .ok e w
 | [],off,ks,xs,ys,vs,us,e,hk,_,_,_,_,h=>by
  cases hk
  cases xs<;>cases ys<;>simp[kZ]at h
  subst h;rfl
 | f::fs,off,ks,xs,ys,vs,us,e,hk,h1,h2,h3,h4,h=>by
  unfold AX at hk
  split at hk
  ·rename_i hf
   obtain⟨ho,MT⟩:=hf
   split at hk
   ·rename_i k ks' fj bm
    cases hk
    match xs,ys with
    | [],[]=>cases h
    | [],_::_=>cases h
    |_::_,[]=>cases h
    | x::xs,y::ys=>
     obtain⟨v,hv⟩:=Option.isSome_iff_exists.1 (h2 0 (by simp))
     obtain⟨u,hu⟩:=Option.isSome_iff_exists.1 (h4 0 (by simp))
     simp only[zaP]at hv hu
     have rv:=h1 0 x v rfl hv
     have ru:=h3 0 y u rfl hu
     have zF:(isAgg f.type).run P w = .ok false w:=by
      unfold isAgg
      unfold jZ at fj
      cases hu:P.underlying f.type with
      |none=>rw[hu]at fj;simp at fj
      |some d=>simp only[Sem.run_bind,run_underlying hu,Result.andThen_ok];rw[hu]at fj;cases d<;>simp_all
     have pv:(Go.part f.type vs f.offset).run P w = .ok v w:=by simp[Go.part,zF,ho,hv]
     have pu:(Go.part f.type us f.offset).run P w = .ok u w:=by simp[Go.part,zF,ho,hu]
     cases hc:mJ k x y with
     |none=>simp[kZ,hc]at h
     | some b=>
      have hb:=MS (w:=w) n fj rv ru hc
      simp only[kZ,hc]at h
      simp only[Op.eqFields,if_pos MT,Sem.run_bind,pv,pu,hb,Result.andThen_ok,Sem.run_ite,Sem.run_pure]
      cases b with
      |false=>cases h;rfl
      | true=>
       have:=zH n fs (off+1) ks' xs ys vs us e bm
        (fun i d v e1 e2=>h1 (i+1) d v (by simpa using e1) (by rw[show off+(i+1)=off+1+i by omega];exact e2))
        (fun i hi=>by have:=h2 (i+1) (by simpa using hi);rwa [show off+(i+1)=off+1+i by omega]at this)
        (fun i d v e1 e2=>h3 (i+1) d v (by simpa using e1) (by rw[show off+(i+1)=off+1+i by omega];exact e2))
        (fun i hi=>by have:=h4 (i+1) (by simpa using hi);rwa [show off+(i+1)=off+1+i by omega]at this) h
       simp[this]
   ·cases hk
  ·cases hk
theorem Ue (r:Rel M s w) {neg:Bool} {t:TypeId} {x y:Operand} {ks:List Nat} {xs ys:List D} {a b:Value} {e:Bool} (ht:pJ P t=some ks) (ha:RD M s (.agg xs) a) (hb:RD M s (.agg ys) b) (he:kZ ks xs ys=some e) :
 cH P M s w (do pure (.value (← (do eqGuard (if neg then .neq else .eql) t x y a b;binOp (if neg then .neq else .eql) t a b)))) (.bool (if neg then !e else e)) s:=by
 obtain⟨vs,rfl,hl,_,h1⟩:=ha.Et
 obtain⟨us,rfl,jP,_,h2⟩:=hb.Et
 unfold pJ at ht
 split at ht
 ·rename_i fs hu
  split at ht
  ·rename_i hg
   obtain⟨rp,ji⟩:=hg
   have hf:P.fieldsOf t=fs:=by simp[Program.fieldsOf,hu]
   have c7:(Op.equalIn 10000 t (.agg vs) (.agg us)).run P w = .ok e w:=by
    rw[run_equalIn_struct w 9999 t vs us (by rw[hf];exact hu) ji,hf]
    exact zH 9998 fs.toList 0 ks xs ys vs us e ht (fun i d v e1 e2=>h1 i d v e1 (by simpa using e2)) (fun i hi=>by simp;omega)
     (fun i d v e1 e2=>h2 i d v e1 (by simpa using e2)) (fun i hi=>by simp;omega) he
   have Fz:=run_eqGuard_agg (P:=P) w (if neg then .neq else .eql) t x y vs us rp
   refine cH.pure (v:= .bool (if neg then !e else e)) r ?_ (.bool _)
   cases neg
   ·simp only [zaa,if_false]at Fz ⊢
    simp only[Sem.run_bind,Fz,Result.andThen_ok,run_eql_struct,c7,Sem.run_pure]
   ·simp only [if_true]at Fz ⊢
    simp only[Sem.run_bind,Fz,Result.andThen_ok,run_neq_struct,c7,Sem.run_pure]
  ·cases ht
 ·cases ht
end
end Go.Abs
namespace Go.Abs
section
variable {P:Program} {M:Map} {s:St} {w:World}
theorem A1 (l:List UInt8):(⟨⟨l⟩⟩:ByteArray).size=l.length:=rfl
theorem extract_mk (l:List UInt8) (a b:Nat):(⟨⟨l⟩⟩:ByteArray).extract a b = ⟨⟨(l.take b).drop a⟩⟩:=by
 apply ByteArray.ext
 rw[ByteArray.data_extract]
 apply Array.ext'
 simp[List.drop_take]
theorem getElem?_mk (l:List UInt8) (n:Nat):(⟨⟨l⟩⟩:ByteArray)[n]? = l[n]? :=by
 by_cases h:n<l.length
 ·rw[getElem?_pos (⟨⟨l⟩⟩:ByteArray) n h,zap h];rfl
 ·rw [List.getElem?_eq_none (by omega)]
  rw[getElem?_neg (c:=(⟨⟨l⟩⟩:ByteArray)) (i:=n)]
  show ¬ n<(⟨⟨l⟩⟩:ByteArray).size
  rw[A1];omega
theorem Qt (r:Rel M s w) {t:TypeId} {l:List UInt8} {k:IntKind} {n:Int} {c:UInt8} (ht:P.underlying t=some .string) (h0:0≤n) (hc:l[n.toNat]? = some c) :
 cH P M s w (do pure (.value (← Instr.index t (.string ⟨⟨l⟩⟩) (.int k n)))) (.int .u8 c.toNat) s:=by
 refine cH.pure (v:= .int .u8 c.toNat) r ?_ (.int _ _)
 simp[Instr.index,asIntOf,run_underlying ht,h0,getElem?_mk,hc]
theorem HT (r:Rel M s w) {t ty:TypeId} {l:List UInt8} (ht:P.underlying t=some .string) :
 cH P M s w (do pure (.value (← Builtin.len_ #[t] ty #[.string ⟨⟨l⟩⟩]))) (.int .i64 l.length) s:=by
 refine cH.pure (v:= .int .i64 l.length) r ?_ (.int _ _)
 simp[Builtin.len_,run_underlying ht,goInt,A1]
theorem mK (r:Rel M s w) {t ty e:TypeId} {a:Option Addr} {n c:Nat} (ht:P.underlying t=some (.slice e)) :
 cH P M s w (do pure (.value (← Builtin.len_ #[t] ty #[.slice a n c]))) (.int .i64 n) s:=by
 refine cH.pure (v:= .int .i64 n) r ?_ (.int _ _)
 simp[Builtin.len_,run_underlying ht,goInt]
theorem MU (r:Rel M s w) {t e:TypeId} {i:TypeInfo} {g:Tag} {rows:List (List D)} {row:List D} {v:Value} {k:IntKind} {n:Int} (ht:P.underlying t=some (.slice e)) (hi:P.info? e=some i)
 (hd:RD M s (.slice g i.size rows) v) (h0:0≤n) (hr:rows[n.toNat]? = some row) :
 cH P M s w (do pure (.value (← Instr.indexAt t v (.int k n)))) (.dJ row 0) s:=by
 have hC:=(zai.1 hr).1
 rcases hd.jc with ⟨rfl,_,_⟩|⟨rfl,_,_⟩|⟨b,q,cap,rfl,hl,hs,h1,h2,_⟩
 ·simp at hr
 ·simp at hr
 ·refine cH.pure (v:= .pointer (some ⟨b,q+n.toNat*i.size+0,none⟩)) r ?_ ?_
  ·have:n<(rows.length:Int):=by omega
   simp[Instr.indexAt,asIntOf,run_underlying ht,h0,this,sizeOf,fG P hi,mb]
  ·refine .dJ row 0 b (q+n.toNat*i.size) (fun j d hj=> ?_) (fun j d u hj hu=> ?_)
   ·obtain⟨u,hu⟩:=h1 n.toNat row j d hr hj
    exact⟨u,by rw[Nat.add_assoc];exact hu⟩
   ·exact h2 n.toNat row j d u hr hj (by rw[← Nat.add_assoc];exact hu)
def Qu (lv:Option Value) (l:Int):Prop:=(lv=none∧l=0)∨∃ k,lv=some (.int k l)
def Qv (hv:Option Value) (len:Nat) (h:Int):Prop:=(hv=none∧h=len)∨∃ k,hv=some (.int k h)
theorem o4 {isSlice:Bool} {lv hv:Option Value} {len cap:Nat} {l h:Int} (h1:Qu lv l) (h2:Qv hv len h) (a:0≤l) (b:l≤h) (c:h≤len) (d:len≤cap) :
 (Instr.sliceBounds isSlice len cap lv hv none).run P w = .ok (l.toNat,h.toNat,cap) w:=by
 have h0:0≤h:=by omega
 have hc:h≤cap:=by omega
 rcases h1 with ⟨rfl,rfl⟩|⟨k,rfl⟩<;>rcases h2 with ⟨rfl,rfl⟩|⟨k',rfl⟩
 ·simp[Instr.sliceBounds]
 ·simp[Instr.sliceBounds,run_sliceBound w _ _ _ _ h0 hc]
 ·simp[Instr.sliceBounds,run_sliceBound w _ _ _ _ a b]
 ·have e:(h.toNat:Int)=h:=Int.toNat_of_nonneg h0
  simp[Instr.sliceBounds,run_sliceBound w _ _ _ _ h0 hc,run_sliceBound w _ _ _ _ a (show l≤(h.toNat:Int) by omega)]
theorem Qw (r:Rel M s w) {t:TypeId} {lv hv:Option Value} {x:List UInt8} {l h:Int} (ht:P.underlying t=some .string) (h1:Qu lv l) (h2:Qv hv x.length h) (a:0≤l) (b:l≤h) (c:h≤x.length) :
 cH P M s w (do pure (.value (← Instr.sliceAt t (.string ⟨⟨x⟩⟩) lv hv none))) (.str ((x.take h.toNat).drop l.toNat)) s:=by
 have hb:=o4 (P:=P) (w:=w) (isSlice:=false) (cap:=x.length) h1 h2 a b c (zaj _)
 refine cH.pure (v:= .string ⟨⟨(x.take h.toNat).drop l.toNat⟩⟩) r ?_ (.str _)
 simp[Instr.sliceAt,run_underlying ht,Instr.slice,A1,hb,extract_mk]
theorem iM.cut {g:Tag} {z len Uf cap:Nat} {base:Option (Nat×Nat)} (h:iM M s g z len base cap) (hl:Uf≤len) (whole:Bool) (hw:whole=true→Uf=len):iM M s (g.cut whole) z Uf base cap:=by
 cases g with
 |full=>
  cases whole with
  |true=>rw[hw rfl];exact h
  |false=>trivial
 |shared=>trivial
 |tok t y=>
  obtain⟨x1,x2⟩:=h
  refine⟨x1,fun n hn=>⟨zaN hl (x2 n hn).1,fun e=>?_⟩⟩
  have:len=n:=by have:=(x2 n hn).1;omega
  exact(x2 n hn).2 this
theorem Ug (r:Rel M s w) {t e:TypeId} {i:TypeInfo} {g:Tag} {z:Nat} {lv hv:Option Value} {rows:List (List D)} {v:Value} {l h:Int} (ht:P.underlying t=some (.slice e)) (CX:P.info? e=some i) (hz:rows = []∨z=i.size)
 (hd:RD M s (.slice g z rows) v) (h1:Qu lv l) (h2:Qv hv rows.length h) (a:0≤l) (b:l≤h) (c:h≤rows.length) :
 cH P M s w (do pure (.value (← Instr.sliceAt t v lv hv none))) (.slice (if l=0 then g.cut (h=rows.length)else .shared) z ((rows.take h.toNat).drop l.toNat)) s:=by
 have hlen:((rows.take h.toNat).drop l.toNat).length=h.toNat - l.toNat:=by simp;omega
 have tag : ∀ base cap,iM M s g z rows.length base cap→iM M s (if l=0 then g.cut (h=rows.length)else .shared) z ((rows.take h.toNat).drop l.toNat).length base cap:=by
  intro base cap nZ
  split
  ·exact nZ.cut (by omega) _ (fun hh=>by simp at hh;omega)
  ·trivial
 rcases hd.jc with ⟨rfl,rfl,nZ⟩|⟨rfl,rfl,a',cap,rfl⟩|⟨b',q,cap,rfl,hl,hs,g1,g2,nZ⟩
 ·have hb:=o4 (P:=P) (w:=w) (isSlice:=true) (cap:=0) h1 h2 a b c (zaj _)
  have Ls:l=0:=by simp at c;omega
  have hh0:h=0:=by simp at c;omega
  subst Ls;subst hh0
  refine cH.pure (v:= .slice none 0 0) r ?_ ?_
  ·simp at hb
   simp[Instr.sliceAt,run_underlying ht,Instr.slice,hb,sizeOf,fG P CX]
  ·have:=tag _ _ nZ
   simp only[Int.toNat_zero,List.take_nil,List.drop_nil,zax]at this ⊢
   exact .jX _ _ 0 rfl this
 ·have hb:=o4 (P:=P) (w:=w) (isSlice:=true) (cap:=cap) h1 h2 a b c (zau _)
  have Ls:l=0:=by simp at c;omega
  have hh0:h=0:=by simp at c;omega
  subst Ls;subst hh0
  simp only[zax]at hb
  have c7 : ∃ a2:Addr,(Instr.sliceAt t (.slice (some a') 0 cap) lv hv none).run P w = .ok (.slice (some a2) 0 cap) w:=by
   refine⟨if cap=(0:Int).toNat then a' else a'.add ((0:Int).toNat*i.size), ?_⟩
   simp only[Instr.sliceAt,Sem.run_bind,run_underlying ht,Result.andThen_ok,Instr.slice,hb,sizeOf,fG P CX,Sem.run_pure]
   split<;>simp
  obtain⟨a2,c7⟩:=c7
  refine cH.pure (v:= .slice (some a2) 0 cap) r (by simp[c7]) ?_
  simp only[↓reduceIte,Int.toNat_zero,List.take_nil,List.drop_nil]
  have:Tag.cut .shared (decide ((0:Int)=(([] : List (List D)).length:Int))) = .shared:=rfl
  rw[this]
  exact .nX _ a2 cap
 ·have hb:=o4 (P:=P) (w:=w) (isSlice:=true) (cap:=cap) h1 h2 a b c hl
  have c7:(Instr.sliceAt t (.slice (some ⟨b',q,none⟩) rows.length cap) lv hv none).run P w = .ok (.slice (some (if cap=l.toNat then⟨b',q,none⟩else⟨b',q+l.toNat*i.size,none⟩)) (h.toNat - l.toNat) (cap - l.toNat)) w:=by
   simp only[Instr.sliceAt,Sem.run_bind,run_underlying ht,Result.andThen_ok,Instr.slice,hb,sizeOf,fG P CX,Sem.run_pure]
   split<;>simp[mb]
  by_cases Ls:l=0
  ·subst Ls
   have e:(if cap=(0:Int).toNat then(⟨b',q,none⟩:Addr)else⟨b',q+(0:Int).toNat*i.size,none⟩) = ⟨b',q,none⟩:=by simp
   rw[e]at c7
   refine cH.pure (v:= .slice (some ⟨b',q,none⟩) ((rows.take h.toNat).drop (0:Int).toNat).length cap) r (by simp[c7];omega) ?_
   refine .slice _ z _ b' q cap (by omega) (fun row hr=>hs row ?_) (fun i row j d e1 e2=>?_) (fun i row j d u e1 e2 eu=>?_) (tag _ _ nZ)
   ·simp at hr;exact zaZ hr
   ·simp[zaV]at e1;exact g1 i row j d e1.2 e2
   ·simp[zaV]at e1;exact g2 i row j d u e1.2 e2 eu
  ·rw [if_neg Ls]
   by_cases sV:cap=l.toNat
   ·have:(rows.take h.toNat).drop l.toNat = []:=zbi (by omega)
    rw[this]
    rw[if_pos sV]at c7
    refine cH.pure (v:= .slice (some ⟨b',q,none⟩) ([] : List (List D)).length (cap - l.toNat)) r (by simp[c7];omega) ?_
    exact .slice _ z [] b' q _ (by simp) (by simp) (by simp) (by simp) trivial
   ·rw [if_neg sV]at c7
    refine cH.pure (v:= .slice (some ⟨b',q+l.toNat*i.size,none⟩) ((rows.take h.toNat).drop l.toNat).length (cap - l.toNat)) r (by simp[c7];omega) ?_
    have eD : ∀ (k:Nat) (row:List D),((rows.take h.toNat).drop l.toNat)[k]? = some row→rows[l.toNat+k]? = some row:=by
     intro k row e
     rw[zbg,zaV]at e
     split at e
     ·exact e
     ·cases e
    have hzz : ∀ (k:Nat) (row:List D),((rows.take h.toNat).drop l.toNat)[k]? = some row→z=i.size:=by
     intro k row e
     rcases hz with rfl|hz
     ·simp at e
     ·exact hz
    refine .slice _ z _ b' _ _ (by omega) (fun row hr=>hs row (zaZ (zbm hr))) (fun k row j d e1 e2=>?_) (fun k row j d u e1 e2 eu=>?_) trivial
    ·obtain⟨u,hu⟩:=g1 _ row j d (eD k row e1) e2
     refine⟨u, ?_⟩
     rw[← hu, ← hzz k row e1]
     congr 1
     rw[zbj];omega
    ·refine g2 _ row j d u (eD k row e1) e2 ?_
     rw[← eu, ← hzz k row e1]
     congr 1
     rw[zbj];omega
theorem vi (off:Nat) : ∀ (l:List Value) (k:Nat) (cells:Array Value) (i:Nat),
 ((l.zipIdx k).foldl (fun cs p=>cs.setIfInBounds (off+p.2) p.1) cells).size=cells.size∧
 (off+k+l.length≤cells.size→((l.zipIdx k).foldl (fun cs p=>cs.setIfInBounds (off+p.2) p.1) cells)[i]? = if off+k≤i∧i<off+k+l.length then l[i - (off+k)]? else cells[i]?)
 | [],k,cells,i=>by simp;intro _ h1 h2;omega
 | v::l,k,cells,i=>by
  obtain⟨h1,h2⟩:=vi off l (k+1) (cells.setIfInBounds (off+k) v) i
  simp only[List.zipIdx_cons,List.foldl_cons]
  refine⟨by rw[h1];simp,fun iU=>?_⟩
  simp only[zal]at iU
  rw[h2 (by simp;omega)]
  rw[Array.getElem?_setIfInBounds]
  by_cases hi:off+k=i
  ·subst hi
   rw[if_neg (by omega),if_pos rfl,if_pos (by omega),if_pos (by simp)]
   simp
  ·rw [if_neg hi]
   by_cases hr:off+(k+1)≤i∧i<off+(k+1)+l.length
   ·rw [if_pos hr,if_pos (by simp;omega)]
    rw[show i - (off+k)=(i - (off+(k+1)))+1 by omega]
    simp
   ·rw[if_neg hr,if_neg (by simp;omega)]
def sn (M:Map) (s:St) (ds:List D) (vs:Array Value):Prop:=vs.size=ds.length∧(∀ v∈vs,v.oneCell'=true)∧∀ (i:Nat) (d:D) (v:Value),ds[i]? = some d→vs[i]? = some v→RD M s d v
theorem sn.iD {ds:List D} {vs:Array Value} (h:sn M s ds vs) {d:D} {v:Value} {row:List D} (hd:RD M s d v) (hr:d.row=some row) {off:Nat} (iU:off+row.length≤ds.length) :
 sn M s (iD ds off row) (v.cells.zipIdx.foldl (fun cs (p:Value×Nat)=>cs.setIfInBounds (off+p.2) p.1) vs):=by
 obtain⟨h1,h2,h3⟩:=hd.row hr
 obtain⟨g1,g2,g3⟩:=h
 have e:v.cells.zipIdx.foldl (fun cs (p:Value×Nat)=>cs.setIfInBounds (off+p.2) p.1) vs=(v.cells.toList.zipIdx 0).foldl (fun cs p=>cs.setIfInBounds (off+p.2) p.1) vs:=by
  rw[← Array.foldl_toList];simp
 rw[e]
 have hl:v.cells.toList.length=row.length:=by simpa using h1
 have fs:=fun i=>vi off v.cells.toList 0 vs i
 have get : ∀ i,((v.cells.toList.zipIdx 0).foldl (fun cs p=>cs.setIfInBounds (off+p.2) p.1) vs)[i]? = if off≤i∧i<off+row.length then v.cells.toList[i - off]? else vs[i]? :=by
  intro i
  have:=(fs i).2 (by omega)
  rw[hl]at this
  simpa using this
 refine⟨by rw[(fs 0).1,g1,sU ds off row iU],fun u hu=>?_,fun i d' u e1 e2=>?_⟩
 ·obtain⟨i,hi⟩:=Array.mem_iff_getElem?.1 hu
  rw[get]at hi
  split at hi
  ·exact h2 u (zaQ.1 (zae hi))
  ·exact g2 u (zbC hi)
 ·rw [qD ds off row iU]at e1
  rw[get]at e2
  by_cases h5:off≤i
  ·by_cases h6:i<off+row.length
   ·rw [if_pos ⟨h5,h6⟩]at e2
    rw[if_neg (by omega),if_pos h6]at e1
    exact h3 _ d' u e1 (by simpa using e2)
   ·rw [if_neg (fun h=>h6 h.2)]at e2
    rw[if_neg (by omega),if_neg h6]at e1
    exact g3 i d' u e1 e2
  ·rw [if_neg (fun h=>h5 h.1)]at e2
   rw[if_pos (by omega)]at e1
   exact g3 i d' u e1 e2
theorem HU {place:Nat→Option (Nat×Nat)} : ∀ (vp:List (Nat×Value)) (dp:List (Nat×Nat×D)) (ds:List D) (vs:Array Value) (rn:List D),sn M s ds vs→
 dp.length=vp.length→(∀ (j:Nat) (i:Nat) (v:Value) (off size:Nat) (d:D),vp[j]? = some (i,v)→dp[j]? = some (off,size,d)→place i=some (off,size)∧RD M s d v)→
 qB ds dp=some rn→∃ fe,Instr.fill place vs vp=some fe∧sn M s rn fe
 | [],[],ds,vs,rn,h,_,_,e=>by cases e;exact⟨vs,rfl,h⟩
 | [],_::_,_,_,_,_,hl,_,_=>by simp at hl
 |_::_,[],_,_,_,_,hl,_,_=>by simp at hl
 | (i,v)::vp,(off,size,d)::dp,ds,vs,rn,h,hl,hp,e=>by
  obtain⟨h1,h2⟩:=hp 0 i v off size d rfl rfl
  unfold qB at e
  split at e
  ·cases e
  ·rename_i row hr
   split at e
   ·rename_i hc
    obtain⟨c1,c2⟩:=hc
    have dz:=(h2.row hr).1
    obtain⟨fe,f1,f2⟩:=HU vp dp (iD ds off row) _ rn (h.iD h2 hr (by omega)) (by simpa using hl)
     (fun j i v off size d e1 e2=>hp (j+1) i v off size d (by simpa using e1) (by simpa using e2)) e
    refine⟨fe, ?_,f2⟩
    unfold Instr.fill
    simp only[h1]
    rw[if_neg]
    ·exact f1
    ·simp;exact⟨by omega,by have:=h.1;omega⟩
   ·cases e
end
end Go.Abs
namespace Go.Abs
section
variable {P:Program} {M:Map} {s:St} {w:World}
def lN (M:Map) (s:St) (size:Nat) (rows:List (List D)) (vs:Array Value):Prop:=
 rows.length*size≤vs.size∧(∀ row∈rows,row.length=size)∧(∀ v∈vs,v.oneCell'=true)∧
 ∀ (i:Nat) (row:List D) (j:Nat) (d:D) (v:Value),rows[i]? = some row→row[j]? = some d→vs[i*size+j]? = some v→RD M s d v
theorem zI {size:Nat} {rows:List (List D)} (hs : ∀ row∈rows,row.length=size) {i:Nat} {row:List D} {j:Nat} {d:D} (h1:rows[i]? = some row) (h2:row[j]? = some d):i*size+j<rows.length*size:=by
 have hi:=(zai.1 h1).1
 have hj:=(zai.1 h2).1
 have:=hs row (zae h1)
 have:i*size+size≤rows.length*size:=by rw[← Nat.succ_mul];exact zaU _ hi
 omega
theorem lN.fixed {size:Nat} {rows:List (List D)} {vs:Array Value} (h:lN M s size rows vs) {M':Map} {s':St} (le:Le M s M' s') {b:Nat}
 (hG : ∀ o,o<rows.length*size→M'.G b o=vs[o]?) :
 (∀ (i:Nat) (row:List D) (j:Nat) (d:D),rows[i]? = some row→row[j]? = some d→∃ u,M'.G b (0+(i*size+j))=some u)∧
 (∀ (i:Nat) (row:List D) (j:Nat) (d:D) (u:Value),rows[i]? = some row→row[j]? = some d→M'.G b (0+(i*size+j))=some u→RD M' s' d u):=by
 obtain⟨h1,h2,h3,h4⟩:=h
 refine⟨fun i row j d e1 e2=>?_,fun i row j d u e1 e2 eu=>?_⟩
 ·have hC:=zI h2 e1 e2
  rw[za3,hG _ hC]
  exact⟨_,zbq (by omega)⟩
 ·have hC:=zI h2 e1 e2
  rw[za3,hG _ hC]at eu
  exact(h4 i row j d u e1 e2 eu).mono le
theorem lO (z:List D) : ∀ n,(fE z n).length=n
 | 0=>rfl
 |n+1=>by simp[fE,lO z n]
theorem ov (z:List D) : ∀ n,∀ row∈fE z n,row=z
 | 0,_,h=>by cases h
 |n+1,row,h=>by
  rcases zaw.1 h with rfl|h
  ·rfl
  ·exact ov z n row h
theorem lN.zero {z:List D} {zs:Array Value} (h:sn M s z zs) (hp:0<z.length) (n:Nat):lN M s z.length (fE z n) ((Array.range (n*z.length)).map (zs[· % zs.size]!)):=by
 obtain⟨h1,h2,h3⟩:=h
 have get : ∀ q,q<n*z.length→((Array.range (n*z.length)).map (zs[· % zs.size]!))[q]? = zs[q % z.length]? :=by
  intro q hq
  have:q % z.length<zs.size:=by rw[h1];exact Nat.mod_lt _ hp
  simp only[Array.getElem?_map,Array.getElem?_range,hq,if_true,zbx]
  rw[h1,getElem!_pos zs (q % z.length) this,zbq this]
 refine⟨by simp[lO],fun row hr=>by rw[ov z n row hr],fun v hv=>?_,fun i row j d v e1 e2 e3=>?_⟩
 ·obtain⟨q,hq⟩:=Array.mem_iff_getElem?.1 hv
  have hC:q<n*z.length:=by have:=(zaS.1 hq).1;simpa using this
  rw[get q hC]at hq
  exact h2 v (zbC hq)
 ·have eD:=ov z n row (zae e1)
  subst eD
  have hC:=zI (size:=row.length) (fun r hr=>by rw[ov row n r hr]) e1 e2
  rw[lO]at hC
  rw[get _ hC]at e3
  have hj:=(zai.1 e2).1
  rw[Nat.mul_comm,Nat.mul_add_mod,Nat.mod_eq_of_lt hj]at e3
  exact h3 j d v e2 e3
theorem lN.set {size:Nat} {rows:List (List D)} {vs:Array Value} (h:lN M s size rows vs) {d:D} {v:Value} {row:List D} (hd:RD M s d v) (hr:d.row=some row) (hl:row.length=size) {i:Nat} (hi:i<rows.length) :
 lN M s size (rows.set i row) (v.cells.zipIdx.foldl (fun cs (p:Value×Nat)=>cs.setIfInBounds (i*size+p.2) p.1) vs):=by
 obtain⟨h1,h2,h3⟩:=hd.row hr
 obtain⟨g1,g2,g3,g4⟩:=h
 have e:v.cells.zipIdx.foldl (fun cs (p:Value×Nat)=>cs.setIfInBounds (i*size+p.2) p.1) vs=(v.cells.toList.zipIdx 0).foldl (fun cs p=>cs.setIfInBounds (i*size+p.2) p.1) vs:=by
  rw[← Array.foldl_toList];simp
 rw[e]
 have ew:v.cells.toList.length=size:=by simp[h1,hl]
 have iU:i*size+size≤vs.size:=by
  have:(i+1)*size≤rows.length*size:=zaU _ hi
  rw[Nat.succ_mul]at this;omega
 have fs:=fun q=>vi (i*size) v.cells.toList 0 vs q
 have get : ∀ q,((v.cells.toList.zipIdx 0).foldl (fun cs p=>cs.setIfInBounds (i*size+p.2) p.1) vs)[q]? = if i*size≤q∧q<i*size+size then v.cells.toList[q - i*size]? else vs[q]? :=by
  intro q
  have:=(fs q).2 (by omega)
  rw[ew]at this
  simpa using this
 refine⟨by rw[(fs 0).1];simpa using g1,fun r vj=>?_,fun u hu=>?_,fun i' kJ j d' u e1 e2 e3=>?_⟩
 ·rcases List.mem_or_eq_of_mem_set vj with h | rfl
  ·exact g2 r h
  ·exact hl
 ·obtain⟨q,hq⟩:=Array.mem_iff_getElem?.1 hu
  rw[get]at hq
  split at hq
  ·exact h2 u (zaQ.1 (zae hq))
  ·exact g3 u (zbC hq)
 ·rw [zaK]at e1
  rw[get]at e3
  split at e1
  ·rename_i heq;subst heq
   simp at e1
   obtain⟨_,rfl⟩:=e1
   have hj:=(zai.1 e2).1
   rw[if_pos (by omega)]at e3
   rw[show i*size+j - i*size=j by omega]at e3
   exact h3 j d' u e2 (by simpa using e3)
  ·rename_i eF
   have hj:=(zai.1 e2).1
   have HW:=g2 kJ (zae e1)
   rw[if_neg]at e3
   ·exact g4 i' kJ j d' u e1 e2 e3
   ·rintro⟨a,b⟩
    rcases Nat.lt_or_gt_of_ne eF with h|h
    ·have:(i+1)*size≤i'*size:=zaU _ h
     rw[Nat.succ_mul]at this;omega
    ·have:(i'+1)*size≤i*size:=zaU _ h
     rw[Nat.succ_mul]at this;omega
theorem zJ {size:Nat} : ∀ (vp:List (Nat×Value)) (dp:List (Nat×D)) (rows:List (List D)) (vs:Array Value) (lx:List (List D)),lN M s size rows vs→
 dp.length=vp.length→(∀ (j:Nat) (i:Nat) (v:Value) (i':Nat) (d:D),vp[j]? = some (i,v)→dp[j]? = some (i',d)→i'=i∧RD M s d v)→
 jM size rows dp=some lx→∃ fe,Instr.fill (fun i=>some (i*size,size)) vs vp=some fe∧lN M s size lx fe∧lx.length=rows.length∧fe.size=vs.size
 | [],[],rows,vs,lx,h,_,_,e=>by cases e;exact⟨vs,rfl,h,rfl,rfl⟩
 | [],_::_,_,_,_,_,hl,_,_=>by simp at hl
 |_::_,[],_,_,_,_,hl,_,_=>by simp at hl
 | (i,v)::vp,(i',d)::dp,rows,vs,lx,h,hl,hp,e=>by
  obtain⟨h1,h2⟩:=hp 0 i v i' d rfl rfl
  subst h1
  unfold jM at e
  split at e
  ·cases e
  ·rename_i row hr
   split at e
   ·rename_i hc
    obtain⟨c1,c2⟩:=hc
    have dz:=(h2.row hr).1
    have aeg:=h.set h2 hr c1 c2
    obtain⟨fe,f1,f2,f3,f4⟩:=zJ vp dp (rows.set i' row) _ lx aeg (by simpa using hl)
     (fun j i v i' d e1 e2=>hp (j+1) i v i' d (by simpa using e1) (by simpa using e2)) e
    have iU:i'*size+size≤vs.size:=by
     have:(i'+1)*size≤rows.length*size:=zaU _ c2
     have:=h.1
     rw[Nat.succ_mul]at *;omega
    refine⟨fe, ?_,f2,by rw[f3];simp, ?_⟩
    ·unfold Instr.fill
     simp only
     rw[if_neg]
     ·exact f1
     ·simp;exact⟨by omega,by omega⟩
    ·rw [f4]
     have:=(vi (i'*size) v.cells.toList 0 vs 0).1
     rw[← this, ← Array.foldl_toList];simp
   ·cases e
theorem MV (r:Rel M s w) {size:Nat} {rows:List (List D)} {vs:Array Value} (T:TypeId) (h:lN M s size rows vs) :
 RD (M.fq w.heap.size vs.size vs) s (.slice .full size rows) (.slice (some ⟨w.heap.size,0,none⟩) rows.length rows.length)∧
 Rel (M.fq w.heap.size vs.size vs) s (w.alloc (.cells vs T))∧Ext M s w (M.fq w.heap.size vs.size vs) s (w.alloc (.cells vs T)):=by
 obtain⟨r',e'⟩:=r.fq vs.size vs T (0,0) h.2.2.1
 obtain⟨g1,g2⟩:=h.fixed e'.le (b:=w.heap.size) (fun o ho=>by
  have:o<vs.size:=Nat.lt_of_lt_of_le ho h.1
  simp[Map.fq,this])
 exact⟨.slice .full size rows w.heap.size 0 rows.length (zaj _) h.2.1 g1 g2 rfl,r',e'⟩
theorem lb {t u ty e:TypeId} {i:TypeInfo} (ht:P.underlying t=some (.slice e)) (hi:P.info? e=some i) {base:Option Addr} {len cap:Nat} {y:Value} (hs:Src P i.size u y 0 [] w) (hc:len≤cap) :
 (Builtin.append_ #[t,u] ty #[.slice base len cap,y]).run P w = .ok (.slice base len cap) w:=by
 have lP:=hs.cells
 rcases hs.kind with ⟨e',hk⟩|hk<;>cases base<;>simp[Builtin.append_,run_underlying ht,run_underlying hk,sizeOf,typeInfo,hi,hs.len,hc,lP,storeCells]
theorem FA (r:Rel M s w) {u e':TypeId} (hu:P.underlying u=some (.slice e')) {g:Tag} {size:Nat} {rows:List (List D)} {y:Value} (hy:RD M s (.slice g size rows) y) :
 ∃ news:List Value,Src P size u y rows.length news w∧
  (∀ (i:Nat) (row:List D) (j:Nat) (d:D) (v:Value),rows[i]? = some row→row[j]? = some d→news[i*size+j]? = some v→RD M s d v)∧
  ∀ (b q n c:Nat),y = .slice (some ⟨b,q,none⟩) n c→∀ o,o<rows.length*size→M.G b (q+o)=news[o]? :=by
 rcases hy.jc with ⟨rfl,rfl,_⟩|⟨rfl,_,a,cap,rfl⟩|⟨b,q,cap,rfl,hl,hs,g1,g2,_⟩
 ·exact⟨[],Src.ofNil w hu 0,by simp,by simp⟩
 ·exact⟨[],Src.ofSlice w hu a 0 cap [] (by simp) (by simp) (by simp),by simp,by simp⟩
 ·obtain⟨us,hlen,BA⟩:=ya (M:=M) (b:=b) (rows.length*size) q (fun k hk=>by
   have hz:0<size:=by
    rcases Nat.eq_zero_or_pos size with h|h
    ·subst h;simp at hk
    ·exact h
   have hi:k / size<rows.length:=by rw[Nat.div_lt_iff_lt_mul hz];exact hk
   obtain⟨row,eD⟩ : ∃ row,rows[k / size]? = some row:=⟨_,zap hi⟩
   have HW:=hs row (zae eD)
   have hj:k % size<row.length:=by rw[HW];exact Nat.mod_lt _ hz
   obtain⟨u,hu⟩:=g1 _ row _ _ eD (zap hj)
   refine⟨u, ?_⟩
   rw[← hu,Nat.mul_comm (k / size) size,Nat.div_add_mod])
  refine⟨us,Src.ofSlice w hu ⟨b,q,none⟩ rows.length cap us hlen (fun j u h=>by rw[mb];exact(r.comm _ _ _ (BA j u h)).1) (fun u hu=>?_),fun i row j d v e1 e2 e3=>g2 i row j d v e1 e2 (BA _ v e3),
   fun b' q' n c heq o ho=>by
    cases heq
    rw[BA o _ (zap (by omega)),zap (by omega)]⟩
  obtain⟨j,hj⟩:=List.mem_iff_getElem?.1 hu
  exact(r.comm _ _ _ (BA j u hj)).2
theorem CY {size:Nat} {rows new:List (List D)} {pB news:List Value} (CZ : ∀ row∈rows,row.length=size) (FB : ∀ row∈new,row.length=size)
 (l1:pB.length=rows.length*size) (l2:news.length=new.length*size) (o1 : ∀ u∈pB,u.oneCell'=true) (o2 : ∀ u∈news,u.oneCell'=true)
 (h1 : ∀ (i:Nat) (row:List D) (j:Nat) (d:D) (v:Value),rows[i]? = some row→row[j]? = some d→pB[i*size+j]? = some v→RD M s d v)
 (h2 : ∀ (i:Nat) (row:List D) (j:Nat) (d:D) (v:Value),new[i]? = some row→row[j]? = some d→news[i*size+j]? = some v→RD M s d v)
 (z:Array Value) (hz : ∀ v∈z,v.oneCell'=true):lN M s size (rows++new) ((pB++news).toArray++z):=by
 have hs : ∀ row∈rows++new,row.length=size:=fun row h=>(zaB.1 h).elim (CZ row) (FB row)
 refine⟨by simp[l1,l2,zbj],hs,fun v hv=>?_,fun i row j d v e1 e2 e3=>?_⟩
 ·simp at hv
  rcases hv with (h|h)|h
  ·exact o1 v h
  ·exact o2 v h
  ·exact hz v h
 ·have hC:=zI hs e1 e2
  rw[zak,zbj]at hC
  rw[za1 (by simp[l1,l2];omega),zbr]at e3
  by_cases hi:i<rows.length
  ·rw [zar hi]at e1
   have:=zI CZ e1 e2
   rw[zar (by omega)]at e3
   exact h1 i row j d v e1 e2 e3
  ·rw [zav (by omega)]at e1
   have dN:rows.length*size≤i*size:=zaU _ (by omega)
   rw[zav (by omega),l1]at e3
   refine h2 (i - rows.length) row j d v e1 e2 ?_
   rw[← e3]
   congr 1
   rw[Nat.sub_mul];omega
theorem sW {z:Array Value} (h : ∀ v∈z,v.oneCell'=true) (n:Nat) : ∀ v∈Builtin.zeroCells z n,v.oneCell'=true:=by
 intro v hv
 unfold Builtin.zeroCells at hv
 obtain⟨q,hq,rfl⟩:=Array.mem_map.1 hv
 have hC:q<n*z.size:=by simpa using hq
 have hz:0<z.size:=by
  rcases Nat.eq_zero_or_pos z.size with h|h
  ·rw[h]at hC;simp at hC
  ·exact h
 have:=Nat.mod_lt q hz
 rw[getElem!_pos z (q % z.size) this]
 exact h _ (Array.getElem_mem this)
def Ev (eb:Bool) (size bytes:Nat) (x y:D) (s:St):Option (D×St):=
 match x,y with
 | .slice g z rows, .slice _ z' new=>
  if(rows = []∨z=size)∧(new = []∨z'=size)∧(rows.length+new.length)*(bytes+1)≤bh then
   match new with
   | []=>some (.slice g z rows,s)
   |_::_=>
    match g with
    | .full=>some (.slice (.tok s.aE.length eb) size (rows++new),{s with aE:=s.aE++ [some (rows.length+new.length)]})
    | .shared=>none
    | .tok t y=>if(y=true→eb=true)∧z=size∧s.aE[t]? = some (some rows.length)then some (.slice (.tok t y) size (rows++new),{s with aE:=s.aE.set t (some (rows.length+new.length))})else none
  else none
 |_,_=>none
theorem aaK {size bytes:Nat} {x y d:D} {s s':St} (h:fP size bytes x y s=some (d,s')):Ev false size bytes x y s=some (d,s'):=by
 unfold fP at h
 unfold Ev
 split at h
 ·split at h
  ·rename_i hc
   simp only[hc,and_self,if_true]
   split at h
   ·exact h
   ·split at h
    ·exact h
    ·exact h
    ·cases h
    ·split at h
     ·rename_i hq
      simp only[hq,and_self,zaa,false_imp_iff,if_true]
      exact h
     ·cases h
  ·cases h
 ·cases h
theorem Qx {x y d:D} {s s':St} (h:zz x y s=some (d,s')):Ev true 1 1 x y s=some (d,s'):=by
 unfold zz at h
 unfold Ev
 split at h
 ·split at h
  ·rename_i hc
   simp only[hc,and_self,if_true]
   split at h
   ·exact h
   ·split at h
    ·exact h
    ·exact h
    ·split at h
     ·rename_i hq
      simp only[hq,and_self,imp_true_iff,if_true]
      exact h
     ·cases h
  ·cases h
 ·cases h
theorem Xz {b:Bool} {n:Nat} (h:b=true→n=1) (hn:0<n):zs (bz b n)=n:=by
 cases b
 ·show(if n=0 then 1 else n)=n
  rw[if_neg (by omega)]
 ·simp[zs,bz,h rfl]
theorem B4 (eb:Bool) (r:Rel M s w) {t u ty e:TypeId} {i:TypeInfo} {z:Value} (ht:P.underlying t=some (.slice e)) (hi:P.info? e=some i) (hz:i.zero=some z)
 (wW:z.cells.size=i.size) (BD : ∀ v∈z.cells,v.oneCell'=true) {dx dy d:D} {x y:Value} {s':St} (hx:RD M s dx x) (XA:eb=true→e=oZ∧i.size=1) (p8:0<i.size) (he:Ev eb i.size i.bytes dx dy s=some (d,s'))
 (src : ∀ (g:Tag) (size:Nat) (rows:List (List D)),dy = .slice g size rows→(rows = []→Src P i.size u y 0 [] w)∧(rows≠ []→size=i.size→(∀ row∈rows,row.length=i.size)∧∃ news:List Value,Src P i.size u y rows.length news w∧
  (∀ (k:Nat) (row:List D) (j:Nat) (d:D) (v:Value),rows[k]? = some row→row[j]? = some d→news[k*i.size+j]? = some v→RD M s d v))) :
 ∃ v w' M',(Builtin.append_ #[t,u] ty #[x,y]).run P w = .ok v w'∧Rel M' s' w'∧RD M' s' d v∧Ext M s w M' s' w':=by
 unfold Ev at he
 split at he
 case h_2=>cases he
 rename_i g zx rows g' zy new
 split at he
 case isFalse=>cases he
 rename_i hc
 obtain⟨gS,uk,tn⟩:=hc
 cases new with
 | nil=>
  simp only at he
  cases he
  have Qy:Src P i.size u y 0 [] w:=(src _ _ _ rfl).1 rfl
  rcases hx.jc with ⟨_,hv,_⟩|⟨_,_,a,cap,hv⟩|⟨b,q,cap,hv,hl,_⟩
  ·refine⟨x,w,M, ?_,r,hx,Ext.refl M s w⟩
   rw[hv]
   exact lb ht hi Qy (zaj _)
  ·refine⟨x,w,M, ?_,r,hx,Ext.refl M s w⟩
   rw[hv]
   exact lb ht hi Qy (zau _)
  ·refine⟨x,w,M, ?_,r,hx,Ext.refl M s w⟩
   rw[hv]
   exact lb ht hi Qy hl
 | cons n0 new=>
  have eF:(n0::new)≠ []:=by simp
  generalize dK:n0::new=dP at *
  have Qz:zy=i.size:=uk.resolve_left eF
  subst Qz
  obtain⟨C0,news,hs,A2⟩:=(src _ _ _ rfl).2 eF rfl
  have hm:0<dP.length:=List.length_pos_iff.2 eF
  have sq:(rows.length+dP.length)*i.bytes≤140737488355328:=by rw[Nat.mul_succ]at tn;simp only[bh]at tn;omega
  have QA:rows.length+dP.length≤1099511627776:=by rw[Nat.mul_succ]at tn;simp only[bh]at tn;omega
  -- what the first argument reads as
  obtain⟨base,cap,pB,hxv,hle,ow,hod,XB,aaM,hsx,hoG,nZ⟩ : ∃ (base:Option Addr) (cap:Nat) (pB:List Value),x = .slice base rows.length cap∧rows.length≤cap∧pB.length=rows.length*i.size∧
   (Builtin.firstCells i.size rows.length (.slice base rows.length cap)).run P w.drew = .ok pB.toArray w.drew∧(∀ u∈pB,u.oneCell'=true)∧
   (∀ (k:Nat) (row:List D) (j:Nat) (d:D) (v:Value),rows[k]? = some row→row[j]? = some d→pB[k*i.size+j]? = some v→RD M s d v)∧(∀ row∈rows,row.length=i.size)∧
   (∀ b q,base=some ⟨b,q,none⟩→∀ o,o<rows.length*i.size→M.G b (q+o)=pB[o]?)∧
   ((base=none∧rows = []∧iM M s g zx 0 none cap)∨∃ b q,base=some ⟨b,q,none⟩∧iM M s g zx rows.length (some (b,q)) cap):=by
   rcases gS with h0|h0
   ·subst h0
    rcases hx.jc with ⟨_,hv,nZ⟩|⟨_,rfl,_⟩|⟨b,q,cap,hv,hl,_,_,_,nZ⟩
    ·exact⟨none,0,[],hv,zaj _,by simp,by simp[Builtin.firstCells],by simp,by simp,by simp,by simp, .inl ⟨rfl,rfl,nZ⟩⟩
    ·exfalso;simp only[← dK]at he;cases he
    ·exact⟨some ⟨b,q,none⟩,cap,[],hv,hl,by simp,by simp[Builtin.firstCells,loadCells,loadCellsFrom],by simp,by simp,by simp,by simp, .inr ⟨b,q,rfl,nZ⟩⟩
   ·subst h0
    obtain⟨pB,Lt,po,jj⟩:=FA r ht hx
    rcases hx.jc with ⟨h0,hv,nZ⟩|⟨_,rfl,_⟩|⟨b,q,cap,hv,hl,ox,_,_,nZ⟩
    ·subst h0
     refine⟨none,0,pB,hv,zaj _,Lt.newsLen, ?_,Lt.one,po,by simp,by simp, .inl ⟨rfl,rfl,nZ⟩⟩
     have:=Lt.cellsD;rw[hv]at this;exact this
    ·exfalso;simp only[← dK]at he;cases he
    ·refine⟨some ⟨b,q,none⟩,cap,pB,hv,hl,Lt.newsLen, ?_,Lt.one,po,ox,fun b' q' heq o ho=> ?_, .inr ⟨b,q,rfl,nZ⟩⟩
     ·have:=Lt.cellsD;rw[hv]at this;exact this
     ·cases heq;exact jj b q _ cap hv o ho
  subst hxv
  -- the way that makes a new row
  have grow : ∀ (hg:cap<rows.length+dP.length),∃ (w':World) (M1:Map) (vs:Array Value) (oy:Nat),
   (Builtin.append_ #[t,u] ty #[.slice base rows.length cap,y]).run P w = .ok (.slice (some ⟨w.heap.size,0,none⟩) (rows.length+dP.length) oy) w'∧
   w'.heap[w.heap.size]? = some (.cells vs e (0,0))∧vs.size=oy*i.size∧rows.length+dP.length≤oy∧M1=M.fq w.heap.size ((rows.length+dP.length)*i.size) vs∧
   lN M s i.size (rows++dP) vs∧Rel M1 s w'∧Ext M s w M1 s w':=by
   intro hg
   have dN:=grownCap_ge w (rows.length+dP.length) cap e
   have c7:=run_append_grow_src (P:=P) w t u ty e i z ht hi hz base rows.length cap pB hod y dP.length news hs hg (by omega) (growslice_fits hg sq)
   have eD:=CY (M:=M) (s:=s) hsx C0 ow hs.newsLen XB hs.one aaM A2 (Builtin.zeroCells z.cells (grownCap w (rows.length+dP.length) cap e - (rows.length+dP.length))) (sW BD _)
   obtain⟨r1,e1⟩:=(r.of_heap (w':=w.drew) rfl).fq ((rows.length+dP.length)*i.size) _ e (0,0) eD.2.2.1
   refine⟨_,_,_,_,c7,heap_alloc_new w.drew _, ?_,dN,rfl,eD,r1,(Ext.of_heap (M:=M) (s:=s) (w:=w) (w':=w.drew) rfl rfl rfl rfl).trans e1⟩
   simp only[Array.size_append,List.size_toArray,zak,size_zeroCells,wW,ow,hs.newsLen, ← zbj]
   congr 1;omega
  have hlen:(rows++dP).length=rows.length+dP.length:=by simp
  cases g with
  |shared=>simp only[← dK]at he;cases he
  | full=>
   have sV:cap=rows.length:=by
    rcases nZ with ⟨_,h0,h1⟩|⟨_,_,_,h1⟩
    ·subst h0;exact h1
    ·exact h1
   obtain⟨w',M1,vs,oy,c7,hh,dz,hn,C1,eD,r1,e1⟩:=grow (by omega)
   simp only[← dK]at he
   simp only[dK]at he
   cases he
   have HX:zs (bz eb i.size)=i.size:=Xz (fun h=>(XA h).2) p8
   have XC:bz eb i.size=0→e=oZ:=fun h0=>by
    cases eb with
    |true=>exact(XA rfl).1
    |false=>simp[bz]at h0;omega
   obtain⟨r2,l2⟩:=r1.Xy (rows.length+dP.length) w.heap.size oy (bz eb i.size) vs e hh (by rw[HX];exact dz) hn XC
    (fun off ho=>by rw[HX]at ho;rw[C1];simp[Map.fq];omega)
    (fun o ho=>by have:=r.pT ho;rw [C1];show M.mu o≠_;omega) (fun q c z' hl heq=>by
     have:M.be q=some (w.heap.size,c,z'):=by rw[C1]at heq;exact heq
     have:=r.rT hl this;omega)
   refine⟨_,w',_,c7,r2, ?_, ?_⟩
   ·obtain⟨f1,f2⟩:=eD.fixed (e1.le.trans l2) (b:=w.heap.size) (fun o ho=>by
     rw[C1,hlen]at *
     simp[Map.eG,Map.fq,ho])
    have key:=RD.slice (M:=M1.eG s.aE.length (some (w.heap.size,oy,bz eb i.size))) (s:= {s with aE:=s.aE++ [some (rows.length+dP.length)]}) (.tok s.aE.length eb) i.size (rows++dP) w.heap.size 0 oy (by rw[hlen];exact hn) eD.2.1 f1 f2
     ⟨by simp,fun n oz=>by
      simp at oz
      subst oz
      exact⟨by rw[hlen];exact zaj _,fun _=> .inr ⟨_,rfl,by simp[Map.eG]⟩⟩⟩
    rw[hlen]at key
    exact key
   ·refine⟨e1.le.trans l2,e1.kept,e1.uc,fun q b c z' hl heq=> ?_,e1.sT,e1.size,e1.os,e1.tape,e1.output⟩
    obtain⟨k,hk⟩:=hl
    rcases zaF q s.aE.length with h|h
    ·have HY:M1.be q=some (b,c,z'):=by
      have:(M1.eG s.aE.length (some (w.heap.size,oy,bz eb i.size))).be q=M1.be q:=by simp[Map.eG];omega
      rw[this]at heq;exact heq
     simp only[zar h]at hk
     exact e1.qA q b c z' ⟨k,hk⟩ HY
    ·have:=(zai.1 hk).1
     simp at this
     have:q=s.aE.length:=by omega
     subst this
     have:(M1.eG s.aE.length (some (w.heap.size,oy,bz eb i.size))).be s.aE.length=some (w.heap.size,oy,bz eb i.size):=by simp[Map.eG]
     rw[this]at heq;cases heq
     exact .inr (zaj _)
  | tok q yb=>
   simp only[← dK]at he
   simp only[dK]at he
   split at he
   case isFalse=>cases he
   rename_i hq
   obtain⟨XC,hzx,hq⟩:=hq
   cases he
   have HX:zs (bz yb i.size)=i.size:=Xz (fun h=>(XA (XC h)).2) p8
   have ag3:bz yb i.size=0→e=oZ:=fun h0=>by
    cases yb with
    |true=>exact(XA (XC rfl)).1
    |false=>simp[bz]at h0;omega
   have MW : ∀ (hg:cap<rows.length+dP.length),∃ v w' M',(Builtin.append_ #[t,u] ty #[.slice base rows.length cap,y]).run P w = .ok v w'∧Rel M' {s with aE:=s.aE.set q (some (rows.length+dP.length))} w'∧
    RD M' {s with aE:=s.aE.set q (some (rows.length+dP.length))} (.slice (.tok q yb) i.size (rows++dP)) v∧Ext M s w M' {s with aE:=s.aE.set q (some (rows.length+dP.length))} w':=by
    intro hg
    obtain⟨w',M1,vs,oy,c7,hh,dz,hn,C1,eD,r1,e1⟩:=grow hg
    have HZ:q<s.aE.length:=(zai.1 hq).1
    obtain⟨r2,l2⟩:=r1.aed q rows.length (rows.length+dP.length) w.heap.size oy (bz yb i.size) vs e hq (by omega) hh (by rw[HX];exact dz) hn ag3
     (fun off ho=>by rw[HX]at ho;rw[C1];simp[Map.fq];omega)
     (fun o ho=>by have:=r.pT ho;rw [C1];show M.mu o≠_;omega) (fun q c z' hl heq=>by
      have:M.be q=some (w.heap.size,c,z'):=by rw[C1]at heq;exact heq
      have:=r.rT hl this;omega)
    refine⟨_,w',_,c7,r2, ?_, ?_⟩
    ·obtain⟨f1,f2⟩:=eD.fixed (e1.le.trans l2) (b:=w.heap.size) (fun o ho=>by
      rw[C1,hlen]at *
      simp[Map.eG,Map.fq,ho])
     have key:=RD.slice (M:=M1.eG q (some (w.heap.size,oy,bz yb i.size))) (s:= {s with aE:=s.aE.set q (some (rows.length+dP.length))}) (.tok q yb) i.size (rows++dP) w.heap.size 0 oy (by rw[hlen];exact hn) eD.2.1 f1 f2
      ⟨by simp [HZ],fun n oz=>by
       simp[HZ]at oz
       subst oz
       exact⟨by rw[hlen];exact zaj _,fun _=> .inr ⟨_,rfl,by simp[Map.eG]⟩⟩⟩
     rw[hlen]at key
     exact key
    ·refine⟨e1.le.trans l2,e1.kept,e1.uc,fun q' b c z' hl heq=> ?_,e1.sT,e1.size,e1.os,e1.tape,e1.output⟩
     obtain⟨k,hk⟩:=hl
     by_cases h:q'=q
     ·subst h
      have:(M1.eG q' (some (w.heap.size,oy,bz yb i.size))).be q'=some (w.heap.size,oy,bz yb i.size):=by simp[Map.eG]
      rw[this]at heq;cases heq
      exact .inr (zaj _)
     ·have HY:M1.be q'=some (b,c,z'):=by
       have:(M1.eG q (some (w.heap.size,oy,bz yb i.size))).be q'=M1.be q':=by simp[Map.eG,h]
       rw[this]at heq;exact heq
      simp only[List.getElem?_set_ne (Ne.symm h)]at hk
      exact e1.qA q' b c z' ⟨k,hk⟩ HY
   rcases nZ with ⟨rfl,rfl,h1⟩|⟨b,k,rfl,h1⟩
   ·obtain⟨_,h2⟩:=h1
    obtain⟨_,h3⟩:=h2 _ hq
    rcases h3 rfl with ⟨_,h4⟩|⟨b,h4,_⟩
    ·exact MW (by simp;omega)
    ·cases h4
   ·obtain⟨_,h2⟩:=h1
    obtain⟨_,h3⟩:=h2 _ hq
    rcases h3 rfl with ⟨_,h4⟩|⟨b2,h4,kC⟩
    ·exact MW (by omega)
    cases h4
    subst hzx
    by_cases eN:rows.length+dP.length≤cap
    ·rcases r.tok q rows.length hq with ⟨h4,_⟩ | ⟨b',ui,x7,vs,T,h4,h5,h6,h7,h8⟩
     ·rw[kC]at h4;cases h4
     ·rw [kC]at h4;cases h4
      rw[HX]at h6
      obtain⟨r2,e2⟩:=r.aee q rows.length dP.length b cap (bz yb i.size) i.size news HX hq kC hs.newsLen eN hm hs.one vs T h5 h6 h8.2
      have iU:rows.length*i.size+news.length≤vs.size:=by rw[hs.newsLen,h6, ← zbj];exact zaU _ eN
      have sj:=run_storeCells_at P b (rows.length*i.size) T news 0 vs w h5 (by simpa using iU) hs.one
      simp only[zaP]at sj
      have c7:(Builtin.append_ #[t,u] ty #[.slice (some ⟨b,0,none⟩) rows.length cap,y]).run P w = .ok (.slice (some ⟨b,0,none⟩) (rows.length+dP.length) cap) (w.setRow b (vs.toList.take (rows.length*i.size)++news++vs.toList.drop (rows.length*i.size+news.length)).toArray):=by
       rcases hs.kind with ⟨Lq,hk⟩|hk<;>simp[Builtin.append_,run_underlying ht,run_underlying hk,sizeOf,typeInfo,hi,hs.len,eN,hs.cells,Addr.add_lit,sj]
      refine⟨_,_,_,c7,r2, ?_,e2⟩
      have hG : ∀ o,o<(rows++dP).length*i.size→(M.fix b (rows.length*i.size) news).G b o=(pB++news).toArray[o]? :=by
       intro o ho
       rw[hlen,zbj]at ho
       rw[zbr]
       by_cases h9:o<rows.length*i.size
       ·rw [zar (by omega)]
        have:(M.fix b (rows.length*i.size) news).G b o=M.G b o:=by simp[Map.fix];omega
        rw[this]
        have:=hoG b 0 rfl o h9
        rwa [za3]at this
       ·rw [zav (by omega),ow]
        have:(M.fix b (rows.length*i.size) news).G b o=news[o - rows.length*i.size]? :=by
         simp only[Map.fix];rw[if_pos ⟨trivial,by omega,by rw[hs.newsLen];omega⟩]
        rw[this]
      have eD:=CY (M:=M) (s:=s) hsx C0 ow hs.newsLen XB hs.one aaM A2 #[] (by simp)
      rw[Array.append_empty]at eD
      obtain⟨f1,f2⟩:=eD.fixed e2.le (b:=b) hG
      have HZ:q<s.aE.length:=(zai.1 hq).1
      have key:=RD.slice (M:=M.fix b (rows.length*i.size) news) (s:= {s with aE:=s.aE.set q (some (rows.length+dP.length))}) (.tok q yb) i.size (rows++dP) b 0 cap (by rw[hlen];exact eN) eD.2.1 f1 f2
       ⟨by simp [HZ],fun n oz=>by
        simp[HZ]at oz
        subst oz
        exact⟨by rw[hlen];exact zaj _,fun _=> .inr ⟨_,rfl,kC⟩⟩⟩
      rw[hlen]at key
      exact key
    ·exact MW (by omega)
theorem Ew (r:Rel M s w) {u e':TypeId} {i:TypeInfo} (hu:P.underlying u=some (.slice e')) {y:Value} {dy:D} (hy:RD M s dy y) (g:Tag) (size:Nat) (rows:List (List D)) (hdy:dy = .slice g size rows) :
 (rows = []→Src P i.size u y 0 [] w)∧(rows≠ []→size=i.size→(∀ row∈rows,row.length=i.size)∧∃ news:List Value,Src P i.size u y rows.length news w∧
  (∀ (k:Nat) (row:List D) (j:Nat) (d:D) (v:Value),rows[k]? = some row→row[j]? = some d→news[k*i.size+j]? = some v→RD M s d v)):=by
 subst hdy
 refine⟨fun h0=>?_,fun eF dz=>?_⟩
 ·subst h0
  rcases hy.jc with ⟨_,rfl,_⟩|⟨_,_,a,cap,rfl⟩|⟨b,q,cap,rfl,_⟩
  ·exact Src.ofNil w hu 0
  ·exact Src.ofSlice w hu a 0 cap [] (by simp) (by simp) (by simp)
  ·exact Src.ofSlice w hu ⟨b,q,none⟩ 0 cap [] (by simp) (by simp) (by simp)
 ·subst dz
  obtain⟨news,h1,h2,_⟩:=FA r hu hy
  refine⟨?_,news,h1,h2⟩
  rcases hy.jc with ⟨h0,_⟩|⟨h0,_⟩|⟨_,_,_,_,_,h,_⟩
  ·exact(eF h0).elim
  ·exact(eF h0).elim
  ·exact h
theorem QB (r:Rel M s w) {t u ty e e':TypeId} {i:TypeInfo} {z:Value} (ht:P.underlying t=some (.slice e)) (hu:P.underlying u=some (.slice e')) (hi:P.info? e=some i) (hz:i.zero=some z)
 (wW:z.cells.size=i.size) (BD : ∀ v∈z.cells,v.oneCell'=true) {dx dy d:D} {x y:Value} {s':St} (hx:RD M s dx x) (hy:RD M s dy y) (p8:0<i.size) (he:fP i.size i.bytes dx dy s=some (d,s')) :
 ∃ v w' M',(Builtin.append_ #[t,u] ty #[x,y]).run P w = .ok v w'∧Rel M' s' w'∧RD M' s' d v∧Ext M s w M' s' w':=
 B4 false r ht hi hz wW BD hx (fun h=>by cases h) p8 (aaK he) (Ew r hu hy)
theorem MX (r:Rel M s w) {t u ty e':TypeId} {i:TypeInfo} {z:Value} (ht:P.underlying t=some (.slice oZ)) (hu:P.underlying u=some (.slice e')) (hi:P.info? oZ=some i) (hz:i.zero=some z) (h1:i.size=1) (h2:i.bytes=1)
 (wW:z.cells.size=i.size) (BD : ∀ v∈z.cells,v.oneCell'=true) {dx dy d:D} {x y:Value} {s':St} (hx:RD M s dx x) (hy:RD M s dy y) (he:zz dx dy s=some (d,s')) :
 ∃ v w' M',(Builtin.append_ #[t,u] ty #[x,y]).run P w = .ok v w'∧Rel M' s' w'∧RD M' s' d v∧Ext M s w M' s' w':=
 B4 true r ht hi hz wW BD hx (fun _=>⟨rfl,h1⟩) (by omega) (by rw[h1,h2];exact Qx he) (Ew r hu hy)
theorem MY (r:Rel M s w) {t u ty:TypeId} {i:TypeInfo} {z:Value} (ht:P.underlying t=some (.slice oZ)) (hu:P.underlying u=some .string) (hi:P.info? oZ=some i) (hz:i.zero=some z) (h1:i.size=1) (h2:i.bytes=1)
 (wW:z.cells.size=i.size) (BD : ∀ v∈z.cells,v.oneCell'=true) {dx d:D} {x:Value} {l:List UInt8} {s':St} (hx:RD M s dx x) (he:zz dx (.slice .shared 1 (l.map fun c=> [.int .u8 c.toNat])) s=some (d,s')) :
 ∃ v w' M',(Builtin.append_ #[t,u] ty #[x, .string ⟨⟨l⟩⟩]).run P w = .ok v w'∧Rel M' s' w'∧RD M' s' d v∧Ext M s w M' s' w':=by
 have hs:Src P i.size u (.string ⟨⟨l⟩⟩) l.length (l.map fun c=> .int .u8 c.toNat) w:=by
  rw[h1]
  exact Src.ofString w hu ⟨⟨l⟩⟩
 refine B4 true r ht hi hz wW BD hx (fun _=>⟨rfl,h1⟩) (by omega) (by rw[h1,h2];exact Qx he) fun g size rows hdy=>?_
 cases hdy
 refine⟨fun h0=>?_,fun eF dz=>?_⟩
 ·have:l = []:=by simpa using h0
  subst this
  exact hs
 ·refine⟨fun row hr=> ?_,_,by simpa using hs,fun k row j d v e1 e2 e3=> ?_⟩
  ·obtain⟨c,_,rfl⟩:=zbh.1 hr
   rw[h1];rfl
  ·rw [zat,zaz]at e1
   obtain⟨c,e1,rfl⟩:=e1
   cases j with
   |zero=>
    simp at e2
    subst e2
    simp[h1,e1]at e3
    subst e3
    exact .int _ _
   |succ j=>simp at e2
end
end Go.Abs
namespace Go.Abs
section
variable {P:Program} {M:Map} {s:St} {w:World}
theorem map_some {α β:Type} {f:α→β} {x:Option α} {y:β} (h:x.map f=some y) : ∃ a,x=some a∧y=f a:=by
 cases x with
 |none=>cases h
 |some a=>cases h;exact⟨a,rfl,rfl⟩
theorem rU {t:TypeId} {z:List D} (h:zeroOf P t=some z) : ∃ i v,P.info? t=some i∧i.zero=some v∧v.cells.size=i.size∧np v.cells.toList=some z:=by
 unfold zeroOf at h
 split at h
 ·rename_i i hi
  split at h
  ·rename_i v hv
   split at h
   ·exact⟨i,v,hi,hv, ‹_›,h⟩
   ·cases h
  ·cases h
 ·cases h
theorem qG {z:List D} {v:Value} (h:np v.cells.toList=some z):sn M s z v.cells:=by
 obtain⟨h1,h2,h3⟩:=k6 (M:=M) (s:=s) h
 exact⟨by simpa using h1.symm,fun u hu=>h2 u (by simpa using hu),fun i d u e1 e2=>h3 i d u e1 (by simpa using e2)⟩
theorem MZ {t:TypeId} {z:List D} (h:x6 P t=some z) : ∃ i v,P.info? t=some i∧i.zero=some v∧v.cells.size=i.size∧sn M s z v.cells:=by
 unfold x6 at h
 split at h
 ·rename_i i hi
  split at h
  ·rename_i v hv
   split at h
   ·refine⟨i,v,hi,hv, ‹_›, ?_⟩
    obtain⟨h1,h2,h3⟩:=BB (M:=M) (s:=s) h
    exact⟨by simpa using h1.symm,fun u hu=>h2 u (by simpa using hu),fun i d u e1 e2=>h3 i d u e1 (by simpa using e2)⟩
   ·cases h
  ·cases h
 ·cases h
theorem zK {t:TypeId} {tm:Tm} {act:Act} (hr:lM M s tm act.tmps) : ∀ {l:List (Nat×Operand)} {ps:List (Nat×Nat×X)},zC P t l=some ps→
 (ps.map fun p=>(p.1,p.2.1,p.2.2.ev tm)).length=(l.map fun p=>(p.1,act.eval p.2)).length∧
 ∀ (j:Nat) (i:Nat) (v:Value) (off size:Nat) (d:D),(l.map fun p=>(p.1,act.eval p.2))[j]? = some (i,v)→(ps.map fun p=>(p.1,p.2.1,p.2.2.ev tm))[j]? = some (off,size,d)→
  (∃ a,ma P t i=some (off,size,a))∧RD M s d v
 | [],ps,h=>by cases h;exact⟨rfl,by simp⟩
 | (i0,x)::l,ps,h=>by
  unfold zC at h
  split at h
  ·rename_i off size a x' r' h1 h2 h3
   cases h
   obtain⟨g1,g2⟩:=zK hr h3
   refine⟨by simpa using g1,fun j i v wg x7 d e1 e2=>?_⟩
   cases j with
   |zero=>
    simp at e1 e2
    obtain⟨rfl,rfl⟩:=e1
    obtain⟨rfl,rfl,rfl⟩:=e2
    exact⟨⟨a,h1⟩,cj h2 hr⟩
   |succ j=>exact g2 j i v wg x7 d (by simpa using e1) (by simpa using e2)
  ·cases h
theorem C2 {tm:Tm} {act:Act} (hr:lM M s tm act.tmps) : ∀ {l:List (Nat×Operand)} {ps:List (Nat×X)},HP l=some ps→
 (ps.map fun p=>(p.1,p.2.ev tm)).length=(l.map fun p=>(p.1,act.eval p.2)).length∧
 ∀ (j:Nat) (i:Nat) (v:Value) (i':Nat) (d:D),(l.map fun p=>(p.1,act.eval p.2))[j]? = some (i,v)→(ps.map fun p=>(p.1,p.2.ev tm))[j]? = some (i',d)→i'=i∧RD M s d v
 | [],ps,h=>by cases h;exact⟨rfl,by simp⟩
 | (i0,x)::l,ps,h=>by
  unfold HP at h
  split at h
  ·rename_i x' r' h1 h2
   cases h
   obtain⟨g1,g2⟩:=C2 hr h2
   refine⟨by simpa using g1,fun j i v i' d e1 e2=>?_⟩
   cases j with
   |zero=>
    simp at e1 e2
    obtain⟨rfl,rfl⟩:=e1
    obtain⟨rfl,rfl⟩:=e2
    exact⟨rfl,cj h1 hr⟩
   |succ j=>exact g2 j i v i' d (by simpa using e1) (by simpa using e2)
  ·cases h
theorem C3 : ∀ (l:List Field),(∀ f∈l,(P.info? f.type).isSome)→
 ∃ ps:List (Nat×Nat),(l.mapM fun f=>do pure (f.offset, ← sizeOf f.type):Sem (List (Nat×Nat))).run P w = .ok ps w∧
  ∀ (j:Nat) (f:Field) (i:TypeInfo),l[j]? = some f→P.info? f.type=some i→ps[j]? = some (f.offset,i.size)
 | [],_=>⟨[],rfl,by simp⟩
 | f::l,h=>by
  obtain⟨i,hi⟩:=Option.isSome_iff_exists.1 (h f (by simp))
  obtain⟨ps,h1,h2⟩:=C3 l (fun g hg=>h g (by simp[hg]))
  refine⟨(f.offset,i.size)::ps, ?_,fun j g i' e1 e2=>?_⟩
  ·rw [List.mapM_cons]
   simp only[Sem.run_bind,sizeOf,fG P hi,Result.andThen_ok,Sem.run_pure]at h1 ⊢
   simp only[h1,Result.andThen_ok]
  ·cases j with
   |zero=>simp at e1;subst e1;rw[hi]at e2;cases e2;rfl
   |succ j=>exact h2 j g i' (by simpa using e1) e2
theorem M3 (r:Rel M s w) {t:TypeId} {fs:Array Field} {z:List D} {l:List (Nat×Operand)} {ps:List (Nat×Nat×X)} {tm:Tm} {act:Act} {cs:List D} (hr:lM M s tm act.tmps)
 (ht:P.underlying t=some (.struct fs)) (wX:(fs.toList.all fun f=>(P.info? f.type).isSome)=true) (hz:x6 P t=some z) (hp:zC P t l=some ps) (hf:qB z (ps.map fun p=>(p.1,p.2.1,p.2.2.ev tm))=some cs) :
 cH P M s w (do pure (.value (← Instr.build t (l.toArray.map fun(i,x)=>(i,act.eval x))))) (.agg cs) s:=by
 obtain⟨i,v,h1,h2,h3,hc⟩:=MZ (M:=M) (s:=s) hz
 obtain⟨g1,g2⟩:=zK hr hp
 obtain⟨pl,p1,p2⟩:=C3 (P:=P) (w:=w) fs.toList (fun f hf'=>by simpa using za0.1 wX f hf')
 have YC:(fs.mapM fun f=>do pure (f.offset, ← sizeOf f.type):Sem (Array (Nat×Nat))).run P w = .ok pl.toArray w:=by
  rw[Array.mapM_eq_mapM_toList,Sem.run_map,p1];rfl
 obtain⟨vs,f1,f2⟩:=HU (place:=(pl.toArray[·]?)) (l.map fun p=>(p.1,act.eval p.2)) _ z v.cells cs hc g1 (fun j i v off size d e1 e2=>by
  obtain⟨⟨a,ha⟩,hd⟩:=g2 j i v off size d e1 e2
  refine⟨?_,hd⟩
  unfold ma at ha
  rw[ht]at ha
  simp only at ha
  split at ha
  ·rename_i fd tp
   split at ha
   ·rename_i i' a' ib _
    split at ha
    ·cases ha
    ·cases ha
     simpa using p2 i fd i' (by simpa using tp) ib
   ·cases ha
  ·cases ha) hf
 refine cH.pure (v:= .agg vs) r ?_ (.agg _ _ f2.1.symm f2.2.1 f2.2.2)
 have n7:(l.toArray.map fun(i,x)=>(i,act.eval x)).toList=l.map fun p=>(p.1,act.eval p.2):=by simp
 unfold Instr.build
 simp only[Sem.run_bind,zeroValue,fG P h1,h2,Result.andThen_ok,Sem.run_pure,run_underlying ht,YC,n7,f1]
theorem BE (r:Rel M s w) {t e:TypeId} {i:TypeInfo} {z:List D} {n:Nat} {l:List (Nat×Operand)} {ps:List (Nat×X)} {tm:Tm} {act:Act} {rows:List (List D)} (hr:lM M s tm act.tmps)
 (ht:P.underlying t=some (.slice e)) (hi:P.info? e=some i) (hz:zeroOf P e=some z) (p8:0<i.size) (hn:n*i.size≤65536) (hp:HP l=some ps)
 (hf:jM i.size (fE z n) (ps.map fun p=>(p.1,p.2.ev tm))=some rows) :
 ∃ (vs:Array Value) (T:TypeId),lN M s i.size rows vs∧rows.length=n∧vs.size=n*i.size∧
  (Instr.buildSlice t n (l.toArray.map fun(i,x)=>(i,act.eval x))).run P w = .ok (.slice (some ⟨w.heap.size,0,none⟩) n n) (w.alloc (.cells vs T)):=by
 obtain⟨i',v,h1,h2,h3,h4⟩:=rU hz
 rw[hi]at h1;cases h1
 have hc:=qG (M:=M) (s:=s) h4
 have XD:z.length=i.size:=by rw[← hc.1,h3]
 have hr0:=lN.zero hc (by omega) n
 rw[XD]at hr0
 obtain⟨g1,g2⟩:=C2 hr hp
 obtain⟨vs,f1,f2,f3,f4⟩:=zJ (l.map fun p=>(p.1,act.eval p.2)) _ _ _ rows hr0 g1 g2 hf
 have hzr:=lO z n
 refine⟨vs,e,f2,by rw[f3,hzr],by rw[f4];simp, ?_⟩
 have sq : ¬ (n*i.size > 2 ^ 24):=by omega
 have n7:(l.toArray.map fun(i,x)=>(i,act.eval x)).toList=l.map fun p=>(p.1,act.eval p.2):=by simp
 by_cases h0:n*i.size=0
 ·have lP:(Array.range (n*i.size)).map ((#[] : Array Value)[· % (#[] : Array Value).size]!)=(Array.range (n*i.size)).map (v.cells[· % v.cells.size]!):=by rw [h0];simp
  unfold Instr.buildSlice
  simp only[Sem.run_bind,run_underlying ht,Result.andThen_ok,sizeOf,fG P hi,Sem.run_pure,if_neg sq,if_pos h0,lP,n7,f1,newRow,run_newObj]
  rfl
 ·unfold Instr.buildSlice
  simp only[Sem.run_bind,run_underlying ht,Result.andThen_ok,sizeOf,fG P hi,Sem.run_pure,if_neg sq,if_neg h0,zeroValue,h2,n7,f1,newRow,run_newObj]
  rfl
end
end Go.Abs
namespace Go.Abs
section
variable {P:Program} {M:Map} {s:St} {w:World}
theorem foldl_push (ns:List Int) : ∀ r:ByteArray,ns.foldl (fun r n=>r.push (UInt8.ofNat n.toNat)) r = ⟨r.data++(ns.map fun n=>UInt8.ofNat n.toNat).toArray⟩:=by
 induction ns with
 |nil=>intro r;simp
 |cons n ns ih=>intro r;simp only[List.foldl_cons];rw[ih];simp[ByteArray.push]
theorem um : ∀ {rows:List (List D)} {l:List UInt8},nS rows=some l→∃ ns:List Int,rows=ns.map (fun n=> [.int .u8 n])∧l=ns.map fun n=>UInt8.ofNat n.toNat
 | [],l,h=>by cases h;exact⟨[],rfl,rfl⟩
 | r::rs,l,h=>by
  unfold nS at h
  split at h
  ·rename_i b bs h1 h2
   cases h
   obtain⟨ns,g1,g2⟩:=um h2
   unfold Fw at h1
   split at h1
   ·rename_i n
    cases h1
    exact⟨n::ns,by rw[g1];rfl,by rw[g2];rfl⟩
   ·cases h1
  ·cases h
theorem M4 (r:Rel M s w) {src dst e:TypeId} {g:Tag} {z:Nat} {rows:List (List D)} {v:Value} {l:List UInt8} (hs:P.underlying src=some (.slice e)) (he:P.underlying e=some (.int .u8)) (hd:P.underlying dst=some .string)
 (hv:RD M s (.slice g z rows) v) (hb:nS rows=some l):cH P M s w (do pure (.value (← convert src dst v))) (.str l) s:=by
 obtain⟨ns,rfl,rfl⟩:=um hb
 refine cH.pure (v:= .string ⟨⟨ns.map fun n=>UInt8.ofNat n.toNat⟩⟩) r ?_ (.str _)
 rcases hv.jc with ⟨h0,rfl,_⟩|⟨h0,_,a,cap,rfl⟩|⟨b,q,cap,rfl,hl,dz,g1,g2,_⟩
 ·have:ns = []:=by simpa using h0
  subst this
  have:=run_convert_bytes_string w src dst e none 0 0 hs he hd
  simp only[Sem.run_bind,this,Conv.bytesToString,Sem.run_pure,Result.andThen_ok]
  rfl
 ·have:ns = []:=by simpa using h0
  subst this
  have h2:=run_convert_bytes_string w src dst e (some a) 0 cap hs he hd
  simp only[Sem.run_bind,h2,Conv.bytesToString,Sem.run_pure,Result.andThen_ok]
  rfl
 ·have lP:=run_loadCells_list (P:=P) w ⟨b,q,none⟩ (ns.map (Value.int .u8)) (fun j v hj=>by
   rw[mb]
   simp only[zat,zaz]at hj
   obtain⟨n,hn,rfl⟩:=hj
   have eD:(ns.map (fun n=> [D.int .u8 n]))[j]? = some [.int .u8 n]:=by simp[hn]
   have hz:z=1:=by have:=dz [.int .u8 n] (zae eD);simpa using this.symm
   subst hz
   obtain⟨u,hu⟩:=g1 j _ 0 _ eD rfl
   have:=g2 j _ 0 _ u eD rfl hu
   rw[this.gL]at hu
   have:=(r.comm _ _ _ hu).1
   simpa using this)
  simp only[zaC]at lP ⊢
  have h1:=run_bytesToString (P:=P) w ⟨b,q,none⟩ ns.length cap ns lP
  have h2:=run_convert_bytes_string w src dst e (some ⟨b,q,none⟩) ns.length cap hs he hd
  simp only[Sem.run_bind,h2,h1,Sem.run_pure,Result.andThen_ok,foldl_push]
  congr 3
  simp[ByteArray.empty,ByteArray.emptyWithCapacity]
  rfl
theorem H0 (r:Rel M s w) {src dst e:TypeId} {l:List UInt8} (hs:P.underlying src=some .string) (hd:P.underlying dst=some (.slice e)) (he:P.underlying e=some (.int .u8)) :
 cH P M s w (do pure (.value (← convert src dst (.string ⟨⟨l⟩⟩)))) (.slice .shared 1 (l.map fun c=> [.int .u8 c.toNat])) s:=by
 have c7:=run_bytes_of_string (P:=P) w src dst e ⟨⟨l⟩⟩ hs hd he
 generalize sV:grownCap w (ByteArray.size ⟨⟨l⟩⟩) 0 e=cap at c7
 have dN:l.length≤cap:=by rw[← sV];exact grownCap_ge w l.length 0 e
 have eD : ∀ j,j<l.length→(bytesRow ⟨⟨l⟩⟩ cap)[j]? = some (.int .u8 ((l[j]?.getD 0).toNat:Int)):=by
  intro j hj
  unfold bytesRow
  rw[za1 (by simpa using hj)]
  simp[hj]
 have dz:(bytesRow ⟨⟨l⟩⟩ cap).size=cap:=by simp[bytesRow,A1];omega
 have fF : ∀ v∈bytesRow ⟨⟨l⟩⟩ cap,v.oneCell'=true:=by
  intro v hv
  unfold bytesRow at hv
  simp at hv
  rcases hv with ⟨a,_,rfl⟩|⟨_,rfl⟩<;>rfl
 have hR:lN M s 1 (l.map fun c=> [D.int .u8 c.toNat]) (bytesRow ⟨⟨l⟩⟩ cap):=by
  refine⟨by simp[dz];omega,by simp,fF,fun i row j d v e1 e2 e3=>?_⟩
  simp only[zat,zaz]at e1
  obtain⟨c,hc,rfl⟩:=e1
  cases j with
  |zero=>
   simp at e2;subst e2
   have hi:=(zai.1 hc).1
   rw[show i*1+0=i by omega,eD i hi,hc]at e3
   cases e3
   exact .int _ _
  |succ j=>simp at e2
 obtain⟨r1,e1⟩:=(r.of_heap (w':=w.drew) rfl).fq l.length (bytesRow ⟨⟨l⟩⟩ cap) e ((bytesRow ⟨⟨l⟩⟩ cap).size,(bytesRow ⟨⟨l⟩⟩ cap).size+1) fF
 obtain⟨f1,f2⟩:=hR.fixed e1.le (b:=w.heap.size) (fun o ho=>by simp at ho;simp[Map.fq,ho])
 refine⟨.slice (some ⟨w.heap.size,0,none⟩) l.length cap,_,_, .inl (by simp only[Sem.run_bind,c7,Result.andThen_ok,Sem.run_pure];rfl),r1, ?_,(Ext.of_heap (M:=M) (s:=s) (w:=w) (w':=w.drew) rfl rfl rfl rfl).trans e1⟩
 have key:=RD.slice (M:=M.fq w.heap.size l.length (bytesRow ⟨⟨l⟩⟩ cap)) (s:=s) .shared 1 (l.map fun c=> [D.int .u8 c.toNat]) w.heap.size 0 cap (by simpa using dN) hR.2.1 f1 f2 trivial
 simp only[zaC]at key
 exact key
theorem Ui (r:Rel M s w) {t e:TypeId} {q z:Nat} {yb:Bool} {rows:List (List D)} {v:Value} (ht:P.underlying t=some (.slice e)) (he:P.underlying e=some (.int .u8)) (hv:RD M s (.slice (.tok q yb) z rows) v) (eF:rows≠ []) (hq:s.aE[q]? = some (some rows.length)) :
 cH P M s w (do pure (.value (← convert t t v))) (.slice .shared z rows) {s with aE:=s.aE.set q none}:=by
 rcases hv.jc with ⟨h0,_,_⟩|⟨h0,_,_⟩|⟨b,k,cap,rfl,hl,dz,g1,g2,nZ⟩
 ·exact(eF h0).elim
 ·exact(eF h0).elim
 ·obtain⟨_,h2⟩:=nZ
  obtain⟨_,h3⟩:=h2 _ hq
  rcases h3 rfl with ⟨_,h4,_⟩|⟨b2,h4,kC⟩
  ·subst h4
   exact(eF (zbi (Nat.le_zero.1 hl))).elim
  cases h4
  obtain⟨r1,l1⟩:=r.aef q
  rcases r.tok q rows.length hq with ⟨h4,_⟩|⟨b',ui,x7,vs,T,h4,h5,h6,h7,h8⟩
  ·rw[kC]at h4;cases h4
  ·rw [kC]at h4;cases h4
   have ix : ∀ p,St.live {s with aE:=s.aE.set q none} p→p≠q∧s.live p:=by
    rintro p ⟨n,hn⟩
    rw[zaK]at hn
    split at hn
    ·simp at hn
    ·rename_i eF;exact⟨fun h=>eF h.symm,n,hn⟩
   obtain⟨r2,hh,ox,ho,uq,B6⟩:=r1.freeze (b:=b) vs.size 1 (fun o ho=>r.eP q b cap _ o ⟨_,hq⟩ kC ho)
    (fun p c y hp heq=>(ix p hp).1 (r.fM p q b c y cap _ (ix p hp).2 ⟨_,hq⟩ heq kC))
   have aaO:w.shape? b=some (T,vs.size):=by simp[World.shape?,h5]
   refine⟨.slice (some ⟨b,0,none⟩) rows.length cap,_,M, .inl ?_,r2, ?_, ?_⟩
   ·simp[convert,run_underlying ht,run_underlying he,markStringish,aaO]
   ·have h9:=(RD.slice (M:=M) (s:=s) .shared z rows b 0 cap hl dz g1 g2 trivial).mono l1
    exact h9
   ·refine⟨l1,fun p _ _ h4=>hh p (fun e=>h4 q cap (bz yb z) ⟨_,hq⟩ (by rw [kC,e])),fun o h3 h4=> ?_,fun p b' c y hp heq=> .inl ⟨(ix p hp).2,c,y,heq⟩,fun _ _ h=>(h rfl).elim,by rw [ox];exact zaj _,ho,uq,B6⟩
    simp at h4;omega
theorem QC (r:Rel M s w) {size:Nat} {rows:List (List D)} {vs:Array Value} (T:TypeId) (h:lN M s size rows vs) (dz:vs.size=rows.length*size) (p8:0<size) :
 ∃ M',RD M' {s with aE:=s.aE++ [some rows.length]} (.slice (.tok s.aE.length) size rows) (.slice (some ⟨w.heap.size,0,none⟩) rows.length rows.length)∧
 Rel M' {s with aE:=s.aE++ [some rows.length]} (w.alloc (.cells vs T))∧Ext M s w M' {s with aE:=s.aE++ [some rows.length]} (w.alloc (.cells vs T)):=by
 obtain⟨r1,e1⟩:=r.fq vs.size vs T (0,0) h.2.2.1
 have wW:zs size=size:=by show(if size=0 then 1 else size)=size;rw[if_neg (by omega)]
 obtain⟨r2,l2⟩:=r1.Xy rows.length w.heap.size rows.length size vs T (heap_alloc_new w _) (by rw[wW];exact dz) (zaj _) (fun h=>by omega)
  (fun off ho=>by rw[wW]at ho;simp[Map.fq];omega) (fun o ho=>by have:=r.pT ho;show M.mu o≠_;omega)
  (fun q c z' hl heq=>by have:=r.rT hl (show M.be q=some (w.heap.size,c,z')from heq);omega)
 obtain⟨f1,f2⟩:=h.fixed (e1.le.trans l2) (b:=w.heap.size) (fun o ho=>by
  have:o<vs.size:=Nat.lt_of_lt_of_le ho h.1
  simp[Map.eG,Map.fq,this])
 refine⟨_, ?_,r2, ?_⟩
 ·exact .slice _ size rows w.heap.size 0 rows.length (zaj _) h.2.1 f1 f2 ⟨by simp,fun n hn=>by
   simp at hn;subst hn
   exact⟨zaj _,fun _=> .inr ⟨_,rfl,by simp[Map.eG,bz]⟩⟩⟩
 ·refine⟨e1.le.trans l2,e1.kept,e1.uc,fun q b c z' hl heq=> ?_,e1.sT,e1.size,e1.os,e1.tape,e1.output⟩
  obtain⟨k,hk⟩:=hl
  rcases zaF q s.aE.length with h'|h'
  ·have HY:M.be q=some (b,c,z'):=by
    have:((M.fq w.heap.size vs.size vs).eG s.aE.length (some (w.heap.size,rows.length,size))).be q=M.be q:=by simp[Map.eG,Map.fq];omega
    rw[this]at heq;exact heq
   simp only[zar h']at hk
   exact .inl ⟨⟨k,hk⟩,c,z',HY⟩
  ·have:=(zai.1 hk).1
   simp at this
   have:q=s.aE.length:=by omega
   subst this
   have:((M.fq w.heap.size vs.size vs).eG s.aE.length (some (w.heap.size,rows.length,size))).be s.aE.length=some (w.heap.size,rows.length,size):=by simp[Map.eG]
   rw[this]at heq;cases heq
   exact .inr (zaj _)
end
end Go.Abs
namespace Go.Abs
open Go.MapKept
section
variable {P:Program} {M:Map} {s:St} {w:World}
theorem vl : ∀ (a b:List MapEntry),gm (a++b)=gm a++gm b
 | [],b=>rfl
 |e::a,b=>by simp only[zaH,gm,vl a b]
theorem FC : ∀ (a:List MapEntry) (j:Nat) (e:MapEntry) (k v:Value),a[j]? = some e→e.key=k→gm (a.set j {e with key:=k,val:=v})=(gm a).set (2*j+1) v
 | [],j,e,k,v,h,_=>by simp at h
 |x::a,0,e,k,v,h,hk=>by
  simp at h;subst h;subst hk
  simp[gm]
 |x::a,j+1,e,k,v,h,hk=>by
  have:=FC a j e k v (by simpa using h) hk
  simp only[List.set_cons_succ,gm,this]
  rw[show 2*(j+1)=(2*j+1)+1 by omega,List.set_cons_succ]
theorem Uj (a b:List UInt8):((⟨⟨a⟩⟩:ByteArray) == ⟨⟨b⟩⟩)=(a==b):=by
 show((⟨a⟩:Array UInt8) == ⟨b⟩)=(a==b)
 simp
theorem find_spec {key:List UInt8} : ∀ (es:List MapEntry) (cs:List D) (i:Nat),(gm es).length=cs.length→(∀ (i:Nat) (d:D) (v:Value),cs[i]? = some d→(gm es)[i]? = some v→RD M s d v)→
 (∀ z d,x5 key z cs=some d→(Instr.findNow .string (.string ⟨⟨key⟩⟩) es i=some none∧d=z)∨∃ (j:Nat) (e:MapEntry),Instr.findNow .string (.string ⟨⟨key⟩⟩) es i=some (some (i+j,e.val))∧RD M s d e.val)∧
 (∀ d ph,we key d cs=some ph→(Instr.findNow .string (.string ⟨⟨key⟩⟩) es i=some none∧ph=cs++ [.str key,d])∨
  ∃ (j:Nat) (e:MapEntry),Instr.findNow .string (.string ⟨⟨key⟩⟩) es i=some (some (i+j,e.val))∧es[j]? = some e∧e.key = .string ⟨⟨key⟩⟩∧ph=cs.set (2*j+1) d)
 | [],cs,i,hl,hr=>by
  have:cs = []:=by cases cs<;>simp[gm]at hl;rfl
  subst this
  refine⟨fun z d h=> .inl ⟨rfl,by simp[x5]at h;exact h.symm⟩,fun d ph h=> .inl ⟨rfl,by simp[we]at h;simp[← h]⟩⟩
 | x::es,cs,i,hl,hr=>by
  match cs,hl with
  | [],hl=>simp[gm]at hl
  | [_],hl=>simp[gm]at hl
  | c0::c1::r,hl=>
   simp only[gm,zal]at hl hr
   have h0:=hr 0 c0 x.key rfl rfl
   have h1:=hr 1 c1 x.val rfl rfl
   obtain⟨qH,tq⟩:=find_spec es r (i+1) (by omega) (fun j d v e1 e2=>hr (j+2) d v (by simpa using e1) (by simpa using e2))
   have hky : ∀ k,c0 = .str k→x.key = .string ⟨⟨k⟩⟩∧Instr.findNow .string (.string ⟨⟨key⟩⟩) (x::es) i=if key==k then some (some (i,x.val))else Instr.findNow .string (.string ⟨⟨key⟩⟩) es (i+1):=by
    intro k hk
    subst hk
    have hx:=h0.k5
    refine⟨hx, ?_⟩
    simp only[Instr.findNow,hx,Instr.sameNow,Uj]
    cases hb:key==k<;>simp
   refine⟨fun z d h=>?_,fun d ph h=>?_⟩
   ·cases c0 <;> simp only [x5]at h <;> try (cases h;done)
    rename_i k
    obtain⟨k1,k2⟩:=hky k rfl
    rw[k2]
    by_cases sr:k=key
    ·subst sr
     simp at h
     subst h
     exact .inr ⟨0,x,by simp,h1⟩
    ·have e1:(k==key)=false:=by simpa using sr
     have e2:(key==k)=false:=by simpa using fun e:key=k=>sr (Eq.symm e)
     rw[e1]at h
     rw[e2]
     simp only[zaa,↓reduceIte]at h ⊢
     rcases qH z d h with h2|⟨j,e,h2,h3⟩
     ·exact .inl h2
     ·exact .inr ⟨j+1,e,by rw[h2];congr 3;omega,h3⟩
   ·cases c0 <;> simp only [we]at h <;> try (cases h;done)
    rename_i k
    obtain⟨k1,k2⟩:=hky k rfl
    rw[k2]
    by_cases sr:k=key
    ·subst sr
     simp at h
     subst h
     exact .inr ⟨0,x,by simp,rfl,k1,by simp⟩
    ·have e1:(k==key)=false:=by simpa using sr
     have e2:(key==k)=false:=by simpa using fun e:key=k=>sr (Eq.symm e)
     rw[e1]at h
     rw[e2]
     simp only[zaa,↓reduceIte]at h ⊢
     split at h
     ·rename_i r' vj
      cases h
      rcases tq d r' vj with ⟨h2,h3⟩|⟨j,e,h2,h3,h4,h5⟩
      ·exact .inl ⟨h2,by rw[h3];rfl⟩
      ·refine .inr ⟨j+1,e,by rw [h2];congr 3;omega,by simpa using h3,h4, ?_⟩
       rw[h5,show 2*(j+1)+1=(2*j+1)+1+1 by omega]
       simp only[List.set_cons_succ]
     ·cases h
theorem Rel.aaP (r:Rel M s w) {o:Nat} {cs ph:List D} (he:s.aw[o]? = some cs) (hk:M.ob o = .map) (zL:Array MapEntry) (ck:Nat) (hl:(gm zL.toList).length=ph.length)
 (h1 : ∀ v∈gm zL.toList,v.oneCell'=true) (h2 : ∀ (i:Nat) (d:D) (v:Value),ph[i]? = some d→(gm zL.toList)[i]? = some v→RD M s d v) :
 Rel M {s with aw:=s.aw.set o ph} {w with heap:=w.heap.setIfInBounds (M.mu o) (.map zL ck)}∧Ext M s w M {s with aw:=s.aw.set o ph} {w with heap:=w.heap.setIfInBounds (M.mu o) (.map zL ck)}:=by
 obtain⟨vs,T,hh,hs,⟨fF,Xx⟩,j8⟩:=r.obj o cs he
 obtain⟨es,ck0,(hh:w.heap[M.mu o]? = _),oB⟩:=hh.Mx hk
 have ho:o<s.aw.length:=(zai.1 he).1
 obtain⟨tK,lL⟩:=heap_set (w:=w) (o':= .map zL ck) hh
 have le:Le M s M {s with aw:=s.aw.set o ph}:=
  ⟨fun _ _ _ h=>h,by simp,fun _ _=> .refl _,zaj _,fun t n _ h=>⟨n,h,zaj _,fun _=>rfl⟩⟩
 refine⟨⟨fun b q v e=>?_,fun o' ds e=>?_,fun q hq wg=>r.jY q (by simpa using hq) wg,fun q q' hq pj e=>r.inj q q' (by simpa using hq) (by simpa using pj) e,fun t n e=>?_,
  fun t b c z q hl e hq=>r.eP t b c z q hl e (by simpa using hq),fun t t' b c z c' z' h h' e e'=>r.fM t t' b c z c' z' h h' e e'⟩, ?_⟩
 ·obtain⟨h3,h4⟩:=r.comm b q v e
  refine⟨?_,h4⟩
  have hb:b≠M.mu o:=fun eq=>by subst eq;rw[r.jY o ho q]at e;cases e
  rw[← h3]
  simp[World.cell?,lL b hb]
 ·rw [zaK]at e
  split at e
  ·rename_i heq
   subst heq
   simp at e
   obtain⟨_,rfl⟩:=e
   refine⟨⟨gm zL.toList⟩,0, ?_,by simpa using hl,⟨fun v hv=>h1 v (by simpa using hv),fun T' h=>?_⟩,fun i d v e1 e2=>(h2 i d v e1 (by simpa using e2)).mono le⟩
   ·exact iu.ofMap hk ⟨zL,ck,tK,rfl⟩
   ·have:M.ty o=none:=by
     have:(M.loc o).2 = .map:=hk
     simp[Map.ty,this,Ob.ty?]
    rw[this]at h;cases h
  ·rename_i eF
   obtain⟨fe,T',h3,h4,h5,h6⟩:=r.obj o' ds e
   have my:o'<s.aw.length:=(zai.1 e).1
   refine⟨fe,T', ?_,h4,h5,fun i d v e1 e2=>(h6 i d v e1 e2).mono le⟩
   exact h3.keep (lL _ (fun eq=>eF (r.inj o o' ho my eq.symm)))
 ·rcases r.tok t n e with h3 | ⟨b,cap,size,fe,T',h3,h4,h5⟩
  ·exact .inl h3
  ·refine .inr ⟨b,cap,size,fe,T',h3, ?_,h5⟩
   show(w.heap.setIfInBounds (M.mu o) (.map zL ck))[b]? = _
   rw[lL b (fun eq=>r.eP t b cap size o ⟨n,e⟩ h3 ho eq.symm)];exact h4
 ·refine⟨le,fun b hb h3 _=>lL b (fun eq=>h3 o ho eq.symm),fun q h3 h4=> ?_,fun t b c z h e=> .inl ⟨h,c,z,e⟩,fun _ _ h=>(h rfl).elim,by simp,rfl,rfl,rfl⟩
  simp at h4;rcases h3 with h3|h3;omega;exact(h3 rfl).elim
theorem su (l:List UInt8):IsKey .string (.string ⟨⟨l⟩⟩):=by simp[IsKey]
theorem M5 (r:Rel M s w) {t kt e:TypeId} (ht:P.underlying t=some (.map kt e)):cH P M s w (do pure (.value (← Instr.makeMap t none))) (.gH s.aw.length) {s with aw:=s.aw++ [[]]}:=by
 obtain⟨r',e'⟩:=r.HQ [] (.map #[] 0) #[] 0 .map (fun hp e=>⟨#[],0,e,rfl⟩) (fun _ h=>by cases h) rfl (by simp) (by simp)
 have hm:(M.dF s.aw.length w.heap.size .map).mu s.aw.length=w.heap.size:=by simp[Map.dF,Map.mu]
 have hv:=RD.gH (M:=M.dF s.aw.length w.heap.size .map) (s:= {s with aw:=s.aw++ [[]]}) s.aw.length (by simp) (by simp[Map.dF,Map.ob])
 rw[hm]at hv
 refine⟨_,_,_, .inl ?_,r',hv,e'⟩
 simp only[Instr.makeMap,newObj,Sem.run_bind,Sem.run_pure,Sem.run,Result.andThen_ok]
 rfl
theorem M6 (r:Rel M s w) {t kt e:TypeId} {i:TypeInfo} {z:Value} {zd:D} (ht:P.underlying t=some (.map kt e)) (hk:P.underlying kt=some .string) (hi:P.info? e=some i) (hz:i.zero=some z) (hzd:rz z=some zd)
 {o:Nat} {key:List UInt8} {cs:List D} {d:D} (wR:M.ob o = .map) (ho:s.aw[o]? = some cs) (hg:x5 key zd cs=some d) :
 cH P M s w (do pure (.value (← Instr.lookup t (.map (some (M.mu o))) (.string ⟨⟨key⟩⟩) false))) d s:=by
 obtain⟨vs,T,hh,hs,⟨fF,Xx⟩,j8⟩:=r.obj o cs ho
 obtain⟨es,ck,(hh:w.heap[M.mu o]? = _),oB⟩:=hh.Mx wR
 have B7 : ∀ (i:Nat) (d:D) (v:Value),cs[i]? = some d→(gm es.toList)[i]? = some v→RD M s d v:=fun i d v e1 e2=>j8 i d v e1 (by rw[← oB]at e2;simpa using e2)
 have hzv:(zeroValue e).run P w = .ok z w:=by simp[zeroValue,fG P hi,hz]
 rcases(find_spec es.toList cs 0 (by rw[← oB];simpa using hs) B7).1 zd d hg with ⟨h1,rfl⟩|⟨j,en,h1,h2⟩
 ·refine cH.pure (v:=z) r ?_ (pU hzd).1
  simp[Instr.lookup,run_underlying ht,MapKept.run_getObj_map hh,run_checkKey hk (su key),run_findKey hk h1,hzv]
 ·refine cH.pure (v:=en.val) r ?_ h2
  simp[Instr.lookup,run_underlying ht,MapKept.run_getObj_map hh,run_checkKey hk (su key),run_findKey hk h1]
theorem QD (r:Rel M s w) {t kt e:TypeId} (ht:P.underlying t=some (.map kt e)) (hk:P.underlying kt=some .string)
 {o:Nat} {key:List UInt8} {cs ph:List D} {d:D} {v:Value} (wR:M.ob o = .map) (ho:s.aw[o]? = some cs) (hv:RD M s d v) (C4:v.oneCell'=true) (hg:we key d cs=some ph) :
 cH P M s w (do Instr.mapUpdate t (.map (some (M.mu o))) (.string ⟨⟨key⟩⟩) v;pure .skip) (.tuple []) {s with aw:=s.aw.set o ph}:=by
 obtain⟨vs,T,hh,hs,⟨fF,Xx⟩,j8⟩:=r.obj o cs ho
 obtain⟨es,ck,(hh:w.heap[M.mu o]? = _),oB⟩:=hh.Mx wR
 have B7 : ∀ (i:Nat) (d:D) (v:Value),cs[i]? = some d→(gm es.toList)[i]? = some v→RD M s d v:=fun i d v e1 e2=>j8 i d v e1 (by rw[← oB]at e2;simpa using e2)
 have hl:(gm es.toList).length=cs.length:=by rw[← oB];simpa using hs
 have XE : ∀ v∈gm es.toList,v.oneCell'=true:=fun v hv=>fF v (by rw[← oB]at hv;simpa using hv)
 rcases(find_spec es.toList cs 0 hl B7).2 d ph hg with ⟨h1,rfl⟩|⟨j,en,h1,h2,h3,rfl⟩
 ·obtain⟨r',e'⟩:=r.aaP (ph:=cs++ [.str key,d]) ho wR (es.push {key:= .string ⟨⟨key⟩⟩,val:=v,born:=ck}) (ck+1) (by simp [vl,gm,hl]) (fun u hu=>by
   simp only[Array.toList_push,vl,gm,zaB,zaw,List.not_mem_nil,or_false]at hu
   rcases hu with hu|rfl|rfl
   ·exact XE u hu
   ·rfl
   ·exact C4) (fun i d' u e1 e2=>by
   simp only[Array.toList_push,vl,gm]at e2
   rcases zaF i cs.length with hi|hi
   ·rw [zar hi]at e1
    rw[zar (by omega)]at e2
    exact B7 i d' u e1 e2
   ·rw [zav hi]at e1
    rw[zav (by omega),hl]at e2
    match i - cs.length,e1,e2 with
    | 0,e1,e2=>simp at e1 e2;subst e1 e2;exact .str _
    | 1,e1,e2=>simp at e1 e2;subst e1 e2;exact hv
    |k+2,e1,e2=>simp at e1)
  refine⟨Go.undef,_,M, .inr ⟨?_,rfl⟩,r', .undef,e'⟩
  simp[Instr.mapUpdate,run_underlying ht,MapKept.run_getObj_map hh,run_checkKey hk (su key),run_findKey hk h1,MapKept.run_setObj_map _ hh]
 ·simp only [za3]at h1
  have hj:es[j]? = some en:=by simpa using h2
  have Uk:(es.modify j fun e=> {e with key:= .string ⟨⟨key⟩⟩,val:=v}).toList=es.toList.set j {en with key:= .string ⟨⟨key⟩⟩,val:=v}:=by
   apply List.ext_getElem?
   intro i
   rw[Array.getElem?_toList,zbD,zaK]
   by_cases XF:j=i
   ·subst XF
    have:j<es.size:=by have:=(zai.1 h2).1;simpa using this
    simp[hj,this]
    have:=(zaS.1 hj).2
    rw[this]
   ·simp[XF]
  have iy:=FC es.toList j en (.string ⟨⟨key⟩⟩) v h2 h3
  obtain⟨r',e'⟩:=r.aaP (ph:=cs.set (2*j+1) d) ho wR (es.modify j fun e=> {e with key:= .string ⟨⟨key⟩⟩,val:=v}) ck (by rw[Uk,iy];simp[hl]) (fun u hu=>by
   rw[Uk,iy]at hu
   rcases List.mem_or_eq_of_mem_set hu with hu|rfl
   ·exact XE u hu
   ·exact C4) (fun i d' u e1 e2=>by
   rw[Uk,iy,zaK]at e2
   rw[zaK]at e1
   by_cases hi:2*j+1=i
   ·rw [if_pos hi]at e1 e2
    split at e1
    ·split at e2
     ·cases e1;cases e2;exact hv
     ·cases e2
    ·cases e1
   ·rw [if_neg hi]at e1 e2
    exact B7 i d' u e1 e2)
  refine⟨Go.undef,_,M, .inr ⟨?_,rfl⟩,r', .undef,e'⟩
  simp[Instr.mapUpdate,run_underlying ht,MapKept.run_getObj_map hh,run_checkKey hk (su key),run_findKey hk h1,hj,h3,run_keyThatStays (su key),MapKept.run_setObj_map _ hh]
end
end Go.Abs
namespace Go.Abs
section
variable {M:Map} {s:St} {w:World}
theorem C5 {o g:Nat} {cells:List D} (h:vf s o g=some cells):s.aw[o]? = some (.int .i64 g::cells):=by
 unfold vf at h
 split at h
 ·rename_i n cs e
  split at h
  ·rename_i hn;cases h;rw[e,hn]
  ·cases h
 ·cases h
theorem Rel.M7 (r:Rel M s w) {o z g:Nat} {A:Nat→Option (Nat×Nat)} {cells:List D} (hm:M.ob o = .arr z A) (ha:vf s o g=some cells) :
 ∃ (us:Array Value) (T:TypeId) (cap:Nat),w.heap[M.mu o]? = some (.cells us T (0,0))∧A g=some (M.mu o,cap)∧(∀ g',g<g'→A g'=none)∧us.size=cap*z∧cells.length≤us.size∧
  (∀ u∈us,u.oneCell'=true)∧∀ (i:Nat) (d:D) (u:Value),cells[i]? = some d→us[i]? = some u→RD M s d u:=by
 obtain⟨vs,T,hh,hs,_,j8⟩:=r.obj o _ (C5 ha)
 obtain⟨us,g0,n,cap,h1,h2,h3,h4,h5,h6,h7⟩ : ∃ (us:Array Value) (g n cap:Nat),w.heap[(M.loc o).1]? = some (.cells us T (0,0))∧A g=some ((M.loc o).1,cap)∧(∀ g',g<g'→A g'=none)∧us.size=cap*z∧n≤us.size∧
  vs.toList = .int .i64 g::us.toList.take n∧∀ u∈us,u.oneCell'=true:=by
  unfold iu at hh
  rw[show(M.loc o).2 = .arr z A from hm]at hh
  exact hh
 have hE : ∀ i,vs[i]? = (Value.int .i64 g0::us.toList.take n)[i]? :=fun i=>by rw[← h6,Array.getElem?_toList]
 have hg:g0=g:=by
  have:=(j8 0 (.int .i64 g) (.int .i64 g0) rfl (by rw[hE];rfl))
  cases this
  rfl
 subst hg
 have hn:n=cells.length:=by
  have:vs.toList.length=(Value.int .i64 g0::us.toList.take n).length:=by rw[h6]
  simp at this hs
  omega
 subst hn
 refine⟨us,T,cap,h1,h2,h3,h4,h5,h7,fun i d u e1 e2=>j8 (i+1) d u (by simpa using e1) ?_⟩
 rw[hE,zba,zaV,if_pos (zai.1 e1).1]
 simpa using e2
def Map.sX (M:Map) (o:Nat) (l:Nat×Ob):Map:= {M with loc:=fun q=>if q=o then l else M.loc q}
theorem Rel.Ul (r:Rel M s w) {o z g:Nat} {A:Nat→Option (Nat×Nat)} {cells:List D} (hm:M.ob o = .arr z A) (ha:vf s o g=some cells) (b' g' ui:Nat) (A':Nat→Option (Nat×Nat))
 (hA : ∀ g x,A g=some x→A' g=some x) (rp:A' g'=some (b',ui)) (ji : ∀ Lu,g'<Lu→A' Lu=none) (w':World) (us:Array Value) (T:TypeId) (hh:w'.heap[b']? = some (.cells us T (0,0))) (dz:us.size=ui*z)
 (ur:List D) (hl:ur.length≤us.size) (fF : ∀ u∈us,u.oneCell'=true) (j8 : ∀ (i:Nat) (d:D) (u:Value),ur[i]? = some d→us[i]? = some u→RD M s d u)
 (hb:b'=M.mu o∨w.heap.size≤b') (Hp : ∀ b,b<w.heap.size→b≠M.mu o→w'.heap[b]? = w.heap[b]?) (rV:w.heap.size≤w'.heap.size) (h1:w'.os=w.os) (h2:w'.tape=w.tape) (h3:w'.output=w.output) :
 Rel (M.sX o (b', .arr z A')) {s with aw:=s.aw.set o (.int .i64 g'::ur)} w'∧Ext M s w (M.sX o (b', .arr z A')) {s with aw:=s.aw.set o (.int .i64 g'::ur)} w':=by
 have ho:o<s.aw.length:=(zai.1 (C5 ha)).1
 have Lo:(M.loc o).2 = .arr z A:=hm
 have tK:(M.sX o (b', .arr z A')).loc o=(b', .arr z A'):=by simp[Map.sX]
 have M8 : ∀ q,q≠o→(M.sX o (b', .arr z A')).loc q=M.loc q:=fun q hq=>by simp[Map.sX,hq]
 have nJ:(M.sX o (b', .arr z A')).mu o=b':=congrArg Prod.fst tK
 have B8 : ∀ q,q≠o→(M.sX o (b', .arr z A')).mu q=M.mu q:=fun q hq=>congrArg Prod.fst (M8 q hq)
 have le:Le M s (M.sX o (b', .arr z A')) {s with aw:=s.aw.set o (.int .i64 g'::ur)}:=by
  refine⟨fun _ _ _ h=>h,by simp,fun q _=>?_,zaj _,fun t n _ h=>⟨n,h,zaj _,fun _=>rfl⟩⟩
  by_cases hq:q=o
  ·subst hq
   rw[tK,show M.loc q=((M.loc q).1, .arr z A) by rw[← Lo]]
   exact .arr _ _ z A A' hA
  ·rw[M8 q hq];exact .refl _
 have eF : ∀ q,q<s.aw.length→q≠o→M.mu q≠b':=fun q hq uu e=>by
  rcases hb with hb|hb
  ·exact uu (r.inj q o hq ho (e.trans hb))
  ·have:=r.pT hq;omega
 have hG : ∀ off,M.G b' off=none:=fun off=>by
  rcases hb with hb|hb
  ·rw[hb];exact r.jY o ho off
  ·exact r.MI hb off
 refine⟨⟨fun b q v e=>?_,fun q ds e=>?_,fun q hq off=>?_,fun q q' hq pj e=>?_,fun t n e=>?_,fun t b c z' q hl e hq=>?_,fun t t' b c z c' z' h h' e e'=>r.fM t t' b c z c' z' h h' e e'⟩, ?_⟩
 ·obtain⟨h4,h5⟩:=r.comm b q v e
  refine⟨?_,h5⟩
  have hbo:b≠M.mu o:=fun eq=>by subst eq;have e0:M.G (M.mu o) q=some v:=e;rw[r.jY o ho q]at e0;cases e0
  rw[← h4]
  simp[World.cell?,Hp b (r.B0 e) hbo]
 ·simp only [zaK]at e
  split at e
  ·rename_i hq
   subst hq
   cases e
   refine⟨⟨.int .i64 g'::us.toList.take ur.length⟩,T, ?_,by simp;omega,⟨fun v hv=>?_,fun T' hT=>?_⟩,fun i d v e1 e2=>?_⟩
   ·unfold iu
    rw[tK]
    exact⟨us,g',ur.length,ui,hh,rp,ji,dz,hl,rfl,fF⟩
   ·simp at hv
    rcases hv with rfl|hv
    ·rfl
    ·exact fF v (zaQ.1 (zaZ hv))
   ·have:(M.sX o (b', .arr z A')).ty o=none:=by unfold Map.ty;rw [tK];rfl
    rw[this]at hT;cases hT
   ·cases i with
    |zero=>simp at e1 e2;subst e1 e2;exact .int _ _
    |succ i=>
     simp at e1 e2
     rw[zaV]at e2
     split at e2
     ·exact(j8 i d v e1 (by simpa using e2)).mono le
     ·cases e2
  ·rename_i hq
   have hq:q≠o:=fun e=>hq e.symm
   obtain⟨fe,T',h4,h5,h6,h7⟩:=r.obj q ds e
   have HZ:q<s.aw.length:=(zai.1 e).1
   refine⟨fe,T', ?_,h5,⟨h6.1,by unfold Map.ty;rw[M8 q hq];exact h6.2⟩,fun i d v e1 e2=>(h7 i d v e1 e2).mono le⟩
   rw[M8 q hq]
   exact h4.keep (Hp _ h4.lt fun e=>hq (r.inj q o HZ ho e))
 ·simp at hq
  by_cases uu:q=o
  ·subst uu;rw[nJ];exact hG off
  ·rw[B8 q uu];exact r.jY q hq off
 ·simp at hq pj
  by_cases h4:q=o<;>by_cases h5:q'=o
  ·omega
  ·subst h4;rw[nJ,B8 q' h5]at e;exact(eF q' pj h5 e.symm).elim
  ·subst h5;rw[nJ,B8 q h4]at e;exact(eF q hq h4 e).elim
  ·rw[B8 q h4,B8 q' h5]at e;exact r.inj q q' hq pj e
 ·rcases r.tok t n e with h4 | ⟨b,cap,size,fe,T',h4,h5,h6⟩
  ·exact .inl h4
  ·refine .inr ⟨b,cap,size,fe,T',h4, ?_,h6⟩
   rw[Hp b (kI h5) (fun eq=>r.eP t b cap size o ⟨n,e⟩ h4 ho eq.symm)];exact h5
 ·simp at hq
  by_cases uu:q=o
  ·subst uu;rw [nJ]
   rcases hb with hb|hb
   ·rw[hb];exact r.eP t b c z' q hl e hq
   ·have:=r.rT hl e;omega
  ·rw[B8 q uu];exact r.eP t b c z' q hl e hq
 ·refine⟨le,fun b ld h4 _=>Hp b ld (fun e=>h4 o ho e.symm),fun q h4 h5=> ?_,fun t b c z h e=> .inl ⟨h,c,z,e⟩,fun _ _ h=>(h rfl).elim,rV,h1,h2,h3⟩
  simp at h5
  by_cases uu:q=o
  ·subst uu
   rw[nJ]at h4 ⊢
   rcases hb with hb|hb
   ·rcases h4 with h4 | h4
    ·omega
    ·exact(h4 hb).elim
   ·exact hb
  ·rw [B8 q uu]at h4
   rcases h4 with h4|h4
   ·omega
   ·exact(h4 rfl).elim
theorem Rel.aaR (r:Rel M s w) (z cap:Nat) (us:Array Value) (T:TypeId) (dz:us.size=cap*z) (cells:List D) (hl:cells.length≤us.size) (fF : ∀ u∈us,u.oneCell'=true)
 (j8 : ∀ (i:Nat) (d:D) (u:Value),cells[i]? = some d→us[i]? = some u→RD M s d u) :
 ∃ M',Rel M' {s with aw:=s.aw++ [.int .i64 ((0:Nat):Int)::cells]} (w.alloc (.cells us T))∧Ext M s w M' {s with aw:=s.aw++ [.int .i64 ((0:Nat):Int)::cells]} (w.alloc (.cells us T))∧
  ∀ len,len≤cap→RD M' {s with aw:=s.aw++ [.int .i64 ((0:Nat):Int)::cells]} (.jD z s.aw.length 0 len) (.slice (some ⟨w.heap.size,0,none⟩) len cap):=by
 obtain⟨r',e'⟩:=r.HQ (.int .i64 ((0:Nat):Int)::cells) (.cells us T) ⟨.int .i64 ((0:Nat):Int)::us.toList.take cells.length⟩ T (.arr z fun g=>if g=0 then some (w.heap.size,cap)else none)
  (fun hp e=>⟨us,0,cells.length,cap,e,rfl,fun g' h=>if_neg (by omega),dz,hl,rfl,fF⟩) (fun _ h=>by cases h) (by simp;omega) (fun v hv=>by
   simp at hv
   rcases hv with rfl|hv
   ·rfl
   ·exact fF v (zaQ.1 (zaZ hv))) (fun i d v e1 e2=>by
   cases i with
   |zero=>simp at e1 e2;subst e1 e2;exact .int _ _
   |succ i=>
    simp at e1 e2
    rw[zaV]at e2
    split at e2
    ·exact(j8 i d v e1 (by simpa using e2)).mono (rC s w.heap.size _ _)
    ·cases e2)
 exact⟨_,r',e',fun len h=> .jD z _ 0 len w.heap.size cap _ (by simp) (by simp[Map.dF,Map.ob];rfl) (if_pos rfl) h⟩
end
end Go.Abs
namespace Go.Abs
section
variable {P:Program} {M:Map} {s:St} {w:World}
theorem Lv (r:Rel M s w) {o g off:Nat} {v:Value} {cells:List D} (hx:RD M s (.iT o g off) v) (ha:vf s o g=some cells) :
 ∃ z A,M.ob o = .arr z A∧v = .pointer (some ⟨M.mu o,off,none⟩):=by
 obtain⟨z,b,cap,A,hv,ho,hm,hg⟩:=hx.B1
 obtain⟨us,T,ui,h1,h2,_⟩:=r.M7 hm ha
 rw[hg]at h2;cases h2
 exact⟨z,A,hm,hv⟩
theorem Kl (r:Rel M s w) {t:TypeId} {i:TypeInfo} {agg:Bool} (hi:P.info? t=some i) (hag:qC P t=some agg) {x d:D} {v:Value} {s':St} (hx:RD M s x v) (h:AW x agg i.size s=some (d,s')) :
 cH P M s w (do pure (.value (← Instr.loadAt t v))) d s':=by
 unfold AW at h
 split at h
 case h_2=>cases h
 rename_i o g off
 split at h
 case h_2=>cases h
 rename_i cells ha
 split at h
 case h_2=>cases h
 rename_i d' hp
 cases h
 obtain⟨z,A,hm,rfl⟩:=Lv r hx ha
 obtain⟨us,T,cap,hh,_,_,_,hl,fF,j8⟩:=r.M7 hm ha
 let n:=if agg then i.size else 1
 have iU:off+n≤us.size:=by
  rcases qh hp with ⟨rfl,h1,_⟩|⟨rfl,h1⟩
  ·simp[n];omega
  ·have:=(zai.1 h1).1;simp[n];omega
 have hlen:((us.toList.drop off).take n).length=n:=by simp;omega
 have hE : ∀ (j:Nat) (u:Value),((us.toList.drop off).take n)[j]? = some u→us[off+j]? = some u:=by
  intro j u h
  rw[zaV]at h
  split at h
  ·rw[zbg]at h;simpa using h
  ·cases h
 have c7:=x9 (w:=w) P hi hag (M.mu o) off ((us.toList.drop off).take n) hlen (fun j u h=>by rw[ju hh];exact hE j u h)
 refine cH.pure (v:=if agg then .agg ((us.toList.drop off).take n).toArray else((us.toList.drop off).take n).getD 0 Go.undef) r (by simp[Instr.loadAt,Instr.sureAddr,c7]) ?_
 refine qF hp _ hlen (fun _ u hu=>fF u ?_) (fun j d u e1 e2=>j8 _ d u e1 (hE j u e2))
 exact zaQ.1 (zbm (zaZ hu))
theorem wY {vs:Array Value} {off:Nat} {us:List Value} {n:Nat} (hu:us.length=n) (h:off+n≤vs.size) (i:Nat) :
 (vs.toList.take off++us++vs.toList.drop (off+us.length)).toArray[i]? = if i<off then vs[i]? else if i<off+n then us[i - off]? else vs[i]? :=by
 subst hu
 simp only[zbr]
 have hl:(vs.toList.take off).length=off:=by simp;omega
 split
 ·rename_i h3
  rw[zaD,zar (by omega),za5 h3];simp
 ·rename_i h3
  rw[zaD,zav (by omega),hl]
  split
  ·rename_i h4
   rw[zar (by omega)]
  ·rename_i h4
   rw[zav (by omega),zbg]
   rw[show off+us.length+(i - off - us.length)=i by omega];simp
theorem wZ {vs:Array Value} {off k:Nat} {us:List Value} (h1 : ∀ v∈vs,v.oneCell'=true) (h2 : ∀ u∈us,u.oneCell'=true) : ∀ v∈(vs.toList.take off++us++vs.toList.drop k).toArray,v.oneCell'=true:=by
 intro v hv
 simp at hv
 rcases hv with hv|hv|hv
 ·exact h1 v (zaQ.1 (zaZ hv))
 ·exact h2 v hv
 ·exact h1 v (zaQ.1 (zbm hv))
theorem H2 (r:Rel M s w) {t:TypeId} {i:TypeInfo} (hi:P.info? t=some i) {x y d:D} {v u:Value} {s':St} (hx:RD M s x v) (hy:RD M s y u) (h:CR x y.row i.size s=some (d,s')) :
 cH P M s w (do Instr.storeAt t v u;pure .skip) d s':=by
 unfold CR at h
 split at h
 case h_2=>cases h
 rename_i o g off row hr
 split at h
 case h_2=>cases h
 rename_i cells ha
 split at h
 case isFalse=>cases h
 rename_i hc
 obtain⟨hl,iU⟩:=hc
 cases h
 obtain⟨z,A,hm,rfl⟩:=Lv r hx ha
 obtain⟨us,T,cap,hh,rp,ji,dz,hle,fF,j8⟩:=r.M7 hm ha
 obtain⟨h1,h2,h3⟩:=hy.row hr
 have hu:u.cells.toList.length=row.length:=by simpa using h1
 have sj:=run_storeCells_at P (M.mu o) off T u.cells.toList 0 us w hh (by omega) (fun u hu=>h2 u (by simpa using hu))
 simp only[zaP]at sj
 generalize dK:(us.toList.take off++u.cells.toList++us.toList.drop (off+u.cells.toList.length)).toArray=iQ at sj
 have qE:iQ.size=us.size:=by rw[← dK];simp;omega
 have hE : ∀ i,iQ[i]? = if i<off then us[i]? else if i<off+row.length then u.cells.toList[i - off]? else us[i]? :=fun i=>by rw[← dK];exact wY hu (by omega) i
 have hlc:(iD cells off row).length=cells.length:=sU cells off row (by omega)
 obtain⟨r',e'⟩:=r.Ul hm ha (M.mu o) g cap A (fun _ _ h=>h) rp ji (w.setRow (M.mu o) iQ) iQ T (setRow_heap w (M.mu o) us iQ T (0,0) hh) (by rw[qE,dz]) (iD cells off row) (by omega)
  (by rw [← dK];exact wZ fF (fun u hu=>h2 u (by simpa using hu))) (fun i d v e1 e2=>by
   rw[qD cells off row (by omega)]at e1
   rw[hE]at e2
   split at e1
   ·rename_i h4;simp only[h4,if_true]at e2;exact j8 i d v e1 e2
   ·rename_i h4
    simp only[h4,if_false]at e2
    split at e1
    ·rename_i h5;simp only[h5,if_true]at e2;exact h3 _ d v e1 (by simpa using e2)
    ·rename_i h5;simp only[h5,if_false]at e2;exact j8 i d v e1 e2) (.inl rfl) (fun b _ hb=>setRow_other w (M.mu o) b _ hb) (by simp) rfl rfl rfl
 refine⟨Go.undef,_,_, .inr ⟨?_,rfl⟩,r', .undef,e'⟩
 have ag4:u.cells.size=i.size:=by omega
 simp[Instr.storeAt,Instr.sureAddr,storeVar,sizeOf,fG P hi,ag4,sj]
theorem H3 (r:Rel M s w) {t e:TypeId} {i:TypeInfo} (ht:P.underlying t=some (.slice e)) (hi:P.info? e=some i) {x y d:D} {v u:Value} (hx:RD M s x v) (hy:RD M s y u) (h:CS x y i.size=some d) :
 cH P M s w (do pure (.value (← Instr.indexAt t v u))) d s:=by
 unfold CS at h
 split at h
 case h_2=>cases h
 rename_i z o g len k n
 split at h
 case isFalse=>cases h
 rename_i hc
 obtain⟨h0,h1,rfl⟩:=hc
 cases h
 obtain⟨b,cap,A,rfl,ho,hm,hg,hl⟩:=hx.AZ
 rw[hy.gL]
 refine cH.pure (v:= .pointer (some ⟨b,n.toNat*i.size,none⟩)) r ?_ (.iT _ _ _ _ b cap A ho hm hg)
 simp[Instr.indexAt,asIntOf,run_underlying ht,h0,h1,sizeOf,fG P hi,mb]
theorem M9 (r:Rel M s w) {t e:TypeId} {i:TypeInfo} {lv hv:Option Value} {lo hi:Option D} (ht:P.underlying t=some (.slice e)) (CX:P.info? e=some i) {x d:D} {v:Value} (hx:RD M s x v)
 (h1 : ∀ l,vd lo=some l→Qu lv l) (h2 : ∀ len l,ve hi len=some l→Qv hv len l) (h:MA x lo hi=some d) :
 cH P M s w (do pure (.value (← Instr.sliceAt t v lv hv none))) d s:=by
 unfold MA at h
 split at h
 ·rename_i z o g len
  split at h
  case h_2=>cases h
  rename_i l hh el eh
  split at h
  case isFalse=>cases h
  rename_i hc
  obtain⟨rfl,h0,hle⟩:=hc
  cases h
  obtain⟨b,cap,A,rfl,ho,hm,hg,hl⟩:=hx.AZ
  have hb:=o4 (P:=P) (w:=w) (isSlice:=true) (cap:=cap) (h1 _ el) (h2 _ _ eh) (za9 0) h0 hle hl
  refine cH.pure (v:= .slice (some ⟨b,0,none⟩) hh.toNat cap) r ?_ (.jD z o g _ b cap A ho hm hg (by omega))
  simp[Instr.sliceAt,run_underlying ht,Instr.slice,hb,sizeOf,fG P CX,mb]
 ·rename_i z
  split at h
  case h_2=>cases h
  rename_i l hh el eh
  split at h
  case isFalse=>cases h
  rename_i hc
  obtain⟨rfl,rfl⟩:=hc
  cases h
  obtain⟨a,rfl⟩:=hx.B2
  have hb:=o4 (P:=P) (w:=w) (isSlice:=true) (len:=0) (cap:=0) (h1 _ el) (h2 _ _ eh) (za9 0) (za9 0) (za9 0) (zaj 0)
  refine cH.pure (v:= .slice a 0 0) r ?_ (.jK z a)
  cases a<;>simp[Instr.sliceAt,run_underlying ht,Instr.slice,hb,sizeOf,fG P CX,mb]
 ·cases h
theorem Na (r:Rel M s w) {t ty e:TypeId} (ht:P.underlying t=some (.slice e)) {x d:D} {v:Value} (hx:RD M s x v) (h:MB x=some d) :
 cH P M s w (do pure (.value (← Builtin.len_ #[t] ty #[v]))) d s:=by
 unfold MB at h
 split at h
 ·cases h
  obtain⟨b,cap,A,rfl,_⟩:=hx.AZ
  exact mK r ht
 ·cases h
  obtain⟨a,rfl⟩:=hx.B2
  exact mK r ht
 ·cases h
theorem yd {size:Nat} : ∀ {rows:List (List D)},(∀ row∈rows,row.length=size)→rows.flatten.length=rows.length*size∧
 ∀ (k:Nat) (d:D),rows.flatten[k]? = some d→∃ (i:Nat) (row:List D) (j:Nat),rows[i]? = some row∧row[j]? = some d∧k=i*size+j
 | [],_=>by simp
 | row::rows,h=>by
  have hr:=h row (zaE ..)
  obtain⟨h1,h2⟩:=yd fun q hq=>h q (zaA _ hq)
  refine⟨by simp only[List.flatten_cons,zak,h1,hr,zal,zbj];omega,fun k d e=>?_⟩
  rw[List.flatten_cons]at e
  rcases zaF k row.length with hk|hk
  ·rw [zar hk]at e
   exact⟨0,row,k,rfl,e,by omega⟩
  ·rw [zav hk]at e
   obtain⟨i,kJ,j,g1,g2,g3⟩:=h2 _ d e
   exact⟨i+1,kJ,j,by simpa using g1,g2,by rw[zbj];omega⟩
theorem Nb (r:Rel M s w) {t u ty e e':TypeId} {i:TypeInfo} {z:Value} (ht:P.underlying t=some (.slice e)) (hu:P.underlying u=some (.slice e')) (hi:P.info? e=some i) (hz:i.zero=some z)
 (wW:z.cells.size=i.size) (BD : ∀ v∈z.cells,v.oneCell'=true) {dx dy d:D} {x y:Value} {s':St} (hx:RD M s dx x) (hy:RD M s dy y) (p8:0<i.size) (he:MC i.size i.bytes dx dy s=some (d,s')) :
 ∃ v w' M',(Builtin.append_ #[t,u] ty #[x,y]).run P w = .ok v w'∧Rel M' s' w'∧RD M' s' d v∧Ext M s w M' s' w':=by
 have src:=Ew (i:=i) r hu hy
 unfold MC at he
 split at he
 ·-- behind an array
  rename_i z0 o g len g' zy new
  split at he
  case isFalse=>cases he
  rename_i hc
  obtain⟨rfl,uk,tn⟩:=hc
  obtain⟨b,cap,A,rfl,ho,hm,hg,hlc⟩:=hx.AZ
  cases new with
  |nil=>
   simp only at he
   cases he
   exact⟨_,w,M,lb ht hi ((src _ _ _ rfl).1 rfl) hlc,r,hx,Ext.refl M s w⟩
  |cons n0 new=>
  have eF:(n0::new)≠ []:=by simp
  generalize dK:n0::new=dP at *
  have Qz:zy=i.size:=uk.resolve_left eF
  subst Qz
  obtain⟨C0,news,hs,A2⟩:=(src _ _ _ rfl).2 eF rfl
  have Lo:0<dP.length:=List.length_pos_iff.2 eF
  simp only[← dK]at he
  simp only[dK]at he
  split at he
  case h_2=>cases he
  rename_i cells ha
  split at he
  case isFalse=>cases he
  rename_i w9
  cases he
  obtain⟨us,T,ui,hh,rp,ji,dz,hle,fF,j8⟩:=r.M7 hm ha
  rw[hg]at rp
  simp only[Option.some.injEq,Prod.mk.injEq]at rp
  obtain⟨rfl,rfl⟩:=rp
  obtain⟨iy,QE⟩:=yd C0
  have QF:(cells.take (len*i.size)).length=len*i.size:=by simp;omega
  have hA : ∀ (b' c':Nat) (g0:Nat) (x:Nat×Nat),A g0=some x→(if g0=g+1 then some (b',c')else A g0)=some x:=fun b' c' g0 x h=>by
   rw[if_neg]
   ·exact h
   ·rintro rfl
    rw[ji (g+1) (by omega)]at h;cases h
  have sq:(len+dP.length)*i.bytes≤140737488355328:=by rw[Nat.mul_succ]at tn;simp only[bh]at tn;omega
  have QA:len+dP.length≤1099511627776:=by rw[Nat.mul_succ]at tn;simp only[bh]at tn;omega
  have XG:=hs.newsLen
  -- what is laid there
  have XH : ∀ (vs:Array Value),(∀ k,k<len*i.size→vs[k]? = us[k]?)→(∀ k,k<news.length→vs[len*i.size+k]? = news[k]?)→∀ (k:Nat) (d:D) (v:Value),
   (cells.take (len*i.size)++dP.flatten)[k]? = some d→vs[k]? = some v→RD M s d v:=fun vs g1 g2 k d v e1 e2=>by
   rcases zaF k (len*i.size)with hk|hk
   ·rw [zar (by omega),za5 hk]at e1
    rw[g1 k hk]at e2
    exact j8 k d v e1 e2
   ·rw [zav (by omega),QF]at e1
    have bm:=(zai.1 e1).1
    have:=g2 (k - len*i.size) (by omega)
    rw[show len*i.size+(k - len*i.size)=k by omega]at this
    rw[this]at e2
    obtain⟨a,row,j,f1,f2,f3⟩:=QE _ d e1
    rw[f3]at e2
    exact A2 a row j d v f1 f2 e2
  by_cases eN:len+dP.length≤cap
  ·have iU:len*i.size+news.length≤us.size:=by rw [XG,dz, ← zbj];exact zaU _ eN
   have sj:=run_storeCells_at P (M.mu o) (len*i.size) T news 0 us w hh (by simpa using iU) hs.one
   simp only[zaP]at sj
   have c7:(Builtin.append_ #[t,u] ty #[.slice (some ⟨M.mu o,0,none⟩) len cap,y]).run P w = .ok (.slice (some ⟨M.mu o,0,none⟩) (len+dP.length) cap) (w.setRow (M.mu o) (us.toList.take (len*i.size)++news++us.toList.drop (len*i.size+news.length)).toArray):=by
    rcases hs.kind with ⟨Lq,hk⟩|hk<;>simp[Builtin.append_,run_underlying ht,run_underlying hk,sizeOf,typeInfo,hi,hs.len,eN,hs.cells,Addr.add_lit,sj]
   have hE:=wY (vs:=us) (off:=len*i.size) (us:=news) rfl iU
   generalize qI:(us.toList.take (len*i.size)++news++us.toList.drop (len*i.size+news.length)).toArray=iQ at c7 hE
   have qE:iQ.size=us.size:=by rw[← qI];simp;omega
   obtain⟨r',e'⟩:=r.Ul hm ha (M.mu o) (g+1) cap (fun g0=>if g0=g+1 then some (M.mu o,cap)else A g0) (hA _ _) (if_pos rfl) (fun Lu h=>by rw[if_neg (by omega)];exact ji Lu (by omega))
    (w.setRow (M.mu o) iQ) iQ T (setRow_heap w (M.mu o) us iQ T (0,0) hh) (by rw[qE,dz]) (cells.take (len*i.size)++dP.flatten) (by rw[zak,QF,iy,qE];omega)
    (by rw[← qI];exact wZ fF hs.one) (XH iQ (fun k hk=>by rw[hE,if_pos hk]) (fun k hk=>by rw[hE,if_neg (by omega),if_pos (by omega)];congr 1;omega)) (.inl rfl) (fun b _ hb=>setRow_other w (M.mu o) b _ hb) (by simp) rfl rfl rfl
   refine⟨_,_,_,c7,r', ?_,e'⟩
   exact .jD i.size o (g+1) _ (M.mu o) cap _ (by simpa using ho) (by simp[Map.ob,Map.sX];rfl) (if_pos rfl) eN
  ·have lQ:cap<len+dP.length:=by omega
   have dN:=grownCap_ge w (len+dP.length) cap e
   have hfc:(Builtin.firstCells i.size len (.slice (some ⟨M.mu o,0,none⟩) len cap)).run P w.drew = .ok (us.toList.take (len*i.size)).toArray w.drew:=
    (Src.ofSlice w ht ⟨M.mu o,0,none⟩ len cap (us.toList.take (len*i.size)) (by simp;omega) (fun j v hj=>by
     rw[mb,za3,ju hh]
     rw[zaV]at hj
     split at hj
     ·simpa using hj
     ·cases hj) (fun v hv=>fF v (zaQ.1 (zaZ hv)))).cellsD
   have c7:=run_append_grow_src (P:=P) w t u ty e i z ht hi hz (some ⟨M.mu o,0,none⟩) len cap (us.toList.take (len*i.size)) hfc y dP.length news hs lQ (by omega) (growslice_fits lQ sq)
   generalize qI:(us.toList.take (len*i.size)++news).toArray++Builtin.zeroCells z.cells (grownCap w (len+dP.length) cap e - (len+dP.length))=iQ at c7
   have Fx:(us.toList.take (len*i.size)).length=len*i.size:=by simp;omega
   have qE:iQ.size=grownCap w (len+dP.length) cap e*i.size:=by
    rw[← qI]
    simp only[Array.size_append,List.size_toArray,zak,size_zeroCells,wW,Fx,XG, ← zbj]
    congr 1;omega
   have Nc : ∀ v∈iQ,v.oneCell'=true:=fun v hv=>by
    rw[← qI,Array.mem_append]at hv
    rcases hv with hv|hv
    ·simp at hv
     rcases hv with hv|hv
     ·exact fF v (zaQ.1 (zaZ hv))
     ·exact hs.one v hv
    ·exact sW BD _ v hv
   have aej : ∀ k,k<len*i.size→iQ[k]? = us[k]? :=fun k hk=>by
    rw[← qI,za1 (by simp;omega),zbr,zar (by omega),za5 hk];simp
   have Nd : ∀ k,k<news.length→iQ[len*i.size+k]? = news[k]? :=fun k hk=>by
    rw[← qI,za1 (by simp;omega),zbr,zav (by omega),Fx]
    congr 1;omega
   have Um:(len+dP.length)*i.size≤iQ.size:=by rw[qE];exact zaU _ dN
   have aaT:w.heap.size≤(w.drew.alloc (.cells iQ e)).heap.size:=by
    have e1:w.drew.heap.size=w.heap.size:=rfl
    have e2:(w.drew.alloc (.cells iQ e)).heap.size=w.drew.heap.size+1:=by simp
    omega
   obtain⟨r',e'⟩:=r.Ul hm ha w.heap.size (g+1) (grownCap w (len+dP.length) cap e) (fun g0=>if g0=g+1 then some (w.heap.size,grownCap w (len+dP.length) cap e)else A g0) (hA _ _) (if_pos rfl) (fun Lu h=>by rw[if_neg (by omega)];exact ji Lu (by omega))
    (w.drew.alloc (.cells iQ e)) iQ e (heap_alloc_new w.drew _) qE (cells.take (len*i.size)++dP.flatten) (by rw[zak,QF,iy];rw[zbj]at Um;omega)
    Nc (XH iQ aej Nd) (.inr (zaj _)) (fun b hb _=>heap_alloc_old w.drew _ b hb) aaT rfl rfl rfl
   refine⟨_,_,_,c7,r', ?_,e'⟩
   exact .jD i.size o (g+1) _ w.heap.size _ _ (by simpa using ho) (by simp[Map.ob,Map.sX];rfl) (if_pos rfl) dN
 ·-- the first array
  rename_i z0 g' zy new
  split at he
  case isFalse=>cases he
  rename_i hc
  obtain⟨rfl,uk,tn⟩:=hc
  obtain⟨a,rfl⟩:=hx.B2
  cases new with
  |nil=>
   simp only at he
   cases he
   exact⟨_,w,M,lb ht hi ((src _ _ _ rfl).1 rfl) (zaj 0),r,hx,Ext.refl M s w⟩
  |cons n0 new=>
  have eF:(n0::new)≠ []:=by simp
  generalize dK:n0::new=dP at *
  have Qz:zy=i.size:=uk.resolve_left eF
  subst Qz
  obtain⟨C0,news,hs,A2⟩:=(src _ _ _ rfl).2 eF rfl
  have Lo:0<dP.length:=List.length_pos_iff.2 eF
  simp only[← dK]at he
  simp only[dK]at he
  cases he
  obtain⟨iy,QE⟩:=yd C0
  have XG:=hs.newsLen
  have sq:(0+dP.length)*i.bytes≤140737488355328:=by rw[Nat.mul_succ]at tn;simp only[bh]at tn;rw[za3];omega
  have QA:dP.length≤1099511627776:=by rw[Nat.mul_succ]at tn;simp only[bh]at tn;omega
  have lQ:0<0+dP.length:=by omega
  have dN:=grownCap_ge w (0+dP.length) 0 e
  have hfc:(Builtin.firstCells i.size 0 (.slice a 0 0)).run P w.drew = .ok ([] : List Value).toArray w.drew:=by
   cases a with
   |none=>simp[Builtin.firstCells]
   |some a=>simp[Builtin.firstCells,loadCells,loadCellsFrom]
  have c7:=run_append_grow_src (P:=P) w t u ty e i z ht hi hz a 0 0 [] hfc y dP.length news hs lQ (by omega) (growslice_fits lQ sq)
  generalize qI:(([] : List Value)++news).toArray++Builtin.zeroCells z.cells (grownCap w (0+dP.length) 0 e - (0+dP.length))=iQ at c7
  have qE:iQ.size=grownCap w (0+dP.length) 0 e*i.size:=by
   rw[← qI]
   simp only[Array.size_append,List.size_toArray,zaR,size_zeroCells,wW,XG, ← zbj]
   congr 1;omega
  have Nc : ∀ v∈iQ,v.oneCell'=true:=fun v hv=>by
   rw[← qI,Array.mem_append]at hv
   rcases hv with hv|hv
   ·exact hs.one v (by simpa using hv)
   ·exact sW BD _ v hv
  have Nd : ∀ k,k<news.length→iQ[k]? = news[k]? :=fun k hk=>by
   rw[← qI,za1 (by simpa using hk)];simp
  have Um:dP.length*i.size≤iQ.size:=by rw[qE];exact zaU _ (by omega)
  have rd:Rel M s w.drew:=r.of_heap rfl
  obtain⟨M',r',e',f'⟩:=rd.aaR i.size (grownCap w (0+dP.length) 0 e) iQ e qE dP.flatten (by omega) Nc (fun k d v e1 e2=>by
   have hk:=(zai.1 e1).1
   rw[Nd k (by omega)]at e2
   obtain⟨a,row,j,f1,f2,f3⟩:=QE _ d e1
   rw[f3]at e2
   exact A2 a row j d v f1 f2 e2)
  refine⟨_,_,M',c7,r', ?_,(Ext.of_heap (M:=M) (s:=s) (w:=w) (w':=w.drew) rfl rfl rfl rfl).trans e'⟩
  have:=f' dP.length (by omega)
  simpa using this
 ·cases he
theorem Nf (r:Rel M s w) {t e:TypeId} {i:TypeInfo} {z:List D} (ht:P.underlying t=some (.slice e)) (hi:P.info? e=some i) (hz:zeroOf P e=some z) (p8:0<i.size) {n:Int} (h0:0≤n) (h1:n*((i.bytes:Int)+1)≤bh) :
 cH P M s w (do pure (.value (← Instr.makeSlice t (.int .i64 n) (.int .i64 n)))) (.jD i.size s.aw.length 0 n.toNat) {s with aw:=s.aw++ [.int .i64 ((0:Nat):Int)::(fE z n.toNat).flatten]}:=by
 obtain⟨i',v,g1,g2,g3,g4⟩:=rU hz
 rw[hi]at g1;cases g1
 have FD:=qG (M:=M) (s:=s) g4
 have hmul:n*((i.bytes:Int)+1)=(i.bytes:Int)*n+n:=by rw[Int.mul_add,Int.mul_one,Int.mul_comm]
 have hnb:0≤(i.bytes:Int)*n:=Int.mul_nonneg (by omega) h0
 have hmx:(bh:Int)=1099511627776:=rfl
 have c7:=run_make (P:=P) w t e i v ht hi g2 .i64 .i64 n n h0 (za9 _) (by omega) (by omega)
 have XD:z.length=i.size:=by have:=FD.1;omega
 obtain⟨q1,q2,q3,q4⟩:=lN.zero FD (by omega) n.toNat
 obtain⟨iy,QE⟩:=yd (rows:=fE z n.toNat) (size:=z.length) (fun row hr=>by rw[ov z _ row hr])
 rw[lO]at iy
 have XI:madeCells v.cells (n.toNat*i.size)=(Array.range (n.toNat*z.length)).map (v.cells[· % v.cells.size]!):=by rw[XD];rfl
 obtain⟨M',r',e',f'⟩:=r.aaR i.size n.toNat (madeCells v.cells (n.toNat*i.size)) e (by rw[XI];simp[XD]) (fE z n.toNat).flatten (by rw[iy,XI];simp) (by rw[XI];exact q3) (fun k d u e1 e2=>by
  obtain⟨a,row,j,f1,f2,f3⟩:=QE k d e1
  rw[XI,f3]at e2
  exact q4 a row j d u f1 f2 e2)
 refine⟨_,_,M', .inl ?_,r',f' n.toNat (zaj _),e'⟩
 simp only[Sem.run_bind,c7,Result.andThen_ok,Sem.run_pure]
end
end Go.Abs
namespace Go.Abs
section
variable {P:Program} {M:Map} {s:St} {w:World}
theorem Lw {tm:Tm} {act:Act} (hr:lM M s tm act.tmps) : ∀ {l:List Operand} {xs:List X},wQ l=some xs→
 xs.length=l.length∧∀ (i:Nat) (d:D) (v:Value),(xs.map (·.ev tm))[i]? = some d→(l.map act.eval)[i]? = some v→RD M s d v
 | [],xs,h=>by cases h;exact⟨rfl,by simp⟩
 | x::l,xs,h=>by
  unfold wQ at h
  split at h
  ·rename_i x' r' h1 h2
   cases h
   obtain⟨g1,g2⟩:=Lw hr h2
   refine⟨by simp[g1],fun i d v e1 e2=>?_⟩
   cases i with
   |zero=>simp at e1 e2;subst e1;subst e2;exact cj h1 hr
   |succ i=>exact g2 i d v (by simpa using e1) (by simpa using e2)
  ·cases h
theorem H4 {lo:Option Operand} {FE:Option X} {tm:Tm} {act:Act} (hr:lM M s tm act.tmps) (h:Xv lo=some FE) {l:Int} (hl:vd (FE.map (·.ev tm))=some l):Qu (lo.map act.eval) l:=by
 cases lo with
 |none=>cases h;simp only[zbE,vd,Option.some.injEq]at hl;exact .inl ⟨rfl,hl.symm⟩
 |some x=>
  obtain⟨y,hy,rfl⟩:=map_some (f:=some) h
  have:=cj hy hr
  simp only[zbx]at hl ⊢
  cases hd:y.ev tm<;>rw[hd]at hl this<;>simp only[vd]at hl<;>try (cases hl;done)
  cases hl
  rw[this.gL]
  exact .inr ⟨_,rfl⟩
theorem H5 {hi:Option Operand} {ib:Option X} {tm:Tm} {act:Act} (hr:lM M s tm act.tmps) (h:Xv hi=some ib) {len:Nat} {l:Int} (hl:ve (ib.map (·.ev tm)) len=some l):Qv (hi.map act.eval) len l:=by
 cases hi with
 |none=>cases h;simp only[zbE,ve,Option.some.injEq]at hl;exact .inl ⟨rfl,hl.symm⟩
 |some x=>
  obtain⟨y,hy,rfl⟩:=map_some (f:=some) h
  have:=cj hy hr
  simp only[zbx]at hl ⊢
  cases hd:y.ev tm<;>rw[hd]at hl this<;>simp only[ve]at hl<;>try (cases hl;done)
  cases hl
  rw[this.gL]
  exact .inr ⟨_,rfl⟩
theorem Ng {t:TypeId} {f off size:Nat} {agg:Bool} (h:ma P t f=some (off,size,agg)) {cs:List D} {vs:Array Value} (hl:cs.length=vs.size) (h1 : ∀ v∈vs,v.oneCell'=true)
 (h2 : ∀ (i:Nat) (d:D) (v:Value),cs[i]? = some d→vs[i]? = some v→RD M s d v) {d:D} (hp:part cs off agg size=some d) (r:Rel M s w) :
 cH P M s w (do pure (.value (← Instr.field t (.agg vs) f))) d s:=by
 let n:=if agg then size else 1
 have iU:off+n≤vs.size:=by
  rcases qh hp with ⟨rfl,h1,_⟩|⟨rfl,h1⟩
  ·simp[n];omega
  ·have:=(zai.1 h1).1;simp[n];omega
 have hlen:((vs.toList.drop off).take n).length=n:=by simp;omega
 have hE : ∀ (j:Nat),j<((vs.toList.drop off).take n).length→vs[off+j]? = ((vs.toList.drop off).take n)[j]? :=by
  intro j h
  rw[hlen]at h
  rw[zaV,if_pos h,zbg];simp
 refine cH.pure (v:=if agg then .agg ((vs.toList.drop off).take n).toArray else((vs.toList.drop off).take n).getD 0 Go.undef) r (by simp only[Sem.run_bind,Qn h vs _ hlen hE,Result.andThen_ok,Sem.run_pure]) ?_
 refine qF hp _ hlen (fun _ u hu=>h1 u (zaQ.1 (zbm (zaZ hu)))) (fun j d u e1 e2=>h2 _ d u e1 ?_)
 rw[hE j (zai.1 e2).1];exact e2
theorem rW {o:Oper} {ao:AO} {tm:Tm} {act:Act} {d:D} {s':St} (hc:CT P o=some ao) (r:Rel M s w) (hr:lM M s tm act.tmps) (he:a6 ao tm s=some (d,s')) :
 cH P M s w (execOp act.eval o) d s':=by
 obtain⟨dst,op,type,pos,after,guard⟩:=o
 unfold CT at hc
 simp only at hc
 cases op with
 |move x=>
  obtain⟨y,hy,rfl⟩:=map_some hc
  cases he
  exact cH.pure r rfl (cj hy hr)
 |assign x=>
  obtain⟨y,hy,rfl⟩:=map_some hc
  cases he
  exact cH.pure r rfl (cj hy hr)
 | pick c a b=>
  simp only at hc
  split at hc
  ·rename_i c' a' b' h1 h2 h3
   cases hc
   simp only[a6]at he
   split at he
   ·rename_i t ht
    cases he
    have hcb:=cj h1 hr
    rw[ht]at hcb
    have:=hcb.nq
    refine cH.pure (v:=if t then act.eval a else act.eval b) r ?_ ?_
    ·simp only [execOp,this,asBool]
     simp
    ·cases t
     ·exact cj h3 hr
     ·exact cj h2 hr
   ·cases he
  ·cases hc
 | alloc t=>
  simp only at hc
  split at hc
  ·obtain⟨z,hz,rfl⟩:=map_some hc
   simp only[a6]at he
   split at he
   ·cases he;exact Ki r hz
   ·cases he
  ·obtain⟨z,hz,rfl⟩:=map_some hc
   cases he
   exact MM r hz
 | box t x=>
  simp only at hc
  split at hc
  ·obtain⟨y,hy,rfl⟩:=map_some hc
   simp only[a6]at he
   split at he
   ·rename_i row eD
    cases he
    exact Qm r (cj hy hr) eD
   ·cases he
  ·obtain⟨y,hy,rfl⟩:=map_some hc
   simp only[a6]at he
   split at he
   ·rename_i row eD
    cases he
    exact T9 r (cj hy hr) eD
   ·cases he
 | build t parts=>
  simp only at hc
  split at hc
  ·rename_i fs z ps h1 h2 h3
   split at hc
   ·rename_i wX
    cases hc
    simp only[a6]at he
    split at he
    ·rename_i cs oC
     cases he
     have:=M3 r hr h1 wX h2 h3 oC
     simpa[execOp]using this
    ·cases he
   ·cases hc
  ·cases hc
 | buildSlice t n parts=>
  simp only at hc
  split at hc
  ·rename_i e hu
   split at hc
   ·rename_i i z ps h1 h2 h3
    split at hc
    ·rename_i lf
     cases hc
     simp only[a6]at he
     split at he
     ·rename_i rows ly
      cases he
      obtain⟨vs,T,g1,g2,g3,g4⟩:=BE r hr hu h1 h2 lf.1 lf.2 h3 ly
      obtain⟨f1,f2,f3⟩:=MV r T g1
      refine⟨_,_,_, .inl ?_,f2,f1,f3⟩
      simp only[zaW]at g4
      simp only[execOp,Sem.run_bind,g4,Result.andThen_ok,Sem.run_pure]
      rw[g2]
     ·cases he
    ·cases hc
   ·cases hc
  ·cases hc
 | load t x=>
  simp only at hc
  split at hc
  ·rename_i y a i h1 h2 h3
   cases hc
   have hx:=cj h1 hr
   simp only[a6]at he
   split at he
   ·rename_i o off ho
    rw[ho]at hx
    have H6:=hx.zE
    obtain⟨hv,_⟩:=hx.rE
    split at he
    ·rename_i cs oC
     split at he
     ·rename_i d' kD
      cases he
      have:=GY r h3 h2 oC H6 kD
      simp only[execOp,hv]
      exact this
     ·cases he
    ·cases he
   ·rename_i row off ho
    rw[ho]at hx
    obtain⟨b,k,hv,g1,g2⟩:=hx.x8
    split at he
    ·rename_i d' kD
     cases he
     have:=GZ r h3 h2 g1 g2 kD
     simp only[execOp,hv]
     exact this
    ·cases he
   ·exact Kl r h3 h2 hx he
  ·cases hc
 | store t a x=>
  simp only at hc
  split at hc
  ·rename_i a' x' i h1 h2 h3
   cases hc
   have ha:=cj h1 hr
   have hx:=cj h2 hr
   simp only[a6]at he
   split at he
   ·rename_i o off row ho eD
    rw[ho]at ha
    have H6:=ha.zE
    obtain⟨hv,_⟩:=ha.rE
    split at he
    ·rename_i cs oC
     split at he
     ·rename_i iU
      cases he
      have:=MN r h3 oC H6 hx eD iU.1 iU.2
      simp only[execOp,hv]
      exact this
     ·cases he
    ·cases he
   ·exact H2 r h3 ha hx he
  ·cases hc
 | nilCheck x=>
  obtain⟨y,hy,rfl⟩:=map_some hc
  have hx:=cj hy hr
  simp only[a6]at he
  split at he
  ·rename_i o off ho
   cases he
   rw[ho]at hx
   have hv:=hx.rE.1
   rw[hv]at hx
   simp only[execOp,hv]
   exact yc r hx
  ·rename_i row off ho
   cases he
   rw[ho]at hx
   obtain⟨b,k,hv,_⟩:=hx.x8
   rw[hv]at hx
   simp only[execOp,hv]
   exact yc r hx
  ·split at he
   case h_2=>cases he
   rename_i d' sw
   cases he
   unfold T6 at sw
   split at sw
   ·rename_i o g off hq
    cases sw
    rw[hq]at hx
    obtain⟨z,b,cap,A,hv,_⟩:=hx.B1
    rw[hv]at hx
    simp only[execOp,hv]
    exact yc r hx
   ·cases sw
 | binOp op t x y yt=>
  simp only at hc
  split at hc
  ·rename_i x' y' h1 h2
   have hx:=cj h1 hr
   have hy:=cj h2 hr
   have fin : ∀ d',v8 op (x'.ev tm) (y'.ev tm)=some d'→(d',s)=(d,s')→cH P M s w (execOp act.eval ⟨dst, .binOp op t x y yt,type,pos,after,guard⟩) d s':=by
    intro d' kD heq
    cases heq
    exact Ua r hx hy kD
   have aaU:(match v8 op (x'.ev tm) (y'.ev tm)with|some d=>some (d,s)|none=>none)=some (d,s')→cH P M s w (execOp act.eval ⟨dst, .binOp op t x y yt,type,pos,after,guard⟩) d s':=by
    intro h
    split at h
    ·rename_i d' kD
     exact fin d' kD (by cases h;rfl)
    ·cases h
   have Un : ∀ o:FO,((o = .eq∧op = .eql)∨(o = .HI∧op = .add)∨(o = .Qg∧op = .eql))→a6 (.sh o x' y') tm s=some (d,s')→cH P M s w (execOp act.eval ⟨dst, .binOp op t x y yt,type,pos,after,guard⟩) d s':=by
    intro o ho h
    simp only[a6]at h
    split at h
    ·rename_i d' kD
     cases h
     exact Qr r ho hx hy kD
    ·cases h
   have aaV : ∀ neg,op=(if neg then .neq else .eql)→P.underlying t=some .bool→a6 (.HJ neg x' y') tm s=some (d,s')→cH P M s w (execOp act.eval ⟨dst, .binOp op t x y yt,type,pos,after,guard⟩) d s':=by
    intro neg lE ht h
    simp only[a6]at h
    split at h
    ·rename_i p q hp hq
     cases h
     rw[hp]at hx;rw[hq]at hy
     simp only[execOp,hx.nq,hy.nq,lE]
     exact Ub r ht
    ·cases h
   have aaW : ∀ neg e,op=(if neg then .neq else .eql)→P.underlying t=some (.pointer e)→a6 (.HK neg x' y') tm s=some (d,s')→cH P M s w (execOp act.eval ⟨dst, .binOp op t x y yt,type,pos,after,guard⟩) d s':=by
    intro neg e lE ht h
    simp only[a6]at h
    split at h
    ·rename_i hp hq
     cases h
     rw[hp]at hx;rw[hq]at hy
     simp only[execOp,hx.rD,hy.rD,lE]
     have:=B3 r (neg:=neg) (x:=x) (y:=y) (a:=none) ht
     cases neg<;>simpa using this
    ·rename_i o off hp hq
     cases h
     rw[hp]at hx;rw[hq]at hy
     simp only[execOp,hx.rE.1,hy.rD,lE]
     have:=B3 r (neg:=neg) (x:=x) (y:=y) (a:=some ⟨M.mu o,off,none⟩) ht
     cases neg<;>simpa using this
    ·rename_i row off hp hq
     cases h
     rw[hp]at hx;rw[hq]at hy
     obtain⟨b,k,hv,_⟩:=hx.x8
     simp only[execOp,hv,hy.rD,lE]
     have:=B3 r (neg:=neg) (x:=x) (y:=y) (a:=some ⟨b,k+off,none⟩) ht
     cases neg<;>simpa using this
    ·cases h
   have aaX : ∀ neg ks,op=(if neg then .neq else .eql)→pJ P t=some ks→a6 (.eqs neg ks x' y') tm s=some (d,s')→cH P M s w (execOp act.eval ⟨dst, .binOp op t x y yt,type,pos,after,guard⟩) d s':=by
    intro neg ks lE ht h
    simp only[a6]at h
    split at h
    ·rename_i p q hp hq
     split at h
     ·rename_i e' sw
      cases h
      rw[hp]at hx;rw[hq]at hy
      simp only[execOp,lE]
      exact Ue r ht hx hy sw
     ·cases h
    ·cases h
   split at hc
   ·cases hc;exact aaU he
   ·cases hc;exact aaU he
   ·rename_i hu;cases hc;exact aaV false rfl hu he
   ·rename_i hu;cases hc;exact aaV true rfl hu he
   ·rename_i hu;cases hc;exact aaW false _ rfl hu he
   ·rename_i hu;cases hc;exact aaW true _ rfl hu he
   ·obtain⟨ks,hk,rfl⟩:=map_some hc;exact aaX false ks rfl hk he
   ·obtain⟨ks,hk,rfl⟩:=map_some hc;exact aaX true ks rfl hk he
   ·cases hc;exact Un .eq (.inl ⟨rfl,rfl⟩) he
   ·cases hc;exact Un .HI (.inr (.inl ⟨rfl,rfl⟩)) he
   ·cases hc;exact Un .Qg (.inr (.inr ⟨rfl,rfl⟩)) he
   ·cases hc
  ·cases hc
 | unOp op t x=>
  obtain⟨y,hy,rfl⟩:=map_some hc
  have hx:=cj hy hr
  simp only[a6]at he
  split at he
  ·rename_i d' kD
   cases he
   unfold Fv at kD
   split at kD
   ·rename_i k n hk
    cases kD
    rw[hk]at hx
    exact cH.pure (v:= .int k (k.wrap (0 - n))) r (by simp[execOp,hx.gL,Op.unary,Op.intArith]) (.int _ _)
   ·rename_i b hb
    cases kD
    rw[hb]at hx
    exact cH.pure (v:= .bool (!b)) r (by simp[execOp,hx.nq,Op.unary]) (.bool _)
   ·rename_i k n hk
    cases kD
    rw[hk]at hx
    exact cH.pure (v:= .int k (HN k (if k.signed then -1 else k.max) n)) r (by simp only[execOp,hx.gL,Op.unary,Op.intBits];rfl) (.int _ _)
   ·cases kD
  ·cases he
 | convert src ali x=>
  simp only at hc
  split at hc
  ·rename_i y k1 k h1 h2 h3
   cases hc
   have hx:=cj h1 hr
   simp only[a6]at he
   split at he
   ·rename_i k2 n hn
    cases he
    rw[hn]at hx
    refine cH.pure (v:= .int k (k.wrap n)) r ?_ (.int _ _)
    simp[execOp,hx.gL,convert,run_underlying h2,run_underlying h3,Conv.intToInt]
   ·cases he
  ·rename_i y e h1 h2 h3
   split at hc
   ·rename_i h4
    cases hc
    have hx:=cj h1 hr
    simp only[a6]at he
    split at he
    ·rename_i g z rows ly
     split at he
     ·rename_i b hb
      cases he
      rw[ly]at hx
      exact M4 r h2 h4 h3 hx hb
     ·cases he
    ·cases he
   ·cases hc
  ·rename_i y e e2 h1 h2 h3
   split at hc
   ·rename_i h4
    split at hc
    ·rename_i BF
     cases hc
     subst BF
     have hx:=cj h1 hr
     simp only[a6]at he
     split at he
     ·rename_i t z rows ly
      split at he
      ·rename_i lf
       cases he
       rw[ly]at hx
       exact Ui r h2 h4 hx lf.1 lf.2
      ·cases he
     ·cases he
    ·cases hc
   ·cases hc
  ·rename_i y e h1 h2 h3
   split at hc
   ·rename_i i h4 h5
    split at hc
    ·cases hc
     have hx:=cj h1 hr
     simp only[a6]at he
     split at he
     ·rename_i l hl
      cases he
      rw[hl]at hx
      simp only[execOp,hx.k5]
      exact H0 r h2 h3 h4
     ·cases he
    ·cases hc
   ·cases hc
  ·rename_i y k0 k h1 h2 h3
   cases hc
   have hx:=cj h1 hr
   simp only[a6]at he
   split at he
   ·rename_i d' kD
    cases he
    obtain⟨j,n,hn,rfl⟩:=MQ kD
    rw[hn]at hx
    refine cH.pure (v:= .float k (k.nearest n)) r ?_ (.val _ rfl)
    simp[execOp,hx.gL,convert,run_underlying h2,run_underlying h3,Conv.intToFloat]
   ·cases he
  ·rename_i y k0 k h1 h2 h3
   cases hc
   have hx:=cj h1 hr
   simp only[a6]at he
   split at he
   ·rename_i d' kD
    cases he
    obtain⟨f,b,n,hn,h4,h5,rfl⟩:=MR kD
    rw[hn]at hx
    refine cH.pure (v:= .int k n) r ?_ (.int _ _)
    simp[execOp,hx.ou,convert,run_underlying h2,run_underlying h3,Conv.floatToInt,h4,h5]
   ·cases he
  ·cases hc
 | slice t x lo hi mx=>
  cases mx with
  |some m=>cases hc
  | none=>
   simp only at hc
   split at hc
   ·rename_i y FE ib h1 h2 h3 h4
    cases hc
    have hx:=cj h1 hr
    simp only[a6]at he
    split at he
    ·rename_i u hu
     rw[hu]at hx
     split at he
     ·rename_i l h hl hh
      split at he
      ·rename_i lf
       cases he
       have:=Qw r h4 (H4 hr h2 hl) (H5 hr h3 hh) lf.1 lf.2.1 lf.2.2
       simp only[execOp,hx.k5,zbE]
       exact this
      ·cases he
     ·cases he
    ·cases he
   ·rename_i y FE ib e h1 h2 h3 h4
    split at hc
    ·rename_i i CX
     cases hc
     have hx:=cj h1 hr
     simp only[a6]at he
     split at he
     ·rename_i g z rows ly
      rw[ly]at hx
      split at he
      ·rename_i l h hl hh
       split at he
       ·rename_i lf
        cases he
        have:=Ug r h4 CX lf.1 hx (H4 hr h2 hl) (H5 hr h3 hh) lf.2.1 lf.2.2.1 lf.2.2.2
        simp only[execOp,zbE]
        exact this
       ·cases he
      ·cases he
     ·split at he
      case h_2=>cases he
      rename_i d' sw
      cases he
      have:=M9 r h4 CX hx (fun l e=>H4 hr h2 e) (fun len l e=>H5 hr h3 e) sw
      simp only[execOp,zbE]
      exact this
    ·cases hc
   ·cases hc
 | fieldAddr t x f=>
  simp only at hc
  split at hc
  ·rename_i y off size a h1 h2
   cases hc
   have hx:=cj h1 hr
   simp only[a6]at he
   split at he
   ·rename_i o k ho
    cases he
    rw[ho]at hx
    have H6:=hx.zE
    obtain⟨hv,hC⟩:=hx.rE
    refine cH.pure (v:= .pointer (some ⟨M.mu o,k+off,none⟩)) r ?_ (.ptr _ _ hC H6)
    simp only[execOp,hv,Sem.run_bind,zG h2,Result.andThen_ok,Sem.run_pure]
   ·rename_i row k ho
    cases he
    rw[ho]at hx
    obtain⟨b,q,hv,g1,g2⟩:=hx.x8
    refine cH.pure (v:= .pointer (some ⟨b,q+(k+off),none⟩)) r ?_ (.dJ _ _ _ _ g1 g2)
    simp only[execOp,hv,Sem.run_bind,zG h2,Result.andThen_ok,Sem.run_pure,Nat.add_assoc]
   ·split at he
    case h_2=>cases he
    rename_i d' sw
    cases he
    unfold HO at sw
    split at sw
    ·rename_i o g k hq
     cases sw
     rw[hq]at hx
     obtain⟨z,b,cap,A,hv,ho,hm,hg⟩:=hx.B1
     refine cH.pure (v:= .pointer (some ⟨b,k+off,none⟩)) r ?_ (.iT _ _ _ _ b cap A ho hm hg)
     simp only[execOp,hv,Sem.run_bind,zG h2,Result.andThen_ok,Sem.run_pure]
    ·cases sw
  ·cases hc
 | field t x f=>
  simp only at hc
  split at hc
  ·rename_i y off size a h1 h2
   cases hc
   have hx:=cj h1 hr
   simp only[a6]at he
   split at he
   ·rename_i cs oC
    split at he
    ·rename_i d' kD
     cases he
     rw[oC]at hx
     obtain⟨vs,hv,g1,g2,g3⟩:=hx.Et
     simp only[execOp,hv]
     exact Ng h2 g1 g2 g3 kD r
    ·cases he
   ·cases he
  ·cases hc
 | indexAddr t x i=>
  simp only at hc
  split at hc
  ·rename_i y j e h1 h2 h3
   split at hc
   ·rename_i inf Ni
    split at hc
    ·cases hc
     have hx:=cj h1 hr
     have hj:=cj h2 hr
     simp only[a6]at he
     split at he
     ·rename_i g z rows k n ly hn
      split at he
      ·rename_i lf
       obtain⟨yS,hz⟩:=lf
       subst hz
       split at he
       ·rename_i row eD
        cases he
        rw[ly]at hx;rw[hn]at hj
        simp only[execOp,hj.gL]
        exact MU r h3 Ni hx yS eD
       ·cases he
      ·cases he
     ·split at he
      case h_2=>cases he
      rename_i d' sw
      cases he
      exact H3 r h3 Ni hx hj sw
    ·cases hc
   ·cases hc
  ·cases hc
 | index t x i=>
  simp only at hc
  split at hc
  ·rename_i y j h1 h2 h3
   cases hc
   have hx:=cj h1 hr
   have hj:=cj h2 hr
   simp only[a6]at he
   split at he
   ·rename_i l k n hl hn
    split at he
    ·rename_i yS
     split at he
     ·rename_i c C6
      cases he
      rw[hl]at hx;rw[hn]at hj
      simp only[execOp,hj.gL,hx.k5]
      exact Qt r h3 yS C6
     ·cases he
    ·cases he
   ·cases he
  ·cases hc
 | extract x i=>
  obtain⟨y,hy,rfl⟩:=map_some hc
  have hx:=cj hy hr
  simp only[a6]at he
  split at he
  ·rename_i ds C7
   split at he
   ·rename_i d' kD
    cases he
    rw[C7]at hx
    obtain⟨vs,hv,g1,g2⟩:=hx.Fy
    have hC:=(zai.1 kD).1
    have H7:vs[i]? = some vs[i]:=zbq (by omega)
    refine cH.pure (v:=vs[i]) r ?_ (g2 i _ _ kD H7)
    simp[execOp,hv,Instr.extract,H7]
   ·cases he
  ·cases he
 | call c=>
  obtain⟨callee,args,mz⟩:=c
  cases callee with
  |value f=>cases hc
  |invoke f m=>cases hc
  | builtin bi=>
   have two : ∀ {x y:Operand} {x' y':X} {isMax:Bool},cX x=some x'→cX y=some y'→bi=(if isMax then .max else .min)→args.toList = [x,y]→a6 (.mm isMax x' y') tm s=some (d,s')→
    cH P M s w (execOp act.eval ⟨dst, .call ⟨.builtin bi,args,mz⟩,type,pos,after,guard⟩) d s':=by
    intro x y x' y' isMax h1 h2 hb ha h
    have iV:args = #[x,y]:=by rw[← zaW (xs:=args),ha]
    subst iV
    have hx:=cj h1 hr
    have hy:=cj h2 hr
    simp only[a6]at h
    split at h
    ·rename_i k a k' b FF H6
     split at h
     ·rename_i sr
      subst sr
      cases h
      rw[FF]at hx;rw[H6]at hy
      refine cH.pure (v:= .int k (if isMax then(if b > a then b else a)else(if b<a then b else a))) r ?_ (.int _ _)
      subst hb
      cases isMax
      ·simp[execOp,resolve,invoke,builtin,Builtin.min_,Builtin.min2,hx.gL,hy.gL]
      ·simp[execOp,resolve,invoke,builtin,Builtin.max_,Builtin.max2,hx.gL,hy.gL]
     ·cases h
    ·cases h
   cases bi<;>simp only at hc<;>try (cases hc;done)
   case append=>
    split at hc
    ·rename_i x y t u ha tr
     split at hc
     ·rename_i e e' x' y' h1 h2 h3 h4
      split at hc
      ·rename_i i z hi hz
       split at hc
       ·rename_i p8
        cases hc
        have iV:args = #[x,y]:=by rw[← zaW (xs:=args),ha]
        have H8:mz = #[t,u]:=by rw[← zaW (xs:=mz),tr]
        subst iV;subst H8
        obtain⟨i',v,g1,g2,g3,g4⟩:=rU hz
        rw[hi]at g1;cases g1
        have FD:=qG (M:=M) (s:=s) g4
        split at he
        ·rename_i hb
         obtain⟨rfl,xb,tu⟩:=hb
         obtain⟨v',w',M',f1,f2,f3,f4⟩:=MX (ty:=type) r h1 h2 hi g2 xb tu g3 FD.2.1 (cj h3 hr) (cj h4 hr) he
         refine⟨v',w',M', .inl ?_,f2,f3,f4⟩
         simp[execOp,resolve,invoke,builtin,f1]
        ·have hxx:=cj h3 hr
         simp only[a6]at he
         split at he
         ·rename_i gq zq rq hq
          rw[hq]at hxx
          obtain⟨v',w',M',f1,f2,f3,f4⟩:=QB (ty:=type) r h1 h2 hi g2 g3 FD.2.1 hxx (cj h4 hr) p8 he
          refine⟨v',w',M', .inl ?_,f2,f3,f4⟩
          simp[execOp,resolve,invoke,builtin,f1]
         ·obtain⟨v',w',M',f1,f2,f3,f4⟩:=Nb (ty:=type) r h1 h2 hi g2 g3 FD.2.1 hxx (cj h4 hr) p8 he
          refine⟨v',w',M', .inl ?_,f2,f3,f4⟩
          simp[execOp,resolve,invoke,builtin,f1]
       ·cases hc
      ·cases hc
     ·rename_i e x' y' h1 h2 h3 h4
      split at hc
      ·rename_i i z hi hz
       split at hc
       ·rename_i hb
        cases hc
        obtain⟨rfl,xb,tu⟩:=hb
        have iV:args = #[x,y]:=by rw[← zaW (xs:=args),ha]
        have H8:mz = #[t,u]:=by rw[← zaW (xs:=mz),tr]
        subst iV;subst H8
        obtain⟨i',v,g1,g2,g3,g4⟩:=rU hz
        rw[hi]at g1;cases g1
        have FD:=qG (M:=M) (s:=s) g4
        have hy:=cj h4 hr
        simp only[a6]at he
        split at he
        ·rename_i l hl
         rw[hl]at hy
         obtain⟨v',w',M',f1,f2,f3,f4⟩:=MY (ty:=type) r h1 h2 hi g2 xb tu g3 FD.2.1 (cj h3 hr) he
         refine⟨v',w',M', .inl ?_,f2,f3,f4⟩
         simp[execOp,resolve,invoke,builtin,hy.k5,f1]
        ·cases he
       ·cases hc
      ·cases hc
     ·cases hc
    ·cases hc
   case len=>
    split at hc
    ·rename_i x t ha tr
     have iV:args = #[x]:=by rw[← zaW (xs:=args),ha]
     have H8:mz = #[t]:=by rw[← zaW (xs:=mz),tr]
     subst iV;subst H8
     have hex:execOp act.eval ⟨dst, .call ⟨.builtin .len, #[x], #[t]⟩,type,pos,after,guard⟩=(do pure (.value (← Builtin.len_ #[t] type #[act.eval x]))):=by
      simp[execOp,resolve,invoke,builtin]
     rw[hex]
     split at hc
     ·rename_i ht
      obtain⟨y,hy,rfl⟩:=map_some hc
      have hx:=cj hy hr
      simp only[a6]at he
      split at he
      ·rename_i l hl
       cases he
       rw[hl]at hx
       rw[hx.k5]
       exact HT r ht
      ·cases he
     ·rename_i e ht
      obtain⟨y,hy,rfl⟩:=map_some hc
      have hx:=cj hy hr
      simp only[a6]at he
      split at he
      ·rename_i g z rows ly
       cases he
       rw[ly]at hx
       rcases hx.jc with ⟨h0,hv,_⟩|⟨h0,_,a,cap,hv⟩|⟨b,q,cap,hv,_⟩
       ·rw[hv,h0];exact mK r ht
       ·rw[hv,h0];exact mK r ht
       ·rw[hv];exact mK r ht
      ·split at he
       case h_2=>cases he
       rename_i d' sw
       cases he
       exact Na r ht hx sw
     ·cases hc
    ·cases hc
   case max=>
    split at hc
    ·rename_i x y ha
     split at hc
     ·rename_i x' y' h1 h2
      cases hc
      exact two (isMax:=true) h1 h2 rfl ha he
     ·cases hc
    ·cases hc
   case min=>
    split at hc
    ·rename_i x y ha
     split at hc
     ·rename_i x' y' h1 h2
      cases hc
      exact two (isMax:=false) h1 h2 rfl ha he
     ·cases hc
    ·cases hc
   case complex=>
    split at hc
    ·rename_i x y ha
     split at hc
     ·rename_i x' y' h1 h2
      cases hc
      have iV:args = #[x,y]:=by rw[← zaW (xs:=args),ha]
      subst iV
      have hx:=cj h1 hr
      have hy:=cj h2 hr
      simp only[a6]at he
      split at he
      ·rename_i d' kD
       cases he
       obtain⟨k,a,b,QG,ld,rfl⟩:=Qo kD
       rw[QG]at hx;rw[ld]at hy
       refine cH.pure (v:= .complex k a b) r ?_ (.val _ rfl)
       have hb:Builtin.complex_ mz type #[.float k a, .float k b] = pure (.complex k a b):=if_pos rfl
       simp[execOp,resolve,invoke,builtin,hb,hx.ou,hy.ou]
      ·cases he
     ·cases hc
    ·cases hc
   case real=>
    split at hc
    ·rename_i x ha
     obtain⟨x',h1,rfl⟩:=map_some hc
     have iV:args = #[x]:=by rw[← zaW (xs:=args),ha]
     subst iV
     have hx:=cj h1 hr
     simp only[a6]at he
     split at he
     ·rename_i d' kD
      cases he
      obtain⟨k,a,b,QG,rfl⟩:=Qp kD
      rw[QG]at hx
      refine cH.pure (v:= .float k a) r ?_ (.val _ rfl)
      have hb:Builtin.real_ mz type #[.complex k a b] = pure (.float k a):=rfl
      simp[execOp,resolve,invoke,builtin,hb,hx.ou]
     ·cases he
    ·cases hc
   case imag=>
    split at hc
    ·rename_i x ha
     obtain⟨x',h1,rfl⟩:=map_some hc
     have iV:args = #[x]:=by rw[← zaW (xs:=args),ha]
     subst iV
     have hx:=cj h1 hr
     simp only[a6]at he
     split at he
     ·rename_i d' kD
      cases he
      obtain⟨k,a,b,QG,rfl⟩:=Qq kD
      rw[QG]at hx
      refine cH.pure (v:= .float k b) r ?_ (.val _ rfl)
      have hb:Builtin.imag_ mz type #[.complex k a b] = pure (.float k b):=rfl
      simp[execOp,resolve,invoke,builtin,hb,hx.ou]
     ·cases he
    ·cases hc
 | makeFunc fn first captured=>
  cases fn<;>simp only at hc<;>try (cases hc;done)
  split at hc
  ·rename_i f h0
   obtain⟨xs,n8,rfl⟩:=map_some hc
   simp only[a6,Option.some.injEq,Prod.mk.injEq]at he
   obtain⟨rfl,rfl⟩:=he
   obtain⟨c1,c2⟩:=Lw hr n8
   have hf:first = #[]:=Array.eq_empty_of_size_eq_zero h0
   subst hf
   refine cH.pure (v:= .func (.func f) #[] (captured.map act.eval)) r ?_ (.gK _ _ _ (by simp[c1]) (fun i d v e1 e2=>c2 i d v e1 (by simpa using e2)))
   simp[execOp,Instr.makeFunc]
  ·cases hc
 | makeMap t rv=>
  cases rv with
  | none=>
   simp only at hc
   split at hc
   ·rename_i ht
    cases hc
    simp only[a6,Option.some.injEq,Prod.mk.injEq]at he
    obtain⟨rfl,rfl⟩:=he
    simp only[execOp,zbE]
    exact M5 r ht
   ·cases hc
  |some x=>cases hc
 | makeSlice t l c=>
  simp only at hc
  split at hc
  ·rename_i l' c' e h1 h2 ht
   split at hc
   ·rename_i i z hi hz
    split at hc
    ·rename_i p8
     cases hc
     have hl:=cj h1 hr
     have hcx:=cj h2 hr
     simp only[a6]at he
     split at he
     ·rename_i n m hn hm
      split at he
      ·rename_i lf
       obtain⟨rfl,h0,hmx⟩:=lf
       cases he
       rw[hn]at hl;rw[hm]at hcx
       simp only[execOp,hl.gL,hcx.gL]
       exact Nf r ht hi hz p8 h0 hmx
      ·cases he
     ·cases he
    ·cases hc
   ·cases hc
  ·cases hc
 | mapUpdate t m k v=>
  simp only at hc
  split at hc
  ·rename_i kt et m' k' v' ht h1 h2 h3
   split at hc
   ·rename_i hkt
    cases hc
    have hm:=cj h1 hr
    have hk:=cj h2 hr
    have hv:=cj h3 hr
    simp only[a6]at he
    split at he
    ·rename_i o key g z rows ho Uo ly
     rw[ho]at hm;rw[Uo]at hk;rw[ly]at hv
     obtain⟨hmv,hC,wR⟩:=hm.HS
     split at he
     ·rename_i cs oC
      split at he
      ·rename_i ph ag7
       cases he
       have C4:(act.eval v).oneCell'=true:=by
        rcases hv.jc with ⟨_,h,_⟩|⟨_,_,a,cap,h⟩|⟨b,q,cap,h,_⟩<;>rw[h]<;>rfl
       simp only[execOp,hmv,hk.k5]
       exact QD r ht hkt wR oC hv C4 ag7
      ·cases he
     ·cases he
    ·cases he
   ·cases hc
  ·cases hc
 | lookup t m k ok=>
  cases ok<;>simp only at hc<;>try (cases hc;done)
  split at hc
  ·rename_i kt et m' k' ht h1 h2
   split at hc
   ·rename_i i hkt hi
    split at hc
    ·rename_i z hz
     obtain⟨zd,hzd,rfl⟩:=map_some hc
     have hm:=cj h1 hr
     have hk:=cj h2 hr
     simp only[a6]at he
     split at he
     ·rename_i o key ho Uo
      rw[ho]at hm;rw[Uo]at hk
      obtain⟨hmv,hC,wR⟩:=hm.HS
      split at he
      ·rename_i cs oC
       split at he
       ·rename_i d' kD
        cases he
        simp only[execOp,hmv,hk.k5]
        exact M6 r ht hkt hi hz hzd wR oC kD
       ·cases he
      ·cases he
     ·cases he
    ·cases hc
   ·cases hc
  ·cases hc
 |_=>cases hc
theorem ye {o:Oper} {z:List D} {k n:Nat} {ps:List (Nat×X)} {tm:Tm} {act:Act} {d:D} {s':St} (hc:CT P o=some (.om z k n ps)) (r:Rel M s w) (hr:lM M s tm act.tmps) (he:a6 (.ud z k n ps) tm s=some (d,s')) :
 cH P M s w (execOp act.eval o) d s':=by
 obtain⟨dst,op,type,pos,after,guard⟩:=o
 unfold CT at hc
 simp only at hc
 cases op with
 | buildSlice t n' parts=>
  simp only at hc
  split at hc
  ·rename_i e hu
   split at hc
   ·rename_i i z ps h1 h2 h3
    split at hc
    ·rename_i lf
     cases hc
     simp only[a6]at he
     split at he
     ·rename_i rows ly
      cases he
      obtain⟨vs,T,g1,g2,g3,g4⟩:=BE r hr hu h1 h2 lf.1 lf.2 h3 ly
      obtain⟨M',f1,f2,f3⟩:=QC r T g1 (by rw[g3,g2]) lf.1
      refine⟨_,_,_, .inl ?_,f2,f1,f3⟩
      simp only[zaW]at g4
      simp only[execOp,Sem.run_bind,g4,Result.andThen_ok,Sem.run_pure]
      rw[g2]
     ·cases he
    ·cases hc
   ·cases hc
  ·cases hc
 |_=>
  exfalso
  revert hc
  try simp only
  repeat' split
  all_goals (first|(intro h;cases h;done)|(intro h;obtain⟨_,_,h⟩:=map_some h;cases h;done)|contradiction|(simp;done)|(intro h;simp_all;done))
end
end Go.Abs
namespace Go.Abs
structure eQ where
 M:Map
 s:St
 w:World
 laid:Laid M s w
 old : ∀ b o v,M.G b o=some v→b<w.heap.size
def Holds (B:eQ) (nt:Nat) (tm:Tm) (s:St) (act:Act) (w:World):Prop:=
 ∃ M,Ext B.M B.s B.w M s w∧Rel M s w∧lM M s tm act.tmps∧act.tmps.size=nt∧act.defers = []
def pD (B:eQ) (nt:Nat) (Q:Exit→Tm→St→Prop):Exit→Act→World→Prop:=fun e act w=>∃ tm s,Q e tm s∧Holds B nt tm s act w
def dG (P:Program) (f:FuncId) (args:List D) (s:St) (Q:D→St→Prop):Prop:=
 ∀ (M:Map) (w:World) (fJ:Array Value),Rel M s w→Laid M s w→fJ.size=args.length→(∀ (i:Nat) (d:D) (v:Value),args[i]? = some d→fJ[i]? = some v→RD M s d v)→
  Calls P f fJ w fun e w'=>∃ M' d v s',e = .returned v∧Q d s'∧Ext M s w M' s' w'∧Rel M' s' w'∧RD M' s' d v
theorem dG.mono {P:Program} {f:FuncId} {args:List D} {s:St} {Q Q':D→St→Prop} (h:dG P f args s Q) (hq : ∀ d s',Q d s'→Q' d s'):dG P f args s Q':=
 fun M w fJ r hd hl ha=>(h M w fJ r hd hl ha).mono fun _ _ ⟨M',d,v,s',h1,h2,h3⟩=>⟨M',d,v,s',h1,hq _ _ h2,h3⟩
def guarded (g:Option (Nat×Bool)) (tm:Tm) (A B:Prop):Prop:=
 match g with
 |none=>A
 |some (t,want)=>
  match tm.get t with
  | .bool b=>(b=want→A)∧(b=(!want)→B)
  | .tuple _=>B
  |_=>False
def iR (P:Program):List AI→(Tm→St→Prop)→Tm→St→Prop
 | [],K,tm,s=>K tm s
 | .op dst g o::r,K,tm,s=>
  guarded g tm (match a6 o tm s with|some (d,s')=>iR P r K (tm.put dst d) s'|none=>False) (iR P r K (tm.put dst (.tuple [])) s)
 | .call dst g f xs::r,K,tm,s=>
  guarded g tm (dG P f (xs.map (·.ev tm)) s fun d s'=>iR P r K (tm.put dst d) s') (iR P r K (tm.put dst (.tuple [])) s)
 | .nil dst g neg x::r,K,tm,s=>
  guarded g tm (match x.ev tm with
   | .slice _ _ rows=>∀ b:Bool,(rows≠ []→b=false)→iR P r K (tm.put dst (.bool (if neg then !b else b))) s
   |_=>False) (iR P r K (tm.put dst (.tuple [])) s)
 | .jT dst g t xs::r,K,tm,s=>
  guarded g tm (match tm.get t with
   | .gK f nn=>enters P f=true∧dG P f (xs.map (·.ev tm)++nn) s fun d s'=>iR P r K (tm.put dst d) s'
   |_=>False) (iR P r K (tm.put dst (.tuple [])) s)
section
variable {P:Program}
theorem zN {f:FuncId} (h:enters P f=true) (args:Array Value) (w:World):(callFunc f args).run P w = .ok (.enter f args) w:=by
 unfold enters at h
 split at h
 ·rename_i fn hf
  simp only[zaq,zaG]at h
  obtain⟨h1,h2⟩:=h
  have h3:fn.body.isNone=false:=by cases hb:fn.body<;>simp_all
  simp only[callFunc,Sem.run_bind,run_program,Result.andThen_ok,hf,h2,h3]
  simp
 ·cases h
theorem wi (ρ:Operand→Value) (dst:Option Tmp) (f:FuncId) (args:Array Operand) (mz:Array TypeId) (ty:TypeId) (pos:String) (after:Array Edge) (g:Option (Nat×Bool))
 (hρ:ρ (.func f) = .func (.func f) #[] #[]) (h:enters P f=true) (w:World) :
 (execOp ρ ⟨dst, .call ⟨.value (.func f),args,mz⟩,ty,pos,after,g⟩).run P w = .ok (.enter f (args.map ρ)) w:=by
 simp[execOp,resolve,hρ,Deferred.ofValue,invoke,zN h]
theorem zO (ρ:Operand→Value) (dst:Option Tmp) (x:Operand) (f:FuncId) (nn:Array Value) (args:Array Operand) (mz:Array TypeId) (ty:TypeId) (pos:String) (after:Array Edge) (g:Option (Nat×Bool))
 (hρ:ρ x = .func (.func f) #[] nn) (h:enters P f=true) (w:World) :
 (execOp ρ ⟨dst, .call ⟨.value x,args,mz⟩,ty,pos,after,g⟩).run P w = .ok (.enter f (args.map ρ++nn)) w:=by
 simp[execOp,resolve,hρ,Deferred.ofValue,invoke,zN h]
theorem vm {M:Map} {s:St} {tm:Tm} {act:Act} (hr:lM M s tm act.tmps) : ∀ {l:List Operand} {xs:List X},wQ l=some xs→
 xs.length=l.length∧∀ (i:Nat) (d:D) (v:Value),(xs.map (·.ev tm))[i]? = some d→(l.map act.eval)[i]? = some v→RD M s d v
 | [],xs,h=>by cases h;exact⟨rfl,by simp⟩
 | x::l,xs,h=>by
  unfold wQ at h
  split at h
  ·rename_i x' r' h1 h2
   cases h
   obtain⟨g1,g2⟩:=vm hr h2
   refine⟨by simp[g1],fun i d v e1 e2=>?_⟩
   cases i with
   |zero=>simp at e1 e2;subst e1;subst e2;exact cj h1 hr
   |succ i=>exact g2 i d v (by simpa using e1) (by simpa using e2)
  ·cases h
theorem FG {M:Map} {s:St} {tm:Tm} {act:Act} {args:Array Operand} {xs:List X} {nn:List D} {vs:Array Value} (n8:wQ args.toList=some xs) (ht:lM M s tm act.tmps) (hlen:nn.length=vs.size)
 (C8 : ∀ (i:Nat) (d:D) (v:Value),nn[i]? = some d→vs[i]? = some v→RD M s d v) :
 (args.map act.eval++vs).size=(xs.map (·.ev tm)++nn).length∧∀ (i:Nat) (d:D) (v:Value),(xs.map (·.ev tm)++nn)[i]? = some d→(args.map act.eval++vs)[i]? = some v→RD M s d v:=by
 obtain⟨c1,c2⟩:=vm ht n8
 refine⟨by simp[c1,hlen],fun i d v e1 e2=>?_⟩
 rcases zaF i args.size with lR|lR
 ·rw [zar (by simp [c1];exact lR)]at e1
  rw[za1 (by simp;exact lR)]at e2
  exact c2 i d v e1 (by simpa using e2)
 ·rw [zav (by simp [c1];exact lR)]at e1
  rw[Array.getElem?_append_right (by simp;exact lR)]at e2
  simp only[zaC,c1,Array.size_map,Array.length_toList]at e1 e2
  exact C8 _ d v e1 e2
theorem yT {M:Map} {s:St} {w:World} {o:Oper} {neg:Bool} {x:X} {tm:Tm} {act:Act} (hc:Es P o=some (neg,x)) (hr:lM M s tm act.tmps) {g:Tag} {z:Nat} {rows:List (List D)} (hx:x.ev tm = .slice g z rows) :
 ∃ b:Bool,(rows≠ []→b=false)∧(execOp act.eval o).run P w = .ok (.value (.bool (if neg then !b else b))) w:=by
 obtain⟨dst,op,type,pos,after,guard⟩:=o
 unfold Es at hc
 split at hc
 ·rename_i op t y yt heq
  simp only at heq
  subst heq
  have fin : ∀ e,P.underlying t=some (.slice e)→cX y=some x→op=(if neg then .neq else .eql)→∃ b:Bool,(rows≠ []→b=false)∧
   (execOp act.eval ⟨dst, .binOp op t y (.const (.slice none 0 0)) yt,type,pos,after,guard⟩).run P w = .ok (.value (.bool (if neg then !b else b))) w:=by
   intro e ht hy lE
   have hv:=cj hy hr
   rw[hx]at hv
   have key : ∀ (a:Option Addr) (n c:Nat),act.eval y = .slice a n c→(execOp act.eval ⟨dst, .binOp op t y (.const (.slice none 0 0)) yt,type,pos,after,guard⟩).run P w = .ok (.value (.bool (if neg then !a.isNone else a.isNone))) w:=by
    intro a n c sZ
    have hg:=jv (P:=P) (w:=w) (op:=op) (t:=t) (x:=y) (y:= .const (.slice none 0 0)) (a:= .slice a n c) (b:= .slice none 0 0) ⟨by simp,by simp⟩
    have he:(Op.equal t (.slice a n c) (.slice none 0 0)).run P w = .ok a.isNone w:=by
     have : ∀ d,(Op.equalIn (d+1) t (.slice a n c) (.slice none 0 0)).run P w = .ok a.isNone w:=by
      intro d
      cases a<;>simp[Op.equalIn,run_underlying ht]
     exact this 9999
    have ag9:act.eval (.const (.slice none 0 0)) = .slice none 0 0:=rfl
    simp only[execOp,sZ,ag9]
    rw[lE]at hg ⊢
    cases neg
    ·simp only [zaa,if_false]at hg ⊢
     simp[hg,binOp,he]
    ·simp only [if_true]at hg ⊢
     simp[hg,binOp,he]
   rcases hv.jc with ⟨h0,sZ,_⟩|⟨_,_,a,cap,sZ⟩|⟨b,q,cap,sZ,_⟩
   ·exact⟨true,fun h=>(h h0).elim,key none 0 0 sZ⟩
   ·exact⟨false,fun _=>rfl,key _ _ _ sZ⟩
   ·exact⟨false,fun _=>rfl,key _ _ _ sZ⟩
  split at hc
  ·cases hc
   exact fin _ ‹_› ‹_› rfl
  ·cases hc
   exact fin _ ‹_› ‹_› rfl
  ·cases hc
 ·cases hc
variable {B:eQ} {nt:Nat}
theorem Holds.put {tm:Tm} {s:St} {act:Act} {w:World} {M':Map} {s':St} {w':World} {M:Map} (e:Ext B.M B.s B.w M s w) (ht:lM M s tm act.tmps) (hn:act.tmps.size=nt) (hd:act.defers = [])
 {dst:Option Nat} (p9 : ∀ t,dst=some t→t<nt) {d:D} {v:Value} (e':Ext M s w M' s' w') (r':Rel M' s' w') (hv:RD M' s' d v):Holds B nt (tm.put dst d) s' (act.put dst v) w':=by
 refine⟨M',e.trans e',r',(ht.mono e'.le).put (fun t h=>by rw[hn];exact p9 t h) hv, ?_, ?_⟩
 ·cases dst<;>simp[Act.put,hn]
 ·cases dst<;>simp[Act.put,hd]
theorem xc {ops:Array Oper} {o:Oper} {ai:AI} (h:cI P nt ops o=some ai) : ∀ t,o.dst=some t→t<nt:=by
 intro t ht
 unfold cI at h
 split at h
 ·cases h
 ·split at h
  ·rename_i hC;rw[ht]at hC;simpa[Xw]using hC
  ·cases h
theorem jU {ops:Array Oper} {o:Oper} {g:Option (Nat×Bool)} (hg:uh ops o.guard=some g) {M:Map} {s:St} {tm:Tm} {act:Act} (hr:lM M s tm act.tmps) {A C:Prop} (h:guarded g tm A C) :
 (Region.wanted o (yielded ops act.tmps)=true∧A)∨(Region.wanted o (yielded ops act.tmps)=false∧C):=by
 unfold uh at hg
 split at hg
 ·rename_i hn
  cases hg
  exact .inl ⟨by simp[Region.wanted,hn],h⟩
 ·rename_i j want hn
  split at hg
  ·rename_i t ht
   cases hg
   have XJ:=hr t
   unfold guarded at h
   simp only at h
   split at h
   ·rename_i b hb
    rw[hb]at XJ
    have hv:=XJ.nq
    have ael:act.tmps[t]? = some (.bool b):=by
     cases hc:act.tmps[t]? with
     |none=>simp[zbk,hc,Go.undef]at hv
     |some v=>simp[zbk,hc]at hv;rw[hv]
    have hy:yielded ops act.tmps j=some b:=by simp[yielded,ht,ael]
    have hw:Region.wanted o (yielded ops act.tmps)=(some b==some want):=by simp[Region.wanted,hn,hy]
    by_cases hbw:b=want
    ·exact .inl ⟨by rw[hw,hbw];simp,h.1 hbw⟩
    ·refine .inr ⟨by rw [hw];simp [hbw],h.2 ?_⟩
     cases b<;>cases want<;>simp_all
   ·rename_i ds C7
    rw[C7]at XJ
    obtain⟨vs,hv,_⟩:=XJ.Fy
    refine .inr ⟨?_,h⟩
    have hy:yielded ops act.tmps j=none:=by
     unfold yielded
     rw[ht]
     cases hc:act.tmps[t]? with
     |none=>simp[hc]
     |some v=>simp[zbk,hc]at hv;simp[hc,hv]
    simp[Region.wanted,hn,hy]
   ·exact h.elim
  ·cases hg
theorem zP {ops:Array Oper} {Q:Exit→Tm→St→Prop} : ∀ (l:List Nat) (ol:List Oper) (is:List AI),l.map (ops[·]?)=ol.map some→pK P nt ops ol=some is→
 ∀ (tm:Tm) (s:St) (act:Act) (w:World),iR P is (Q .normal) tm s→Holds B nt tm s act w→wpOps P ops (pD B nt Q) l act w
 | [],[],is,_,hc,tm,s,act,w,h,hh=>by cases hc;exact⟨tm,s,h,hh⟩
 | [],_::_,_,hl,_,_,_,_,_,_,_=>by simp at hl
 |_::_,[],_,hl,_,_,_,_,_,_,_=>by simp at hl
 | i::l,o::ol,is,hl,hc,tm,s,act,w,h,hh=>by
  simp only[zaf,List.cons.injEq]at hl
  obtain⟨hi,hl⟩:=hl
  unfold pK at hc
  split at hc
  ·rename_i ai QI h1 h2
   cases hc
   obtain⟨M,e,r,ht,hn,hd⟩:=hh
   have p9:=xc h1
   have ih:=fun tm s act w=>zP (Q:=Q) l ol QI hl h2 tm s act w
   have skip : ∀ (x:Prop),iR P QI (Q .normal) (tm.put o.dst (.tuple [])) s→wpOps P ops (pD B nt Q) l (act.put o.dst Go.undef) w:=fun _ hk=>
    ih _ _ _ _ hk (Holds.put e ht hn hd p9 (Ext.refl M s w) r .undef)
   simp only[wpOps,hi]
   unfold cI at h1
   split at h1
   ·cases h1
   ·rename_i g hg
    split at h1
    ·unfold rS at h1
     split at h1
     ·-- a call
      rename_i f args mz lE
      split at h1
      ·rename_i yf
       obtain⟨xs,n8,rfl⟩:=map_some h1
       unfold iR at h
       rcases jU hg ht h with ⟨hw,hA⟩|⟨hw,hB⟩
       ·simp only [hw,if_true]
        left
        have hex:(execOp act.eval o).run P w = .ok (.enter f (args.map act.eval)) w:=by
         obtain⟨dst,op,type,pos,after,guard⟩:=o
         simp only at lE
         subst lE
         exact wi act.eval dst f args mz type pos after guard rfl yf w
        obtain⟨c1,c2⟩:=vm ht n8
        unfold Oper.wp
        rw[hex,Oper.upon_enter]
        refine(hA M w (args.map act.eval) r (B.laid.ext e) (by simp[c1]) (fun i d v e1 e2=>c2 i d v e1 (by simpa using e2))).mono ?_
        rintro en w' ⟨M',d,v,s',rfl,hk,e',r',hv⟩
        exact ih _ _ _ _ hk (Holds.put e ht hn hd p9 e' r' hv)
       ·simp only [hw]
        exact skip True hB
      ·cases h1
     ·-- what a slot holds is called
      rename_i t args mz lE
      obtain⟨xs,n8,rfl⟩:=map_some h1
      unfold iR at h
      rcases jU hg ht h with ⟨hw,hA⟩|⟨hw,hB⟩
      ·simp only [hw,if_true]
       left
       split at hA
       ·rename_i f nn w9
        obtain⟨yf,hA⟩:=hA
        have QJ:=ht t
        rw[w9]at QJ
        obtain⟨vs,oB,hlen,C8⟩:=QJ.Lr
        have hex:(execOp act.eval o).run P w = .ok (.enter f (args.map act.eval++vs)) w:=by
         obtain⟨dst,op,type,pos,after,guard⟩:=o
         simp only at lE
         subst lE
         exact zO act.eval dst (.tmp t) f vs args mz type pos after guard oB yf w
        unfold Oper.wp
        rw[hex,Oper.upon_enter]
        have cc:=FG n8 ht hlen C8
        refine(hA M w (args.map act.eval++vs) r (B.laid.ext e) cc.1 cc.2).mono ?_
        rintro en w' ⟨M',d,v,s',rfl,hk,e',r',hv⟩
        exact ih _ _ _ _ hk (Holds.put e ht hn hd p9 e' r' hv)
       ·exact hA.elim
      ·simp only [hw]
       exact skip True hB
     ·split at h1
      ·-- a slice held against nil
       rename_i neg x H9
       cases h1
       unfold iR at h
       rcases jU hg ht h with ⟨hw,hA⟩|⟨hw,hB⟩
       ·simp only [hw,if_true]
        left
        split at hA
        ·rename_i g' z rows hx
         obtain⟨b,hb,hex⟩:=yT (w:=w) H9 ht hx
         unfold Oper.wp
         rw[hex,Oper.upon_value]
         exact ih _ _ _ _ (hA b hb) (Holds.put e ht hn hd p9 (Ext.refl M s w) r (.bool _))
        ·exact hA.elim
       ·simp only [hw]
        exact skip True hB
      ·-- any other operation
       have fin : ∀ ao,ai = .op o.dst g ao→(∀ d s',a6 ao tm s=some (d,s')→cH P M s w (execOp act.eval o) d s')→
        (if Region.wanted o (yielded ops act.tmps)=true then o.wp P act w (wpOps P ops (pD B nt Q) l) (pD B nt Q)∨(o.asks P act w∧LetsOut (pD B nt Q))else wpOps P ops (pD B nt Q) l (act.put o.dst Go.undef) w):=by
        intro ao vn hdo
        subst vn
        unfold iR at h
        rcases jU hg ht h with ⟨hw,hA⟩|⟨hw,hB⟩
        ·simp only [hw,if_true]
         left
         split at hA
         ·rename_i d s' qi
          obtain⟨v,w',M',c7,r',hv,e'⟩:=hdo d s' qi
          unfold Oper.wp
          rcases c7 with c7|⟨c7,rfl⟩
          ·rw [c7,Oper.upon_value]
           exact ih _ _ _ _ hA (Holds.put e ht hn hd p9 e' r' hv)
          ·rw [c7,Oper.upon_skip]
           exact ih _ _ _ _ hA (Holds.put e ht hn hd p9 e' r' hv)
         ·exact hA.elim
        ·simp only [hw]
         exact skip True hB
       split at h1
       ·rename_i z k n ps nL
        cases h1
        refine fin _ rfl (fun d s' qi=>?_)
        split at qi
        ·exact ye nL r ht qi
        ·exact rW nL r ht qi
       ·rename_i ao nL
        cases h1
        exact fin _ rfl (fun d s' qi=>rW nL r ht qi)
       ·cases h1
    ·cases h1
  ·cases hc
end
end Go.Abs
namespace Go.Abs
def Turned (P:Program) (nt:Nat):AC→Code→Prop
 | .skip,c=>c = .skip
 | .run is,c=>∃ id ops,c = .region id ops false∧pK P nt ops ops.toList=some is
 | .par is lH,c=>∃ id ops,c = .region id ops true∧pK P nt ops ops.toList=some is∧P.follows .mixedOrders=true∧∃ pt,CP is (ops.toList.map kY) pt lH=true
 | .seq a b,c=>∃ x y,c = .seq x y∧cC P nt x=some a∧cC P nt y=some b
 | .cond x a b,c=>∃ o p q,c = .cond o p q∧cX o=some x∧cC P nt p=some a∧cC P nt q=some b
 | .block id a,c=>∃ x,c = .block id x∧cC P nt x=some a
 | .loop a,c=>∃ x,c = .loop x∧cC P nt x=some a
 | .exit id,c=>c = .exit id
 | .scope a,c=>∃ x,c = .scope x∧cC P nt x=some a
 | .label l,c=>c = .label l
 | .goto l,c=>c = .goto l
 | .ret,c=>c = .ret
theorem lg {P:Program} {nt:Nat} {c:Code} {ac:AC} (h:cC P nt c=some ac):Turned P nt ac c:=by
 cases c with
 |skip=>cases h;rfl
 | region id ops draw=>
  cases draw
  ·obtain⟨is,h1,rfl⟩:=map_some (x:=pK P nt ops ops.toList) (f:=AC.run) (by simpa [cC]using h)
   exact⟨id,ops,rfl,h1⟩
  ·simp only [cC]at h
   split at h
   ·rename_i hm
    obtain⟨is,h1,h2⟩:=zab.1 h
    unfold MG at h2
    split at h2
    ·rename_i hp
     cases h2
     exact⟨id,ops,rfl,h1,hm,_,hp⟩
    ·cases h2
   ·cases h
 |seq a b=>
  simp only[cC]at h
  split at h
  ·rename_i a' b' h1 h2;cases h;exact⟨a,b,rfl,h1,h2⟩
  ·cases h
 |cond x a b=>
  simp only[cC]at h
  split at h
  ·rename_i x' a' b' h1 h2 h3;cases h;exact⟨x,a,b,rfl,h1,h2,h3⟩
  ·cases h
 |block id a=>
  obtain⟨a',h1,rfl⟩:=map_some (x:=cC P nt a) (f:=AC.block id) (by simpa[cC]using h)
  exact⟨a,rfl,h1⟩
 |loop a=>
  obtain⟨a',h1,rfl⟩:=map_some (x:=cC P nt a) (f:=AC.loop) (by simpa[cC]using h)
  exact⟨a,rfl,h1⟩
 |rangeFunc f p a b=>simp[cC]at h
 |exit id=>cases h;rfl
 |scope a=>
  obtain⟨a',h1,rfl⟩:=map_some (x:=cC P nt a) (f:=AC.scope) (by simpa[cC]using h)
  exact⟨a,rfl,h1⟩
 |label l=>cases h;rfl
 |goto l=>cases h;rfl
 |ret=>cases h;rfl
 |refuse w=>simp[cC]at h
def Sem (P:Program) (B:eQ) (nt:Nat) (ac:AC) (Q:Exit→Tm→St→Prop) (tm:Tm) (s:St):Prop:=
 ∀ c,cC P nt c=some ac→∀ act w,Holds B nt tm s act w→c.wp P (pD B nt Q) act w
def kn (next:Tm→St→Prop) (Q:Exit→Tm→St→Prop):Exit→Tm→St→Prop
 | .normal,tm,s=>next tm s
 |e,tm,s=>Q e tm s
def ij (id:Nat) (Q:Exit→Tm→St→Prop):Exit→Tm→St→Prop
 | .exit i,tm,s=>if i=id then Q .normal tm s else Q (.exit i) tm s
 |e,tm,s=>Q e tm s
section
variable {P:Program} {B:eQ} {nt:Nat} {Q:Exit→Tm→St→Prop} {tm:Tm} {s:St}
theorem Sem.mono {ac:AC} {Q':Exit→Tm→St→Prop} (h:Sem P B nt ac Q tm s) (hq : ∀ e tm s,Q e tm s→Q' e tm s):Sem P B nt ac Q' tm s:=
 fun c hc act w hh=>wp_mono (h c hc act w hh) fun _ _ _ ⟨tm,s,h1,h2⟩=>⟨tm,s,hq _ _ _ h1,h2⟩
theorem Sem.skip (h:Q .normal tm s):Sem P B nt .skip Q tm s:=by
 intro c hc act w hh
 cases lg hc
 exact wp_skip ⟨tm,s,h,hh⟩
theorem Sem.label {l:Nat} (h:Q .normal tm s):Sem P B nt (.label l) Q tm s:=by
 intro c hc act w hh
 cases lg hc
 exact wp_label ⟨tm,s,h,hh⟩
theorem Sem.exit {id:Nat} (h:Q (.exit id) tm s):Sem P B nt (.exit id) Q tm s:=by
 intro c hc act w hh
 cases lg hc
 exact wp_exit ⟨tm,s,h,hh⟩
theorem Sem.goto {l:Nat} (h:Q (.goto l) tm s):Sem P B nt (.goto l) Q tm s:=by
 intro c hc act w hh
 cases lg hc
 exact wp_goto ⟨tm,s,h,hh⟩
theorem Sem.ret (h:Q .ret tm s):Sem P B nt .ret Q tm s:=by
 intro c hc act w hh
 cases lg hc
 exact wp_ret ⟨tm,s,h,hh⟩
theorem zQ (ops:Array Oper):(List.range ops.size).map (ops[·]?)=ops.toList.map some:=by
 apply List.ext_getElem?
 intro i
 by_cases h:i<ops.size
 ·simp[h]
 ·simp[h]
theorem Sem.run {is:List AI} (h:iR P is (Q .normal) tm s):Sem P B nt (.run is) Q tm s:=by
 intro c hc act w hh
 obtain⟨id,ops,rfl,hi⟩:=lg hc
 exact wp_region (zP (Q:=Q) (List.range ops.size) ops.toList is (zQ ops) hi tm s act w h hh)
theorem Sem.seq {a b:AC} (h:Sem P B nt a (kn (Sem P B nt b Q) Q) tm s):Sem P B nt (.seq a b) Q tm s:=by
 intro c hc act w hh
 obtain⟨x,y,rfl,h1,h2⟩:=lg hc
 refine wp_seq (wp_mono (h x h1 act w hh) fun e act w hp=>?_)
 obtain⟨cb,s',hq,jQ⟩:=hp
 cases e with
 |normal=>exact hq y h2 act w jQ
 |exit id=>exact⟨cb,s',hq,jQ⟩
 |goto l=>exact⟨cb,s',hq,jQ⟩
 |ret=>exact⟨cb,s',hq,jQ⟩
 |panic ch=>exact⟨cb,s',hq,jQ⟩
 |outgrown=>exact⟨cb,s',hq,jQ⟩
theorem Sem.cond {x:X} {a b:AC} {t:Bool} (hx:x.ev tm = .bool t) (h1:t=true→Sem P B nt a Q tm s) (h2:t=false→Sem P B nt b Q tm s):Sem P B nt (.cond x a b) Q tm s:=by
 intro c hc act w hh
 obtain⟨o,p,q,rfl,g1,g2,g3⟩:=lg hc
 have jQ:=hh
 obtain⟨M,e,r,ht,hn,hd⟩:=hh
 have hv:=cj g1 ht
 rw[hx]at hv
 exact wp_cond_split hv.nq (fun h=>h1 h p g2 act w jQ) (fun h=>h2 h q g3 act w jQ)
theorem Sem.block {id:Nat} {a:AC} (h:Sem P B nt a (ij id Q) tm s):Sem P B nt (.block id a) Q tm s:=by
 intro c hc act w hh
 obtain⟨x,rfl,h1⟩:=lg hc
 refine wp_block (wp_mono (h x h1 act w hh) fun e act w hp=>?_)
 obtain⟨cb,s',hq,jQ⟩:=hp
 cases e with
 |exit i=>
  simp only[ij]at hq
  simp only[Exit.inBlock]
  split at hq
  ·rename_i h;rw[if_pos h];exact⟨cb,s',hq,jQ⟩
  ·rename_i h;rw[if_neg h];exact⟨cb,s',hq,jQ⟩
 |normal=>exact⟨cb,s',hq,jQ⟩
 |goto l=>exact⟨cb,s',hq,jQ⟩
 |ret=>exact⟨cb,s',hq,jQ⟩
 |panic ch=>exact⟨cb,s',hq,jQ⟩
 |outgrown=>exact⟨cb,s',hq,jQ⟩
def yg (P:Program) (c:Code) (Q:Exit→Act→World→Prop) (a:Act) (w:World):Prop:=
 ∀ (b:Frame) (k:List Item) (cs:List Frame),∃ e a' w',Q e a' w'∧Arrives P (lone (b.at a (.code c:: .inLoop c::k)) cs w) b k cs e a' w'
theorem yg.wp {c:Code} {Q:Exit→Act→World→Prop} {a:Act} {w:World} (h:yg P c Q a w):(Code.loop c).wp P Q a w:=fun b k cs=>
 let ⟨e,a',w',hq,iV⟩:=h b k cs
 ⟨e,a',w',hq, .of_steps (.one step_loop) iV⟩
theorem yg.once {c:Code} {Q:Exit→Act→World→Prop} {a:Act} {w:World} (h:c.wp P (Exit.then (yg P c Q) Q) a w):yg P c Q a w:=by
 intro b k cs
 obtain⟨e,a₁,w₁,hq,iV⟩:=h b (.inLoop c::k) cs
 cases e with
 |normal=>
  obtain⟨e₂,a₂,w₂,hq₂,Nj⟩:=hq b k cs
  exact⟨e₂,a₂,w₂,hq₂, .of_steps (Steps.trans iV (.one step_inLoop)) Nj⟩
 |exit id=>exact⟨_,a₁,w₁,hq, .pass (x:= .inLoop c) rfl (fun _ _=> .inl (by simp)) iV⟩
 |goto l=>exact⟨_,a₁,w₁,hq, .pass (x:= .inLoop c) rfl (fun _ _=> .inl (by simp)) iV⟩
 |ret=>exact⟨_,a₁,w₁,hq, .pass (x:= .inLoop c) rfl (fun _ _=> .inl (by simp)) iV⟩
 |panic ch=>exact⟨_,a₁,w₁,hq, .pass (x:= .inLoop c) rfl (fun _ _=> .inl (by simp)) iV⟩
 |outgrown=>exact⟨_,a₁,w₁,hq, .pass (x:= .inLoop c) rfl (fun _ _=> .inl (by simp)) iV⟩
def aV (P:Program) (B:eQ) (nt:Nat) (ac:AC) (Q:Exit→Tm→St→Prop) (tm:Tm) (s:St):Prop:=
 ∀ c,cC P nt c=some ac→∀ act w,Holds B nt tm s act w→yg P c (pD B nt Q) act w
theorem Sem.loop {a:AC} (h:aV P B nt a Q tm s):Sem P B nt (.loop a) Q tm s:=by
 intro c hc act w hh
 obtain⟨x,rfl,h1⟩:=lg hc
 exact(h x h1 act w hh).wp
theorem aV.once {a:AC} (h:Sem P B nt a (kn (aV P B nt a Q) Q) tm s):aV P B nt a Q tm s:=by
 intro c hc act w hh
 refine yg.once (wp_mono (h c hc act w hh) fun e act w hp=>?_)
 obtain⟨cb,s',hq,jQ⟩:=hp
 cases e with
 |normal=>exact hq c hc act w jQ
 |exit id=>exact⟨cb,s',hq,jQ⟩
 |goto l=>exact⟨cb,s',hq,jQ⟩
 |ret=>exact⟨cb,s',hq,jQ⟩
 |panic ch=>exact⟨cb,s',hq,jQ⟩
 |outgrown=>exact⟨cb,s',hq,jQ⟩
def uw (P:Program) (c r:Code) (Q:Exit→Act→World→Prop) (a:Act) (w:World):Prop:=
 ∀ (b:Frame) (k:List Item) (cs:List Frame),∃ e a' w',Q e a' w'∧Arrives P (lone (b.at a (.code r:: .inScope c::k)) cs w) b k cs e a' w'
def aem (P:Program) (c:Code) (Q:Exit→Act→World→Prop):Exit→Act→World→Prop
 | .goto l,a,w=>∃ rest,findLabel c l=some rest∧uw P c rest Q a w
 |e,a,w=>Q e a w
theorem uw.wp {c:Code} {Q:Exit→Act→World→Prop} {a:Act} {w:World} (h:uw P c c Q a w):(Code.scope c).wp P Q a w:=fun b k cs=>
 let ⟨e,a',w',hq,iV⟩:=h b k cs
 ⟨e,a',w',hq, .of_steps (.one step_scope) iV⟩
theorem uw.once {c r:Code} {Q:Exit→Act→World→Prop} {a:Act} {w:World} (h:r.wp P (aem P c Q) a w):uw P c r Q a w:=by
 intro b k cs
 obtain⟨e,a₁,w₁,hq,iV⟩:=h b (.inScope c::k) cs
 cases e with
 |normal=>exact⟨.normal,a₁,w₁,hq,Steps.trans iV (.one step_inScope)⟩
 |exit id=>exact⟨.exit id,a₁,w₁,hq,fun k' hk=>iV k' (by simp[exitTo,hk])⟩
 |goto l=>
  obtain⟨rest,hf,hs⟩:=hq
  obtain⟨e₂,a₂,w₂,hq₂,Nj⟩:=hs b k cs
  exact⟨e₂,a₂,w₂,hq₂, .of_steps (iV _ (by simp[gotoIn,hf])) Nj⟩
 |ret=>exact⟨_,a₁,w₁,hq,iV⟩
 |panic ch=>exact⟨_,a₁,w₁,hq,iV⟩
 |outgrown=>exact⟨_,a₁,w₁,hq,iV⟩
def rX:AC→Nat→Option AC
 | .seq a b,l=>
  match rX a l with
  |some r=>some (.seq r b)
  |none=>rX b l
 | .label l',l=>if l'==l then some .skip else none
 |_,_=>none
theorem Kn : ∀ {c:Code} {ac:AC},cC P nt c=some ac→∀ l,(rX ac l=none→findLabel c l=none)∧∀ r,rX ac l=some r→∃ rest,findLabel c l=some rest∧cC P nt rest=some r:=by
 intro c
 induction c with
 | seq a b QL QM=>
  intro ac h l
  simp only[cC]at h
  split at h
  ·rename_i a' b' h1 h2
   cases h
   obtain⟨n1,s1⟩:=QL h1 l
   obtain⟨n2,s2⟩:=QM h2 l
   simp only[rX,findLabel]
   cases hf:rX a' l with
   |none=>
    rw[n1 hf]
    exact⟨n2,s2⟩
   |some r=>
    obtain⟨rest,g1,g2⟩:=s1 r hf
    rw[g1]
    refine⟨(by intro h;cases h),fun r' h=>?_⟩
    cases h
    exact⟨_,rfl,by simp[cC,g2,h2]⟩
  ·cases h
 |label l'=>
  intro ac h l
  cases h
  simp only[rX,findLabel]
  split
  ·exact⟨(by intro h;cases h),(by intro r h;cases h;exact⟨_,rfl,rfl⟩)⟩
  ·exact⟨fun _=>rfl,(by intro r h;cases h)⟩
 | _=>
  intro ac h l
  have:=lg h
  cases ac<;>simp only[Turned]at this<;>first
   |(exfalso;obtain⟨_,_,this⟩:=this;cases this.1;done)
   |exact⟨fun _=>rfl,(by intro r h;cases h)⟩
   |(exfalso;cases this;done)
   |(exfalso;obtain⟨_,this⟩:=this;cases this.1;done)
   |(exfalso;obtain⟨_,_,_,_,this⟩:=this;cases this.1;done)
def n4 (P:Program) (B:eQ) (nt:Nat) (ac r:AC) (Q:Exit→Tm→St→Prop) (tm:Tm) (s:St):Prop:=
 ∀ c rest,cC P nt c=some ac→cC P nt rest=some r→∀ act w,Holds B nt tm s act w→uw P c rest (pD B nt Q) act w
def jV (P:Program) (B:eQ) (nt:Nat) (ac:AC) (Q:Exit→Tm→St→Prop):Exit→Tm→St→Prop
 | .goto l,tm,s=>∃ r,rX ac l=some r∧n4 P B nt ac r Q tm s
 |e,tm,s=>Q e tm s
theorem Sem.scope {a:AC} (h:n4 P B nt a a Q tm s):Sem P B nt (.scope a) Q tm s:=by
 intro c hc act w hh
 obtain⟨x,rfl,h1⟩:=lg hc
 exact(h x x h1 h1 act w hh).wp
theorem n4.once {a r:AC} (h:Sem P B nt r (jV P B nt a Q) tm s):n4 P B nt a r Q tm s:=by
 intro c rest hc Hq act w hh
 refine uw.once (wp_mono (h rest Hq act w hh) fun e act w hp=>?_)
 obtain⟨cb,s',hq,jQ⟩:=hp
 cases e with
 |normal=>exact⟨cb,s',hq,jQ⟩
 |exit id=>exact⟨cb,s',hq,jQ⟩
 |goto l=>
  obtain⟨r',hf,hs⟩:=hq
  obtain⟨jW,g1,g2⟩:=(Kn hc l).2 r' hf
  exact⟨jW,g1,hs c jW hc g2 act w jQ⟩
 |ret=>exact⟨cb,s',hq,jQ⟩
 |panic ch=>exact⟨cb,s',hq,jQ⟩
 |outgrown=>exact⟨cb,s',hq,jQ⟩
def Tag.fg (m:Nat):Tag→Tag
 | .tok t y=>if t<m then .tok t y else .shared
 |g=>g
mutual
def D.fg (n m:Nat):D→D
 | .ptr o off=>if o<n then .ptr o off else .junk
 | .dJ row off=> .dJ (D.ic n m row) off
 | .slice g z rows=> .slice (g.fg m) z (D.ko n m rows)
 | .agg cs=> .agg (D.ic n m cs)
 | .tuple ds=> .tuple (D.ic n m ds)
 | .junk=> .junk
 | .int k x=> .int k x
 | .bool b=> .bool b
 | .str l=> .str l
 | .fx=> .fx
 | .val v=> .val v
 | .fC T o=>if o<n then .fC T o else .junk
 | .gK f cs=> .gK f (D.ic n m cs)
 | .gH o=>if o<n then .gH o else .junk
 | .jD z o g len=>if o<n then .jD z o g len else .junk
 | .iT o g off=>if o<n then .iT o g off else .junk
 | .jK z=> .jK z
def D.ic (n m:Nat):List D→List D
 | []=> []
 |d::r=>D.fg n m d::D.ic n m r
def D.ko (n m:Nat):List (List D)→List (List D)
 | []=> []
 |d::r=>D.ic n m d::D.ko n m r
end
theorem nM (n m:Nat) : ∀ l,D.ic n m l=l.map (D.fg n m)
 | []=>by simp[D.ic]
 |d::r=>by simp[D.ic,nM n m r]
theorem QN (n m:Nat) : ∀ l,D.ko n m l=l.map (D.ic n m)
 | []=>by simp[D.ko]
 |d::r=>by simp[D.ko,QN n m r]
def St.cut (s:St) (n m:Nat):St:=⟨(s.aw.take n).map (D.ic n m),s.aE.take m⟩
def Tm.fg (n m:Nat) (tm:Tm):Tm:=tm.map fun p=>(p.1,p.2.fg n m)
def Tm.keep (ks:List Nat) (tm:Tm):Tm:=tm.filter fun p=>ks.contains p.1
theorem nw (s:St) (n m:Nat):(s.cut n m).aw.length=min n s.aw.length:=by simp[St.cut]
theorem iM.fg {M:Map} {g:Tag} {z len cap:Nat} {base:Option (Nat×Nat)} (n m:Nat) (h:iM M s g z len base cap):iM M (s.cut n m) (g.fg m) z len base cap:=by
 cases g with
 |full=>exact h
 |shared=>exact h
 | tok t y=>
  simp only[Tag.fg]
  split
  ·rename_i ht
   obtain⟨h1,h2⟩:=h
   refine⟨by simp[St.cut];omega,fun k hk=>h2 k ?_⟩
   simpa[St.cut,za5 ht]using hk
  ·trivial
theorem RD.fg {M:Map} {d:D} {v:Value} (n m:Nat) (h:RD M s d v):RD M (s.cut n m) (d.fg n m) v:=by
 induction h with
 |junk v=>simp only[D.fg];exact .junk v
 |int k x=>simp only[D.fg];exact .int k x
 |bool b=>simp only[D.fg];exact .bool b
 |str l=>simp only[D.fg];exact .str l
 |fx=>simp only[D.fg];exact .fx
 |val v hv=>simp only[D.fg];exact .val v hv
 |fC T o v h ht hv=>
  simp only[D.fg]
  split
  ·exact .fC T o v (by rw[nw];omega) ht hv
  ·exact .junk _
 |gH o h hm=>
  simp only[D.fg]
  split
  ·exact .gH o (by rw[nw];omega) hm
  ·exact .junk _
 |jK z a=>simp only[D.fg];exact .jK z a
 |jD z o g len b cap A h hm ha hl=>
  simp only[D.fg]
  split
  ·exact .jD z o g len b cap A (by rw[nw];omega) hm ha hl
  ·exact .junk _
 |iT z o g off b cap A h hm ha=>
  simp only[D.fg]
  split
  ·exact .iT z o g off b cap A (by rw[nw];omega) hm ha
  ·exact .junk _
 |gK f ds vs hl _ ih=>
  simp only[D.fg,nM]
  refine .gK f _ vs (by simpa using hl) (fun i d v e1 e2=>?_)
  simp only[zat,zaz]at e1
  obtain⟨d',e1,rfl⟩:=e1
  exact ih i d' v e1 e2
 |ptr o off h hm=>
  simp only[D.fg]
  split
  ·exact .ptr o off (by rw[nw];omega) hm
  ·exact .junk _
 | dJ row off b k h1 h2 ih=>
  simp only[D.fg,nM]
  refine .dJ _ off b k (fun i d e=>?_) (fun i d u e eu=>?_)
  ·simp only [zat,zaz]at e
   obtain⟨d',e,rfl⟩:=e
   exact h1 i d' e
  ·simp only [zat,zaz]at e
   obtain⟨d',e,rfl⟩:=e
   exact ih i d' u e eu
 |jX g z cap hc ht=>simp only[D.fg,D.ko];exact .jX _ z cap hc (ht.fg n m)
 |nX z a cap=>simp only[D.fg,D.ko,Tag.fg];exact .nX z a cap
 | slice g z rows b k cap hl hs h1 h2 ht ih=>
  simp only[D.fg,QN]
  have hlen:(rows.map (D.ic n m)).length=rows.length:=by simp
  have key:=RD.slice (M:=M) (s:=s.cut n m) (g.fg m) z (rows.map (D.ic n m)) b k cap (by rw[hlen];exact hl) (fun row hr=>by
   obtain⟨kJ,h',rfl⟩:=zbh.1 hr
   rw[nM,zaC];exact hs kJ h')
   (fun i row j d e1 e2=>by
    simp only[zat,zaz]at e1
    obtain⟨kJ,e1,rfl⟩:=e1
    rw[nM]at e2
    simp only[zat,zaz]at e2
    obtain⟨d',e2,rfl⟩:=e2
    exact h1 i kJ j d' e1 e2)
   (fun i row j d u e1 e2 eu=>by
    simp only[zat,zaz]at e1
    obtain⟨kJ,e1,rfl⟩:=e1
    rw[nM]at e2
    simp only[zat,zaz]at e2
    obtain⟨d',e2,rfl⟩:=e2
    exact ih i kJ j d' u e1 e2 eu)
   (by rw[hlen];exact ht.fg n m)
  rw[hlen]at key
  exact key
 |agg cells vs hl h1 _ ih=>
  simp only[D.fg,nM]
  refine .agg _ vs (by simpa using hl) h1 (fun i d v e1 e2=>?_)
  simp only[zat,zaz]at e1
  obtain⟨d',e1,rfl⟩:=e1
  exact ih i d' v e1 e2
 |tuple ds vs hl _ ih=>
  simp only[D.fg,nM]
  refine .tuple _ vs (by simpa using hl) (fun i d v e1 e2=>?_)
  simp only[zat,zaz]at e1
  obtain⟨d',e1,rfl⟩:=e1
  exact ih i d' v e1 e2
theorem Ey {t k n m:Nat} (h:(s.cut n m).aE[t]? = some (some k)):s.aE[t]? = some (some k):=by
 simp only[St.cut,zaV]at h
 split at h
 ·exact h
 ·cases h
theorem ux {t n m:Nat} (h:(s.cut n m).live t):s.live t:=by
 obtain⟨k,hk⟩:=h
 exact⟨k,Ey hk⟩
theorem Rel.cut {M:Map} {w:World} (n m:Nat) (r:Rel M s w):Rel M (s.cut n m) w:=by
 have hC : ∀ o,o<(s.cut n m).aw.length→o<s.aw.length:=fun o h=>by rw[nw]at h;omega
 refine⟨r.comm,fun o ds e=>?_,fun o ho=>r.jY o (hC o ho),fun o o' h h'=>r.inj o o' (hC o h) (hC o' h'),fun t k e=>r.tok t k (Ey e),
  fun t b c z o hl e ho=>r.eP t b c z o (ux hl) e (hC o ho),fun t t' b c z c' z' h h' e e'=>r.fM t t' b c z c' z' (ux h) (ux h') e e'⟩
 simp only[St.cut,zat,zaz,zaV]at e
 obtain⟨rn,e,rfl⟩:=e
 split at e
 ·obtain⟨vs,T,h1,h2,h3,h4⟩:=r.obj o rn e
  refine⟨vs,T,h1,by rw[nM];simpa using h2,h3,fun i d v e1 e2=>?_⟩
  rw[nM]at e1
  simp only[zat,zaz]at e1
  obtain⟨d',e1,rfl⟩:=e1
  exact(h4 i d' v e1 e2).fg n m
 ·cases e
theorem Ext.cut {M0 M:Map} {s0:St} {w0 w:World} {n m:Nat} (e:Ext M0 s0 w0 M s w) (hn:s0.aw.length≤n) (hm:s0.aE.length≤m):Ext M0 s0 w0 M (s.cut n m) w:=by
 have hC : ∀ o,o<(s.cut n m).aw.length→o<s.aw.length:=fun o h=>by rw[nw]at h;omega
 refine⟨⟨e.le.G,by rw[nw];have:=e.le.n;omega,e.le.loc,by simp[St.cut];have:=e.le.t;omega,fun t k h1 h2=>e.le.tk t k h1 (Ey h2)⟩,e.kept,fun o h1 h2=>e.uc o h1 (hC o h2),fun t b c z h=>e.qA t b c z (ux h),e.sT,e.size,e.os,e.tape,e.output⟩
end
end Go.Abs
namespace Go.Abs
def ny:Nat→List D→Tm
 |_,[]=> []
 |n,d::r=>(n,d)::ny (n+1) r
def bp:List (Nat×Option (Bool×Nat))→Tm→St→Option (List D)
 | [],_,_=>some []
 |(t,none)::r,tm,s=>match bp r tm s with|some l=>some (tm.get t::l)|none=>none
 | (t,some (agg,size))::r,tm,s=>
  match tm.get t with
  | .ptr o off=>
   match s.aw[o]? with
   |some cs=>match part cs off agg size,bp r tm s with|some d,some l=>some (d::l)|_,_=>none
   |none=>none
  |_=>none
def bq:List D→D
 | [d]=>d
 |l=> .tuple l
def ahd (B:eQ) (res:List (Nat×Option (Bool×Nat))) (Q:D→St→Prop):Exit→Tm→St→Prop
 | .normal,tm,s| .ret,tm,s=>∃ l,bp res tm s=some l∧∃ n m,B.s.aw.length≤n∧B.s.aE.length≤m∧Q ((bq l).fg n m) (s.cut n m)
 |_,_,_=>False
section
variable {P:Program} {M:Map} {s:St} {w:World}
theorem FH : ∀ (l:List D) (n t:Nat),(ny n l).get t=if n≤t then(l[t - n]?).getD .junk else .junk
 | [],n,t=>by simp[ny,Tm.get]
 | d::r,n,t=>by
  simp only[ny,Tm.get,FH r (n+1) t]
  by_cases h:n=t
  ·subst h;simp
  ·rw [if_neg h]
   by_cases h2:n+1≤t
   ·rw[if_pos h2,if_pos (by omega),show t - n=(t - (n+1))+1 by omega];simp
   ·rw[if_neg h2,if_neg (by omega)]
def zR (tmps:Array Value):ResultVar→Go.Sem Value
 | .tmp t=>pure (tmps.getD t Go.undef)
 | .cell a t=>do loadVar t (← asAddr (tmps.getD a Go.undef))
theorem Ca (r:Rel M s w) {tm:Tm} {tmps:Array Value} (ht:lM M s tm tmps) : ∀ {rs:List ResultVar} {res:List (Nat×Option (Bool×Nat))} {l:List D},zD P rs=some res→bp res tm s=some l→
 ∃ vs:List Value,(rs.mapM (zR tmps)).run P w = .ok vs w∧vs.length=l.length∧
  ∀ (i:Nat) (d:D) (v:Value),l[i]? = some d→vs[i]? = some v→RD M s d v
 | [],res,l,hc,hl=>by cases hc;cases hl;exact⟨[],rfl,rfl,by simp⟩
 | .tmp t::rs,res,l,hc,hl=>by
  obtain⟨ahe,h1,rfl⟩:=map_some (by simpa[zD]using hc)
  simp only[bp]at hl
  split at hl
  ·rename_i l' jP
   cases hl
   obtain⟨vs,g1,g2,g3⟩:=Ca r ht h1 jP
   refine⟨tmps.getD t Go.undef::vs, ?_,by simp[g2],fun i d v e1 e2=>?_⟩
   ·rw [List.mapM_cons]
    simp only[zR,Go.Sem.run_bind,Go.Sem.run_pure,Result.andThen_ok,g1]
   ·cases i with
    |zero=>simp only[zbe,Option.some.injEq]at e1 e2;subst e1;subst e2;exact ht t
    |succ i=>exact g3 i d v (by simpa using e1) (by simpa using e2)
  ·cases hl
 | .cell a t::rs,res,l,hc,hl=>by
  simp only[zD]at hc
  split at hc
  ·rename_i g i ahe h1 h2 h3
   cases hc
   simp only[bp]at hl
   split at hl
   ·rename_i o off ho
    split at hl
    ·rename_i cs oC
     split at hl
     ·rename_i d l' hd jP
      cases hl
      obtain⟨vs,g1,g2,g3⟩:=Ca r ht h3 jP
      have hv:=ht a
      rw[ho]at hv
      have hk:=hv.zE
      obtain⟨hv,_⟩:=hv.rE
      have aen : ∃ v,(loadVar t ⟨M.mu o,off,none⟩).run P w = .ok v w∧RD M s d v:=by
       obtain⟨fe,T,hh,dz,⟨fF,_⟩,B7⟩:=r.obj o cs oC
       replace hh:w.heap[M.mu o]? = some (.cells fe T (0,0)):=hh.cells hk
       let n:=if g then i.size else 1
       have iU:off+n≤fe.size:=by
        rcases qh hd with ⟨rfl,hq,_⟩|⟨rfl,hq⟩
        ·simp[n];omega
        ·have:=(zai.1 hq).1;simp[n];omega
       have hlen:((fe.toList.drop off).take n).length=n:=by simp;omega
       have hE : ∀ (j:Nat) (u:Value),((fe.toList.drop off).take n)[j]? = some u→fe[off+j]? = some u:=by
        intro j u h
        rw[zaV]at h
        split at h
        ·rw[zbg]at h;simpa using h
        ·cases h
       refine⟨_,x9 (w:=w) P h2 h1 (M.mu o) off ((fe.toList.drop off).take n) hlen (fun j u h=>by rw[ju hh];exact hE j u h), ?_⟩
       exact qF hd _ hlen (fun _ u hu=>fF u (zaQ.1 (zbm (zaZ hu)))) (fun j d u e1 e2=>B7 _ d u e1 (hE j u e2))
      obtain⟨v,hlv,hvd⟩:=aen
      refine⟨v::vs, ?_,by simp[g2],fun i d' v' e1 e2=>?_⟩
      ·rw [List.mapM_cons]
       have fF:(zR tmps (.cell a t)).run P w = .ok v w:=by
        simp only[zR,Go.Sem.run_bind,hv,asAddr,Go.Sem.run_pure,Result.andThen_ok,hlv]
       simp only[Go.Sem.run_bind,fF,Result.andThen_ok,g1,Go.Sem.run_pure]
      ·cases i with
       |zero=>simp only[zbe,Option.some.injEq]at e1 e2;subst e1;subst e2;exact hvd
       |succ i=>exact g3 i d' v' (by simpa using e1) (by simpa using e2)
     ·cases hl
    ·cases hl
   ·cases hl
  ·cases hc
theorem G0 (r:Rel M s w) {tm:Tm} {tmps:Array Value} (ht:lM M s tm tmps) {fn:Func} {res:List (Nat×Option (Bool×Nat))} {l:List D} (hc:zD P fn.results.toList=some res) (hl:bp res tm s=some l) :
 ∃ v,(results fn tmps).run P w = .ok v w∧RD M s (bq l) v:=by
 obtain⟨vs,g1,g2,g3⟩:=Ca (P:=P) r ht hc hl
 have c7:(results fn tmps).run P w = .ok (if h:vs.toArray.size=1 then vs.toArray[0]else .tuple vs.toArray) w:=by
  have e:results fn tmps=(do let vs ← fn.results.mapM (zR tmps);pure (if h:vs.size=1 then vs[0]else .tuple vs)):=by
   unfold results
   rfl
  rw[e,Array.mapM_eq_mapM_toList]
  simp only[Go.Sem.run_bind,Go.Sem.run_map,g1,Result.andThen_ok,Go.Sem.run_pure]
 refine⟨_,c7, ?_⟩
 clear c7 g1 hl
 match l,vs,g2,g3 with
 | [],[],_,_=>exact .tuple [] #[] rfl (by simp)
 | [d],[v],_,g3=>exact g3 0 d v rfl rfl
 |d::d'::l,v::v'::vs,h,g3=>
  have : ¬ ((v::v'::vs).toArray.size=1):=by simp
  rw[dif_neg this]
  exact .tuple _ _ (by simpa using h.symm) (fun i d v e1 e2=>g3 i d v e1 (by simpa using e2))
def ahf (res:List (Nat×Option (Bool×Nat))) (Q:D→St→Prop):Exit→Tm→St→Prop
 | .normal,tm,s| .ret,tm,s=>∃ l,bp res tm s=some l∧Q (bq l) s
 |_,_,_=>False
theorem dG.aa5 {f:FuncId} {fn:Func} {af:AF} {args:List D} {Q:D→St→Prop} (hf:P.funcs[f]? = some fn) (hc:cF P fn=some af) (hl:args.length≤af.ntmps)
 (h : ∀ B:eQ,B.s=s→Sem P B af.ntmps af.body (ahf af.results Q) (ny 0 args) s):dG P f args s Q:=by
 intro M w fJ r kp dz ha
 unfold cF at hc
 split at hc
 ·rename_i c Nk
  split at hc
  ·rename_i b res h1 h2
   cases hc
   simp only at h hl
   refine calls_of_wp hf Nk ?_
   have hs:=h ⟨M,s,w,kp,fun b o v e=>r.B0 e⟩ rfl c h1 {tmps:=fJ++Array.replicate (fn.ntmps - fJ.size) Go.undef,defers:= []} w
    ⟨M,Ext.refl M s w,r,fun t=>by
     rw[FH]
     simp only[zau,if_true,Nat.sub_zero]
     cases hd:args[t]? with
     |none=>exact .junk _
     | some d=>
      have hC:=(zai.1 hd).1
      have hv:fJ[t]? = some fJ[t]:=zbq (by omega)
      have:(fJ++Array.replicate (fn.ntmps - fJ.size) Go.undef).getD t Go.undef=fJ[t]:=by
       rw[zbk,za1 (by omega),hv];rfl
      rw[this]
      exact ha t d _ hd hv,by simp;omega,rfl⟩
   refine wp_mono hs fun e act w' hp=>?_
   obtain⟨tm,s',hq,M',ahg,r',ht,_,hdf⟩:=hp
   have fin:(∃ l,bp res tm s'=some l∧Q (bq l) s')→act.defers = []∧∃ v,(results fn act.tmps).run P w' = .ok v w'∧
    ∃ M' d v' s',Ending.returned v = .returned v'∧Q d s'∧Ext M s w M' s' w'∧Rel M' s' w'∧RD M' s' d v':=by
    rintro⟨l,hl,hQ⟩
    obtain⟨v,c7,j8⟩:=G0 (P:=P) r' ht h2 hl
    exact⟨hdf,v,c7,M',_,v,_,rfl,hQ,ahg,r',j8⟩
   cases e with
   |normal=>exact fin hq
   |ret=>exact fin hq
   |exit id=>exact hq.elim
   |goto l=>exact hq.elim
   |panic ch=>exact hq.elim
   |outgrown=>exact hq.elim
  ·cases hc
 ·cases hc
theorem dG.intro {f:FuncId} {fn:Func} {af:AF} {args:List D} {Q:D→St→Prop} (hf:P.funcs[f]? = some fn) (hc:cF P fn=some af) (hl:args.length≤af.ntmps)
 (h : ∀ B:eQ,B.s=s→Sem P B af.ntmps af.body (ahd B af.results Q) (ny 0 args) s):dG P f args s Q:=by
 intro M w fJ r kp dz ha
 refine(dG.aa5 (Q:=fun d s'=>∃ n m,s.aw.length≤n∧s.aE.length≤m∧Q (d.fg n m) (s'.cut n m)) hf hc hl (fun B hB=>(h B hB).mono fun e tm s' hq=>?_) M w fJ r kp dz ha).mono ?_
 ·subst hB
  cases e<;>exact hq
 ·rintro e w' ⟨M',d,v,s',h1,⟨n,m,hn,hm,hQ⟩,h3,h4,h5⟩
  exact⟨M',_,v,_,h1,hQ,h3.cut hn hm,h4.cut n m,h5.fg n m⟩
end
end Go.Abs
