/-
  What is proved here: part 0 of the road to the claim (Globs, Abs, Lang, Rel, Sound, Sound2, Sound3, Sound4, Sound5, Sound6, Sound7, SoundM, RelA, SoundA, Sound8, Code, Flow, Call).
  No conditions.
-/
import GoSem.Core.Value
import Derived.Orders
import Derived.Calls
import Derived.Below
import Derived.Laws.AppendOwn
import Derived.Deep.AppendSrc
import Derived.Laws.StructEq
import Derived.Laws.Slices
import Derived.Laws.Strings
import Derived.Laws.IdiomStrings
import Derived.Laws.BytesString
import Derived.MapKept
import Derived.Laws.MakeOwn
import Derived.Scope

set_option linter.unusedSimpArgs false
set_option linter.unusedVariables false
namespace Go.Abs
abbrev zaa:=@Bool.eq_false_or_eq_true
abbrev zab:=@Bool.false_eq_true
abbrev zac:=@List.getElem?_eq_some_iff
abbrev zad:=@List.mem_of_getElem?
abbrev zae:=@Nat.lt_succ_self
abbrev zaf:=@List.map_cons
abbrev zag:=@List.map_append
abbrev zah:=@List.getElem?_eq_getElem
abbrev zai:=@List.getElem?_append_left
abbrev zaj:=@List.map_nil
abbrev zak:=@Nat.le_refl
abbrev zal:=@List.length_append
abbrev zam:=@List.getElem?_set_ne
abbrev zan:=@List.mem_cons_of_mem
abbrev zao:=@List.getElem?_append_right
abbrev zap:=@List.getElem?_map
abbrev zaq:=@List.mem_cons
abbrev zar:=@List.mem_append
abbrev zas:=@List.length_cons
abbrev zat:=@Bool.and_eq_true
abbrev zau:=@List.length_map
abbrev zav:=@Bool.not_true
abbrev zaw:=@Option.map_eq_some_iff
abbrev zax:=@Bool.not_false
abbrev zay:=@List.getD_eq_getElem?_getD
abbrev zaz:=@List.mem_cons_self
abbrev zaA:=@Nat.zero_le
abbrev zaB:=@List.append_assoc
abbrev zaC:=@List.length_nil
abbrev zaD:=@Bool.or_eq_true
abbrev zaE:=@Nat.lt_or_ge
abbrev zaF:=@List.append_nil
abbrev zaG:=@List.mem_map
abbrev zaH:=@List.length_singleton
abbrev zaI:=@List.drop_eq_nil_iff
abbrev zaJ:=@List.mem_singleton
abbrev zaK:=@List.mem_append_left
abbrev zaL:=@Bool.not_eq_true'
abbrev zaM:=@List.getElem?_set
abbrev zaN:=@Bool.false_and
abbrev zaO:=@List.getElem?_set_self
abbrev zaP:=@Nat.add_zero
abbrev zaQ:=@Array.mem_toList_iff
abbrev zaR:=@Nat.mul_le_mul_right
abbrev zaS:=@Nat.zero_add
abbrev zaT:=@Nat.not_lt_zero
abbrev zaU:=@Array.getElem?_eq_some_iff
abbrev zaV:=@List.cons_append
abbrev zaW:=@Int.toNat_natCast
abbrev zaX:=@Nat.lt_of_lt_of_le
abbrev zaY:=@List.getElem?_take
abbrev zaZ:=@Nat.le_trans
abbrev za0:=@List.mem_of_mem_take
abbrev za1:=@List.nil_append
abbrev za2:=@List.eq_nil_of_length_eq_zero
abbrev za3:=@List.all_eq_true
abbrev za4:=@List.nodup_cons
abbrev za5:=@List.getElem?_cons_succ
abbrev za6:=@Array.getElem?_eq_getElem
abbrev za7:=@List.mem_append_right
abbrev za8:=@List.nodup_append
abbrev za9:=@Option.map_some
abbrev zba:=@Array.toArray_toList
abbrev zbb:=@List.mem_map_of_mem
abbrev zbc:=@Int.le_refl
abbrev zbd:=@Bool.not_eq_false
abbrev zbe:=@Array.getElem?_append_left
abbrev zbf:=@Bool.true_and
abbrev zbg:=@List.contains_iff_mem
abbrev zbh:=@List.getElem?_cons_zero
abbrev zbi:=@List.flatten_cons
abbrev zbj:=@Bool.false_or
abbrev zbk:=@Bool.true_or
abbrev zbl:=@Nat.le_of_ble_eq_true
abbrev zbm:=@Nat.add_mul
abbrev zbn:=@List.getElem?_take_of_lt
abbrev zbo:=@Option.getD_some
abbrev zbp:=@Bool.and_false
abbrev zbq:=@List.getElem?_drop
abbrev zbr:=@List.length_set
abbrev zbs:=@Int.natAbs_natCast
abbrev zbt:=@List.set_cons_succ
abbrev zbu:=@Array.getD_eq_getD_getElem?
abbrev zbv:=@Option.isSome_some
abbrev zbw:=@List.mem_of_mem_drop
abbrev zbx:=@List.mem_flatten
abbrev zby:=@List.nodup_iff_pairwise_ne
abbrev zbz:=@Bool.and_true
abbrev zbA:=@List.set_set
abbrev zbB:=@List.map_congr_left
abbrev zbC:=@List.getElem?_eq_none_iff
abbrev zbD:=@List.getElem?_toArray
abbrev zbE:=@Array.mem_of_getElem?
abbrev zbF:=@List.getElem?_eq_none
abbrev zbG:=@List.not_mem_nil
abbrev zbH:=@Bool.not_eq_true
abbrev zbI:=@Bool.or_true
abbrev zbJ:=@Option.getD_none
abbrev zbK:=@Option.isSome_none
abbrev zbL:=@Array.getElem?_setIfInBounds_ne
abbrev zbM:=@List.getElem?_of_mem
abbrev zbN:=@List.take_append_of_le_length
abbrev zbO:=@List.getElem?_replicate_of_lt
abbrev zbP:=@List.nodup_nil
abbrev zbQ:=@List.mem_range
abbrev zbR:=@List.length_take
abbrev zbS:=@Bool.not_not
abbrev zbT:=@List.set_cons_zero
abbrev zbU:=@Int.natCast_nonneg
abbrev zbV:=@Nat.lt_of_le_of_lt
abbrev zbW:=@Array.getElem?_modify
abbrev zbX:=@Option.map_none
abbrev zbY:=@Nat.lt_irrefl
abbrev zbZ:=@List.ext_getElem?
abbrev zb0:=@Nat.mod_lt
abbrev zb1:=@Nat.mul_one
abbrev zb2:=@List.getElem?_range
abbrev zb3:=@Bool.or_false
abbrev zb4:=@List.range_succ
abbrev zb5:=@List.take_of_length_le
abbrev zb6:=@List.drop_of_length_le
def ahk:Nat→Option (Array Value):=fun _=>none
def sw:TypeId:=1000000
inductive Tag where
 |full
 |shared
 |tok (t:Nat) (byte:Bool:=false) -- 'byte': its row's block bears the bytes' type
inductive D where
 |junk
 |int (k:IntKind) (n:Int)
 |bool (b:Bool)
 |str (s:List UInt8)
 |fJ
 |ptr (o off:Nat)
 |dW (row:List D) (off:Nat)
 |slice (g:Tag) (size:Nat) (rows:List (List D))
 |agg (cells:List D)
 |tuple (vs:List D)
 |val (v:Value)
 |gd (T:TypeId) (o:Nat)
 |iL (f:Nat) (qp:List D) -- a function value with what it captured
 |iC (o:Nat) -- a map, kept as an object: keys and values by turns
 |dr (z o g len:Nat) -- a slice from an array's beginning: the object, its generation
 |fK (o g off:Nat) -- a pointer into an array
 |ew (z:Nat) -- an empty slice without room: what is laid behind it becomes an array
instance:Inhabited D:=⟨.junk⟩
inductive Ob where
 |any
 |ty (T:TypeId)
 |map
 |arr (z:Nat) (A:Nat→Option (Nat×Nat))
def Ob.plain:Ob→Prop
 | .any=>True
 | .ty _=>True
 |_=>False
inductive xO:Nat×Ob→Nat×Ob→Prop where
 |refl (x:Nat×Ob):xO x x
 |arr (b b' z:Nat) (A A':Nat→Option (Nat×Nat)) (h : ∀ g x,A g=some x→A' g=some x):xO (b, .arr z A) (b', .arr z A')
theorem xO.trans {x y z:Nat×Ob} (h:xO x y) (k:xO y z):xO x z:=by
 cases h with
 |refl=>exact k
 |arr b b' z A A' h=>
  cases k with
  |refl=>exact .arr b b' z A A' h
  |arr _ b'' _ _ A'' h'=>exact .arr b b'' z A A'' fun g x e=>h' g x (h g x e)
structure Map where
 G:Nat→Nat→Option Value
 loc:Nat→Nat×Ob
 be:Nat→Option (Nat×Nat×Nat)
def Map.mu (M:Map) (o:Nat):Nat:=(M.loc o).1
def Ob.ty? : Ob→Option TypeId
 | .ty T=>some T
 |_=>none
def Map.ob (M:Map) (o:Nat):Ob:=(M.loc o).2
def Map.ty (M:Map) (o:Nat):Option TypeId:=(M.loc o).2.ty?
structure St where
 ag:List (List D)
 au:List (Option Nat)
def zs (z:Nat):Nat:=if z=0 then 1 else z
def bz (byte:Bool) (size:Nat):Nat:=match byte with|true=>0|false=>size
def ko (M:Map) (s:St) (g:Tag) (size len:Nat) (base:Option (Nat×Nat)) (cap:Nat):Prop:=
 match g with
 | .full=>cap=len
 | .shared=>True
 | .tok t y=>t<s.au.length∧∀ n,s.au[t]? = some (some n)→len≤n∧
  (len=n→(M.be t=none∧cap=0∧(y=true→base=none))∨∃ b,base=some (b,0)∧M.be t=some (b,cap,bz y size))
inductive RD (M:Map) (s:St):D→Value→Prop where
 |junk (v:Value):RD M s .junk v
 |int (k:IntKind) (n:Int):RD M s (.int k n) (.int k n)
 |bool (b:Bool):RD M s (.bool b) (.bool b)
 |str (l:List UInt8):RD M s (.str l) (.string ⟨⟨l⟩⟩)
 |fJ:RD M s .fJ (.pointer none)
 |ptr (o off:Nat) (h:o<s.ag.length) (hm:(M.ob o).plain):RD M s (.ptr o off) (.pointer (some ⟨M.mu o,off,none⟩))
 |dW (row:List D) (off b k:Nat) (h1 : ∀ (i:Nat) (d:D),row[i]? = some d→∃ u,M.G b (k+i)=some u)
  (h2 : ∀ (i:Nat) (d:D) (u:Value),row[i]? = some d→M.G b (k+i)=some u→RD M s d u) :
  RD M s (.dW row off) (.pointer (some ⟨b,k+off,none⟩))
 |jw (g:Tag) (size cap:Nat) (hc:cap=0) (ht:ko M s g size 0 none cap):RD M s (.slice g size []) (.slice none 0 cap)
 |lY (size:Nat) (a:Addr) (cap:Nat):RD M s (.slice .shared size []) (.slice (some a) 0 cap)
 |slice (g:Tag) (size:Nat) (rows:List (List D)) (b k cap:Nat) (hl:rows.length≤cap)
  (hs : ∀ row∈rows,row.length=size)
  (h1 : ∀ (i:Nat) (row:List D) (j:Nat) (d:D),rows[i]? = some row→row[j]? = some d→∃ u,M.G b (k+(i*size+j))=some u)
  (h2 : ∀ (i:Nat) (row:List D) (j:Nat) (d:D) (u:Value),rows[i]? = some row→row[j]? = some d→M.G b (k+(i*size+j))=some u→RD M s d u)
  (ht:ko M s g size rows.length (some (b,k)) cap) :
  RD M s (.slice g size rows) (.slice (some ⟨b,k,none⟩) rows.length cap)
 |agg (cells:List D) (vs:Array Value) (hl:cells.length=vs.size) (h1 : ∀ v∈vs,v.oneCell'=true)
  (h : ∀ (i:Nat) (d:D) (v:Value),cells[i]? = some d→vs[i]? = some v→RD M s d v):RD M s (.agg cells) (.agg vs)
 |tuple (ds:List D) (vs:Array Value) (hl:ds.length=vs.size)
  (h : ∀ (i:Nat) (d:D) (v:Value),ds[i]? = some d→vs[i]? = some v→RD M s d v):RD M s (.tuple ds) (.tuple vs)
 |val (v:Value) (h:v.oneCell'=true):RD M s (.val v) v
 |gd (T:TypeId) (o:Nat) (v:Value) (h:o<s.ag.length) (ht:M.ty o=some T) (hv:v = .pointer none∨v = .pointer (some ⟨M.mu o,0,none⟩)):RD M s (.gd T o) v
 |iL (f:Nat) (ds:List D) (vs:Array Value) (hl:ds.length=vs.size)
  (h : ∀ (i:Nat) (d:D) (v:Value),ds[i]? = some d→vs[i]? = some v→RD M s d v):RD M s (.iL f ds) (.func (.func f) #[] vs)
 |iC (o:Nat) (h:o<s.ag.length) (hm:M.ob o = .map):RD M s (.iC o) (.map (some (M.mu o)))
 |dr (z o g len b cap:Nat) (A:Nat→Option (Nat×Nat)) (h:o<s.ag.length) (hm:M.ob o = .arr z A) (ha:A g=some (b,cap)) (hl:len≤cap):RD M s (.dr z o g len) (.slice (some ⟨b,0,none⟩) len cap)
 |fK (z o g off b cap:Nat) (A:Nat→Option (Nat×Nat)) (h:o<s.ag.length) (hm:M.ob o = .arr z A) (ha:A g=some (b,cap)):RD M s (.fK o g off) (.pointer (some ⟨b,off,none⟩))
 |ew (z:Nat) (a:Option Addr):RD M s (.ew z) (.slice a 0 0)
structure Le (M:Map) (s:St) (M':Map) (s':St):Prop where
 G : ∀ b o v,M.G b o=some v→M'.G b o=some v
 n:s.ag.length≤s'.ag.length
 loc : ∀ o,o<s.ag.length→xO (M.loc o) (M'.loc o)
 t:s.au.length≤s'.au.length
 tk : ∀ t n',t<s.au.length→s'.au[t]? = some (some n')→∃ n,s.au[t]? = some (some n)∧n≤n'∧(n'=n→M'.be t=M.be t)
theorem Le.same {M:Map} {s:St} {M':Map} {s':St} (h:Le M s M' s') {o:Nat} (ho:o<s.ag.length) (hk : ∀ z A,M.ob o≠ .arr z A):M'.loc o=M.loc o:=by
 have:=h.loc o ho
 have uf : ∀ z A,(M.loc o).2≠ .arr z A:=hk
 generalize M.loc o=x at *
 generalize M'.loc o=y at *
 cases this with
 |refl=>rfl
 |arr b b' z A A' h=>exact(uf z A rfl).elim
theorem Ob.Lt {x:Ob} (h:x.plain) : ∀ z A,x≠ .arr z A:=fun z A e=>by subst e;exact h
theorem Le.mu {M:Map} {s:St} {M':Map} {s':St} (h:Le M s M' s') {o:Nat} (ho:o<s.ag.length) (hk : ∀ z A,M.ob o≠ .arr z A):M'.mu o=M.mu o:=congrArg Prod.fst (h.same ho hk)
theorem Le.ob {M:Map} {s:St} {M':Map} {s':St} (h:Le M s M' s') {o:Nat} (ho:o<s.ag.length) (hk : ∀ z A,M.ob o≠ .arr z A):M'.ob o=M.ob o:=congrArg Prod.snd (h.same ho hk)
theorem xO.ty {x y:Nat×Ob} (h:xO x y):y.2.ty? = x.2.ty? :=by cases h<;>rfl
theorem Le.ty {M:Map} {s:St} {M':Map} {s':St} (h:Le M s M' s') : ∀ o,o<s.ag.length→M'.ty o=M.ty o:=fun o ho=>(h.loc o ho).ty
theorem Le.arr {M:Map} {s:St} {M':Map} {s':St} (h:Le M s M' s') {o z:Nat} {A:Nat→Option (Nat×Nat)} (ho:o<s.ag.length) (hm:M.ob o = .arr z A) : ∃ A',M'.ob o = .arr z A'∧∀ g x,A g=some x→A' g=some x:=by
 have:=h.loc o ho
 have Dv:(M.loc o).2 = .arr z A:=hm
 show ∃ A',(M'.loc o).2=_∧_
 generalize M.loc o=x at *
 generalize M'.loc o=y at *
 cases this with
 |refl=>exact⟨A,Dv,fun _ _ h=>h⟩
 |arr b b' z A A' h=>cases Dv;exact⟨A',rfl,h⟩
theorem Le.refl (M:Map) (s:St):Le M s M s:=⟨fun _ _ _ h=>h,zak _,fun _ _=> .refl _,zak _,fun _ n _ h=>⟨n,h,zak _,fun _=>rfl⟩⟩
theorem Le.trans {M M' RX:Map} {s s' WD:St} (h:Le M s M' s') (k:Le M' s' RX WD):Le M s RX WD:=
 ⟨fun b o v e=>k.G b o v (h.G b o v e),zaZ h.n k.n,fun o ho=>(h.loc o ho).trans (k.loc o (zaX ho h.n)),zaZ h.t k.t,
  fun t n'' ht e=>by
   obtain⟨n',e',l,b⟩:=k.tk t n'' (zaX ht h.t) e
   obtain⟨n,RY,l',b'⟩:=h.tk t n' ht e'
   refine⟨n,RY,zaZ l' l,fun eq=>?_⟩
   have h1:n'=n:=by omega
   have h2:n''=n':=by omega
   rw[b h2,b' h1]⟩
theorem ko.mono {M M':Map} {s s':St} (h:Le M s M' s') {g:Tag} {size len cap:Nat} {base:Option (Nat×Nat)} (ht:ko M s g size len base cap) :
 ko M' s' g size len base cap:=by
 cases g with
 |full=>exact ht
 |shared=>trivial
 |tok t y=>
  obtain⟨hD,ht⟩:=ht
  refine⟨zaX hD h.t,fun n' e'=>?_⟩
  obtain⟨n,e,l,b⟩:=h.tk t n' hD e'
  obtain⟨l',b'⟩:=ht n e
  refine⟨zaZ l' l,fun eq=>?_⟩
  have h1:n'=n:=by omega
  have h2:len=n:=by omega
  rw[b h1]
  exact b' h2
theorem RD.mono {M M':Map} {s s':St} (h:Le M s M' s') {d:D} {v:Value} (r:RD M s d v):RD M' s' d v:=by
 induction r with
 |junk v=>exact .junk v
 |int k n=>exact .int k n
 |bool b=>exact .bool b
 |str l=>exact .str l
 |fJ=>exact .fJ
 |ptr o off ho hm=>rw[← h.mu ho (Ob.Lt hm)];exact .ptr o off (zaX ho h.n) (by rw[h.ob ho (Ob.Lt hm)];exact hm)
 | dW row off b k h1 h2 ih=>
  refine .dW row off b k (fun i d e=>?_) (fun i d u e eu=>?_)
  ·obtain⟨u,hu⟩:=h1 i d e;exact⟨u,h.G _ _ _ hu⟩
  ·obtain⟨u',hu⟩:=h1 i d e
   have:=h.G _ _ _ hu
   rw[eu]at this
   cases this
   exact ih i d u e hu
 |jw g size cap hc ht=>exact .jw g size cap hc (ht.mono h)
 |lY size a cap=>exact .lY size a cap
 | slice g size rows b k cap hl hs h1 h2 ht ih=>
  refine .slice g size rows b k cap hl hs (fun i row j d e e2=>?_) (fun i row j d u e e2 eu=>?_) (ht.mono h)
  ·obtain⟨u,hu⟩:=h1 i row j d e e2;exact⟨u,h.G _ _ _ hu⟩
  ·obtain⟨u',hu⟩:=h1 i row j d e e2
   have:=h.G _ _ _ hu
   rw[eu]at this
   cases this
   exact ih i row j d u e e2 hu
 |agg cells vs hl h1 _ ih=>exact .agg cells vs hl h1 ih
 |tuple ds vs hl _ ih=>exact .tuple ds vs hl ih
 |val v hv=>exact .val v hv
 |gd T o v ho ht hv=>exact .gd T o v (zaX ho h.n) (by rw[h.ty o ho];exact ht) (by rw[h.mu ho (fun z A e=>by rw[Map.ty,show(M.loc o).2=_ from e]at ht;cases ht)];exact hv)
 |iL f ds vs hl _ ih=>exact .iL f ds vs hl ih
 |iC o ho hm=>
  have hk : ∀ z A,M.ob o≠ .arr z A:=fun z A e=>by rw[hm]at e;cases e
  rw[← h.mu ho hk];exact .iC o (zaX ho h.n) (by rw[h.ob ho hk];exact hm)
 |dr z o g len b cap A ho hm ha hl=>
  obtain⟨A',h1,h2⟩:=h.arr ho hm
  exact .dr z o g len b cap A' (zaX ho h.n) h1 (h2 g _ ha) hl
 |fK z o g off b cap A ho hm ha=>
  obtain⟨A',h1,h2⟩:=h.arr ho hm
  exact .fK z o g off b cap A' (zaX ho h.n) h1 (h2 g _ ha)
 |ew z a=>exact .ew z a
def St.live (s:St) (t:Nat):Prop:=∃ n,s.au[t]? = some (some n)
def jg:List MapEntry→List Value
 | []=> []
 |e::l=>e.key::e.val::jg l
def jR (hp:Array Obj) (l:Nat×Ob) (vs:Array Value) (T:TypeId):Prop:=
 match l.2 with
 | .map=>∃ es ck,hp[l.1]? = some (.map es ck)∧vs.toList=jg es.toList
 | .arr z A=>∃ (us:Array Value) (g n cap:Nat),hp[l.1]? = some (.cells us T (0,0))∧A g=some (l.1,cap)∧(∀ g',g<g'→A g'=none)∧us.size=cap*z∧n≤us.size∧
  vs.toList = .int .i64 g::us.toList.take n∧∀ u∈us,u.oneCell'=true
 |_=>hp[l.1]? = some (.cells vs T (0,0))
theorem jR.cells {hp:Array Obj} {l:Nat×Ob} {vs:Array Value} {T:TypeId} (h:jR hp l vs T) (hk:l.2.plain):hp[l.1]? = some (.cells vs T (0,0)):=by
 obtain⟨b,k⟩:=l
 cases k with
 |map=>exact hk.elim
 |arr _ _=>exact hk.elim
 |any=>exact h
 |ty _=>exact h
theorem jR.of {hp:Array Obj} {l:Nat×Ob} {vs:Array Value} {T:TypeId} (h:hp[l.1]? = some (.cells vs T (0,0))) (hk:l.2.plain):jR hp l vs T:=by
 obtain⟨b,k⟩:=l
 cases k with
 |map=>exact hk.elim
 |arr _ _=>exact hk.elim
 |any=>exact h
 |ty _=>exact h
theorem jR.Tg {hp:Array Obj} {l:Nat×Ob} {vs:Array Value} {T:TypeId} (h:jR hp l vs T) (hk:l.2 = .map) : ∃ es ck,hp[l.1]? = some (.map es ck)∧vs.toList=jg es.toList:=by
 unfold jR at h
 rw[hk]at h
 exact h
theorem jR.ofMap {hp:Array Obj} {l:Nat×Ob} {vs:Array Value} {T:TypeId} (hk:l.2 = .map) (h : ∃ es ck,hp[l.1]? = some (.map es ck)∧vs.toList=jg es.toList):jR hp l vs T:=by
 unfold jR
 rw[hk]
 exact h
theorem jR.some {hp:Array Obj} {l:Nat×Ob} {vs:Array Value} {T:TypeId} (h:jR hp l vs T) : ∃ o,hp[l.1]? = some o:=by
 obtain⟨b,k⟩:=l
 cases k with
 |map=>obtain⟨es,ck,h,_⟩:=h;exact⟨_,h⟩
 |arr _ _=>obtain⟨us,g,n,cap,h,_⟩:=h;exact⟨_,h⟩
 |any=>exact⟨_,h⟩
 |ty _=>exact⟨_,h⟩
theorem jR.lt {hp:Array Obj} {l:Nat×Ob} {vs:Array Value} {T:TypeId} (h:jR hp l vs T):l.1<hp.size:=by
 obtain⟨o,h⟩:=h.some
 exact(zaU.1 h).1
theorem jR.keep {hp pG:Array Obj} {l:Nat×Ob} {vs:Array Value} {T:TypeId} (h:jR hp l vs T) (e:pG[l.1]? = hp[l.1]?):jR pG l vs T:=by
 unfold jR at h ⊢
 rw[e];exact h
structure Rel (M:Map) (s:St) (w:World):Prop where
 comm : ∀ b o v,M.G b o=some v→w.cell? ⟨b,o,none⟩=some v∧v.oneCell'=true
 obj : ∀ (o:Nat) (ds:List D),s.ag[o]? = some ds→∃ (vs:Array Value) (T:TypeId),jR w.heap (M.loc o) vs T∧vs.size=ds.length∧
  ((∀ v∈vs,v.oneCell'=true)∧∀ T',M.ty o=some T'→T'=T)∧∀ (i:Nat) (d:D) (v:Value),ds[i]? = some d→vs[i]? = some v→RD M s d v
 kU : ∀ o,o<s.ag.length→∀ off,M.G (M.mu o) off=none
 inj : ∀ o o',o<s.ag.length→o'<s.ag.length→M.mu o=M.mu o'→o=o'
 tok : ∀ t n,s.au[t]? = some (some n)→(M.be t=none∧n=0)∨∃ (b cap z:Nat) (vs:Array Value) (T:TypeId),M.be t=some (b,cap,z)∧
  w.heap[b]? = some (.cells vs T (0,0))∧vs.size=cap*zs z∧n≤cap∧(∀ off,n*zs z≤off→M.G b off=none)∧(z=0→T=sw)∧∀ u∈vs,u.oneCell'=true
 fL : ∀ t b c z o,s.live t→M.be t=some (b,c,z)→o<s.ag.length→M.mu o≠b
 gS : ∀ t t' b c z c' z',s.live t→s.live t'→M.be t=some (b,c,z)→M.be t'=some (b,c',z')→t=t'
structure Ext (M:Map) (s:St) (w:World) (M':Map) (s':St) (w':World):Prop where
 le:Le M s M' s'
 kept : ∀ b,b<w.heap.size→(∀ o,o<s.ag.length→M.mu o≠b)→(∀ t c z,s.live t→M.be t≠some (b,c,z))→w'.heap[b]? = w.heap[b]?
 vz : ∀ o,(s.ag.length≤o∨M'.mu o≠M.mu o)→o<s'.ag.length→w.heap.size≤M'.mu o
 rH : ∀ t b c z,s'.live t→M'.be t=some (b,c,z)→(s.live t∧∃ c' z',M.be t=some (b,c',z'))∨w.heap.size≤b
 uE : ∀ b o,M'.G b o≠M.G b o→w.heap.size≤b∨∃ t c z,s.live t∧M.be t=some (b,c,z)
 size:w.heap.size≤w'.heap.size
 os:w'.os=w.os
 tape:w'.tape=w.tape
 output:w'.output=w.output
theorem Ext.refl (M:Map) (s:St) (w:World):Ext M s w M s w:=
 ⟨Le.refl M s,fun _ _ _ _=>rfl,fun o h h'=>by rcases h with h|h;omega;exact(h rfl).elim,fun t b c z h e=> .inl ⟨h,c,z,e⟩,fun _ _ h=>(h rfl).elim,zak _,rfl,rfl,rfl⟩
theorem Ext.mo {M M':Map} {s s':St} {w w':World} (h:Ext M s w M' s' w') {o:Nat} (ho:o<s'.ag.length):(o<s.ag.length∧M'.mu o=M.mu o)∨w.heap.size≤M'.mu o:=by
 by_cases h1:s.ag.length≤o
 ·exact .inr (h.vz o (.inl h1) ho)
 ·by_cases h2:M'.mu o=M.mu o
  ·exact .inl ⟨by omega,h2⟩
  ·exact .inr (h.vz o (.inr h2) ho)
theorem Ext.trans {M M' RX:Map} {s s' WD:St} {w w' w'':World} (h:Ext M s w M' s' w') (k:Ext M' s' w' RX WD w''):Ext M s w RX WD w'':=by
 refine⟨h.le.trans k.le,fun b hb ho ht=>?_,fun o h1 h2=>?_,fun t b c z h1 e=>?_,fun b o dj=>?_,zaZ h.size k.size,
  k.os.trans h.os,k.tape.trans h.tape,k.output.trans h.output⟩
 ·rw [k.kept b (zaX hb h.size) (fun o hD e=> ?_) (fun t c z hD e=> ?_),h.kept b hb ho ht]
  ·rcases h.mo hD with ⟨h1,h2⟩ | h1
   ·exact ho o h1 (h2.symm.trans e)
   ·omega
  ·rcases h.rH t b c z hD e with ⟨h1,c',z',e'⟩ | h1
   ·exact ht t c' z' h1 e'
   ·omega
 ·rcases k.mo h2 with ⟨h3,h4⟩ | h3
  ·rw [h4]
   refine h.vz o ?_ h3
   rcases h1 with h1|h1
   ·exact .inl h1
   ·exact .inr (by rw[h4]at h1;exact h1)
  ·exact zaZ h.size h3
 ·rcases k.rH t b c z h1 e with ⟨h2,c',z',e'⟩ | h2
  ·exact h.rH t b c' z' h2 e'
  ·exact .inr (zaZ h.size h2)
 ·by_cases e:M'.G b o=M.G b o
  ·have:RX.G b o≠M'.G b o:=fun e'=>dj (e'.trans e)
   rcases k.uE b o this with h1|⟨t,c,z,h1,h2⟩
   ·exact .inl (zaZ h.size h1)
   ·rcases h.rH t b c z h1 h2 with ⟨h3,c',z',e'⟩ | h3
    ·exact .inr ⟨t,c',z',h3,e'⟩
    ·exact .inl h3
  ·exact h.uE b o e
def Laid (M:Map) (s:St) (w:World):Prop:=∀ g cs,ahk g=some cs→
 (∃ T fr,w.heap[g]? = some (.cells cs T fr))∧(∀ o,o<s.ag.length→M.mu o≠g)∧∀ t c z,s.live t→M.be t≠some (g,c,z)
theorem Laid.ext {M M':Map} {s s':St} {w w':World} (h:Laid M s w) (e:Ext M s w M' s' w'):Laid M' s' w':=by
 intro g cs hg
 obtain⟨⟨T,fr,h1⟩,h2,h3⟩:=h g cs hg
 have hD:g<w.heap.size:=(zaU.1 h1).1
 refine⟨⟨T,fr,by rw[e.kept g hD h2 h3];exact h1⟩,fun o ho=>?_,fun t c z hl hb=>?_⟩
 ·rcases e.mo ho with ⟨h4,h5⟩ | h4
  ·rw[h5];exact h2 o h4
  ·omega
 ·rcases e.rH t g c z hl hb with ⟨h4,c',z',h5⟩ | h4
  ·exact h3 t c' z' h4 h5
  ·omega
abbrev Tm:=List (Nat×D)
def Tm.get:Tm→Nat→D
 | [],_=> .junk
 |(k,d)::r,t=>if k=t then d else Tm.get r t
def Tm.set:Tm→Nat→D→Tm
 | [],t,d=> [(t,d)]
 |(k,e)::r,t,d=>if k=t then(k,d)::r else(k,e)::Tm.set r t d
def Tm.put (tm:Tm) (dst:Option Nat) (d:D):Tm:=
 match dst with
 |some t=>tm.set t d
 |none=>tm
inductive X where
 |s (t:Nat)
 |k (d:D)
def X.ev (tm:Tm):X→D
 | .s t=>tm.get t
 | .k d=>d
inductive FO where
 |ofInt (k:FloatKind)
 |toInt (k:IntKind)
 |Ti
 |real
 |imag
 |eq
 |NU
 |WE
inductive AO where
 |mv (x:X)
 |pick (c a b:X)
 |alloc (zero:List D)
 |box (x:X)
 |build (zero:List D) (parts:List (Nat×Nat×X))
 |rI (zero:List D) (size n:Nat) (parts:List (Nat×X))
 |yk (zero:List D) (size n:Nat) (parts:List (Nat×X))
 |Gi (x:X)
 |load (x:X) (agg:Bool) (size:Nat)
 |store (p x:X) (size:Nat)
 |Ns (x:X)
 |bin (op:BinOp) (x y:X)
 |RZ (neg:Bool) (x y:X)
 |eqs (neg:Bool) (ks:List Nat) (x y:X) -- the fields' kinds: 0 an integer, 1 a bool, 2 a text
 |R0 (neg:Bool) (x y:X)
 |un (op:UnOp) (x:X)
 |conv (k:IntKind) (x:X)
 |Nt (x:X)
 |Fp (x:X)
 |WG (size:Nat) (x:X) (lo hi:Option X)
 |NV (x:X) (lo hi:Option X)
 |Nu (x:X) (off:Nat)
 |fld (x:X) (off:Nat) (agg:Bool) (size:Nat)
 |Nv (x i:X) (size:Nat)
 |Tj (x i:X)
 |ext (x:X) (i:Nat)
 |len (x:X)
 |Tk (x:X)
 |app (size bytes:Nat) (x y:X)
 |mm (isMax:Bool) (x y:X)
 |yl (zero:List D) (T:TypeId) -- a new object whose first cell is to hold its own address
 |G2 (x:X) (T:TypeId)
 |G3 (x y:X) -- bytes behind others
 |apps (x y:X) -- a text's bytes behind others
 |Fq (f:Nat) (xs:List X) -- a function value
 |Cp
 |G4 (m k v:X) -- a text's slice in a map
 |Fs (m k:X) (zero:D)
 |G5 (size bytes:Nat) (zero:List D) (l c:X) -- a new array of zeros
 |Bl (o:FO) (x y:X)
inductive AI where
 |lR (dst:Option Nat) (g:Option (Nat×Bool)) (t:Nat) (xs:List X) -- what a slot holds is called
 |nil (dst:Option Nat) (g:Option (Nat×Bool)) (neg:Bool) (x:X) -- is a slice nil? (of an empty one nothing is known)
 |op (dst:Option Nat) (g:Option (Nat×Bool)) (o:AO)
 |call (dst:Option Nat) (g:Option (Nat×Bool)) (f:Nat) (xs:List X)
inductive AC where
 |skip
 |run (is:List AI)
 |par (is:List AI) (nZ:List (Nat×Nat))
 |any (a d:Nat) -- a new box that holds a bool, one or the other, and what it holds
 |seq (a b:AC)
 |cond (x:X) (a b:AC)
 |block (id:Nat) (a:AC)
 |loop (a:AC)
 |exit (id:Nat)
 |scope (a:AC)
 |label (l:Nat)
 |goto (l:Nat)
 |ret
structure AF where
 ntmps:Nat
 results:List (Nat×Option (Bool×Nat)) -- a slot; or a slot that holds the address, whether an aggregate, how many cells
 body:AC
inductive AK where
 |pure
 |load
 |alloc
 |core
 deriving DecidableEq
def AO.kind:AO→AK
 | .alloc _=> .core
 | .box _=> .core
 | .yk .. => .core
 | .Gi _=> .core
 | .store .. => .core
 | .app .. => .core
 | .yl .. => .core
 | .G2 .. => .core
 | .G3 .. => .core
 | .apps .. => .core
 | .Cp=> .core
 | .G4 .. => .core
 | .G5 .. => .core
 | .Fs .. => .load
 | .load .. => .load
 |_=> .pure
def AI.kind:AI→AK
 | .op (some _) none (.alloc _)=> .alloc
 | .op _ _ o=>o.kind
 |_=> .core
def AI.dst:AI→Option Nat
 | .op d _ _=>d
 | .call d _ _ _=>d
 | .nil d _ _ _=>d
 | .lR d _ _ _=>d
def X.reads:X→List Nat
 | .s t=> [t]
 | .k _=> []
def pI:List X→List Nat
 | []=> []
 |x::r=>x.reads++pI r
def D1:Option X→List Nat
 |none=> []
 |some x=>x.reads
def AO.reads:AO→List Nat
 | .mv x=>x.reads
 | .pick c a b=>c.reads++(a.reads++b.reads)
 | .alloc _=> []
 | .box x=>x.reads
 | .build _ ps=>pI (ps.map (·.2.2))
 | .rI _ _ _ ps=>pI (ps.map (·.2))
 | .yk _ _ _ ps=>pI (ps.map (·.2))
 | .Gi x=>x.reads
 | .load x _ _=>x.reads
 | .store p x _=>p.reads++x.reads
 | .Ns x=>x.reads
 | .bin _ x y=>x.reads++y.reads
 | .RZ _ x y=>x.reads++y.reads
 | .eqs _ _ x y=>x.reads++y.reads
 | .R0 _ x y=>x.reads++y.reads
 | .un _ x=>x.reads
 | .conv _ x=>x.reads
 | .Nt x=>x.reads
 | .Fp x=>x.reads
 | .WG _ x lo hi=>x.reads++(D1 lo++D1 hi)
 | .NV x lo hi=>x.reads++(D1 lo++D1 hi)
 | .Nu x _=>x.reads
 | .fld x _ _ _=>x.reads
 | .Nv x i _=>x.reads++i.reads
 | .Tj x i=>x.reads++i.reads
 | .ext x _=>x.reads
 | .len x=>x.reads
 | .Tk x=>x.reads
 | .app _ _ x y=>x.reads++y.reads
 | .mm _ x y=>x.reads++y.reads
 | .yl _ _=> []
 | .G2 x _=>x.reads
 | .G3 x y=>x.reads++y.reads
 | .apps x y=>x.reads++y.reads
 | .Fq _ xs=>pI xs
 | .Cp=> []
 | .G4 m k v=>m.reads++(k.reads++v.reads)
 | .Fs m k _=>m.reads++k.reads
 | .G5 _ _ _ l c=>l.reads++c.reads
 | .Bl _ x y=>x.reads++y.reads
def ym:Option (Nat×Bool)→List Nat
 |none=> []
 |some (t,_)=> [t]
def AI.reads:AI→List Nat
 | .op _ g o=>ym g++o.reads
 | .call _ g _ xs=>ym g++pI xs
 | .nil _ g _ x=>ym g++x.reads
 | .lR _ g t xs=>ym g++(t::pI xs)
def Ii (d:Option Nat) (l:List Nat):Bool:=
 match d with
 |none=>true
 |some t=> !l.contains t
def AI.apart (a q:AI):Bool:=
 Ii a.dst q.reads && Ii q.dst a.reads && (match a.dst,q.dst with|some x,some y=>x != y|_,_=>true)
def jJ (l:List (List Nat)) (i:Nat):List Nat:=l.getD i []
def kF (is:List AI) (i:Nat):AK:=
 match is[i]? with
 |some a=>a.kind
 |none=> .core
def nr (is:List AI) (i j:Nat):Bool:=
 match is[i]?,is[j]? with
 |some a,some b=>a.apart b
 |_,_=>false
def jh:AK→Bool
 | .core=>true
 | .alloc=>true
 |_=>false
def lh (is:List AI) (l:List Nat):Nat:=(l.filter fun i=>jh (kF is i)).length
def ng (is:List AI) (pq:List Nat):List Nat→Bool
 | []=>true
 |a::r=>(!(kF is a == .alloc && pq.contains a) ||r.all pq.contains) && ng is pq r
def rJ (is:List AI) (pt:List (List Nat)) (pre:List Nat) (q b:Nat):Bool:=
 match kF is q with
 | .core=>pre.all (jJ pt q).contains
 | .alloc=>pre.all fun a=>nr is a q
 | .pure=>(pre.all fun a=>(jJ pt q).contains a ||nr is a q) && ng is (jJ pt q) pre
 | .load=>(pre.all fun a=>(jJ pt q).contains a ||nr is a q) && ng is (jJ pt q) pre &&
  decide (lh is (pre.filter fun a=> !(jJ pt q).contains a)≤b)
def xw (is:List AI) (af pt:List (List Nat)):List Nat→List (Nat×Nat)→Bool
 |_,[]=>true
 |pre,(q,b)::r=>rJ is pt pre q b && !pre.contains q && ((jJ af q).all fun j=>j != q && !(r.map (·.1)).contains j) && xw is af pt (q::pre) r
def Bm (af pt:List (List Nat)):Nat→Bool
 | 0=>true
 |i+1=>((jJ pt i).all fun j=>(jJ af i).contains j ||(jJ af i).any fun k=>(jJ pt k).contains j) && Bm af pt i
def Ij (is:List AI) (af pt:List (List Nat)) (nZ:List (Nat×Nat)):Bool:=
 Bm af pt is.length && xw is af pt [] nZ && (List.range is.length).all (nZ.map (·.1)).contains && nZ.all (fun p=>decide (p.1<is.length)) &&
  (List.range is.length).all fun i=>(jJ af i).all fun j=>decide (j<is.length)
def ki (o:Oper):List Nat:=(o.after.toList.filter (Region.binds .any)).map (·.on)
def Ik:List (List Nat)→List (List Nat)→List (List Nat)
 |done,[]=>done
 |done,es::r=>Ik (done++ [(es.flatMap fun k=>jJ done k).foldl (fun l j=>if l.contains j then l else l++ [j]) es]) r
def Tl (is:List AI) (pt:List (List Nat)):List Nat→List Nat→List Nat→List Nat
 | [],rest,out=>out++((rest.filter fun j=>kF is j == .alloc)++rest.filter fun j=> !(kF is j == .alloc))
 |c::cs,rest,out=>
  let Ay:=rest.filter fun j=>(jJ pt c).contains j
  Tl is pt cs (rest.filter fun j=> !(Ay.contains j) && j != c) (out++((Ay.filter fun j=>kF is j == .alloc)++(Ay.filter fun j=> !(kF is j == .alloc))++ [c]))
def Tn (is:List AI) (pt:List (List Nat)):List Nat→List Nat→List (Nat×Nat)
 |_,[]=> []
 |pre,q::r=>(q,if kF is q == .load then lh is (pre.filter fun a=> !(jJ pt q).contains a)else 0)::Tn is pt (q::pre) r
def NW (is:List AI) (af:List (List Nat)):List (Nat×Nat):=
 let pt:=Ik [] af
 let all:=List.range is.length
 Tn is pt [] (Tl is pt (all.filter fun i=>kF is i == .core) all [])
def D.row:D→Option (List D)
 | .agg cs=>some cs
 | .junk=>none
 | .tuple _=>none
 |d=>some [d]
def part (cs:List D) (off:Nat) (agg:Bool) (size:Nat):Option D:=
 match agg with
 |true=>if off+size≤cs.length then some (.agg ((cs.drop off).take size))else none
 |false=>cs[off]?
def fU (cs:List D) (off:Nat) (r:List D):List D:=cs.take off++r++cs.drop (off+r.length)
def uF (cells:List D):List (Nat×Nat×D)→Option (List D)
 | []=>some cells
 |(off,size,d)::rest=>
  match d.row with
  |none=>none
  |some r=>if r.length=size∧off+size≤cells.length then uF (fU cells off r) rest else none
def gJ (zero:List D):Nat→List (List D)
 | 0=> []
 |n+1=>zero::gJ zero n
def lM (size:Nat) (rows:List (List D)):List (Nat×D)→Option (List (List D))
 | []=>some rows
 |(i,d)::rest=>
  match d.row with
  |none=>none
  |some r=>if r.length=size∧i<rows.length then lM size (rows.set i r) rest else none
def bytesLess:List UInt8→List UInt8→Bool:=Op.bytesLess
def aT:Nat:=1099511627776
def JY (k:IntKind) (a b:Int):Int:=k.wrap ((BitVec.ofInt k.bits a &&& BitVec.ofInt k.bits b).toNat)
def bOr (k:IntKind) (a b:Int):Int:=k.wrap ((BitVec.ofInt k.bits a |||BitVec.ofInt k.bits b).toNat)
def Cq (k:IntKind) (a b:Int):Int:=k.wrap ((BitVec.ofInt k.bits a ^^^ BitVec.ofInt k.bits b).toNat)
def G6 (k:IntKind) (a b:Int):Int:=k.wrap (a*2 ^ (min b.toNat k.bits))
def JZ (k:IntKind) (a b:Int):Int:=a.fdiv (2 ^ (min b.toNat k.bits))
def gu (op:BinOp) (k:IntKind) (a b:Int):Option D:=
 match op with
 | .add=>some (.int k (k.wrap (a+b)))
 | .sub=>some (.int k (k.wrap (a - b)))
 | .mul=>some (.int k (k.wrap (a*b)))
 | .quo=>if b=0 then none else some (.int k (k.wrap (a.tdiv b)))
 | .rem=>if b=0 then none else some (.int k (a.tmod b))
 | .eql=>some (.bool (a==b))
 | .neq=>some (.bool (a != b))
 | .lss=>some (.bool (decide (a<b)))
 | .leq=>some (.bool (decide (a≤b)))
 | .gtr=>some (.bool (decide (a > b)))
 | .geq=>some (.bool (decide (a≥b)))
 | .and=>some (.int k (JY k a b))
 | .or=>some (.int k (bOr k a b))
 | .xor=>some (.int k (Cq k a b))
 | .shl=>if b<0 then none else some (.int k (G6 k a b))
 | .shr=>if b<0 then none else some (.int k (JZ k a b))
 |_=>none
def qH (op:BinOp) (a b:List UInt8):Option D:=
 match op with
 | .add=>if a.length+b.length≤aT then some (.str (a++b))else none
 | .eql=>some (.bool (a==b))
 | .neq=>some (.bool (!(a==b)))
 | .lss=>some (.bool (bytesLess a b))
 |_=>none
def Az (op:BinOp) (x y:D):Option D:=
 match x,y with
 | .int k a, .int k' b=>if k=k' then gu op k a b else none
 | .str a, .str b=>qH op a b
 |_,_=>none
def pJ:Nat→D→D→Option Bool
 | 0, .int k a, .int k' b=>if k=k' then some (a==b)else none
 | 1, .bool a, .bool b=>some (a==b)
 | 2, .str a, .str b=>some (a==b)
 |_,_,_=>none
def nu:List Nat→List D→List D→Option Bool
 | [],[],[]=>some true
 |k::ks,x::xs,y::ys=>
  match pJ k x y with
  |none=>none
  |some true=>nu ks xs ys
  |some false=>some false
 |_,_,_=>none
def Lu (op:UnOp) (x:D):Option D:=
 match op,x with
 | .neg, .int k n=>some (.int k (k.wrap (0 - n)))
 | .not, .bool b=>some (.bool (!b))
 | .xor, .int k n=>some (.int k (Cq k (if k.signed then -1 else k.max) n))
 |_,_=>none
def Lv:List D→Option UInt8
 | [.int .u8 n]=>some (UInt8.ofNat n.toNat)
 |_=>none
def qY:List (List D)→Option (List UInt8)
 | []=>some []
 |r::rs=>
  match Lv r,qY rs with
  |some b,some bs=>some (b::bs)
  |_,_=>none
def Tag.cut (g:Tag) (whole:Bool):Tag:=
 match g with
 | .full=>if whole then .full else .shared
 |g=>g
def vt (lo:Option D):Option Int:=
 match lo with
 |none=>some 0
 |some (.int _ n)=>some n
 |_=>none
def vu (hi:Option D) (len:Nat):Option Int:=
 match hi with
 |none=>some len
 |some (.int _ n)=>some n
 |_=>none
def fS (size bytes:Nat) (x y:D) (s:St):Option (D×St):=
 match x,y with
 | .slice g z rows, .slice _ z' new=>
  if(rows = []∨z=size)∧(new = []∨z'=size)∧(rows.length+new.length)*(bytes+1)≤aT then
   match new with
   | []=>some (.slice g z rows,s)
   |_::_=>
    match g with
    | .full=>some (.slice (.tok s.au.length) size (rows++new),{s with au:=s.au++ [some (rows.length+new.length)]})
    | .shared=>none
    | .tok _ true=>none
    | .tok t false=>if z=size∧s.au[t]? = some (some rows.length)then some (.slice (.tok t) size (rows++new),{s with au:=s.au.set t (some (rows.length+new.length))})else none
  else none
 |_,_=>none
def D2 (x y:D) (s:St):Option (D×St):=
 match x,y with
 | .slice g z rows, .slice _ z' new=>
  if(rows = []∨z=1)∧(new = []∨z'=1)∧(rows.length+new.length)*2≤aT then
   match new with
   | []=>some (.slice g z rows,s)
   |_::_=>
    match g with
    | .full=>some (.slice (.tok s.au.length true) 1 (rows++new),{s with au:=s.au++ [some (rows.length+new.length)]})
    | .shared=>none
    | .tok t y=>if z=1∧s.au[t]? = some (some rows.length)then some (.slice (.tok t y) 1 (rows++new),{s with au:=s.au.set t (some (rows.length+new.length))})else none
  else none
 |_,_=>none
def Cr (key:List UInt8) (zero:D):List D→Option D
 | []=>some zero
 | .str k::d::r=>if k==key then some d else Cr key zero r
 |_=>none
def AA (key:List UInt8) (v:D):List D→Option (List D)
 | []=>some [.str key,v]
 | .str k::d::r=>if k==key then some (.str k::v::r)else match AA key v r with|some r'=>some (.str k::d::r')|none=>none
 |_=>none
def qq (s:St) (o g:Nat):Option (List D):=
 match s.ag[o]? with
 |some (.int .i64 n::cells)=>if n=(g:Int)then some cells else none
 |_=>none
def Cs (d:D) (agg:Bool) (size:Nat) (s:St):Option (D×St):=
 match d with
 | .fK o g off=>
  match qq s o g with
  |some cells=>(match part cells off agg size with|some d=>some (d,s)|none=>none)
  |none=>none
 |_=>none
def D3 (d:D) (r:Option (List D)) (size:Nat) (s:St):Option (D×St):=
 match d,r with
 | .fK o g off,some r=>match qq s o g with
  |some cells=>if r.length=size∧off+size≤cells.length then some (.tuple [],{s with ag:=s.ag.set o (.int .i64 g::fU cells off r)})else none
  |none=>none
 |_,_=>none
def To (d:D):Option D:=
 match d with
 | .fK o g off=>some (.fK o g off)
 |_=>none
def Il (d:D) (off:Nat):Option D:=
 match d with
 | .fK o g k=>some (.fK o g (k+off))
 |_=>none
def wB (d e:D) (size:Nat):Option D:=
 match d,e with
 | .dr z o g len, .int _ n=>if 0≤n∧n<len∧z=size then some (.fK o g (n.toNat*z))else none
 |_,_=>none
def vA (d:D) (lo hi:Option D):Option D:=
 match d with
 | .dr z o g len=>
  match vt lo,vu hi len with
  |some l,some h=>if l=0∧0≤h∧h≤len then some (.dr z o g h.toNat)else none
  |_,_=>none
 | .ew z=>
  match vt lo,vu hi 0 with
  |some l,some h=>if l=0∧h=0 then some (.ew z)else none
  |_,_=>none
 |_=>none
def J0 (d:D):Option D:=
 match d with
 | .dr _ _ _ len=>some (.int .i64 len)
 | .ew _=>some (.int .i64 0)
 |_=>none
def Ct (size bytes:Nat) (x y:D) (s:St):Option (D×St):=
 match x,y with
 | .dr z o g len, .slice _ z' new=>
  if z=size∧(new = []∨z'=size)∧(len+new.length)*(bytes+1)≤aT then
   match new with
   | []=>some (.dr z o g len,s)
   |_::_=>match qq s o g with
    |some cells=>if len*z≤cells.length then some (.dr z o (g+1) (len+new.length),{s with ag:=s.ag.set o (.int .i64 ((g+1:Nat):Int)::(cells.take (len*z)++new.flatten))})else none
    |none=>none
  else none
 | .ew z, .slice _ z' new=>
  if z=size∧(new = []∨z'=size)∧new.length*(bytes+1)≤aT then
   match new with
   | []=>some (.ew z,s)
   |_::_=>some (.dr z s.ag.length 0 new.length,{s with ag:=s.ag++ [.int .i64 ((0:Nat):Int)::new.flatten]})
  else none
 |_,_=>none
def ZY (k:FloatKind) (a b:Nat):Option Nat:=k.format.add a b
def tL (o:FO) (x y:D):Option D:=
 match o,x,y with
 | .ofInt k, .int _ n,_=>some (.val (.float k (k.nearest n)))
 | .toInt k, .val (.float s b),_=>match (s.decode b).toInt .zero with|some n=>if k.min≤n∧n≤k.max then some (.int k n)else none|none=>none
 | .Ti, .val (.float k a), .val (.float k' b)=>if k=k' then some (.val (.complex k a b))else none
 | .real, .val (.complex k a _),_=>some (.val (.float k a))
 | .imag, .val (.complex k _ b),_=>some (.val (.float k b))
 | .eq, .val (.float k a), .val (.float k' b)=>if k=k' then some (.bool (k.format.order a b==some .eq))else none
 | .NU, .val (.complex k a b), .val (.complex k' c d)=>if k=k' then(match ZY k a c,ZY k b d with|some e,some f=>some (.val (.complex k e f))|_,_=>none)else none
 | .WE, .val (.complex k a b), .val (.complex k' c d)=>if k=k' then some (.bool (k.format.order a c==some .eq && k.format.order b d==some .eq))else none
 |_,_,_=>none
def bF (o:AO) (tm:Tm) (s:St):Option (D×St):=
 match o with
 | .mv x=>some (x.ev tm,s)
 | .pick c a b=>
  match c.ev tm with
  | .bool t=>some (if t then a.ev tm else b.ev tm,s)
  |_=>none
 | .alloc zero=>some (.ptr s.ag.length 0,{s with ag:=s.ag++ [zero]})
 | .box x=>
  match (x.ev tm).row with
  |some r=>some (.ptr s.ag.length 0,{s with ag:=s.ag++ [r]})
  |none=>none
 | .build zero parts=>
  match uF zero (parts.map fun p=>(p.1,p.2.1,p.2.2.ev tm))with
  |some cs=>some (.agg cs,s)
  |none=>none
 | .rI zero size n parts=>
  match lM size (gJ zero n) (parts.map fun p=>(p.1,p.2.ev tm))with
  |some rows=>some (.slice .full size rows,s)
  |none=>none
 | .yk zero size n parts=>
  match lM size (gJ zero n) (parts.map fun p=>(p.1,p.2.ev tm))with
  |some rows=>some (.slice (.tok s.au.length) size rows,{s with au:=s.au++ [some rows.length]})
  |none=>none
 | .Gi x=>
  match x.ev tm with
  | .slice (.tok t _) z rows=>if rows≠ []∧s.au[t]? = some (some rows.length)then some (.slice .shared z rows,{s with au:=s.au.set t none})else none
  |_=>none
 | .load x agg size=>
  match x.ev tm with
  | .ptr o off=>
   match s.ag[o]? with
   |some cs=>match part cs off agg size with|some d=>some (d,s)|none=>none
   |none=>none
  | .dW row off=>match part row off agg size with|some d=>some (d,s)|none=>none
  |d=>Cs d agg size s
 | .store p x size=>
  match p.ev tm,(x.ev tm).row with
  | .ptr o off,some r=>
   match s.ag[o]? with
   |some cs=>if r.length=size∧off+size≤cs.length then some (.tuple [],{s with ag:=s.ag.set o (fU cs off r)})else none
   |none=>none
  |d,r=>D3 d r size s
 | .Ns x=>
  match x.ev tm with
  | .ptr o off=>some (.ptr o off,s)
  | .dW row off=>some (.dW row off,s)
  |d=>match To d with|some d=>some (d,s)|none=>none
 | .bin op x y=>match Az op (x.ev tm) (y.ev tm)with|some d=>some (d,s)|none=>none
 | .RZ neg x y=>
  match x.ev tm,y.ev tm with
  | .bool a, .bool b=>some (.bool (if neg then !(a==b)else a==b),s)
  |_,_=>none
 | .eqs neg ks x y=>
  match x.ev tm,y.ev tm with
  | .agg a, .agg b=>match nu ks a b with|some e=>some (.bool (if neg then !e else e),s)|none=>none
  |_,_=>none
 | .R0 neg x y=>
  match x.ev tm,y.ev tm with
  | .fJ, .fJ=>some (.bool (!neg),s)
  | .ptr _ _, .fJ=>some (.bool neg,s)
  | .dW _ _, .fJ=>some (.bool neg,s)
  |_,_=>none
 | .un op x=>match Lu op (x.ev tm)with|some d=>some (d,s)|none=>none
 | .conv k x=>match x.ev tm with| .int _ n=>some (.int k (k.wrap n),s)|_=>none
 | .Nt x=>
  match x.ev tm with
  | .slice _ _ rows=>match qY rows with|some b=>some (.str b,s)|none=>none
  |_=>none
 | .Fp x=>
  match x.ev tm with
  | .str l=>some (.slice .shared 1 (l.map fun c=> [.int .u8 c.toNat]),s)
  |_=>none
 | .WG size x lo hi=>
  match x.ev tm with
  | .slice g z rows=>
   match vt (lo.map (·.ev tm)),vu (hi.map (·.ev tm)) rows.length with
   | some l,some h=>
    if(rows = []∨z=size)∧0≤l∧l≤h∧h≤rows.length then
     some (.slice (if l=0 then g.cut (h=rows.length)else .shared) z ((rows.take h.toNat).drop l.toNat),s)else none
   |_,_=>none
  |d=>match vA d (lo.map (·.ev tm)) (hi.map (·.ev tm))with|some d=>some (d,s)|none=>none
 | .NV x lo hi=>
  match x.ev tm with
  | .str t=>
   match vt (lo.map (·.ev tm)),vu (hi.map (·.ev tm)) t.length with
   |some l,some h=>if 0≤l∧l≤h∧h≤t.length then some (.str ((t.take h.toNat).drop l.toNat),s)else none
   |_,_=>none
  |_=>none
 | .Nu x off=>
  match x.ev tm with
  | .ptr o k=>some (.ptr o (k+off),s)
  | .dW row k=>some (.dW row (k+off),s)
  |d=>match Il d off with|some d=>some (d,s)|none=>none
 | .fld x off agg size=>
  match x.ev tm with
  | .agg cs=>match part cs off agg size with|some d=>some (d,s)|none=>none
  |_=>none
 | .Nv x i size=>
  match x.ev tm,i.ev tm with
  | .slice _ z rows, .int _ n=>
   if 0≤n∧z=size then
    match rows[n.toNat]? with
    |some row=>some (.dW row 0,s)
    |none=>none
   else none
  |d,e=>match wB d e size with|some d=>some (d,s)|none=>none
 | .Tj x i=>
  match x.ev tm,i.ev tm with
  | .str t, .int _ n=>
   if 0≤n then
    match t[n.toNat]? with
    |some c=>some (.int .u8 c.toNat,s)
    |none=>none
   else none
  |_,_=>none
 | .ext x i=>
  match x.ev tm with
  | .tuple ds=>match ds[i]? with|some d=>some (d,s)|none=>none
  |_=>none
 | .Tk x=>
  match x.ev tm with
  | .str t=>some (.int .i64 t.length,s)
  |_=>none
 | .len x=>
  match x.ev tm with
  | .slice _ _ rows=>some (.int .i64 rows.length,s)
  |d=>match J0 d with|some d=>some (d,s)|none=>none
 | .app size bytes x y=>
  match x.ev tm with
  | .slice g z rows=>fS size bytes (.slice g z rows) (y.ev tm) s
  |d=>Ct size bytes d (y.ev tm) s
 | .mm isMax x y=>
  match x.ev tm,y.ev tm with
  | .int k a, .int k' b=>if k=k' then some (.int k (if isMax then(if b > a then b else a)else(if b<a then b else a)),s)else none
  |_,_=>none
 | .yl zero T=>
  match zero with
  | .fJ::r=>some (.ptr s.ag.length 0,{s with ag:=s.ag++ [.gd T s.ag.length::r]})
  |_=>none
 | .G2 x T=>
  match (x.ev tm).row with
  |some (.fJ::r)=>some (.ptr s.ag.length 0,{s with ag:=s.ag++ [.gd T s.ag.length::r]})
  |_=>none
 | .G3 x y=>D2 (x.ev tm) (y.ev tm) s
 | .apps x y=>
  match y.ev tm with
  | .str l=>D2 (x.ev tm) (.slice .shared 1 (l.map fun c=> [.int .u8 c.toNat])) s
  |_=>none
 | .Fq f xs=>some (.iL f (xs.map (·.ev tm)),s)
 | .Cp=>some (.iC s.ag.length,{s with ag:=s.ag++ [[]]})
 | .G4 m k v=>
  match m.ev tm,k.ev tm,v.ev tm with
  | .iC o, .str key, .slice g z rows=>
   match s.ag[o]? with
   |some cs=>match AA key (.slice g z rows) cs with|some lq=>some (.tuple [],{s with ag:=s.ag.set o lq})|none=>none
   |none=>none
  |_,_,_=>none
 | .Fs m k zero=>
  match m.ev tm,k.ev tm with
  | .iC o, .str key=>
   match s.ag[o]? with
   |some cs=>match Cr key zero cs with|some d=>some (d,s)|none=>none
   |none=>none
  |_,_=>none
 | .G5 size bytes zero l c=>
  match l.ev tm,c.ev tm with
  | .int .i64 n, .int .i64 m=>if n=m∧0≤n∧n*((bytes:Int)+1)≤aT then some (.dr size s.ag.length 0 n.toNat,{s with ag:=s.ag++ [.int .i64 ((0:Nat):Int)::(gJ zero n.toNat).flatten]})else none
  |_,_=>none
 | .Bl o x y=>match tL o (x.ev tm) (y.ev tm)with|some d=>some (d,s)|none=>none
def ZZ (b:ByteArray):List UInt8:=b.data.toList
def vB:Value→Option D
 | .int k n=>some (.int k n)
 | .bool b=>some (.bool b)
 | .string b=>some (.str (ZZ b))
 | .pointer none=>some .fJ
 | .slice none 0 0=>some (.slice .full 0 [])
 | .nilIface=>some (.val .nilIface)
 | .float k b=>some (.val (.float k b))
 | .complex k a b=>some (.val (.complex k a b))
 |_=>none
def qs:List Value→Option (List D)
 | []=>some []
 |v::r=>match vB v,qs r with|some d,some ds=>some (d::ds)|_,_=>none
def G7:Value→Option D
 | .slice none 0 0=>some (.val (.slice none 0 0))
 |v=>vB v
def zu:List Value→Option (List D)
 | []=>some []
 |v::r=>match G7 v,zu r with|some d,some ds=>some (d::ds)|_,_=>none
def Tp:Value→Option D
 | .agg cs=>(qs cs.toList).map .agg
 | .tuple ⟨[]⟩=>some (.tuple [])
 |v=>vB v
def cX:Operand→Option X
 | .tmp t=>some (.s t)
 | .const v=>(Tp v).map .k
 | .func f=>some (.k (.iL f []))
 |_=>none
def Bn:List Operand→Option (List X)
 | []=>some []
 |x::r=>match cX x,Bn r with|some d,some ds=>some (d::ds)|_,_=>none
def cXo:Option Operand→Option (Option X)
 |none=>some none
 |some x=>(cX x).map some
section
variable (P:Program)
def uG (t:TypeId):Option Bool:=
 match P.underlying t with
 |some (.struct _)|some (.array _ _)=>some true
 |some _=>some false
 |none=>none
def zeroOf (t:TypeId):Option (List D):=
 match P.info? t with
 |some i=>match i.zero with|some z=>if z.cells.size=i.size then qs z.cells.toList else none|none=>none
 |none=>none
def oP (t:TypeId) (f:Nat):Option (Nat×Nat×Bool):=
 match P.underlying t with
 | some (.struct fs)=>
  match fs[f]? with
  |some fd=>match P.info? fd.type,uG P fd.type with
   |some i,some a=>if i.size=0 then none else some (fd.offset,i.size,a)
   |_,_=>none
  |none=>none
 |_=>none
def WH (t u:TypeId):Bool:=
 match P.underlying u with
 |some (.pointer e)=>e==t
 |_=>false
def ahl (t:TypeId):Bool:=
 match P.underlying t with
 |some (.struct fs)=>
  match fs[0]? with
  |some f=>WH P t f.type
  |none=>false
 |_=>false
def Tq (t:TypeId):Bool:=
 match P.underlying t with
 |some (.struct fs)=>
  match fs[0]? with
  |some f=>WH P t f.type ||ahl P f.type
  |none=>false
 |_=>false
def Tr (self:Bool) (l:List Value):Option (List D):=if self then zu l else qs l
def Cu (t:TypeId):Option (List D):=
 match P.info? t with
 |some i=>match i.zero with|some z=>if z.cells.size=i.size then Tr (Tq P t) z.cells.toList else none|none=>none
 |none=>none
def D4 (t:TypeId):List (Nat×Operand)→Option (List (Nat×Nat×X))
 | []=>some []
 |(i,x)::r=>match oP P t i,cX x,D4 t r with
  |some (off,size,_),some x',some r'=>some ((off,size,x')::r')
  |_,_,_=>none
def NY:List (Nat×Operand)→Option (List (Nat×X))
 | []=>some []
 |(i,x)::r=>match cX x,NY r with
  |some x',some r'=>some ((i,x')::r')
  |_,_=>none
def kV (t:TypeId):Option Nat:=
 match P.underlying t with
 |some (.int _)=>some 0
 |some .bool=>some 1
 |some .string=>some 2
 |_=>none
def Ft:Nat→List Field→Option (List Nat)
 |_,[]=>some []
 | n,f::fs=>
  if f.offset=n∧f.name≠ "_" then
   match kV P f.type,Ft (n+1) fs with
   |some k,some ks=>some (k::ks)
   |_,_=>none
  else none
def sZ (t:TypeId):Option (List Nat):=
 match P.underlying t with
 |some (.struct fs)=>if P.eqGuardType P.depth t=false∧P.stoodInHeld t=false then Ft P 0 fs.toList else none
 |_=>none
def Io (o:Oper):Option AO:=
 match o.op with
 | .move x| .assign x=>(cX x).map .mv
 | .pick c a b=>match cX c,cX a,cX b with|some c,some a,some b=>some (.pick c a b)|_,_,_=>none
 | .alloc t=>if Tq P t then(Cu P t).map (.yl · t)else(zeroOf P t).map .alloc
 | .box t x=>if Tq P t then(cX x).map (.G2 · t)else(cX x).map .box
 | .build t parts=>
  match P.underlying t,Cu P t,D4 P t parts.toList with
  |some (.struct fs),some z,some ps=>if fs.toList.all fun f=>(P.info? f.type).isSome then some (.build z ps)else none
  |_,_,_=>none
 | .buildSlice t n parts=>
  match P.underlying t with
  |some (.slice e)=>
   match P.info? e,zeroOf P e,NY parts.toList with
   |some i,some z,some ps=>if 0<i.size∧n*i.size≤65536 then some (.rI z i.size n ps)else none
   |_,_,_=>none
  |_=>none
 | .load t x=>
  match cX x,uG P t,P.info? t with
  |some x,some a,some i=>some (.load x a i.size)
  |_,_,_=>none
 | .store t a x=>
  match cX a,cX x,P.info? t with
  |some a,some x,some i=>some (.store a x i.size)
  |_,_,_=>none
 | .nilCheck x=>(cX x).map .Ns
 | .binOp op t x y _=>
  match cX x,cX y with
  |some x,some y=>
   match P.underlying t,op with
   |some (.int _),_=>some (.bin op x y)
   |some .string,_=>some (.bin op x y)
   |some .bool, .eql=>some (.RZ false x y)
   |some .bool, .neq=>some (.RZ true x y)
   |some (.pointer _), .eql=>some (.R0 false x y)
   |some (.pointer _), .neq=>some (.R0 true x y)
   |some (.struct _), .eql=>(sZ P t).map (.eqs false · x y)
   |some (.struct _), .neq=>(sZ P t).map (.eqs true · x y)
   |some (.float _), .eql=>some (.Bl .eq x y)
   |some (.complex _), .add=>some (.Bl .NU x y)
   |some (.complex _), .eql=>some (.Bl .WE x y)
   |_,_=>none
  |_,_=>none
 | .unOp op _ x=>(cX x).map (.un op)
 | .convert src dst x=>
  match cX x,P.underlying src,P.underlying dst with
  |some x,some (.int _),some (.int k)=>some (.conv k x)
  |some x,some (.slice e),some .string=>match P.underlying e with|some (.int .u8)=>some (.Nt x)|_=>none
  |some x,some (.slice e),some (.slice _)=>match P.underlying e with|some (.int .u8)=>if src=dst then some (.Gi x)else none|_=>none
  |some x,some .string,some (.slice e)=>match P.underlying e,P.info? e with|some (.int .u8),some i=>if i.size=1 then some (.Fp x)else none|_,_=>none
  |some x,some (.int _),some (.float k)=>some (.Bl (.ofInt k) x x)
  |some x,some (.float _),some (.int k)=>some (.Bl (.toInt k) x x)
  |_,_,_=>none
 | .slice t x lo hi none=>
  match cX x,cXo lo,cXo hi,P.underlying t with
  |some x,some lo,some hi,some .string=>some (.NV x lo hi)
  |some x,some lo,some hi,some (.slice e)=>match P.info? e with|some i=>some (.WG i.size x lo hi)|none=>none
  |_,_,_,_=>none
 | .fieldAddr t x f=>match cX x,oP P t f with|some x,some (off,_,_)=>some (.Nu x off)|_,_=>none
 | .field t x f=>match cX x,oP P t f with|some x,some (off,size,a)=>some (.fld x off a size)|_,_=>none
 | .indexAddr t x i=>
  match cX x,cX i,P.underlying t with
  |some x,some i,some (.slice e)=>match P.info? e with|some j=>if 0<j.size then some (.Nv x i j.size)else none|none=>none
  |_,_,_=>none
 | .index t x i=>match cX x,cX i,P.underlying t with|some x,some i,some .string=>some (.Tj x i)|_,_,_=>none
 | .extract x i=>(cX x).map (.ext · i)
 | .call {callee:= .builtin .len,args,argTypes}=>
  match args.toList,argTypes.toList with
  | [x],[t]=>match P.underlying t with
   |some .string=>(cX x).map .Tk
   |some (.slice _)=>(cX x).map .len
   |_=>none
  |_,_=>none
 | .call {callee:= .builtin .append,args,argTypes}=>
  match args.toList,argTypes.toList with
  | [x,y],[t,u]=>match P.underlying t,P.underlying u,cX x,cX y with
   |some (.slice e),some (.slice _),some x,some y=>match P.info? e,zeroOf P e with
    |some i,some _=>if 0<i.size then some (if e=sw∧i.size=1∧i.bytes=1 then .G3 x y else .app i.size i.bytes x y)else none
    |_,_=>none
   |some (.slice e),some .string,some x,some y=>match P.info? e,zeroOf P e with
    |some i,some _=>if e=sw∧i.size=1∧i.bytes=1 then some (.apps x y)else none
    |_,_=>none
   |_,_,_,_=>none
  |_,_=>none
 | .call {callee:= .builtin .max,args, ..}=>
  match args.toList with
  | [x,y]=>match cX x,cX y with|some x,some y=>some (.mm true x y)|_,_=>none
  |_=>none
 | .call {callee:= .builtin .min,args, ..}=>
  match args.toList with
  | [x,y]=>match cX x,cX y with|some x,some y=>some (.mm false x y)|_,_=>none
  |_=>none
 | .call {callee:= .builtin .complex,args, ..}=>
  match args.toList with
  | [x,y]=>match cX x,cX y with|some x,some y=>some (.Bl .Ti x y)|_,_=>none
  |_=>none
 | .call {callee:= .builtin .real,args, ..}=>
  match args.toList with
  | [x]=>(cX x).map fun x=> .Bl .real x x
  |_=>none
 | .call {callee:= .builtin .imag,args, ..}=>
  match args.toList with
  | [x]=>(cX x).map fun x=> .Bl .imag x x
  |_=>none
 | .makeSlice t l c=>
  match cX l,cX c,P.underlying t with
  |some l,some c,some (.slice e)=>match P.info? e,zeroOf P e with
   |some i,some z=>if 0<i.size then some (.G5 i.size i.bytes z l c)else none
   |_,_=>none
  |_,_,_=>none
 | .makeFunc (.func f) first captured=>if first.size=0 then(Bn captured.toList).map (.Fq f)else none
 | .makeMap t none=>match P.underlying t with|some (.map _ _)=>some .Cp|_=>none
 | .mapUpdate t m k v=>
  match P.underlying t,cX m,cX k,cX v with
  |some (.map kt _),some m,some k,some v=>match P.underlying kt with|some .string=>some (.G4 m k v)|_=>none
  |_,_,_,_=>none
 | .lookup t m k false=>
  match P.underlying t,cX m,cX k with
  |some (.map kt e),some m,some k=>
   match P.underlying kt,P.info? e with
   |some .string,some i=>match i.zero with|some z=>(vB z).map (.Fs m k)|none=>none
   |_,_=>none
  |_,_,_=>none
 |_=>none
def yn (ops:Array Oper):Option (Nat×Bool)→Option (Option (Nat×Bool))
 |none=>some none
 |some (j,b)=>
  match (ops[j]?).bind (·.dst)with
  |some t=>some (some (t,b))
  |none=>none
def enters (f:FuncId):Bool:=
 match P.funcs[f]? with
 |some fn=>fn.body.isSome && !(fn.name == "runtime.NumGoroutine")
 |none=>false
def frozenIn (ops:Array Oper) (dst:Option Nat):Bool:=
 ops.toList.any fun o=>match o.op,dst with
  | .convert s d (.tmp t),some t'=>t==t' && s==d
  |_,_=>false
def J1 (o:Oper):Option (Bool×X):=
 match o.op with
 | .binOp op t x (.const (.slice none 0 0)) _=>
  match P.underlying t,op,cX x with
  |some (.slice _), .eql,some x=>some (false,x)
  |some (.slice _), .neq,some x=>some (true,x)
  |_,_,_=>none
 |_=>none
def adv (nt:Nat) (dst:Option Nat):Bool:=
 match dst with
 |some d=>decide (d<nt)
 |none=>true
def v7 (ops:Array Oper) (o:Oper) (g:Option (Nat×Bool)):Option AI:=
 match o.op with
 | .call {callee:= .value (.func f),args, ..}=>if enters P f then(Bn args.toList).map (.call o.dst g f)else none
 | .call {callee:= .value (.tmp t),args, ..}=>(Bn args.toList).map (.lR o.dst g t)
 | _=>
  match J1 P o with
  |some (neg,x)=>some (.nil o.dst g neg x)
  |none=>
   match Io P o with
   |some (.rI z k n ps)=>some (.op o.dst g (if frozenIn ops o.dst then .yk z k n ps else .rI z k n ps))
   |some ao=>some (.op o.dst g ao)
   |none=>none
def cI (nt:Nat) (ops:Array Oper) (o:Oper):Option AI:=
 match yn ops o.guard with
 |none=>none
 |some g=>if adv nt o.dst=true then v7 P ops o g else none
def sI (nt:Nat) (ops:Array Oper):List Oper→Option (List AI)
 | []=>some []
 |o::r=>match cI P nt ops o,sI nt ops r with|some i,some is=>some (i::is)|_,_=>none
def Ts (is:List AI) (af:List (List Nat)):Option AC:=
 if Ij is af (Ik [] af) (NW is af)then some (.par is (NW is af))else none
def adw (is:List AI) (af:List (List Nat)):Option AC:=
 match is with
 | [.op (some a) none (.alloc [.bool false]), .op none none (.store (.s a1) (.k (.bool true)) 1), .op none none (.store (.s a2) (.k (.bool false)) 1), .op (some d) none (.load (.s a3) false 1)]=>
  if a1=a∧a2=a∧a3=a∧af = [[],[0],[0],[0,0,1,2]]then some (.any a d)else none
 |_=>none
def D5 (is:List AI) (af:List (List Nat)):Option AC:=
 match Ts is af with
 |some c=>some c
 |none=>adw is af
def cC (nt:Nat):Code→Option AC
 | .skip=>some .skip
 | .region _ ops false=>(sI P nt ops ops.toList).map .run
 | .region _ ops true=>if P.follows .mixedOrders then(sI P nt ops ops.toList).bind (D5 · (ops.toList.map ki))else none
 | .seq a b=>match cC nt a,cC nt b with|some a,some b=>some (.seq a b)|_,_=>none
 | .cond x a b=>match cX x,cC nt a,cC nt b with|some x,some a,some b=>some (.cond x a b)|_,_,_=>none
 | .block id a=>(cC nt a).map (.block id)
 | .loop a=>(cC nt a).map .loop
 | .exit id=>some (.exit id)
 | .scope a=>(cC nt a).map .scope
 | .label l=>some (.label l)
 | .goto l=>some (.goto l)
 | .ret=>some .ret
 |_=>none
def D6:List ResultVar→Option (List (Nat×Option (Bool×Nat)))
 | []=>some []
 | .tmp t::r=>(D6 r).map ((t,none):: ·)
 | .cell a t::r=>match uG P t,P.info? t,D6 r with
  |some g,some i,some r'=>some ((a,some (g,i.size))::r')
  |_,_,_=>none
def cF (fn:Func):Option AF:=
 match fn.body with
 |some c=>match cC P fn.ntmps c,D6 P fn.results.toList with
  |some b,some r=>some ⟨fn.ntmps,r,b⟩
  |_,_=>none
 |none=>none
end
end Go.Abs
namespace Go.Abs
theorem j9 {w:World} {b:Nat} {vs:Array Value} {T:TypeId} {fr:Nat×Nat} (h:w.heap[b]? = some (.cells vs T fr)) (o:Nat):w.cell? ⟨b,o,none⟩=vs[o]? :=by
 simp[World.cell?,h]
theorem lT {w:World} {b:Nat} {o:Obj} (h:w.heap[b]? = some o):b<w.heap.size:=(zaU.1 h).1
section
variable {M:Map} {s:St} {w:World}
theorem Rel.D7 (r:Rel M s w) {b o:Nat} {v:Value} (h:M.G b o=some v):b<w.heap.size:=World.block_lt_of_cell? w _ (r.comm b o v h).1
theorem Rel.Nw (r:Rel M s w) {b:Nat} (h:w.heap.size≤b) (o:Nat):M.G b o=none:=by
 cases e:M.G b o with
 |none=>rfl
 |some v=>have:=r.D7 e;omega
theorem Rel.tz (r:Rel M s w) {o:Nat} (h:o<s.ag.length):M.mu o<w.heap.size:=by
 obtain⟨vs,T,hh,_⟩:=r.obj o _ (zah h)
 exact hh.lt
theorem Rel.v8 (r:Rel M s w) {t b c z:Nat} (h:s.live t) (e:M.be t=some (b,c,z)):b<w.heap.size:=by
 obtain⟨n,hn⟩:=h
 rcases r.tok t n hn with ⟨h1,_⟩|⟨b',cap,size,vs,T,h1,h2,_⟩
 ·rw[e]at h1;cases h1
 ·rw[e]at h1;cases h1;exact lT h2
theorem Rel.of_heap (r:Rel M s w) {w':World} (h:w'.heap=w.heap):Rel M s w':=by
 refine⟨fun b o v e=>?_,fun o ds e=>?_,r.kU,r.inj,fun t n e=>?_,r.fL,r.gS⟩
 ·obtain⟨h1,h2⟩:=r.comm b o v e
  refine⟨?_,h2⟩
  rw[← h1];simp[World.cell?,h]
 ·rw[h];exact r.obj o ds e
 ·rw[h];exact r.tok t n e
theorem Ext.of_heap {w':World} (h:w'.heap=w.heap) (h1:w'.os=w.os) (h2:w'.tape=w.tape) (h3:w'.output=w.output):Ext M s w M s w':=
 ⟨Le.refl M s,fun _ _ _ _=>by rw[h],fun o h h'=>by rcases h with h|h;omega;exact(h rfl).elim,fun t b c z h e=> .inl ⟨h,c,z,e⟩,fun _ _ h=>(h rfl).elim,by rw[h];exact zak _,h1,h2,h3⟩
def Map.eD (M:Map) (n b:Nat) (x:Ob:= .any):Map:= {M with loc:=fun o=>if o=n then(b,x)else M.loc o}
theorem wC (M:Map) {n:Nat} (b:Nat) (x:Ob) {o:Nat} (ho:o<n):(M.eD n b x).loc o=M.loc o:=by simp[Map.eD];omega
theorem vC (s:St) (b:Nat) (ds:List D) (x:Ob:= .any):Le M s (M.eD s.ag.length b x) {s with ag:=s.ag++ [ds]}:=
 ⟨fun _ _ _ h=>h,by simp,fun o ho=>by rw[wC M b x ho];exact .refl _,zak _,fun t n _ h=>⟨n,h,zak _,fun _=>rfl⟩⟩
theorem Rel.NZ (r:Rel M s w) (ds:List D) (ob:Obj) (vs:Array Value) (T:TypeId) (x:Ob) (yo : ∀ hp:Array Obj,hp[w.heap.size]? = some ob→jR hp (w.heap.size,x) vs T) (hx : ∀ T',x.ty? = some T'→T'=T) (hl:vs.size=ds.length) (h1 : ∀ v∈vs,v.oneCell'=true)
 (h2 : ∀ (i:Nat) (d:D) (v:Value),ds[i]? = some d→vs[i]? = some v→RD (M.eD s.ag.length w.heap.size x) {s with ag:=s.ag++ [ds]} d v) :
 Rel (M.eD s.ag.length w.heap.size x) {s with ag:=s.ag++ [ds]} (w.alloc ob)∧
 Ext M s w (M.eD s.ag.length w.heap.size x) {s with ag:=s.ag++ [ds]} (w.alloc ob):=by
 have le:=vC (M:=M) s w.heap.size ds x
 have kW : ∀ o,o<s.ag.length→(M.eD s.ag.length w.heap.size x).loc o=M.loc o:=fun o ho=>wC M _ x ho
 have pL : ∀ o,o<s.ag.length→(M.eD s.ag.length w.heap.size x).mu o=M.mu o:=fun o ho=>congrArg Prod.fst (kW o ho)
 have dF:(M.eD s.ag.length w.heap.size x).mu s.ag.length=w.heap.size:=by simp[Map.eD,Map.mu]
 have alO:(M.eD s.ag.length w.heap.size x).ty s.ag.length=x.ty? :=by simp[Map.eD,Map.ty]
 have alP:(M.eD s.ag.length w.heap.size x).loc s.ag.length=(w.heap.size,x):=by simp[Map.eD]
 refine⟨⟨fun b o v e=>?_,fun o qi e=>?_,fun o ho off=>?_,fun o o' ho nF e=>?_,fun t n e=>?_,fun t b c z o hl e ho=>?_,fun t t' b c z c' z' h h' e e'=>r.gS t t' b c z c' z' h h' e e'⟩, ?_⟩
 ·obtain⟨h3,h4⟩:=r.comm b o v e
  refine⟨?_,h4⟩
  rw[World.cell?_alloc_lt]
  ·exact h3
  ·exact r.D7 e
 ·rcases zaE o s.ag.length with ho | ho
  ·rw [zai ho]at e
   obtain⟨gf,T',h3,h4,h5,h6⟩:=r.obj o qi e
   refine⟨gf,T', ?_,h4,⟨h5.1,by rw[le.ty o ho];exact h5.2⟩,fun i d v e1 e2=>(h6 i d v e1 e2).mono le⟩
   rw[kW o ho];exact h3.keep (heap_alloc_old w _ _ h3.lt)
  ·rw [zao ho]at e
   have:o=s.ag.length:=by
    have:=(zac.1 e).1
    simp at this;omega
   subst this
   simp at e;subst e
   refine⟨vs,T, ?_,hl,⟨h1,by rw[alO];exact hx⟩,fun i d v e1 e2=>h2 i d v e1 e2⟩
   rw[alP];exact yo _ (heap_alloc_new w _)
 ·simp at ho
  rcases zaE o s.ag.length with h3|h3
  ·rw[pL o h3];exact r.kU o h3 off
  ·have:o=s.ag.length:=by omega
   subst this
   rw[dF];exact r.Nw (zak _) off
 ·simp at ho nF
  rcases zaE o s.ag.length with h3|h3<;>rcases zaE o' s.ag.length with h4|h4
  ·rw[pL o h3,pL o' h4]at e;exact r.inj o o' h3 h4 e
  ·have:o'=s.ag.length:=by omega
   subst this
   rw[pL o h3,dF]at e
   have:=r.tz h3;omega
  ·have:o=s.ag.length:=by omega
   subst this
   rw[pL o' h4,dF]at e
   have:=r.tz h4;omega
  ·omega
 ·rcases r.tok t n e with h3 | ⟨b,cap,size,gf,T',h3,h4,h5⟩
  ·exact .inl h3
  ·exact .inr ⟨b,cap,size,gf,T',h3,by rw[heap_alloc_old w _ _ (lT h4)];exact h4,h5⟩
 ·simp at ho
  rcases zaE o s.ag.length with h3|h3
  ·rw[pL o h3];exact r.fL t b c z o hl e h3
  ·have:o=s.ag.length:=by omega
   subst this
   rw[dF]
   have:=r.v8 hl e;omega
 ·refine⟨le,fun b hb _ _=>heap_alloc_old w _ b hb,fun o h3 h4=> ?_,fun t b c z h e=> .inl ⟨h,c,z,e⟩,fun _ _ h=>(h rfl).elim,by simp,rfl,rfl,rfl⟩
  simp at h4
  rcases zaE o s.ag.length with h5|h5
  ·rcases h3 with h3 | h3
   ·omega
   ·exact(h3 (pL o h5)).elim
  have:o=s.ag.length:=by omega
  subst this
  rw[dF];exact zak _
theorem Rel.N1 (r:Rel M s w) (ds:List D) (vs:Array Value) (T:TypeId) (x:Ob) (hk:x.plain) (hx : ∀ T',x.ty? = some T'→T'=T) (hl:vs.size=ds.length) (h1 : ∀ v∈vs,v.oneCell'=true)
 (h2 : ∀ (i:Nat) (d:D) (v:Value),ds[i]? = some d→vs[i]? = some v→RD (M.eD s.ag.length w.heap.size x) {s with ag:=s.ag++ [ds]} d v) :
 Rel (M.eD s.ag.length w.heap.size x) {s with ag:=s.ag++ [ds]} (w.alloc (.cells vs T))∧
 Ext M s w (M.eD s.ag.length w.heap.size x) {s with ag:=s.ag++ [ds]} (w.alloc (.cells vs T)):=
 r.NZ ds _ vs T x (fun hp e=>jR.of e hk) hx hl h1 h2
theorem Rel.eD (r:Rel M s w) (ds:List D) (vs:Array Value) (T:TypeId) (hl:vs.size=ds.length) (h1 : ∀ v∈vs,v.oneCell'=true)
 (h2 : ∀ (i:Nat) (d:D) (v:Value),ds[i]? = some d→vs[i]? = some v→RD M s d v) :
 Rel (M.eD s.ag.length w.heap.size) {s with ag:=s.ag++ [ds]} (w.alloc (.cells vs T))∧
 Ext M s w (M.eD s.ag.length w.heap.size) {s with ag:=s.ag++ [ds]} (w.alloc (.cells vs T)):=
 r.N1 ds vs T .any trivial (fun _ h=>by cases h) hl h1 fun i d v e1 e2=>(h2 i d v e1 e2).mono (vC s w.heap.size ds)
theorem q9 (cs:List D) (off:Nat) (r:List D) (h:off+r.length≤cs.length) (i:Nat) :
 (fU cs off r)[i]? = if i<off then cs[i]? else if i<off+r.length then r[i - off]? else cs[i]? :=by
 unfold fU
 have hl:(cs.take off).length=off:=by simp;omega
 split
 ·rename_i h1
  rw[zaB,zai (by omega),zbn h1]
 ·rename_i h1
  rw[zaB,zao (by omega),hl]
  split
  ·rename_i h2
   rw[zai (by omega)]
  ·rename_i h2
   rw[zao (by omega),zbq]
   congr 1;omega
theorem tA (cs:List D) (off:Nat) (r:List D) (h:off+r.length≤cs.length):(fU cs off r).length=cs.length:=by
 unfold fU;simp;omega
theorem Rel.J3 (P:Program) (r:Rel M s w) {o off:Nat} {cs:List D} (he:s.ag[o]? = some cs) (hk:(M.ob o).plain) (row:List D) (us:List Value) (hu:us.length=row.length) (gT:off+row.length≤cs.length)
 (h1 : ∀ u∈us,u.oneCell'=true) (h2 : ∀ (i:Nat) (d:D) (v:Value),row[i]? = some d→us[i]? = some v→RD M s d v) :
 ∃ w',(storeCells (⟨M.mu o,off,none⟩:Addr) us).run P w = .ok () w'∧Rel M {s with ag:=s.ag.set o (fU cs off row)} w'∧Ext M s w M {s with ag:=s.ag.set o (fU cs off row)} w':=by
 obtain⟨vs,T,hh,hs,⟨ig,hty⟩,jy⟩:=r.obj o cs he
 replace hh:=hh.cells hk
 have ho:o<s.ag.length:=(zac.1 he).1
 have gG:=run_storeCells_at P (M.mu o) off T us 0 vs w hh (by omega) h1
 simp only[zaP]at gG
 have le:Le M s M {s with ag:=s.ag.set o (fU cs off row)}:=
  ⟨fun _ _ _ h=>h,by simp,fun _ _=> .refl _,zak _,fun t n _ h=>⟨n,h,zak _,fun _=>rfl⟩⟩
 generalize dF:(vs.toList.take off++us++vs.toList.drop (off+us.length)).toArray=kx at gG
 have uH:kx.size=vs.size:=by rw[← dF];simp;omega
 have hZ : ∀ i,kx[i]? = if i<off then vs[i]? else if i<off+row.length then us[i - off]? else vs[i]? :=by
  intro i
  rw[← dF]
  simp only[zbD]
  have hl:(vs.toList.take off).length=off:=by simp;omega
  split
  ·rename_i h3
   rw[zaB,zai (by omega),zbn h3];simp
  ·rename_i h3
   rw[zaB,zao (by omega),hl]
   split
   ·rename_i h4
    rw[zai (by omega)]
   ·rename_i h4
    rw[zao (by omega),zbq]
    rw[show off+us.length+(i - off - us.length)=i by omega];simp
 have oj : ∀ b,b≠M.mu o→(w.setRow (M.mu o) kx).heap[b]? = w.heap[b]? :=fun b hb=>setRow_other w (M.mu o) b _ hb
 refine⟨_,gG,⟨fun b q v e=>?_,fun o' ds e=>?_,fun q hq AE=>r.kU q (by simpa using hq) AE,fun q q' hq om e=>r.inj q q' (by simpa using hq) (by simpa using om) e,fun t n e=>?_,
  fun t b c z q hl e hq=>r.fL t b c z q hl e (by simpa using hq),fun t t' b c z c' z' h h' e e'=>r.gS t t' b c z c' z' h h' e e'⟩, ?_⟩
 ·obtain⟨h3,h4⟩:=r.comm b q v e
  refine⟨?_,h4⟩
  have hb:b≠M.mu o:=fun eq=>by subst eq;rw[r.kU o ho q]at e;cases e
  rw[← h3]
  simp[World.cell?,oj b hb]
 ·rw [zaM]at e
  split at e
  ·rename_i heq
   subst heq
   simp at e
   obtain⟨_,rfl⟩:=e
   refine⟨kx,T,jR.of (l:=M.loc o) (setRow_heap w (M.mu o) vs kx T (0,0) hh) hk,by rw[uH,hs,tA cs off row gT],⟨fun v hv=>?_,hty⟩,fun i d v e1 e2=>?_⟩
   ·rw [← dF]at hv
    simp at hv
    rcases hv with hv|hv|hv
    ·exact ig v (zaQ.1 (za0 hv))
    ·exact h1 v hv
    ·exact ig v (zaQ.1 (zbw hv))
   ·rw [q9 cs off row gT]at e1
    rw[hZ]at e2
    split at e1
    ·rename_i h3;simp only[h3,if_true]at e2;exact(jy i d v e1 e2).mono le
    ·rename_i h3
     simp only[h3,if_false]at e2
     split at e1
     ·rename_i h4;simp only[h4,if_true]at e2;exact(h2 _ d v e1 e2).mono le
     ·rename_i h4;simp only[h4,if_false]at e2;exact(jy i d v e1 e2).mono le
  ·rename_i dj
   obtain⟨gf,T',h3,h4,h5,h6⟩:=r.obj o' ds e
   have nF:o'<s.ag.length:=(zac.1 e).1
   refine⟨gf,T', ?_,h4,h5,fun i d v e1 e2=>(h6 i d v e1 e2).mono le⟩
   exact h3.keep (oj _ (fun eq=>dj (r.inj o o' ho nF eq.symm)))
 ·rcases r.tok t n e with h3 | ⟨b,cap,size,gf,T',h3,h4,h5⟩
  ·exact .inl h3
  ·refine .inr ⟨b,cap,size,gf,T',h3, ?_,h5⟩
   rw[oj b (fun eq=>r.fL t b cap size o ⟨n,e⟩ h3 ho eq.symm)];exact h4
 ·refine⟨le,fun b hb h3 _=>oj b (fun eq=>h3 o ho eq.symm),fun q h3 h4=> ?_,fun t b c z h e=> .inl ⟨h,c,z,e⟩,fun _ _ h=>(h rfl).elim,by simp,rfl,rfl,rfl⟩
  simp at h4;rcases h3 with h3|h3;omega;exact(h3 rfl).elim
def Map.gU (M:Map) (b n:Nat) (vs:Array Value):Map:= {M with G:=fun b' o=>if b'=b then(if o<n then vs[o]? else none)else M.G b' o}
theorem WI (r:Rel M s w) (n:Nat) (vs:Array Value):Le M s (M.gU w.heap.size n vs) s:=
 ⟨fun b o v h=>by
  have hb:b≠w.heap.size:=fun e=>by have:=r.D7 h;omega
  simp[Map.gU,hb,h],zak _,fun _ _=> .refl _,zak _,fun t n _ h=>⟨n,h,zak _,fun _=>rfl⟩⟩
theorem Rel.gU (r:Rel M s w) (n:Nat) (vs:Array Value) (T:TypeId) (fr:Nat×Nat) (h1 : ∀ v∈vs,v.oneCell'=true) :
 Rel (M.gU w.heap.size n vs) s (w.alloc (.cells vs T fr))∧Ext M s w (M.gU w.heap.size n vs) s (w.alloc (.cells vs T fr)):=by
 have le:=WI r n vs
 have hold : ∀ b,b<w.heap.size→∀ o,(M.gU w.heap.size n vs).G b o=M.G b o:=fun b hb o=>by
  have:b≠w.heap.size:=by omega
  simp[Map.gU,this]
 refine⟨⟨fun b o v e=>?_,fun o ds e=>?_,fun o ho off=>?_,r.inj,fun t k e=>?_,r.fL,r.gS⟩, ?_⟩
 ·by_cases hb:b=w.heap.size
  ·subst hb
   simp[Map.gU]at e
   obtain⟨_,e⟩:=e
   refine⟨by rw[j9 (heap_alloc_new w _)];exact e,h1 v (zbE e)⟩
  ·simp [Map.gU,hb]at e
   obtain⟨h3,h4⟩:=r.comm b o v e
   refine⟨?_,h4⟩
   rw[World.cell?_alloc_lt]
   ·exact h3
   ·exact r.D7 e
 ·obtain⟨gf,T',h3,h4,h5,h6⟩:=r.obj o ds e
  exact⟨gf,T',h3.keep (heap_alloc_old w _ _ h3.lt),h4,h5,fun i d v e1 e2=>(h6 i d v e1 e2).mono le⟩
 ·rw [hold]
  ·exact r.kU o ho off
  ·exact r.tz ho
 ·rcases r.tok t k e with h3 | ⟨b,cap,size,gf,T',h3,h4,h5,h6,h7⟩
  ·exact .inl h3
  ·exact .inr ⟨b,cap,size,gf,T',h3,by rw[heap_alloc_old w _ _ (lT h4)];exact h4,h5,h6,fun off ho=>by rw[hold b (lT h4)];exact h7.1 off ho,h7.2⟩
 ·refine⟨le,fun b hb _ _=>heap_alloc_old w _ b hb,fun o h3 h4=>by rcases h3 with h3 | h3;omega;exact(h3 rfl).elim,fun t b c z h e=> .inl ⟨h,c,z,e⟩,fun b o h=> ?_,by simp,rfl,rfl,rfl⟩
  rcases zaE b w.heap.size with hb|hb
  ·exact(h (hold b hb o)).elim
  ·exact .inl hb
def Map.eY (M:Map) (t:Nat) (x:Option (Nat×Nat×Nat)):Map:= {M with be:=fun t'=>if t'=t then x else M.be t'}
theorem Rel.ady (r:Rel M s w) (n b cap size:Nat) (vs:Array Value) (T:TypeId) (hb:w.heap[b]? = some (.cells vs T (0,0))) (dJ:vs.size=cap*zs size) (hn:n≤cap) (hy:(size=0→T=sw)∧∀ u∈vs,u.oneCell'=true)
 (hG : ∀ off,n*zs size≤off→M.G b off=none) (ho : ∀ o,o<s.ag.length→M.mu o≠b) (ht : ∀ t c z,s.live t→M.be t≠some (b,c,z)) :
 Rel (M.eY s.au.length (some (b,cap,size))) {s with au:=s.au++ [some n]} w∧Le M s (M.eY s.au.length (some (b,cap,size))) {s with au:=s.au++ [some n]}:=by
 have kb : ∀ t,St.live {s with au:=s.au++ [some n]} t→s.live t∨t=s.au.length:=by
  rintro t ⟨k,hk⟩
  rcases zaE t s.au.length with h|h
  ·rw[zai h]at hk;exact .inl ⟨k,hk⟩
  ·have:=(zac.1 hk).1
   simp at this;exact .inr (by omega)
 have hD : ∀ t,s.live t→t<s.au.length:=fun t ⟨k,hk⟩=>(zac.1 hk).1
 have hold : ∀ t,t<s.au.length→(M.eY s.au.length (some (b,cap,size))).be t=M.be t:=fun t h=>by simp[Map.eY];omega
 have dF:(M.eY s.au.length (some (b,cap,size))).be s.au.length=some (b,cap,size):=by simp[Map.eY]
 have le:Le M s (M.eY s.au.length (some (b,cap,size))) {s with au:=s.au++ [some n]}:=
  ⟨fun _ _ _ h=>h,zak _,fun _ _=> .refl _,by simp,fun t k h e=>by
   rw[zai h]at e
   exact⟨k,e,zak _,fun _=>hold t h⟩⟩
 refine⟨⟨r.comm,fun o ds e=>?_,r.kU,r.inj,fun t k e=>?_,fun t b' c z o hl e nF=>?_,fun t t' b' c z c' z' h h' e e'=>?_⟩,le⟩
 ·obtain⟨gf,T',h3,h4,h5,h6⟩:=r.obj o ds e
  exact⟨gf,T',h3,h4,h5,fun i d v e1 e2=>(h6 i d v e1 e2).mono le⟩
 ·rcases zaE t s.au.length with h | h
  ·rw [zai h]at e
   rw[hold t h];exact r.tok t k e
  ·have:=(zac.1 e).1
   simp at this
   have:t=s.au.length:=by omega
   subst this
   simp at e;subst e
   exact .inr ⟨b,cap,size,vs,T,dF,hb,dJ,hn,hG,hy⟩
 ·rcases kb t hl with h | h
  ·rw[hold t (hD t h)]at e;exact r.fL t b' c z o h e nF
  ·subst h;rw[dF]at e;cases e;exact ho o nF
 ·rcases kb t h with h | h <;> rcases kb t' h' with h' | h'
  ·rw[hold t (hD t h)]at e;rw[hold t' (hD t' h')]at e';exact r.gS t t' b' c z c' z' h h' e e'
  ·subst h';rw[dF]at e';cases e';rw[hold t (hD t h)]at e;exact(ht t c z h e).elim
  ·subst h;rw[dF]at e;cases e;rw[hold t' (hD t' h')]at e';exact(ht t' c' z' h' e').elim
  ·omega
theorem Rel.alQ (r:Rel M s w) (t n n' b cap size:Nat) (vs:Array Value) (T:TypeId) (Ip:s.au[t]? = some (some n)) (hnn:n<n') (hb:w.heap[b]? = some (.cells vs T (0,0))) (dJ:vs.size=cap*zs size) (hn:n'≤cap) (hy:(size=0→T=sw)∧∀ u∈vs,u.oneCell'=true)
 (hG : ∀ off,n'*zs size≤off→M.G b off=none) (ho : ∀ o,o<s.ag.length→M.mu o≠b) (ht : ∀ t c z,s.live t→M.be t≠some (b,c,z)) :
 Rel (M.eY t (some (b,cap,size))) {s with au:=s.au.set t (some n')} w∧Le M s (M.eY t (some (b,cap,size))) {s with au:=s.au.set t (some n')}:=by
 have Bo:t<s.au.length:=(zac.1 Ip).1
 have kb : ∀ q,St.live {s with au:=s.au.set t (some n')} q→s.live q:=by
  rintro q ⟨k,hk⟩
  rw[zaM]at hk
  split at hk
  ·rename_i h;subst h;exact⟨n,Ip⟩
  ·exact⟨k,hk⟩
 have hold : ∀ q,q≠t→(M.eY t (some (b,cap,size))).be q=M.be q:=fun q h=>by simp[Map.eY,h]
 have dF:(M.eY t (some (b,cap,size))).be t=some (b,cap,size):=by simp[Map.eY]
 have le:Le M s (M.eY t (some (b,cap,size))) {s with au:=s.au.set t (some n')}:=
  ⟨fun _ _ _ h=>h,zak _,fun _ _=> .refl _,by simp,fun q k h e=>by
   rw[zaM]at e
   split at e
   ·rename_i h2;subst h2
    simp at e;subst e
    exact⟨n,Ip,by omega,fun h=>by omega⟩
   ·rename_i h2
    exact⟨k,e,zak _,fun _=>hold q (fun h=>h2 h.symm)⟩⟩
 refine⟨⟨r.comm,fun o ds e=>?_,r.kU,r.inj,fun q k e=>?_,fun q b' c z o hl e nF=>?_,fun q q' b' c z c' z' h h' e e'=>?_⟩,le⟩
 ·obtain⟨gf,T',h3,h4,h5,h6⟩:=r.obj o ds e
  exact⟨gf,T',h3,h4,h5,fun i d v e1 e2=>(h6 i d v e1 e2).mono le⟩
 ·rw [zaM]at e
  split at e
  ·rename_i h2;subst h2
   simp at e;subst e
   exact .inr ⟨b,cap,size,vs,T,dF,hb,dJ,hn,hG,hy⟩
  ·rename_i h2
   rw[hold q (fun h=>h2 h.symm)];exact r.tok q k e
 ·by_cases h:q=t
  ·subst h;rw[dF]at e;cases e;exact ho o nF
  ·rw[hold q h]at e;exact r.fL q b' c z o (kb q hl) e nF
 ·by_cases h1:q=t <;> by_cases h2:q'=t
  ·omega
  ·subst h1;rw[dF]at e;cases e;rw[hold q' h2]at e';exact(ht q' c' z' (kb q' h') e').elim
  ·subst h2;rw[dF]at e';cases e';rw[hold q h1]at e;exact(ht q c z (kb q h) e).elim
  ·rw[hold q h1]at e;rw[hold q' h2]at e';exact r.gS q q' b' c z c' z' (kb q h) (kb q' h') e e'
def Map.fix (M:Map) (b lo:Nat) (us:List Value):Map:=
 {M with G:=fun b' o=>if b'=b∧lo≤o∧o<lo+us.length then us[o - lo]? else M.G b' o}
theorem Rel.alR (r:Rel M s w) (t n m b cap z size:Nat) (us:List Value) (hz:zs z=size) (Ip:s.au[t]? = some (some n)) (jK:M.be t=some (b,cap,z)) (Gj:us.length=m*size) (gk:n+m≤cap) (hm:0<m)
 (h1 : ∀ u∈us,u.oneCell'=true) (vs:Array Value) (T:TypeId) (hh:w.heap[b]? = some (.cells vs T (0,0))) (dJ:vs.size=cap*size) (hy:(z=0→T=sw)∧∀ u∈vs,u.oneCell'=true) :
 Rel (M.fix b (n*size) us) {s with au:=s.au.set t (some (n+m))} (w.setRow b (vs.toList.take (n*size)++us++vs.toList.drop (n*size+us.length)).toArray)∧
 Ext M s w (M.fix b (n*size) us) {s with au:=s.au.set t (some (n+m))} (w.setRow b (vs.toList.take (n*size)++us++vs.toList.drop (n*size+us.length)).toArray):=by
 have Bo:t<s.au.length:=(zac.1 Ip).1
 have Bp:s.live t:=⟨n,Ip⟩
 have Tt : ∀ off,n*size≤off→M.G b off=none:=by
  rcases r.tok t n Ip with ⟨h3,_⟩|⟨b',sR,Cv,gf,T',h3,h4,h5,h6,h7⟩
  ·rw[jK]at h3;cases h3
  ·rw[jK]at h3;cases h3;rw[← hz];exact h7.1
 have gT:n*size+us.length≤vs.size:=by rw[Gj,dJ, ← zbm];exact zaR _ gk
 have kb : ∀ q,St.live {s with au:=s.au.set t (some (n+m))} q→s.live q:=by
  rintro q ⟨k,hk⟩
  rw[zaM]at hk
  split at hk
  ·rename_i h;subst h;exact Bp
  ·exact⟨k,hk⟩
 generalize dF:(vs.toList.take (n*size)++us++vs.toList.drop (n*size+us.length)).toArray=kx
 have uH:kx.size=vs.size:=by rw[← dF];simp;omega
 have hZ : ∀ i,kx[i]? = if i<n*size then vs[i]? else if i<n*size+us.length then us[i - n*size]? else vs[i]? :=by
  intro i
  rw[← dF]
  simp only[zbD]
  have hl:(vs.toList.take (n*size)).length=n*size:=by simp;omega
  split
  ·rename_i h3
   rw[zaB,zai (by omega),zbn h3];simp
  ·rename_i h3
   rw[zaB,zao (by omega),hl]
   split
   ·rename_i h4
    rw[zai (by omega)]
   ·rename_i h4
    rw[zao (by omega),zbq]
    rw[show n*size+us.length+(i - n*size - us.length)=i by omega];simp
 have dL:(w.setRow b kx).heap[b]? = some (.cells kx T (0,0)):=setRow_heap w b vs kx T (0,0) hh
 have oj : ∀ q,q≠b→(w.setRow b kx).heap[q]? = w.heap[q]? :=fun q hq=>setRow_other w b q _ hq
 have le:Le M s (M.fix b (n*size) us) {s with au:=s.au.set t (some (n+m))}:=by
  refine⟨fun b' o v h=>?_,zak _,fun _ _=> .refl _,by simp,fun q k h e=>?_⟩
  ·show(if b'=b∧n*size≤o∧o<n*size+us.length then us[o - n*size]? else M.G b' o)=some v
   rw[if_neg]
   ·exact h
   ·rintro⟨rfl,h3,_⟩;rw[Tt o h3]at h;cases h
  ·rw [zaM]at e
   split at e
   ·rename_i h2;subst h2
    simp at e;subst e
    exact⟨n,Ip,by omega,fun h=>by omega⟩
   ·exact⟨k,e,zak _,fun _=>rfl⟩
 have s5 : ∀ b' o,b'≠b→(M.fix b (n*size) us).G b' o=M.G b' o:=fun b' o h=>by simp[Map.fix,h]
 refine⟨⟨fun b' o v e=>?_,fun o ds e=>?_,fun o ho off=>?_,r.inj,fun q k e=>?_,fun q b' c z o hl e nF=>r.fL q b' c z o (kb q hl) e nF,
  fun q q' b' c z c' z' h h' e e'=>r.gS q q' b' c z c' z' (kb q h) (kb q' h') e e'⟩, ?_⟩
 ·by_cases hb:b'=b
  ·subst hb
   rw[j9 dL,hZ]
   have e':(if b'=b'∧n*size≤o∧o<n*size+us.length then us[o - n*size]? else M.G b' o)=some v:=e
   by_cases h3:n*size≤o
   ·by_cases h4:o<n*size+us.length
    ·rw [if_pos ⟨rfl,h3,h4⟩]at e'
     rw[if_neg (by omega),if_pos h4]
     exact⟨e',h1 v (zad e')⟩
    ·rw[if_neg (fun h=>h4 h.2.2),Tt o h3]at e';cases e'
   ·rw [if_neg (fun h=>h3 h.2.1)]at e'
    obtain⟨h5,h6⟩:=r.comm b' o v e'
    rw[j9 hh]at h5
    rw[if_pos (by omega)]
    exact⟨h5,h6⟩
  ·rw [s5 b' o hb]at e
   obtain⟨h5,h6⟩:=r.comm b' o v e
   refine⟨?_,h6⟩
   rw[← h5]
   simp[World.cell?,oj b' hb]
 ·obtain⟨gf,T',h3,h4,h5,h6⟩:=r.obj o ds e
  have ho:o<s.ag.length:=(zac.1 e).1
  refine⟨gf,T', ?_,h4,h5,fun i d v e1 e2=>(h6 i d v e1 e2).mono le⟩
  exact h3.keep (oj _ (r.fL t b cap z o Bp jK ho))
 ·show(M.fix b (n*size) us).G (M.mu o) off=none
  rw[s5 _ _ (r.fL t b cap z o Bp jK ho)];exact r.kU o ho off
 ·rw [zaM]at e
  split at e
  ·rename_i h2;subst h2
   simp at e;subst e
   refine .inr ⟨b,cap,z,kx,T,jK,dL,by rw[uH,dJ,hz],gk,fun off ho=>?_,hy.1,fun u hu=>?_⟩
   ·rw [hz]at ho
    show(if b=b∧n*size≤off∧off<n*size+us.length then us[off - n*size]? else M.G b off)=none
    rw[zbm]at ho
    rw[if_neg (by rintro⟨_,_,h⟩;omega)]
    exact Tt off (by omega)
   ·rw [← dF]at hu
    simp at hu
    rcases hu with hu|hu|hu
    ·exact hy.2 u (zaQ.1 (za0 hu))
    ·exact h1 u hu
    ·exact hy.2 u (zaQ.1 (zbw hu))
  ·rename_i h2
   rcases r.tok q k e with h3|⟨b',sR,Cv,gf,T',h3,h4,h5,h6,h7⟩
   ·exact .inl h3
   ·have dj:b'≠b:=fun h=>h2 (r.gS t q b cap z sR Cv Bp ⟨k,e⟩ jK (by rw [h3,h]))
    exact .inr ⟨b',sR,Cv,gf,T',h3,by rw[oj b' dj];exact h4,h5,h6,fun off ho=>by rw[s5 b' off dj];exact h7.1 off ho,h7.2⟩
 ·refine⟨le,fun q _ _ h4=>oj q (fun h=>h4 t cap z Bp (by rw [jK,h])),fun o h3 h4=>by simp at h4;rcases h3 with h3 | h3;omega;exact(h3 rfl).elim,fun q b' c z h e=> .inl ⟨kb q h,c,z,e⟩,fun b' o h=> ?_,by simp,rfl,rfl,rfl⟩
  by_cases hb:b'=b
  ·exact .inr ⟨t,cap,z,Bp,by rw[jK,hb]⟩
  ·exact(h (s5 b' o hb)).elim
theorem Rel.freeze (r:Rel M s w) {b:Nat} (off n:Nat) (ho : ∀ o,o<s.ag.length→M.mu o≠b) (ht : ∀ t c z,s.live t→M.be t≠some (b,c,z)) :
 Rel M s (w.freeze ⟨b,off,none⟩ n)∧(∀ q,q≠b→(w.freeze ⟨b,off,none⟩ n).heap[q]? = w.heap[q]?)∧(w.freeze ⟨b,off,none⟩ n).heap.size=w.heap.size∧
 (w.freeze ⟨b,off,none⟩ n).os=w.os∧(w.freeze ⟨b,off,none⟩ n).tape=w.tape∧(w.freeze ⟨b,off,none⟩ n).output=w.output:=by
 by_cases hn:n=0
 ·simp[World.freeze,hn,r]
 ·have hh : ∀ q,q≠b→(w.freeze ⟨b,off,none⟩ n).heap[q]? = w.heap[q]? :=fun q hq=>by
   simp[World.freeze,hn,zbW,Ne.symm hq]
  have jS : ∀ q o,(w.freeze ⟨b,off,none⟩ n).cell? ⟨q,o,none⟩=w.cell? ⟨q,o,none⟩:=by
   intro q o
   by_cases hq:q=b
   ·subst hq
    unfold World.cell?
    simp only[World.freeze,hn,if_false,zbW,if_true]
    cases h:w.heap[q]? with
    |none=>rfl
    |some x=>cases x<;>rfl
   ·simp[World.cell?,hh q hq]
  refine⟨⟨fun q o v e=>?_,fun o ds e=>?_,r.kU,r.inj,fun t k e=>?_,r.fL,r.gS⟩,hh,by simp[World.freeze,hn],by simp[World.freeze,hn],by simp[World.freeze,hn],by simp[World.freeze,hn]⟩
  ·rw[jS];exact r.comm q o v e
  ·obtain⟨vs,T,h1,h2⟩:=r.obj o ds e
   exact⟨vs,T,h1.keep (hh _ (ho o (zac.1 e).1)),h2⟩
  ·rcases r.tok t k e with h3 | ⟨b',cap,size,vs,T,h3,h4,h5⟩
   ·exact .inl h3
   ·refine .inr ⟨b',cap,size,vs,T,h3, ?_,h5⟩
    rw[hh]
    ·exact h4
    ·rintro rfl;exact ht t cap size ⟨k,e⟩ h3
theorem Rel.alS (r:Rel M s w) (t:Nat):Rel M {s with au:=s.au.set t none} w∧Le M s M {s with au:=s.au.set t none}:=by
 have kb : ∀ q,St.live {s with au:=s.au.set t none} q→s.live q:=by
  rintro q ⟨k,hk⟩
  rw[zaM]at hk
  split at hk
  ·split at hk<;>simp at hk
  ·exact⟨k,hk⟩
 have xe : ∀ (q k:Nat),(s.au.set t none)[q]? = some (some k)→s.au[q]? = some (some k):=by
  intro q k e
  rw[zaM]at e
  split at e
  ·split at e<;>simp at e
  ·exact e
 have le:Le M s M {s with au:=s.au.set t none}:=
  ⟨fun _ _ _ h=>h,zak _,fun _ _=> .refl _,by simp,fun q k _ e=>⟨k,xe q k e,zak _,fun _=>rfl⟩⟩
 refine⟨⟨r.comm,fun o ds e=>?_,r.kU,r.inj,fun q k e=>r.tok q k (xe q k e),fun q b' c z o hl e nF=>r.fL q b' c z o (kb q hl) e nF,
  fun q q' b' c z c' z' h h' e e'=>r.gS q q' b' c z c' z' (kb q h) (kb q' h') e e'⟩,le⟩
 obtain⟨gf,T',h3,h4,h5,h6⟩:=r.obj o ds e
 exact⟨gf,T',h3,h4,h5,fun i d v e1 e2=>(h6 i d v e1 e2).mono le⟩
end
end Go.Abs
namespace Go.Abs
section
variable {M:Map} {s:St} {w:World}
theorem RD.jz {k:IntKind} {n:Int} {v:Value} (h:RD M s (.int k n) v):v = .int k n:=by cases h;rfl
theorem RD.qt {b:Bool} {v:Value} (h:RD M s (.bool b) v):v = .bool b:=by cases h;rfl
theorem RD.nw {l:List UInt8} {v:Value} (h:RD M s (.str l) v):v = .string ⟨⟨l⟩⟩:=by cases h;rfl
theorem RD.vD {v:Value} (h:RD M s .fJ v):v = .pointer none:=by cases h;rfl
theorem RD.vE {o off:Nat} {v:Value} (h:RD M s (.ptr o off) v):v = .pointer (some ⟨M.mu o,off,none⟩)∧o<s.ag.length:=by
 cases h with|ptr _ _ h hm=>exact⟨rfl,h⟩
theorem RD.D8 {o off:Nat} {v:Value} (h:RD M s (.ptr o off) v):(M.ob o).plain:=by cases h with|ptr _ _ h hm=>exact hm
theorem RD.N2 {o:Nat} {v:Value} (h:RD M s (.iC o) v):v = .map (some (M.mu o))∧o<s.ag.length∧M.ob o = .map:=by cases h with|iC _ h hm=>exact⟨rfl,h,hm⟩
theorem RD.Bq {z o g len:Nat} {v:Value} (h:RD M s (.dr z o g len) v) : ∃ b cap A,v = .slice (some ⟨b,0,none⟩) len cap∧o<s.ag.length∧M.ob o = .arr z A∧A g=some (b,cap)∧len≤cap:=by
 cases h with|dr _ _ _ _ b cap A h hm ha hl=>exact⟨b,cap,A,rfl,h,hm,ha,hl⟩
theorem RD.G8 {o g off:Nat} {v:Value} (h:RD M s (.fK o g off) v) : ∃ z b cap A,v = .pointer (some ⟨b,off,none⟩)∧o<s.ag.length∧M.ob o = .arr z A∧A g=some (b,cap):=by
 cases h with|fK z _ _ _ b cap A h hm ha=>exact⟨z,b,cap,A,rfl,h,hm,ha⟩
theorem RD.G9 {z:Nat} {v:Value} (h:RD M s (.ew z) v) : ∃ a,v = .slice a 0 0:=by cases h with|ew _ a=>exact⟨a,rfl⟩
theorem RD.R3 {f:Nat} {ds:List D} {v:Value} (h:RD M s (.iL f ds) v) : ∃ vs:Array Value,v = .func (.func f) #[] vs∧ds.length=vs.size∧
 ∀ (i:Nat) (d:D) (v:Value),ds[i]? = some d→vs[i]? = some v→RD M s d v:=by
 cases h with|iL _ _ vs h1 h2=>exact⟨vs,rfl,h1,h2⟩
theorem RD.Cw {row:List D} {off:Nat} {v:Value} (h:RD M s (.dW row off) v) : ∃ b k,v = .pointer (some ⟨b,k+off,none⟩)∧
 (∀ (i:Nat) (d:D),row[i]? = some d→∃ u,M.G b (k+i)=some u)∧(∀ (i:Nat) (d:D) (u:Value),row[i]? = some d→M.G b (k+i)=some u→RD M s d u):=by
 cases h with|dW _ _ b k h1 h2=>exact⟨b,k,rfl,h1,h2⟩
theorem RD.J4 {ds:List D} {v:Value} (h:RD M s (.agg ds) v) : ∃ vs:Array Value,v = .agg vs∧ds.length=vs.size∧(∀ v∈vs,v.oneCell'=true)∧
 ∀ (i:Nat) (d:D) (v:Value),ds[i]? = some d→vs[i]? = some v→RD M s d v:=by
 cases h with|agg _ vs h1 h2 h3=>exact⟨vs,rfl,h1,h2,h3⟩
theorem RD.Lw {ds:List D} {v:Value} (h:RD M s (.tuple ds) v) : ∃ vs:Array Value,v = .tuple vs∧ds.length=vs.size∧
 ∀ (i:Nat) (d:D) (v:Value),ds[i]? = some d→vs[i]? = some v→RD M s d v:=by
 cases h with|tuple _ vs h1 h2=>exact⟨vs,rfl,h1,h2⟩
theorem RD.undef:RD M s (.tuple []) Go.undef:= .tuple [] #[] rfl (fun i d v h=>by simp at h)
theorem RD.kG {g:Tag} {z:Nat} {rows:List (List D)} {v:Value} (h:RD M s (.slice g z rows) v) :
 (rows = []∧v = .slice none 0 0∧ko M s g z 0 none 0)∨(rows = []∧g = .shared∧∃ a cap,v = .slice (some a) 0 cap)∨
 ∃ b k cap,v = .slice (some ⟨b,k,none⟩) rows.length cap∧rows.length≤cap∧(∀ row∈rows,row.length=z)∧
  (∀ (i:Nat) (row:List D) (j:Nat) (d:D),rows[i]? = some row→row[j]? = some d→∃ u,M.G b (k+(i*z+j))=some u)∧
  (∀ (i:Nat) (row:List D) (j:Nat) (d:D) (u:Value),rows[i]? = some row→row[j]? = some d→M.G b (k+(i*z+j))=some u→RD M s d u)∧
  ko M s g z rows.length (some (b,k)) cap:=by
 cases h with
 |jw _ _ cap hc ht=>subst hc;exact .inl ⟨rfl,rfl,ht⟩
 |lY _ a cap=>exact .inr (.inl ⟨rfl,rfl,a,cap,rfl⟩)
 |slice _ _ _ b k cap hl hs h1 h2 ht=>exact .inr (.inr ⟨b,k,cap,rfl,hl,hs,h1,h2,ht⟩)
theorem RD.row {d:D} {v:Value} (h:RD M s d v) {r:List D} (hr:d.row=some r):v.cells.size=r.length∧(∀ u∈v.cells,u.oneCell'=true)∧
 ∀ (i:Nat) (d':D) (u:Value),r[i]? = some d'→v.cells[i]? = some u→RD M s d' u:=by
 have one : ∀ (x:Value),x.oneCell'=true→x.cells = #[x]:=by intro x hx;cases x<;>first|rfl|(simp[Value.oneCell']at hx)
 have go : ∀ (x:Value),x.oneCell'=true→RD M s d x→d.row=some [d]→x.cells.size=r.length∧(∀ u∈x.cells,u.oneCell'=true)∧
  ∀ (i:Nat) (d':D) (u:Value),r[i]? = some d'→x.cells[i]? = some u→RD M s d' u:=by
  intro x hx hd h1
  rw[h1]at hr;cases hr
  rw[one x hx]
  refine⟨rfl,by simp[hx],fun i d' u e1 e2=>?_⟩
  cases i with
  |zero=>simp at e1 e2;subst e1;subst e2;exact hd
  |succ i=>simp at e1
 cases h with
 |junk v=>cases hr
 |int k n=>exact go _ rfl (.int k n) rfl
 |bool b=>exact go _ rfl (.bool b) rfl
 |str l=>exact go _ rfl (.str l) rfl
 |fJ=>exact go _ rfl .fJ rfl
 |val v hv=>exact go _ hv (.val v hv) rfl
 |gd T o v h ht hv=>exact go _ (by rcases hv with rfl|rfl<;>rfl) (.gd T o v h ht hv) rfl
 |ptr o off h hm=>exact go _ rfl (.ptr o off h hm) rfl
 |iL f ds vs hl h=>exact go _ rfl (.iL f ds vs hl h) rfl
 |iC o h hm=>exact go _ rfl (.iC o h hm) rfl
 |dW row off b k h1 h2=>exact go _ rfl (.dW row off b k h1 h2) rfl
 |jw g z cap hc ht=>exact go _ rfl (.jw g z cap hc ht) rfl
 |lY z a cap=>exact go _ rfl (.lY z a cap) rfl
 |slice g z rows b k cap hl hs h1 h2 ht=>exact go _ rfl (.slice g z rows b k cap hl hs h1 h2 ht) rfl
 |dr z o g len b cap A h hm ha hl=>exact go _ rfl (.dr z o g len b cap A h hm ha hl) rfl
 |fK z o g off b cap A h hm ha=>exact go _ rfl (.fK z o g off b cap A h hm ha) rfl
 |ew z a=>exact go _ rfl (.ew z a) rfl
 |agg cells vs hl h1 h2=>cases hr;exact⟨hl.symm,h1,h2⟩
 |tuple ds vs hl h1=>cases hr
theorem tB {v:Value} {d:D} (h:vB v=some d):RD M s d v∧v.oneCell'=true:=by
 unfold vB at h
 split at h<;>first|(cases h;done)|skip
 ·cases h;exact⟨.int _ _,rfl⟩
 ·cases h;exact⟨.bool _,rfl⟩
 ·cases h;exact⟨.str _,rfl⟩
 ·cases h;exact⟨.fJ,rfl⟩
 ·cases h;exact⟨.jw _ _ 0 rfl rfl,rfl⟩
 ·cases h;exact⟨.val _ rfl,rfl⟩
 ·cases h;exact⟨.val _ rfl,rfl⟩
 ·cases h;exact⟨.val _ rfl,rfl⟩
theorem ny : ∀ {vs:List Value} {ds:List D},qs vs=some ds→ds.length=vs.length∧(∀ v∈vs,v.oneCell'=true)∧
 ∀ (i:Nat) (d:D) (v:Value),ds[i]? = some d→vs[i]? = some v→RD M s d v
 | [],ds,h=>by cases h;exact⟨rfl,by simp,by simp⟩
 | v::r,ds,h=>by
  unfold qs at h
  split at h
  ·rename_i d qi h1 h2
   cases h
   obtain⟨a,b⟩:=tB (M:=M) (s:=s) h1
   obtain⟨i1,i2,i3⟩:=ny h2
   refine⟨by simp[i1],fun u hu=>?_,fun i d' u e1 e2=>?_⟩
   ·rcases zaq.1 hu with rfl | hu
    ·exact b
    ·exact i2 u hu
   ·cases i with
    |zero=>simp at e1 e2;subst e1;subst e2;exact a
    |succ i=>simp at e1 e2;exact i3 i d' u e1 e2
  ·cases h
theorem J5 {v:Value} {d:D} (h:G7 v=some d):RD M s d v∧v.oneCell'=true:=by
 unfold G7 at h
 split at h
 ·cases h;exact⟨.val _ rfl,rfl⟩
 ·exact tB h
theorem zv : ∀ {vs:List Value} {ds:List D},zu vs=some ds→ds.length=vs.length∧(∀ v∈vs,v.oneCell'=true)∧
 ∀ (i:Nat) (d:D) (v:Value),ds[i]? = some d→vs[i]? = some v→RD M s d v
 | [],ds,h=>by cases h;exact⟨rfl,by simp,by simp⟩
 | v::r,ds,h=>by
  unfold zu at h
  split at h
  ·rename_i d qi h1 h2
   cases h
   obtain⟨g1,g2⟩:=J5 (M:=M) (s:=s) h1
   obtain⟨k1,k2,k3⟩:=zv h2
   refine⟨by simp[k1],fun u hu=>?_,fun i d' u e1 e2=>?_⟩
   ·rcases zaq.1 hu with rfl | hu
    ·exact g2
    ·exact k2 u hu
   ·cases i with
    |zero=>simp at e1 e2;subst e1;subst e2;exact g1
    |succ i=>exact k3 i d' u (by simpa using e1) (by simpa using e2)
  ·cases h
theorem Gk {b:Bool} {vs:List Value} {ds:List D} (h:Tr b vs=some ds):ds.length=vs.length∧(∀ v∈vs,v.oneCell'=true)∧
 ∀ (i:Nat) (d:D) (v:Value),ds[i]? = some d→vs[i]? = some v→RD M s d v:=by
 unfold Tr at h
 split at h
 ·exact zv h
 ·exact ny h
theorem Tv {v:Value} {d:D} (h:Tp v=some d):RD M s d v:=by
 unfold Tp at h
 split at h
 ·rename_i cs
  cases hc:qs cs.toList with
  |none=>rw[hc]at h;cases h
  |some ds=>
   rw[hc]at h;cases h
   obtain⟨h1,h2,h3⟩:=ny (M:=M) (s:=s) hc
   exact .agg ds cs (by simpa using h1) (fun v hv=>h2 v (by simpa using hv)) (fun i d v e1 e2=>h3 i d v e1 (by simpa using e2))
 ·cases h;exact .undef
 ·exact(tB h).1
def oo (M:Map) (s:St) (tm:Tm) (tmps:Array Value):Prop:=∀ t,RD M s (tm.get t) (tmps.getD t Go.undef)
theorem oo.mono {M':Map} {s':St} {tm:Tm} {tmps:Array Value} (h:oo M s tm tmps) (le:Le M s M' s'):oo M' s' tm tmps:=fun t=>(h t).mono le
theorem cQ {x:Operand} {y:X} (h:cX x=some y) {tm:Tm} {act:Act} (hr:oo M s tm act.tmps):RD M s (y.ev tm) (act.eval x):=by
 unfold cX at h
 split at h
 ·cases h;exact hr _
 ·rename_i v
  cases hv:Tp v with
  |none=>rw[hv]at h;cases h
  |some d=>rw[hv]at h;cases h;exact Tv hv
 ·cases h;exact .iL _ [] #[] rfl (by simp)
 ·cases h
theorem Tm.Fu (tm:Tm) (t:Nat) (d:D) (u:Nat):(tm.set t d).get u=if u=t then d else tm.get u:=by
 induction tm with
 |nil=>
  simp only[Tm.set,Tm.get]
  by_cases h:t=u
  ·simp[h]
  ·rw[if_neg h,if_neg (fun e=>h e.symm)]
 | cons p r ih=>
  obtain⟨k,e⟩:=p
  simp only[Tm.set]
  split
  ·rename_i h
   subst h
   simp only[Tm.get]
   by_cases h:k=u
   ·simp[h]
   ·rw[if_neg h,if_neg (fun e=>h e.symm),if_neg h]
  ·rename_i h
   simp only[Tm.get,ih]
   by_cases h1:k=u
   ·subst h1;simp[h]
   ·simp[h1]
theorem oo.put {tm:Tm} {act:Act} (h:oo M s tm act.tmps) {dst:Option Nat} (hd : ∀ t,dst=some t→t<act.tmps.size) {d:D} {v:Value} (hv:RD M s d v) :
 oo M s (tm.put dst d) (act.put dst v).tmps:=by
 intro u
 cases dst with
 |none=>exact h u
 | some t=>
  simp only[Tm.put,Act.put,Tm.Fu]
  have ht:=hd t rfl
  by_cases hu:u=t
  ·subst hu
   simp[ht];exact hv
  ·rw [if_neg hu]
   have:=h u
   simpa[zbL (fun e=>hu e.symm)]using this
theorem iE (P:Program) {t:TypeId} {i:TypeInfo} (h:P.info? t=some i) (w:World):(typeInfo t).run P w = .ok i w:=by
 simp[typeInfo,h]
theorem oR (b o n:Nat):Addr.add ⟨b,o,none⟩ n = ⟨b,o+n,none⟩:=Addr.add_lit b o n
theorem Cx (P:Program) {t:TypeId} {i:TypeInfo} {agg:Bool} (hi:P.info? t=some i) (ha:uG P t=some agg) (b k:Nat) (us:List Value)
 (hl:us.length=if agg then i.size else 1) (h : ∀ (j:Nat) (u:Value),us[j]? = some u→w.cell? ⟨b,k+j,none⟩=some u) :
 (loadVar t ⟨b,k,none⟩).run P w = .ok (if agg then .agg us.toArray else us.getD 0 Go.undef) w:=by
 have D9:(isAgg t).run P w = .ok agg w:=by
  unfold uG at ha
  unfold isAgg
  cases hu:P.underlying t with
  |none=>rw[hu]at ha;cases ha
  |some d=>
   rw[hu]at ha
   simp only[Sem.run_bind,run_underlying hu,Result.andThen_ok]
   cases d<;>simp_all
 cases agg with
 |true=>
  simp only[if_true]at hl ⊢
  have hc:=run_loadCells_list (P:=P) w ⟨b,k,none⟩ us (fun j v e=>by rw[oR];exact h j v e)
  simp[loadVar,D9,sizeOf,iE P hi, ← hl,hc]
 | false=>
  simp only[zab,if_false]at hl ⊢
  match us,hl with
  | [u],_=>
   have:=h 0 u rfl
   simp only[zaP]at this
   simp[loadVar,D9,this]
theorem ug {cs:List D} {off:Nat} {agg:Bool} {size:Nat} {d:D} (h:part cs off agg size=some d) :
 (agg=true∧off+size≤cs.length∧d = .agg ((cs.drop off).take size))∨(agg=false∧cs[off]? = some d):=by
 unfold part at h
 split at h
 ·split at h
  ·cases h;exact .inl ⟨rfl, ‹_›,rfl⟩
  ·cases h
 ·exact .inr ⟨rfl,h⟩
theorem uI {cs:List D} {off size:Nat} {agg:Bool} {d:D} (h:part cs off agg size=some d) (us:List Value) (hl:us.length=if agg then size else 1)
 (ig:agg=true→∀ u∈us,u.oneCell'=true)
 (hr : ∀ (j:Nat) (d:D) (u:Value),cs[off+j]? = some d→us[j]? = some u→RD M s d u):RD M s d (if agg then .agg us.toArray else us.getD 0 Go.undef):=by
 rcases ug h with ⟨rfl,h1,rfl⟩|⟨rfl,h1⟩
 ·simp only [if_true]at hl ⊢
  refine .agg _ _ (by simp[hl];omega) (fun v hv=>ig rfl v (by simpa using hv)) (fun i d v e1 e2=>?_)
  rw[zaY]at e1
  split at e1
  ·rw [zbq]at e1
   exact hr i d v e1 (by simpa using e2)
  ·cases e1
 ·simp only [zab,if_false]at hl ⊢
  match us,hl with
  | [u],_=>exact hr 0 d u (by simpa using h1) rfl
end
end Go.Abs
namespace Go.Abs
def dt (P:Program) (M:Map) (s:St) (w:World) (x:Sem Next) (d:D) (s':St):Prop:=
 ∃ v w' M',(x.run P w = .ok (.value v) w'∨(x.run P w = .ok .skip w'∧v=Go.undef))∧Rel M' s' w'∧RD M' s' d v∧Ext M s w M' s' w'
section
variable {P:Program} {M:Map} {s:St} {w:World}
theorem dt.pure {x:Sem Next} {d:D} {v:Value} (r:Rel M s w) (h:x.run P w = .ok (.value v) w) (hd:RD M s d v):dt P M s w x d s:=
 ⟨v,w,M, .inl h,r,hd,Ext.refl M s w⟩
theorem Tw (r:Rel M s w) {t:TypeId} {z:List D} (hz:zeroOf P t=some z) :
 dt P M s w (do pure (.value (← Instr.alloc t true (.tuple #[])))) (.ptr s.ag.length 0) {s with ag:=s.ag++ [z]}:=by
 unfold zeroOf at hz
 split at hz
 ·rename_i i hi
  split at hz
  ·rename_i v hv
   split at hz
   ·rename_i dJ
    obtain⟨h1,h2,h3⟩:=ny (M:=M) (s:=s) hz
    obtain⟨r',e'⟩:=r.eD z v.cells t (by rw[h1];simp) (fun u hu=>h2 u (by simpa using hu)) (fun i d u e1 e2=>h3 i d u e1 (by simpa using e2))
    refine⟨_,_,_, .inl ?_,r', .ptr _ _ (by simp) (by simp[Map.eD,Map.ob,Ob.plain]),e'⟩
    simp[Instr.alloc,zeroValue,iE P hi,hv,newVar,newRow,Map.eD,Map.mu]
   ·cases hz
  ·cases hz
 ·cases hz
theorem Q5 (r:Rel M s w) {t:TypeId} {z:List D} (hz:Cu P t=some (.fJ::z)) :
 dt P M s w (do pure (.value (← Instr.alloc t true (.tuple #[])))) (.ptr s.ag.length 0) {s with ag:=s.ag++ [.gd t s.ag.length::z]}:=by
 unfold Cu at hz
 split at hz
 ·rename_i i hi
  split at hz
  ·rename_i v hv
   split at hz
   ·rename_i dJ
    obtain⟨h1,h2,h3⟩:=Gk (M:=M) (s:=s) hz
    obtain⟨r',e'⟩:=r.N1 (.gd t s.ag.length::z) v.cells t (.ty t) trivial (fun _ h=>by cases h;rfl) (by simp at h1 ⊢;omega) (fun u hu=>h2 u (by simpa using hu)) (fun i d u e1 e2=>by
     cases i with
     |zero=>
      simp at e1;subst e1
      have:=(h3 0 .fJ u rfl (by simpa using e2)).vD
      exact .gd t _ u (by simp) (by simp[Map.eD,Map.ty,Ob.ty?]) (.inl this)
     |succ i=>exact(h3 (i+1) d u (by simpa using e1) (by simpa using e2)).mono (vC s w.heap.size _ _))
    refine⟨_,_,_, .inl ?_,r', .ptr _ _ (by simp) (by simp[Map.eD,Map.ob,Ob.plain]),e'⟩
    simp[Instr.alloc,zeroValue,iE P hi,hv,newVar,newRow,Map.eD,Map.mu]
   ·cases hz
  ·cases hz
 ·cases hz
theorem Z0 (r:Rel M s w) {t:TypeId} {d:D} {v:Value} {row:List D} (hd:RD M s d v) (hr:d.row=some row) :
 dt P M s w (do pure (.value (← Instr.box t v))) (.ptr s.ag.length 0) {s with ag:=s.ag++ [row]}:=by
 obtain⟨h1,h2,h3⟩:=hd.row hr
 obtain⟨r',e'⟩:=r.eD row v.cells t h1 h2 h3
 refine⟨_,_,_, .inl ?_,r', .ptr _ _ (by simp) (by simp[Map.eD,Map.ob,Ob.plain]),e'⟩
 simp[Instr.box,newVar,newRow,Map.eD,Map.mu]
theorem WJ (r:Rel M s w) {t:TypeId} {d:D} {v:Value} {row:List D} (hd:RD M s d v) (hr:d.row=some (.fJ::row)) :
 dt P M s w (do pure (.value (← Instr.box t v))) (.ptr s.ag.length 0) {s with ag:=s.ag++ [.gd t s.ag.length::row]}:=by
 obtain⟨h1,h2,h3⟩:=hd.row hr
 obtain⟨r',e'⟩:=r.N1 (.gd t s.ag.length::row) v.cells t (.ty t) trivial (fun _ h=>by cases h;rfl) (by simp at h1 ⊢;omega) h2 (fun i d u e1 e2=>by
  cases i with
  |zero=>
   simp at e1;subst e1
   have:=(h3 0 .fJ u rfl e2).vD
   exact .gd t _ u (by simp) (by simp[Map.eD,Map.ty,Ob.ty?]) (.inl this)
  |succ i=>exact(h3 (i+1) d u (by simpa using e1) e2).mono (vC s w.heap.size _ _))
 refine⟨_,_,_, .inl ?_,r', .ptr _ _ (by simp) (by simp[Map.eD,Map.ob,Ob.plain]),e'⟩
 simp[Instr.box,newVar,newRow,Map.eD,Map.mu]
theorem MR (r:Rel M s w) {t:TypeId} {i:TypeInfo} {agg:Bool} (hi:P.info? t=some i) (ha:uG P t=some agg) {o off:Nat} {cs:List D} {d:D}
 (ho:s.ag[o]? = some cs) (hk:(M.ob o).plain) (hp:part cs off agg i.size=some d) :
 dt P M s w (do pure (.value (← Instr.loadAt t (.pointer (some ⟨M.mu o,off,none⟩))))) d s:=by
 obtain⟨vs,T,hh,dJ,⟨ig,_⟩,jy⟩:=r.obj o cs ho
 replace hh:w.heap[M.mu o]? = some (.cells vs T (0,0)):=hh.cells hk
 let n:=if agg then i.size else 1
 have gT:off+n≤vs.size:=by
  rcases ug hp with ⟨rfl,h1,_⟩|⟨rfl,h1⟩
  ·simp[n];omega
  ·have:=(zac.1 h1).1;simp[n];omega
 have hlen:((vs.toList.drop off).take n).length=n:=by simp;omega
 have hZ : ∀ (j:Nat) (u:Value),((vs.toList.drop off).take n)[j]? = some u→vs[off+j]? = some u:=by
  intro j u h
  rw[zaY]at h
  split at h
  ·rw[zbq]at h;simpa using h
  ·cases h
 have ek:=Cx (w:=w) P hi ha (M.mu o) off ((vs.toList.drop off).take n) hlen (fun j u h=>by rw[j9 hh];exact hZ j u h)
 refine dt.pure (v:=if agg then .agg ((vs.toList.drop off).take n).toArray else((vs.toList.drop off).take n).getD 0 Go.undef) r (by simp[Instr.loadAt,Instr.sureAddr,ek]) ?_
 refine uI hp _ hlen (fun _ u hu=>ig u ?_) (fun j d u e1 e2=>jy _ d u e1 (hZ j u e2))
 exact zaQ.1 (zbw (za0 hu))
theorem Cy {b:Nat} : ∀ (n k:Nat),(∀ j,j<n→∃ u,M.G b (k+j)=some u)→∃ us:List Value,us.length=n∧∀ (j:Nat) (u:Value),us[j]? = some u→M.G b (k+j)=some u
 | 0,_,_=>⟨[],rfl,fun j u h=>by simp at h⟩
 |n+1,k,h=>by
  obtain⟨u0,h0⟩:=h 0 (by omega)
  obtain⟨us,h1,h2⟩:=Cy n (k+1) (fun j hj=>by obtain⟨u,hu⟩:=h (j+1) (by omega);exact⟨u,by rw[show k+1+j=k+(j+1) by omega];exact hu⟩)
  refine⟨u0::us,by simp[h1],fun j u hj=>?_⟩
  cases j with
  |zero=>simp at hj;subst hj;exact h0
  |succ j=>simp at hj;have:=h2 j u hj;rw[show k+(j+1)=k+1+j by omega];exact this
theorem MS (r:Rel M s w) {t:TypeId} {i:TypeInfo} {agg:Bool} (hi:P.info? t=some i) (ha:uG P t=some agg) {row:List D} {off b k:Nat} {d:D}
 (h1 : ∀ (i:Nat) (d:D),row[i]? = some d→∃ u,M.G b (k+i)=some u) (h2 : ∀ (i:Nat) (d:D) (u:Value),row[i]? = some d→M.G b (k+i)=some u→RD M s d u)
 (hp:part row off agg i.size=some d) :
 dt P M s w (do pure (.value (← Instr.loadAt t (.pointer (some ⟨b,k+off,none⟩))))) d s:=by
 let n:=if agg then i.size else 1
 have gT:off+n≤row.length:=by
  rcases ug hp with ⟨rfl,h1,_⟩|⟨rfl,h1⟩
  ·simp[n];omega
  ·have:=(zac.1 h1).1;simp[n];omega
 obtain⟨us,hl,Gj⟩:=Cy (M:=M) (b:=b) n (k+off) (fun j hj=>by
  obtain⟨d,hd⟩ : ∃ d,row[off+j]? = some d:=⟨_,zah (by omega)⟩
  obtain⟨u,hu⟩:=h1 _ d hd
  exact⟨u,by rw[show k+off+j=k+(off+j) by omega];exact hu⟩)
 have ek:=Cx (w:=w) P hi ha b (k+off) us hl (fun j u h=>(r.comm _ _ _ (Gj j u h)).1)
 refine dt.pure (v:=if agg then .agg us.toArray else us.getD 0 Go.undef) r (by simp[Instr.loadAt,Instr.sureAddr,ek]) ?_
 refine uI hp us hl (fun _ u hu=>?_) (fun j d u e1 e2=>h2 _ d u e1 (by rw[show k+(off+j)=k+off+j by omega];exact Gj j u e2))
 obtain⟨j,hj⟩:=List.mem_iff_getElem?.1 hu
 exact(r.comm _ _ _ (Gj j u hj)).2
theorem Tx (r:Rel M s w) {t:TypeId} {i:TypeInfo} (hi:P.info? t=some i) {o off:Nat} {cs row:List D} {d:D} {v:Value} (ho:s.ag[o]? = some cs) (hk:(M.ob o).plain)
 (hd:RD M s d v) (hr:d.row=some row) (hl:row.length=i.size) (gT:off+i.size≤cs.length) :
 dt P M s w (do Instr.storeAt t (.pointer (some ⟨M.mu o,off,none⟩)) v;pure .skip) (.tuple []) {s with ag:=s.ag.set o (fU cs off row)}:=by
 obtain⟨h1,h2,h3⟩:=hd.row hr
 obtain⟨w',ek,r',e'⟩:=r.J3 P ho hk row v.cells.toList (by simpa using h1) (by rw[hl];exact gT) (fun u hu=>h2 u (by simpa using hu)) (fun i d u e1 e2=>h3 i d u e1 (by simpa using e2))
 refine⟨Go.undef,w',M, .inr ⟨?_,rfl⟩,r', .undef,e'⟩
 have dJ:v.cells.size=i.size:=by omega
 simp[Instr.storeAt,Instr.sureAddr,storeVar,sizeOf,iE P hi,dJ,ek]
theorem Cz (r:Rel M s w) {d:D} {a:Addr} (hd:RD M s d (.pointer (some a))) :
 dt P M s w (pure (.value (.pointer (some a)))) d s:=dt.pure r rfl hd
theorem Ea {t:TypeId} {f off size:Nat} {agg:Bool} (h:oP P t f=some (off,size,agg)) (b k:Nat) :
 (Instr.fieldAt t (.pointer (some ⟨b,k,none⟩)) f).run P w = .ok (.pointer (some ⟨b,k+off,none⟩)) w:=by
 unfold oP at h
 split at h
 ·rename_i fs hu
  split at h
  ·rename_i fd hf
   split at h
   ·rename_i i a hi ha
    split at h
    ·cases h
    ·rename_i dj
     cases h
     simp[Instr.fieldAt,run_underlying hu,hf,Instr.sureAddr,fieldPlace,sizeOf,iE P hi,dj,oR]
   ·cases h
  ·cases h
 ·cases h
theorem WK {t:TypeId} {f off size:Nat} {agg:Bool} (h:oP P t f=some (off,size,agg)) (vs:Array Value) (us:List Value) (hl:us.length=if agg then size else 1)
 (hg : ∀ j,j<us.length→vs[off+j]? = us[j]?) :
 (Instr.field t (.agg vs) f).run P w = .ok (if agg then .agg us.toArray else us.getD 0 Go.undef) w:=by
 unfold oP at h
 split at h
 ·rename_i fs hu
  split at h
  ·rename_i fd hf
   split at h
   ·rename_i i a hi ha
    split at h
    ·cases h
    ·rename_i dj
     cases h
     have D9:(isAgg fd.type).run P w = .ok agg w:=by
      unfold uG at ha
      unfold isAgg
      cases hu:P.underlying fd.type with
      |none=>rw[hu]at ha;cases ha
      |some d=>
       rw[hu]at ha
       simp only[Sem.run_bind,run_underlying hu,Result.andThen_ok]
       cases d<;>simp_all
     cases agg with
     | true=>
      simp only[if_true]at hl ⊢
      have:vs.extract fd.offset (fd.offset+i.size)=us.toArray:=by
       apply Array.ext_getElem?
       intro j
       rw[Array.getElem?_extract]
       by_cases hj:j<us.length
       ·rw [← hl,if_pos (by
         have h1:=hg j hj
         rw[zah hj]at h1
         have:=(zaU.1 h1).1
         have h2:=hg (us.length - 1) (by omega)
         rw[zah (by omega)]at h2
         have:=(zaU.1 h2).1
         omega),hg j hj]
        simp
       ·have hn:us.toArray[j]? = none:=by simp;omega
        rw[hn,if_neg (by omega)]
      simp[Instr.field,run_underlying hu,hf,asAgg,Go.part,D9,sizeOf,iE P hi,this]
     | false=>
      simp only[zab,if_false]at hl ⊢
      match us,hl with
      | [u],_=>
       have:=hg 0 (by simp)
       simp at this
       simp[Instr.field,run_underlying hu,hf,asAgg,Go.part,D9,this]
   ·cases h
  ·cases h
 ·cases h
end
end Go.Abs
namespace Go.Abs
section
variable {P:Program} {M:Map} {s:St} {w:World}
theorem Ty {op : BinOp} {t : TypeId} {k : IntKind} {a b : Int} {d : D} (h : gu op k a b = some d) :
   ∃ v, (binOp op t (.int k a) (.int k b)).run P w = .ok v w ∧ RD M s d v := by
 cases op<;>simp only[gu]at h
 case shl|shr =>
   split at h
   · cases h
   · rename_i hb
     cases h
     refine ⟨_, ?_, .int _ _⟩
     simp only[binOp, Op.shift, if_neg hb]
     rfl
 case and|or|xor =>
   cases h
   refine ⟨_, ?_, .int _ _⟩
   simp only[binOp, Op.intBits, ne_eq, not_true_eq_false, if_false]
   rfl
 all_goals first
   |(cases h; done)
   | (split at h
      · cases h
      · cases h
        exact ⟨_, by simp[binOp, Op.intDiv, *], .int _ _⟩)
   |(cases h; exact ⟨_, by simp[binOp, Op.intArith], .int _ _⟩)
   |(cases h; exact ⟨_, by simp[binOp, Op.intCmp], .bool _⟩)
theorem Tz {op:BinOp} {t:TypeId} {a b:List UInt8} {d:D} (h:qH op a b=some d) :
 ∃ v,(binOp op t (.string ⟨⟨a⟩⟩) (.string ⟨⟨b⟩⟩)).run P w = .ok v w∧RD M s d v:=by
 have sz : ∀ l:List UInt8,(⟨⟨l⟩⟩:ByteArray).size=l.length:=fun _=>rfl
 cases op<;>simp only[qH]at h<;>first
  |(cases h;done)
  |skip
 case add=>
  split at h
  ·rename_i hl
   cases h
   refine⟨.string ⟨⟨a++b⟩⟩, ?_, .str _⟩
   have h1 : ¬ ((((⟨⟨a⟩⟩:ByteArray).size+(⟨⟨b⟩⟩:ByteArray).size:Nat):Int) > IntKind.i64.max):=by
    rw[sz,sz,IntKind.max_i64];simp only[aT]at hl;omega
   simp only[binOp,Op.stringOp,h1,if_false]
   simp only[Sem.run_pure]
   congr 2
  ·cases h
 case eql=>cases h;exact⟨_,by simp[binOp,Op.stringOp], .bool _⟩
 case neq=>cases h;exact⟨_,by simp[binOp,Op.stringOp], .bool _⟩
 case lss=>cases h;exact⟨_,by simp[binOp,Op.stringOp,bytesLess], .bool _⟩
theorem lr {op:BinOp} {t:TypeId} {x y:Operand} {a b:Value} (h:(∀ vs,a≠ .agg vs)∧a≠ .nilIface):(eqGuard op t x y a b).run P w = .ok () w:=by
 obtain⟨h1,h2⟩:=h
 cases a<;>first
  |exact(h2 rfl).elim
  |exact(h1 _ rfl).elim
  |(cases op<;>simp[eqGuard])
theorem Z1 (r:Rel M s w) {op:BinOp} {t:TypeId} {x y:Operand} {dx dy d:D} {a b:Value} (ha:RD M s dx a) (hb:RD M s dy b) (h:Az op dx dy=some d) :
 dt P M s w (do pure (.value (← (do eqGuard op t x y a b;binOp op t a b)))) d s:=by
 unfold Az at h
 split at h
 ·rename_i k n k' m
  split at h
  ·rename_i hk;subst hk
   rw[ha.jz,hb.jz]
   obtain⟨v,hv,hd⟩:=Ty (P:=P) (M:=M) (s:=s) (w:=w) (t:=t) h
   exact dt.pure r (by simp[lr (P:=P) (w:=w) (op:=op) (t:=t) (x:=x) (y:=y) (a:= .int k n) (b:= .int k m) ⟨by simp,by simp⟩,hv]) hd
  ·cases h
 ·rename_i l m
  rw[ha.nw,hb.nw]
  obtain⟨v,hv,hd⟩:=Tz (P:=P) (M:=M) (s:=s) (w:=w) (t:=t) h
  exact dt.pure r (by simp[lr (P:=P) (w:=w) (op:=op) (t:=t) (x:=x) (y:=y) (a:= .string ⟨⟨l⟩⟩) (b:= .string ⟨⟨m⟩⟩) ⟨by simp,by simp⟩,hv]) hd
 ·cases h
theorem RD.nH {v u:Value} (h:RD M s (.val v) u):u=v:=by cases h;rfl
theorem TA {k:FloatKind} {x y d:D} (h:tL (.ofInt k) x y=some d) : ∃ j n,x = .int j n∧d = .val (.float k (k.nearest n)):=by
 cases x<;>first|(cases h;done)|(cases h;exact⟨_,_,rfl,rfl⟩)
theorem TB {k:IntKind} {x y d:D} (h:tL (.toInt k) x y=some d) : ∃ s b n,x = .val (.float s b)∧(s.decode b).toInt .zero=some n∧(k.min≤n∧n≤k.max)∧d = .int k n:=by
 cases x with
 | val v=>
  cases v with
  | float s b=>
   simp only[tL]at h
   split at h
   ·rename_i n hn
    split at h
    ·rename_i hr;cases h;exact⟨_,_,_,rfl,hn,hr,rfl⟩
    ·cases h
   ·cases h
  |_=>cases h
 |_=>cases h
theorem WL {x y d:D} (h:tL .Ti x y=some d) : ∃ k a b,x = .val (.float k a)∧y = .val (.float k b)∧d = .val (.complex k a b):=by
 unfold tL at h
 split at h<;>first|(cases h;done)|skip
 all_goals (first|(rename_i heq;cases heq;done)|skip)
 all_goals
  split at h
  ·rename_i hk;subst hk;cases h;first|exact⟨_,_,_,rfl,rfl,rfl⟩|(rename_i heq _ _;cases heq)
  ·cases h
theorem WM {x y d:D} (h:tL .real x y=some d) : ∃ k a b,x = .val (.complex k a b)∧d = .val (.float k a):=by
 cases x with
 |val v=>cases v<;>first|(cases h;done)|(cases h;exact⟨_,_,_,rfl,rfl⟩)
 |_=>cases h
theorem WN {x y d:D} (h:tL .imag x y=some d) : ∃ k a b,x = .val (.complex k a b)∧d = .val (.float k b):=by
 cases x with
 |val v=>cases v<;>first|(cases h;done)|(cases h;exact⟨_,_,_,rfl,rfl⟩)
 |_=>cases h
theorem WO (r:Rel M s w) {op:BinOp} {o:FO} (ho:(o = .eq∧op = .eql)∨(o = .NU∧op = .add)∨(o = .WE∧op = .eql)) {t:TypeId} {x y:Operand} {dx dy d:D} {a b:Value} (ha:RD M s dx a) (hb:RD M s dy b) (h:tL o dx dy=some d) :
 dt P M s w (do pure (.value (← (do eqGuard op t x y a b;binOp op t a b)))) d s:=by
 unfold tL at h
 split at h<;>(try simp only[reduceCtorEq,false_and,true_and,false_or,or_false]at ho)
 ·rename_i k p k' q
  split at h<;>cases h
  rename_i hk;subst hk;subst ho
  cases ha.nH;cases hb.nH
  exact dt.pure r (by simp[lr (P:=P) (w:=w) (op:= .eql) (t:=t) (x:=x) (y:=y) (a:= .float k p) (b:= .float k q) ⟨by simp,by simp⟩,binOp,Op.floatCmp]) (.bool _)
 ·rename_i k p p' k' q q'
  split at h
  ·rename_i hk;subst hk;subst ho
   cases ha.nH;cases hb.nH
   split at h
   ·rename_i e f h1 h2
    cases h
    simp only[ZY]at h1 h2
    exact dt.pure r (by simp[lr (P:=P) (w:=w) (op:= .add) (t:=t) (x:=x) (y:=y) (a:= .complex k p p') (b:= .complex k q q') ⟨by simp,by simp⟩,binOp,Op.complexOp,Op.Complex.arith,Op.floatArith,h1,h2]) (.val _ rfl)
   ·cases h
  ·cases h
 ·rename_i k p p' k' q q'
  split at h<;>cases h
  rename_i hk;subst hk;subst ho
  cases ha.nH;cases hb.nH
  exact dt.pure r (by simp[lr (P:=P) (w:=w) (op:= .eql) (t:=t) (x:=x) (y:=y) (a:= .complex k p p') (b:= .complex k q q') ⟨by simp,by simp⟩,binOp,Op.complexOp,Op.Complex.cmp,Op.floatCmp,asBool]) (.bool _)
 ·cases h
theorem Z2 (r:Rel M s w) {neg:Bool} {t:TypeId} {x y:Operand} {p q:Bool} (ht:P.underlying t=some .bool) :
 dt P M s w (do pure (.value (← (do eqGuard (if neg then .neq else .eql) t x y (.bool p) (.bool q);binOp (if neg then .neq else .eql) t (.bool p) (.bool q))))) (.bool (if neg then !(p==q)else p==q)) s:=by
 refine dt.pure (v:= .bool (if neg then !(p==q)else p==q)) r ?_ (.bool _)
 have hg:=lr (P:=P) (w:=w) (op:=if neg then .neq else .eql) (t:=t) (x:=x) (y:=y) (a:= .bool p) (b:= .bool q) ⟨by simp,by simp⟩
 have he:(Op.equal t (.bool p) (.bool q)).run P w = .ok (p==q) w:=by
  exact run_equalIn_bool w 9999 t p q ht
 cases neg
 ·simp only [zab,if_false]at hg ⊢
  simp[hg,binOp,he]
 ·simp only [if_true]at hg ⊢
  simp[hg,binOp,he]
theorem Q6 (n:Nat) {t e:TypeId} {a:Option Addr} (ht:P.underlying t=some (.pointer e)):(Op.equalIn (n+1) t (.pointer a) (.pointer none)).run P w = .ok a.isNone w:=by
 cases a<;>simp[Op.equalIn,run_underlying ht]
theorem Ha (r:Rel M s w) {neg:Bool} {t e:TypeId} {x y:Operand} {a:Option Addr} (ht:P.underlying t=some (.pointer e)) :
 dt P M s w (do pure (.value (← (do eqGuard (if neg then .neq else .eql) t x y (.pointer a) (.pointer none);binOp (if neg then .neq else .eql) t (.pointer a) (.pointer none))))) (.bool (if neg then !a.isNone else a.isNone)) s:=by
 refine dt.pure (v:= .bool (if neg then !a.isNone else a.isNone)) r ?_ (.bool _)
 have hg:=lr (P:=P) (w:=w) (op:=if neg then .neq else .eql) (t:=t) (x:=x) (y:=y) (a:= .pointer a) (b:= .pointer none) ⟨by simp,by simp⟩
 have he:(Op.equal t (.pointer a) (.pointer none)).run P w = .ok a.isNone w:=by
  exact Q6 9999 ht
 cases neg
 ·simp only [zab,if_false]at hg ⊢
  simp[hg,binOp,he]
 ·simp only [if_true]at hg ⊢
  simp[hg,binOp,he]
theorem TC (n:Nat) {t:TypeId} {k:Nat} (hk:kV P t=some k) {x y:D} {v u:Value} (rv:RD M s x v) (ru:RD M s y u) {b:Bool} (h:pJ k x y=some b) :
 (Op.equalIn (n+1) t v u).run P w = .ok b w:=by
 unfold kV at hk
 split at hk<;>first|(cases hk;done)|skip
 ·rename_i kk hu
  cases hk
  cases x<;>cases y<;>simp[pJ]at h
  obtain⟨rfl,rfl⟩:=h
  rw[rv.jz,ru.jz]
  exact run_equalIn_int w n t _ _ _ _ hu
 ·rename_i hu
  cases hk
  cases x<;>cases y<;>simp[pJ]at h
  subst h
  rw[rv.qt,ru.qt]
  exact run_equalIn_bool w n t _ _ hu
 ·rename_i hu
  cases hk
  cases x<;>cases y<;>simp[pJ]at h
  subst h
  rw[rv.nw,ru.nw]
  rw[run_equalIn_string w n t _ _ hu]
  simp
theorem Eb (n:Nat) : ∀ (fs:List Field) (off:Nat) (ks:List Nat) (xs ys:List D) (vs us:Array Value) (e:Bool),
 Ft P off fs=some ks→(∀ (i:Nat) (d:D) (v:Value),xs[i]? = some d→vs[off+i]? = some v→RD M s d v)→(∀ i,i<xs.length→(vs[off+i]?).isSome)→
 (∀ (i:Nat) (d:D) (v:Value),ys[i]? = some d→us[off+i]? = some v→RD M s d v)→(∀ i,i<ys.length→(us[off+i]?).isSome)→
 nu ks xs ys=some e→(Op.eqFields (n+1) vs us fs).run P w = .ok e w
 | [],off,ks,xs,ys,vs,us,e,hk,_,_,_,_,h=>by
  cases hk
  cases xs<;>cases ys<;>simp[nu]at h
  subst h;rfl
 | f::fs,off,ks,xs,ys,vs,us,e,hk,h1,h2,h3,h4,h=>by
  unfold Ft at hk
  split at hk
  ·rename_i hf
   obtain⟨ho,TD⟩:=hf
   split at hk
   ·rename_i k ks' zw aV
    cases hk
    match xs,ys with
    | [],[]=>cases h
    | [],_::_=>cases h
    |_::_,[]=>cases h
    | x::xs,y::ys=>
     obtain⟨v,hv⟩:=Option.isSome_iff_exists.1 (h2 0 (by simp))
     obtain⟨u,hu⟩:=Option.isSome_iff_exists.1 (h4 0 (by simp))
     simp only[zaP]at hv hu
     have rv:=h1 0 x v rfl hv
     have ru:=h3 0 y u rfl hu
     have D9:(isAgg f.type).run P w = .ok false w:=by
      unfold isAgg
      unfold kV at zw
      cases hu:P.underlying f.type with
      |none=>rw[hu]at zw;simp at zw
      |some d=>simp only[Sem.run_bind,run_underlying hu,Result.andThen_ok];rw[hu]at zw;cases d<;>simp_all
     have pv:(Go.part f.type vs f.offset).run P w = .ok v w:=by simp[Go.part,D9,ho,hv]
     have pu:(Go.part f.type us f.offset).run P w = .ok u w:=by simp[Go.part,D9,ho,hu]
     cases hc:pJ k x y with
     |none=>simp[nu,hc]at h
     | some b=>
      have hb:=TC (w:=w) n zw rv ru hc
      simp only[nu,hc]at h
      simp only[Op.eqFields,if_pos TD,Sem.run_bind,pv,pu,hb,Result.andThen_ok,Sem.run_ite,Sem.run_pure]
      cases b with
      |false=>cases h;rfl
      | true=>
       have:=Eb n fs (off+1) ks' xs ys vs us e aV
        (fun i d v e1 e2=>h1 (i+1) d v (by simpa using e1) (by rw[show off+(i+1)=off+1+i by omega];exact e2))
        (fun i hi=>by have:=h2 (i+1) (by simpa using hi);rwa [show off+(i+1)=off+1+i by omega]at this)
        (fun i d v e1 e2=>h3 (i+1) d v (by simpa using e1) (by rw[show off+(i+1)=off+1+i by omega];exact e2))
        (fun i hi=>by have:=h4 (i+1) (by simpa using hi);rwa [show off+(i+1)=off+1+i by omega]at this) h
       simp[this]
   ·cases hk
  ·cases hk
theorem Z3 (r:Rel M s w) {neg:Bool} {t:TypeId} {x y:Operand} {ks:List Nat} {xs ys:List D} {a b:Value} {e:Bool} (ht:sZ P t=some ks) (ha:RD M s (.agg xs) a) (hb:RD M s (.agg ys) b) (he:nu ks xs ys=some e) :
 dt P M s w (do pure (.value (← (do eqGuard (if neg then .neq else .eql) t x y a b;binOp (if neg then .neq else .eql) t a b)))) (.bool (if neg then !e else e)) s:=by
 obtain⟨vs,rfl,hl,_,h1⟩:=ha.J4
 obtain⟨us,rfl,qJ,_,h2⟩:=hb.J4
 unfold sZ at ht
 split at ht
 ·rename_i fs hu
  split at ht
  ·rename_i hg
   obtain⟨wD,Gl⟩:=hg
   have hf:P.fieldsOf t=fs:=by simp[Program.fieldsOf,hu]
   have ek:(Op.equalIn 10000 t (.agg vs) (.agg us)).run P w = .ok e w:=by
    rw[run_equalIn_struct w 9999 t vs us (by rw[hf];exact hu) Gl,hf]
    exact Eb 9998 fs.toList 0 ks xs ys vs us e ht (fun i d v e1 e2=>h1 i d v e1 (by simpa using e2)) (fun i hi=>by simp;omega)
     (fun i d v e1 e2=>h2 i d v e1 (by simpa using e2)) (fun i hi=>by simp;omega) he
   have Lx:=run_eqGuard_agg (P:=P) w (if neg then .neq else .eql) t x y vs us wD
   refine dt.pure (v:= .bool (if neg then !e else e)) r ?_ (.bool _)
   cases neg
   ·simp only [zab,if_false]at Lx ⊢
    simp only[Sem.run_bind,Lx,Result.andThen_ok,run_eql_struct,ek,Sem.run_pure]
   ·simp only [if_true]at Lx ⊢
    simp only[Sem.run_bind,Lx,Result.andThen_ok,run_neq_struct,ek,Sem.run_pure]
  ·cases ht
 ·cases ht
end
end Go.Abs
namespace Go.Abs
section
variable {P:Program} {M:Map} {s:St} {w:World}
theorem Fv (l:List UInt8):(⟨⟨l⟩⟩:ByteArray).size=l.length:=rfl
theorem extract_mk (l:List UInt8) (a b:Nat):(⟨⟨l⟩⟩:ByteArray).extract a b = ⟨⟨(l.take b).drop a⟩⟩:=by
 apply ByteArray.ext
 rw[ByteArray.data_extract]
 apply Array.ext'
 simp[List.drop_take]
theorem getElem?_mk (l:List UInt8) (n:Nat):(⟨⟨l⟩⟩:ByteArray)[n]? = l[n]? :=by
 by_cases h:n<l.length
 ·rw[getElem?_pos (⟨⟨l⟩⟩:ByteArray) n h,zah h];rfl
 ·rw [zbF (by omega)]
  rw[getElem?_neg (c:=(⟨⟨l⟩⟩:ByteArray)) (i:=n)]
  show ¬ n<(⟨⟨l⟩⟩:ByteArray).size
  rw[Fv];omega
theorem WR (r:Rel M s w) {t:TypeId} {l:List UInt8} {k:IntKind} {n:Int} {c:UInt8} (ht:P.underlying t=some .string) (h0:0≤n) (hc:l[n.toNat]? = some c) :
 dt P M s w (do pure (.value (← Instr.index t (.string ⟨⟨l⟩⟩) (.int k n)))) (.int .u8 c.toNat) s:=by
 refine dt.pure (v:= .int .u8 c.toNat) r ?_ (.int _ _)
 simp[Instr.index,asIntOf,run_underlying ht,h0,getElem?_mk,hc]
theorem N3 (r:Rel M s w) {t ty:TypeId} {l:List UInt8} (ht:P.underlying t=some .string) :
 dt P M s w (do pure (.value (← Builtin.len_ #[t] ty #[.string ⟨⟨l⟩⟩]))) (.int .i64 l.length) s:=by
 refine dt.pure (v:= .int .i64 l.length) r ?_ (.int _ _)
 simp[Builtin.len_,run_underlying ht,goInt,Fv]
theorem pM (r:Rel M s w) {t ty e:TypeId} {a:Option Addr} {n c:Nat} (ht:P.underlying t=some (.slice e)) :
 dt P M s w (do pure (.value (← Builtin.len_ #[t] ty #[.slice a n c]))) (.int .i64 n) s:=by
 refine dt.pure (v:= .int .i64 n) r ?_ (.int _ _)
 simp[Builtin.len_,run_underlying ht,goInt]
theorem TE (r:Rel M s w) {t e:TypeId} {i:TypeInfo} {g:Tag} {rows:List (List D)} {row:List D} {v:Value} {k:IntKind} {n:Int} (ht:P.underlying t=some (.slice e)) (hi:P.info? e=some i)
 (hd:RD M s (.slice g i.size rows) v) (h0:0≤n) (hr:rows[n.toNat]? = some row) :
 dt P M s w (do pure (.value (← Instr.indexAt t v (.int k n)))) (.dW row 0) s:=by
 have hD:=(zac.1 hr).1
 rcases hd.kG with ⟨rfl,_,_⟩|⟨rfl,_,_⟩|⟨b,q,cap,rfl,hl,hs,h1,h2,_⟩
 ·simp at hr
 ·simp at hr
 ·refine dt.pure (v:= .pointer (some ⟨b,q+n.toNat*i.size+0,none⟩)) r ?_ ?_
  ·have:n<(rows.length:Int):=by omega
   simp[Instr.indexAt,asIntOf,run_underlying ht,h0,this,sizeOf,iE P hi,oR]
  ·refine .dW row 0 b (q+n.toNat*i.size) (fun j d hj=> ?_) (fun j d u hj hu=> ?_)
   ·obtain⟨u,hu⟩:=h1 n.toNat row j d hr hj
    exact⟨u,by rw[Nat.add_assoc];exact hu⟩
   ·exact h2 n.toNat row j d u hr hj (by rw[← Nat.add_assoc];exact hu)
def WS (lv:Option Value) (l:Int):Prop:=(lv=none∧l=0)∨∃ k,lv=some (.int k l)
def WT (hv:Option Value) (len:Nat) (h:Int):Prop:=(hv=none∧h=len)∨∃ k,hv=some (.int k h)
theorem sx {isSlice:Bool} {lv hv:Option Value} {len cap:Nat} {l h:Int} (h1:WS lv l) (h2:WT hv len h) (a:0≤l) (b:l≤h) (c:h≤len) (d:len≤cap) :
 (Instr.sliceBounds isSlice len cap lv hv none).run P w = .ok (l.toNat,h.toNat,cap) w:=by
 have h0:0≤h:=by omega
 have hc:h≤cap:=by omega
 rcases h1 with ⟨rfl,rfl⟩|⟨k,rfl⟩<;>rcases h2 with ⟨rfl,rfl⟩|⟨k',rfl⟩
 ·simp[Instr.sliceBounds]
 ·simp[Instr.sliceBounds,run_sliceBound w _ _ _ _ h0 hc]
 ·simp[Instr.sliceBounds,run_sliceBound w _ _ _ _ a b]
 ·have e:(h.toNat:Int)=h:=Int.toNat_of_nonneg h0
  simp[Instr.sliceBounds,run_sliceBound w _ _ _ _ h0 hc,run_sliceBound w _ _ _ _ a (show l≤(h.toNat:Int) by omega)]
theorem WU (r:Rel M s w) {t:TypeId} {lv hv:Option Value} {x:List UInt8} {l h:Int} (ht:P.underlying t=some .string) (h1:WS lv l) (h2:WT hv x.length h) (a:0≤l) (b:l≤h) (c:h≤x.length) :
 dt P M s w (do pure (.value (← Instr.sliceAt t (.string ⟨⟨x⟩⟩) lv hv none))) (.str ((x.take h.toNat).drop l.toNat)) s:=by
 have hb:=sx (P:=P) (w:=w) (isSlice:=false) (cap:=x.length) h1 h2 a b c (zak _)
 refine dt.pure (v:= .string ⟨⟨(x.take h.toNat).drop l.toNat⟩⟩) r ?_ (.str _)
 simp[Instr.sliceAt,run_underlying ht,Instr.slice,Fv,hb,extract_mk]
theorem ko.cut {g:Tag} {z len Z4 cap:Nat} {base:Option (Nat×Nat)} (h:ko M s g z len base cap) (hl:Z4≤len) (whole:Bool) (hw:whole=true→Z4=len):ko M s (g.cut whole) z Z4 base cap:=by
 cases g with
 |full=>
  cases whole with
  |true=>rw[hw rfl];exact h
  |false=>trivial
 |shared=>trivial
 |tok t y=>
  obtain⟨x1,x2⟩:=h
  refine⟨x1,fun n hn=>⟨zaZ hl (x2 n hn).1,fun e=>?_⟩⟩
  have:len=n:=by have:=(x2 n hn).1;omega
  exact(x2 n hn).2 this
theorem Z5 (r:Rel M s w) {t e:TypeId} {i:TypeInfo} {g:Tag} {z:Nat} {lv hv:Option Value} {rows:List (List D)} {v:Value} {l h:Int} (ht:P.underlying t=some (.slice e)) (Iq:P.info? e=some i) (hz:rows = []∨z=i.size)
 (hd:RD M s (.slice g z rows) v) (h1:WS lv l) (h2:WT hv rows.length h) (a:0≤l) (b:l≤h) (c:h≤rows.length) :
 dt P M s w (do pure (.value (← Instr.sliceAt t v lv hv none))) (.slice (if l=0 then g.cut (h=rows.length)else .shared) z ((rows.take h.toNat).drop l.toNat)) s:=by
 have hlen:((rows.take h.toNat).drop l.toNat).length=h.toNat - l.toNat:=by simp;omega
 have tag : ∀ base cap,ko M s g z rows.length base cap→ko M s (if l=0 then g.cut (h=rows.length)else .shared) z ((rows.take h.toNat).drop l.toNat).length base cap:=by
  intro base cap q7
  split
  ·exact q7.cut (by omega) _ (fun hh=>by simp at hh;omega)
  ·trivial
 rcases hd.kG with ⟨rfl,rfl,q7⟩|⟨rfl,rfl,a',cap,rfl⟩|⟨b',q,cap,rfl,hl,hs,g1,g2,q7⟩
 ·have hb:=sx (P:=P) (w:=w) (isSlice:=true) (cap:=0) h1 h2 a b c (zak _)
  have xx:l=0:=by simp at c;omega
  have hh0:h=0:=by simp at c;omega
  subst xx;subst hh0
  refine dt.pure (v:= .slice none 0 0) r ?_ ?_
  ·simp at hb
   simp[Instr.sliceAt,run_underlying ht,Instr.slice,hb,sizeOf,iE P Iq]
  ·have:=tag _ _ q7
   simp only[Int.toNat_zero,List.take_nil,List.drop_nil,zaC]at this ⊢
   exact .jw _ _ 0 rfl this
 ·have hb:=sx (P:=P) (w:=w) (isSlice:=true) (cap:=cap) h1 h2 a b c (zaA _)
  have xx:l=0:=by simp at c;omega
  have hh0:h=0:=by simp at c;omega
  subst xx;subst hh0
  simp only[zaC]at hb
  have ek : ∃ a2:Addr,(Instr.sliceAt t (.slice (some a') 0 cap) lv hv none).run P w = .ok (.slice (some a2) 0 cap) w:=by
   refine⟨if cap=(0:Int).toNat then a' else a'.add ((0:Int).toNat*i.size), ?_⟩
   simp only[Instr.sliceAt,Sem.run_bind,run_underlying ht,Result.andThen_ok,Instr.slice,hb,sizeOf,iE P Iq,Sem.run_pure]
   split<;>simp
  obtain⟨a2,ek⟩:=ek
  refine dt.pure (v:= .slice (some a2) 0 cap) r (by simp[ek]) ?_
  simp only[↓reduceIte,Int.toNat_zero,List.take_nil,List.drop_nil]
  have:Tag.cut .shared (decide ((0:Int)=(([] : List (List D)).length:Int))) = .shared:=rfl
  rw[this]
  exact .lY _ a2 cap
 ·have hb:=sx (P:=P) (w:=w) (isSlice:=true) (cap:=cap) h1 h2 a b c hl
  have ek:(Instr.sliceAt t (.slice (some ⟨b',q,none⟩) rows.length cap) lv hv none).run P w = .ok (.slice (some (if cap=l.toNat then⟨b',q,none⟩else⟨b',q+l.toNat*i.size,none⟩)) (h.toNat - l.toNat) (cap - l.toNat)) w:=by
   simp only[Instr.sliceAt,Sem.run_bind,run_underlying ht,Result.andThen_ok,Instr.slice,hb,sizeOf,iE P Iq,Sem.run_pure]
   split<;>simp[oR]
  by_cases xx:l=0
  ·subst xx
   have e:(if cap=(0:Int).toNat then(⟨b',q,none⟩:Addr)else⟨b',q+(0:Int).toNat*i.size,none⟩) = ⟨b',q,none⟩:=by simp
   rw[e]at ek
   refine dt.pure (v:= .slice (some ⟨b',q,none⟩) ((rows.take h.toNat).drop (0:Int).toNat).length cap) r (by simp[ek];omega) ?_
   refine .slice _ z _ b' q cap (by omega) (fun row hr=>hs row ?_) (fun i row j d e1 e2=>?_) (fun i row j d u e1 e2 eu=>?_) (tag _ _ q7)
   ·simp at hr;exact za0 hr
   ·simp[zaY]at e1;exact g1 i row j d e1.2 e2
   ·simp[zaY]at e1;exact g2 i row j d u e1.2 e2 eu
  ·rw [if_neg xx]
   by_cases xf:cap=l.toNat
   ·have:(rows.take h.toNat).drop l.toNat = []:=za2 (by omega)
    rw[this]
    rw[if_pos xf]at ek
    refine dt.pure (v:= .slice (some ⟨b',q,none⟩) ([] : List (List D)).length (cap - l.toNat)) r (by simp[ek];omega) ?_
    exact .slice _ z [] b' q _ (by simp) (by simp) (by simp) (by simp) trivial
   ·rw [if_neg xf]at ek
    refine dt.pure (v:= .slice (some ⟨b',q+l.toNat*i.size,none⟩) ((rows.take h.toNat).drop l.toNat).length (cap - l.toNat)) r (by simp[ek];omega) ?_
    have dL : ∀ (k:Nat) (row:List D),((rows.take h.toNat).drop l.toNat)[k]? = some row→rows[l.toNat+k]? = some row:=by
     intro k row e
     rw[zbq,zaY]at e
     split at e
     ·exact e
     ·cases e
    have hzz : ∀ (k:Nat) (row:List D),((rows.take h.toNat).drop l.toNat)[k]? = some row→z=i.size:=by
     intro k row e
     rcases hz with rfl|hz
     ·simp at e
     ·exact hz
    refine .slice _ z _ b' _ _ (by omega) (fun row hr=>hs row (za0 (zbw hr))) (fun k row j d e1 e2=>?_) (fun k row j d u e1 e2 eu=>?_) trivial
    ·obtain⟨u,hu⟩:=g1 _ row j d (dL k row e1) e2
     refine⟨u, ?_⟩
     rw[← hu, ← hzz k row e1]
     congr 1
     rw[zbm];omega
    ·refine g2 _ row j d u (dL k row e1) e2 ?_
     rw[← eu, ← hzz k row e1]
     congr 1
     rw[zbm];omega
theorem zz (off:Nat) : ∀ (l:List Value) (k:Nat) (cells:Array Value) (i:Nat),
 ((l.zipIdx k).foldl (fun cs p=>cs.setIfInBounds (off+p.2) p.1) cells).size=cells.size∧
 (off+k+l.length≤cells.size→((l.zipIdx k).foldl (fun cs p=>cs.setIfInBounds (off+p.2) p.1) cells)[i]? = if off+k≤i∧i<off+k+l.length then l[i - (off+k)]? else cells[i]?)
 | [],k,cells,i=>by simp;intro _ h1 h2;omega
 | v::l,k,cells,i=>by
  obtain⟨h1,h2⟩:=zz off l (k+1) (cells.setIfInBounds (off+k) v) i
  simp only[List.zipIdx_cons,List.foldl_cons]
  refine⟨by rw[h1];simp,fun gT=>?_⟩
  simp only[zas]at gT
  rw[h2 (by simp;omega)]
  rw[Array.getElem?_setIfInBounds]
  by_cases hi:off+k=i
  ·subst hi
   rw[if_neg (by omega),if_pos rfl,if_pos (by omega),if_pos (by simp)]
   simp
  ·rw [if_neg hi]
   by_cases hr:off+(k+1)≤i∧i<off+(k+1)+l.length
   ·rw [if_pos hr,if_pos (by simp;omega)]
    rw[show i - (off+k)=(i - (off+(k+1)))+1 by omega]
    simp
   ·rw[if_neg hr,if_neg (by simp;omega)]
def wE (M:Map) (s:St) (ds:List D) (vs:Array Value):Prop:=vs.size=ds.length∧(∀ v∈vs,v.oneCell'=true)∧∀ (i:Nat) (d:D) (v:Value),ds[i]? = some d→vs[i]? = some v→RD M s d v
theorem wE.fU {ds:List D} {vs:Array Value} (h:wE M s ds vs) {d:D} {v:Value} {row:List D} (hd:RD M s d v) (hr:d.row=some row) {off:Nat} (gT:off+row.length≤ds.length) :
 wE M s (fU ds off row) (v.cells.zipIdx.foldl (fun cs (p:Value×Nat)=>cs.setIfInBounds (off+p.2) p.1) vs):=by
 obtain⟨h1,h2,h3⟩:=hd.row hr
 obtain⟨g1,g2,g3⟩:=h
 have e:v.cells.zipIdx.foldl (fun cs (p:Value×Nat)=>cs.setIfInBounds (off+p.2) p.1) vs=(v.cells.toList.zipIdx 0).foldl (fun cs p=>cs.setIfInBounds (off+p.2) p.1) vs:=by
  rw[← Array.foldl_toList];simp
 rw[e]
 have hl:v.cells.toList.length=row.length:=by simpa using h1
 have fs:=fun i=>zz off v.cells.toList 0 vs i
 have get : ∀ i,((v.cells.toList.zipIdx 0).foldl (fun cs p=>cs.setIfInBounds (off+p.2) p.1) vs)[i]? = if off≤i∧i<off+row.length then v.cells.toList[i - off]? else vs[i]? :=by
  intro i
  have:=(fs i).2 (by omega)
  rw[hl]at this
  simpa using this
 refine⟨by rw[(fs 0).1,g1,tA ds off row gT],fun u hu=>?_,fun i d' u e1 e2=>?_⟩
 ·obtain⟨i,hi⟩:=Array.mem_iff_getElem?.1 hu
  rw[get]at hi
  split at hi
  ·exact h2 u (zaQ.1 (zad hi))
  ·exact g2 u (zbE hi)
 ·rw [q9 ds off row gT]at e1
  rw[get]at e2
  by_cases h5:off≤i
  ·by_cases h6:i<off+row.length
   ·rw [if_pos ⟨h5,h6⟩]at e2
    rw[if_neg (by omega),if_pos h6]at e1
    exact h3 _ d' u e1 (by simpa using e2)
   ·rw [if_neg (fun h=>h6 h.2)]at e2
    rw[if_neg (by omega),if_neg h6]at e1
    exact g3 i d' u e1 e2
  ·rw [if_neg (fun h=>h5 h.1)]at e2
   rw[if_pos (by omega)]at e1
   exact g3 i d' u e1 e2
theorem N4 {place:Nat→Option (Nat×Nat)} : ∀ (vp:List (Nat×Value)) (dp:List (Nat×Nat×D)) (ds:List D) (vs:Array Value) (qi:List D),wE M s ds vs→
 dp.length=vp.length→(∀ (j:Nat) (i:Nat) (v:Value) (off size:Nat) (d:D),vp[j]? = some (i,v)→dp[j]? = some (off,size,d)→place i=some (off,size)∧RD M s d v)→
 uF ds dp=some qi→∃ gf,Instr.fill place vs vp=some gf∧wE M s qi gf
 | [],[],ds,vs,qi,h,_,_,e=>by cases e;exact⟨vs,rfl,h⟩
 | [],_::_,_,_,_,_,hl,_,_=>by simp at hl
 |_::_,[],_,_,_,_,hl,_,_=>by simp at hl
 | (i,v)::vp,(off,size,d)::dp,ds,vs,qi,h,hl,hp,e=>by
  obtain⟨h1,h2⟩:=hp 0 i v off size d rfl rfl
  unfold uF at e
  split at e
  ·cases e
  ·rename_i row hr
   split at e
   ·rename_i hc
    obtain⟨c1,c2⟩:=hc
    have dJ:=(h2.row hr).1
    obtain⟨gf,f1,f2⟩:=N4 vp dp (fU ds off row) _ qi (h.fU h2 hr (by omega)) (by simpa using hl)
     (fun j i v off size d e1 e2=>hp (j+1) i v off size d (by simpa using e1) (by simpa using e2)) e
    refine⟨gf, ?_,f2⟩
    unfold Instr.fill
    simp only[h1]
    rw[if_neg]
    ·exact f1
    ·simp;exact⟨by omega,by have:=h.1;omega⟩
   ·cases e
end
end Go.Abs
namespace Go.Abs
section
variable {P:Program} {M:Map} {s:St} {w:World}
def oq (M:Map) (s:St) (size:Nat) (rows:List (List D)) (vs:Array Value):Prop:=
 rows.length*size≤vs.size∧(∀ row∈rows,row.length=size)∧(∀ v∈vs,v.oneCell'=true)∧
 ∀ (i:Nat) (row:List D) (j:Nat) (d:D) (v:Value),rows[i]? = some row→row[j]? = some d→vs[i*size+j]? = some v→RD M s d v
theorem Ec {size:Nat} {rows:List (List D)} (hs : ∀ row∈rows,row.length=size) {i:Nat} {row:List D} {j:Nat} {d:D} (h1:rows[i]? = some row) (h2:row[j]? = some d):i*size+j<rows.length*size:=by
 have hi:=(zac.1 h1).1
 have hj:=(zac.1 h2).1
 have:=hs row (zad h1)
 have:i*size+size≤rows.length*size:=by rw[← Nat.succ_mul];exact zaR _ hi
 omega
theorem oq.fixed {size:Nat} {rows:List (List D)} {vs:Array Value} (h:oq M s size rows vs) {M':Map} {s':St} (le:Le M s M' s') {b:Nat}
 (hG : ∀ o,o<rows.length*size→M'.G b o=vs[o]?) :
 (∀ (i:Nat) (row:List D) (j:Nat) (d:D),rows[i]? = some row→row[j]? = some d→∃ u,M'.G b (0+(i*size+j))=some u)∧
 (∀ (i:Nat) (row:List D) (j:Nat) (d:D) (u:Value),rows[i]? = some row→row[j]? = some d→M'.G b (0+(i*size+j))=some u→RD M' s' d u):=by
 obtain⟨h1,h2,h3,h4⟩:=h
 refine⟨fun i row j d e1 e2=>?_,fun i row j d u e1 e2 eu=>?_⟩
 ·have hD:=Ec h2 e1 e2
  rw[zaS,hG _ hD]
  exact⟨_,za6 (by omega)⟩
 ·have hD:=Ec h2 e1 e2
  rw[zaS,hG _ hD]at eu
  exact(h4 i row j d u e1 e2 eu).mono le
theorem ou (z:List D) : ∀ n,(gJ z n).length=n
 | 0=>rfl
 |n+1=>by simp[gJ,ou z n]
theorem rK (z:List D) : ∀ n,∀ row∈gJ z n,row=z
 | 0,_,h=>by cases h
 |n+1,row,h=>by
  rcases zaq.1 h with rfl|h
  ·rfl
  ·exact rK z n row h
theorem oq.zero {z:List D} {zs:Array Value} (h:wE M s z zs) (hp:0<z.length) (n:Nat):oq M s z.length (gJ z n) ((Array.range (n*z.length)).map (zs[· % zs.size]!)):=by
 obtain⟨h1,h2,h3⟩:=h
 have get : ∀ q,q<n*z.length→((Array.range (n*z.length)).map (zs[· % zs.size]!))[q]? = zs[q % z.length]? :=by
  intro q hq
  have:q % z.length<zs.size:=by rw[h1];exact zb0 _ hp
  simp only[Array.getElem?_map,Array.getElem?_range,hq,if_true,za9]
  rw[h1,getElem!_pos zs (q % z.length) this,za6 this]
 refine⟨by simp[ou],fun row hr=>by rw[rK z n row hr],fun v hv=>?_,fun i row j d v e1 e2 e3=>?_⟩
 ·obtain⟨q,hq⟩:=Array.mem_iff_getElem?.1 hv
  have hD:q<n*z.length:=by have:=(zaU.1 hq).1;simpa using this
  rw[get q hD]at hq
  exact h2 v (zbE hq)
 ·have dL:=rK z n row (zad e1)
  subst dL
  have hD:=Ec (size:=row.length) (fun r hr=>by rw[rK row n r hr]) e1 e2
  rw[ou]at hD
  rw[get _ hD]at e3
  have hj:=(zac.1 e2).1
  rw[Nat.mul_comm,Nat.mul_add_mod,Nat.mod_eq_of_lt hj]at e3
  exact h3 j d v e2 e3
theorem oq.set {size:Nat} {rows:List (List D)} {vs:Array Value} (h:oq M s size rows vs) {d:D} {v:Value} {row:List D} (hd:RD M s d v) (hr:d.row=some row) (hl:row.length=size) {i:Nat} (hi:i<rows.length) :
 oq M s size (rows.set i row) (v.cells.zipIdx.foldl (fun cs (p:Value×Nat)=>cs.setIfInBounds (i*size+p.2) p.1) vs):=by
 obtain⟨h1,h2,h3⟩:=hd.row hr
 obtain⟨g1,g2,g3,g4⟩:=h
 have e:v.cells.zipIdx.foldl (fun cs (p:Value×Nat)=>cs.setIfInBounds (i*size+p.2) p.1) vs=(v.cells.toList.zipIdx 0).foldl (fun cs p=>cs.setIfInBounds (i*size+p.2) p.1) vs:=by
  rw[← Array.foldl_toList];simp
 rw[e]
 have ke:v.cells.toList.length=size:=by simp[h1,hl]
 have gT:i*size+size≤vs.size:=by
  have:(i+1)*size≤rows.length*size:=zaR _ hi
  rw[Nat.succ_mul]at this;omega
 have fs:=fun q=>zz (i*size) v.cells.toList 0 vs q
 have get : ∀ q,((v.cells.toList.zipIdx 0).foldl (fun cs p=>cs.setIfInBounds (i*size+p.2) p.1) vs)[q]? = if i*size≤q∧q<i*size+size then v.cells.toList[q - i*size]? else vs[q]? :=by
  intro q
  have:=(fs q).2 (by omega)
  rw[ke]at this
  simpa using this
 refine⟨by rw[(fs 0).1];simpa using g1,fun r Lz=>?_,fun u hu=>?_,fun i' l5 j d' u e1 e2 e3=>?_⟩
 ·rcases List.mem_or_eq_of_mem_set Lz with h | rfl
  ·exact g2 r h
  ·exact hl
 ·obtain⟨q,hq⟩:=Array.mem_iff_getElem?.1 hu
  rw[get]at hq
  split at hq
  ·exact h2 u (zaQ.1 (zad hq))
  ·exact g3 u (zbE hq)
 ·rw [zaM]at e1
  rw[get]at e3
  split at e1
  ·rename_i heq;subst heq
   simp at e1
   obtain⟨_,rfl⟩:=e1
   have hj:=(zac.1 e2).1
   rw[if_pos (by omega)]at e3
   rw[show i*size+j - i*size=j by omega]at e3
   exact h3 j d' u e2 (by simpa using e3)
  ·rename_i dj
   have hj:=(zac.1 e2).1
   have wF:=g2 l5 (zad e1)
   rw[if_neg]at e3
   ·exact g4 i' l5 j d' u e1 e2 e3
   ·rintro⟨a,b⟩
    rcases Nat.lt_or_gt_of_ne dj with h|h
    ·have:(i+1)*size≤i'*size:=zaR _ h
     rw[Nat.succ_mul]at this;omega
    ·have:(i'+1)*size≤i*size:=zaR _ h
     rw[Nat.succ_mul]at this;omega
theorem Ed {size:Nat} : ∀ (vp:List (Nat×Value)) (dp:List (Nat×D)) (rows:List (List D)) (vs:Array Value) (rf:List (List D)),oq M s size rows vs→
 dp.length=vp.length→(∀ (j:Nat) (i:Nat) (v:Value) (i':Nat) (d:D),vp[j]? = some (i,v)→dp[j]? = some (i',d)→i'=i∧RD M s d v)→
 lM size rows dp=some rf→∃ gf,Instr.fill (fun i=>some (i*size,size)) vs vp=some gf∧oq M s size rf gf∧rf.length=rows.length∧gf.size=vs.size
 | [],[],rows,vs,rf,h,_,_,e=>by cases e;exact⟨vs,rfl,h,rfl,rfl⟩
 | [],_::_,_,_,_,_,hl,_,_=>by simp at hl
 |_::_,[],_,_,_,_,hl,_,_=>by simp at hl
 | (i,v)::vp,(i',d)::dp,rows,vs,rf,h,hl,hp,e=>by
  obtain⟨h1,h2⟩:=hp 0 i v i' d rfl rfl
  subst h1
  unfold lM at e
  split at e
  ·cases e
  ·rename_i row hr
   split at e
   ·rename_i hc
    obtain⟨c1,c2⟩:=hc
    have dJ:=(h2.row hr).1
    have Fw:=h.set h2 hr c1 c2
    obtain⟨gf,f1,f2,f3,f4⟩:=Ed vp dp (rows.set i' row) _ rf Fw (by simpa using hl)
     (fun j i v i' d e1 e2=>hp (j+1) i v i' d (by simpa using e1) (by simpa using e2)) e
    have gT:i'*size+size≤vs.size:=by
     have:(i'+1)*size≤rows.length*size:=zaR _ c2
     have:=h.1
     rw[Nat.succ_mul]at *;omega
    refine⟨gf, ?_,f2,by rw[f3];simp, ?_⟩
    ·unfold Instr.fill
     simp only
     rw[if_neg]
     ·exact f1
     ·simp;exact⟨by omega,by omega⟩
    ·rw [f4]
     have:=(zz (i'*size) v.cells.toList 0 vs 0).1
     rw[← this, ← Array.foldl_toList];simp
   ·cases e
theorem TF (r:Rel M s w) {size:Nat} {rows:List (List D)} {vs:Array Value} (T:TypeId) (h:oq M s size rows vs) :
 RD (M.gU w.heap.size vs.size vs) s (.slice .full size rows) (.slice (some ⟨w.heap.size,0,none⟩) rows.length rows.length)∧
 Rel (M.gU w.heap.size vs.size vs) s (w.alloc (.cells vs T))∧Ext M s w (M.gU w.heap.size vs.size vs) s (w.alloc (.cells vs T)):=by
 obtain⟨r',e'⟩:=r.gU vs.size vs T (0,0) h.2.2.1
 obtain⟨g1,g2⟩:=h.fixed e'.le (b:=w.heap.size) (fun o ho=>by
  have:o<vs.size:=zaX ho h.1
  simp[Map.gU,this])
 exact⟨.slice .full size rows w.heap.size 0 rows.length (zak _) h.2.1 g1 g2 rfl,r',e'⟩
theorem nI {t u ty e:TypeId} {i:TypeInfo} (ht:P.underlying t=some (.slice e)) (hi:P.info? e=some i) {base:Option Addr} {len cap:Nat} {y:Value} (hs:Src P i.size u y 0 [] w) (hc:len≤cap) :
 (Builtin.append_ #[t,u] ty #[.slice base len cap,y]).run P w = .ok (.slice base len cap) w:=by
 have ov:=hs.cells
 rcases hs.kind with ⟨e',hk⟩|hk<;>cases base<;>simp[Builtin.append_,run_underlying ht,run_underlying hk,sizeOf,typeInfo,hi,hs.len,hc,ov,storeCells]
theorem LA (r:Rel M s w) {u e':TypeId} (hu:P.underlying u=some (.slice e')) {g:Tag} {size:Nat} {rows:List (List D)} {y:Value} (hy:RD M s (.slice g size rows) y) :
 ∃ news:List Value,Src P size u y rows.length news w∧
  (∀ (i:Nat) (row:List D) (j:Nat) (d:D) (v:Value),rows[i]? = some row→row[j]? = some d→news[i*size+j]? = some v→RD M s d v)∧
  ∀ (b q n c:Nat),y = .slice (some ⟨b,q,none⟩) n c→∀ o,o<rows.length*size→M.G b (q+o)=news[o]? :=by
 rcases hy.kG with ⟨rfl,rfl,_⟩|⟨rfl,_,a,cap,rfl⟩|⟨b,q,cap,rfl,hl,hs,g1,g2,_⟩
 ·exact⟨[],Src.ofNil w hu 0,by simp,by simp⟩
 ·exact⟨[],Src.ofSlice w hu a 0 cap [] (by simp) (by simp) (by simp),by simp,by simp⟩
 ·obtain⟨us,hlen,Gj⟩:=Cy (M:=M) (b:=b) (rows.length*size) q (fun k hk=>by
   have hz:0<size:=by
    rcases Nat.eq_zero_or_pos size with h|h
    ·subst h;simp at hk
    ·exact h
   have hi:k / size<rows.length:=by rw[Nat.div_lt_iff_lt_mul hz];exact hk
   obtain⟨row,dL⟩ : ∃ row,rows[k / size]? = some row:=⟨_,zah hi⟩
   have wF:=hs row (zad dL)
   have hj:k % size<row.length:=by rw[wF];exact zb0 _ hz
   obtain⟨u,hu⟩:=g1 _ row _ _ dL (zah hj)
   refine⟨u, ?_⟩
   rw[← hu,Nat.mul_comm (k / size) size,Nat.div_add_mod])
  refine⟨us,Src.ofSlice w hu ⟨b,q,none⟩ rows.length cap us hlen (fun j u h=>by rw[oR];exact(r.comm _ _ _ (Gj j u h)).1) (fun u hu=>?_),fun i row j d v e1 e2 e3=>g2 i row j d v e1 e2 (Gj _ v e3),
   fun b' q' n c heq o ho=>by
    cases heq
    rw[Gj o _ (zah (by omega)),zah (by omega)]⟩
  obtain⟨j,hj⟩:=List.mem_iff_getElem?.1 hu
  exact(r.comm _ _ _ (Gj j u hj)).2
theorem Ir {size:Nat} {rows new:List (List D)} {sS news:List Value} (ow : ∀ row∈rows,row.length=size) (uh : ∀ row∈new,row.length=size)
 (l1:sS.length=rows.length*size) (l2:news.length=new.length*size) (o1 : ∀ u∈sS,u.oneCell'=true) (o2 : ∀ u∈news,u.oneCell'=true)
 (h1 : ∀ (i:Nat) (row:List D) (j:Nat) (d:D) (v:Value),rows[i]? = some row→row[j]? = some d→sS[i*size+j]? = some v→RD M s d v)
 (h2 : ∀ (i:Nat) (row:List D) (j:Nat) (d:D) (v:Value),new[i]? = some row→row[j]? = some d→news[i*size+j]? = some v→RD M s d v)
 (z:Array Value) (hz : ∀ v∈z,v.oneCell'=true):oq M s size (rows++new) ((sS++news).toArray++z):=by
 have hs : ∀ row∈rows++new,row.length=size:=fun row h=>(zar.1 h).elim (ow row) (uh row)
 refine⟨by simp[l1,l2,zbm],hs,fun v hv=>?_,fun i row j d v e1 e2 e3=>?_⟩
 ·simp at hv
  rcases hv with (h|h)|h
  ·exact o1 v h
  ·exact o2 v h
  ·exact hz v h
 ·have hD:=Ec hs e1 e2
  rw[zal,zbm]at hD
  rw[zbe (by simp[l1,l2];omega),zbD]at e3
  by_cases hi:i<rows.length
  ·rw [zai hi]at e1
   have:=Ec ow e1 e2
   rw[zai (by omega)]at e3
   exact h1 i row j d v e1 e2 e3
  ·rw [zao (by omega)]at e1
   have qK:rows.length*size≤i*size:=zaR _ (by omega)
   rw[zao (by omega),l1]at e3
   refine h2 (i - rows.length) row j d v e1 e2 ?_
   rw[← e3]
   congr 1
   rw[Nat.sub_mul];omega
theorem xg {z:Array Value} (h : ∀ v∈z,v.oneCell'=true) (n:Nat) : ∀ v∈Builtin.zeroCells z n,v.oneCell'=true:=by
 intro v hv
 unfold Builtin.zeroCells at hv
 obtain⟨q,hq,rfl⟩:=Array.mem_map.1 hv
 have hD:q<n*z.size:=by simpa using hq
 have hz:0<z.size:=by
  rcases Nat.eq_zero_or_pos z.size with h|h
  ·rw[h]at hD;simp at hD
  ·exact h
 have:=zb0 q hz
 rw[getElem!_pos z (q % z.size) this]
 exact h _ (Array.getElem_mem this)
def J6 (eb:Bool) (size bytes:Nat) (x y:D) (s:St):Option (D×St):=
 match x,y with
 | .slice g z rows, .slice _ z' new=>
  if(rows = []∨z=size)∧(new = []∨z'=size)∧(rows.length+new.length)*(bytes+1)≤aT then
   match new with
   | []=>some (.slice g z rows,s)
   |_::_=>
    match g with
    | .full=>some (.slice (.tok s.au.length eb) size (rows++new),{s with au:=s.au++ [some (rows.length+new.length)]})
    | .shared=>none
    | .tok t y=>if(y=true→eb=true)∧z=size∧s.au[t]? = some (some rows.length)then some (.slice (.tok t y) size (rows++new),{s with au:=s.au.set t (some (rows.length+new.length))})else none
  else none
 |_,_=>none
theorem aho {size bytes:Nat} {x y d:D} {s s':St} (h:fS size bytes x y s=some (d,s')):J6 false size bytes x y s=some (d,s'):=by
 unfold fS at h
 unfold J6
 split at h
 ·split at h
  ·rename_i hc
   simp only[hc,and_self,if_true]
   split at h
   ·exact h
   ·split at h
    ·exact h
    ·exact h
    ·cases h
    ·split at h
     ·rename_i hq
      simp only[hq,and_self,zab,false_imp_iff,if_true]
      exact h
     ·cases h
  ·cases h
 ·cases h
theorem WV {x y d:D} {s s':St} (h:D2 x y s=some (d,s')):J6 true 1 1 x y s=some (d,s'):=by
 unfold D2 at h
 unfold J6
 split at h
 ·split at h
  ·rename_i hc
   simp only[hc,and_self,if_true]
   split at h
   ·exact h
   ·split at h
    ·exact h
    ·exact h
    ·split at h
     ·rename_i hq
      simp only[hq,and_self,imp_true_iff,if_true]
      exact h
     ·cases h
  ·cases h
 ·cases h
theorem adA {b:Bool} {n:Nat} (h:b=true→n=1) (hn:0<n):zs (bz b n)=n:=by
 cases b
 ·show(if n=0 then 1 else n)=n
  rw[if_neg (by omega)]
 ·simp[zs,bz,h rfl]
theorem Hc (eb:Bool) (r:Rel M s w) {t u ty e:TypeId} {i:TypeInfo} {z:Value} (ht:P.underlying t=some (.slice e)) (hi:P.info? e=some i) (hz:i.zero=some z)
 (yr:z.cells.size=i.size) (Gm : ∀ v∈z.cells,v.oneCell'=true) {dx dy d:D} {x y:Value} {s':St} (hx:RD M s dx x) (heb:eb=true→e=sw∧i.size=1) (vF:0<i.size) (he:J6 eb i.size i.bytes dx dy s=some (d,s'))
 (src : ∀ (g:Tag) (size:Nat) (rows:List (List D)),dy = .slice g size rows→(rows = []→Src P i.size u y 0 [] w)∧(rows≠ []→size=i.size→(∀ row∈rows,row.length=i.size)∧∃ news:List Value,Src P i.size u y rows.length news w∧
  (∀ (k:Nat) (row:List D) (j:Nat) (d:D) (v:Value),rows[k]? = some row→row[j]? = some d→news[k*i.size+j]? = some v→RD M s d v))) :
 ∃ v w' M',(Builtin.append_ #[t,u] ty #[x,y]).run P w = .ok v w'∧Rel M' s' w'∧RD M' s' d v∧Ext M s w M' s' w':=by
 unfold J6 at he
 split at he
 case h_2=>cases he
 rename_i g zx rows g' zy new
 split at he
 case isFalse=>cases he
 rename_i hc
 obtain⟨sJ,N6,wG⟩:=hc
 cases new with
 | nil=>
  simp only at he
  cases he
  have xy:Src P i.size u y 0 [] w:=(src _ _ _ rfl).1 rfl
  rcases hx.kG with ⟨_,hv,_⟩|⟨_,_,a,cap,hv⟩|⟨b,q,cap,hv,hl,_⟩
  ·refine⟨x,w,M, ?_,r,hx,Ext.refl M s w⟩
   rw[hv]
   exact nI ht hi xy (zak _)
  ·refine⟨x,w,M, ?_,r,hx,Ext.refl M s w⟩
   rw[hv]
   exact nI ht hi xy (zaA _)
  ·refine⟨x,w,M, ?_,r,hx,Ext.refl M s w⟩
   rw[hv]
   exact nI ht hi xy hl
 | cons n0 new=>
  have dj:(n0::new)≠ []:=by simp
  generalize dF:n0::new=eU at *
  have WW:zy=i.size:=N6.resolve_left dj
  subst WW
  obtain⟨LB,news,hs,Fx⟩:=(src _ _ _ rfl).2 dj rfl
  have hm:0<eU.length:=List.length_pos_iff.2 dj
  have wH:(rows.length+eU.length)*i.bytes≤140737488355328:=by rw[Nat.mul_succ]at wG;simp only[aT]at wG;omega
  have WX:rows.length+eU.length≤1099511627776:=by rw[Nat.mul_succ]at wG;simp only[aT]at wG;omega
  -- what the first argument reads as
  obtain⟨base,cap,sS,hxv,hle,kg,hod,adC,ahq,hsx,hoG,q7⟩ : ∃ (base:Option Addr) (cap:Nat) (sS:List Value),x = .slice base rows.length cap∧rows.length≤cap∧sS.length=rows.length*i.size∧
   (Builtin.firstCells i.size rows.length (.slice base rows.length cap)).run P w.drew = .ok sS.toArray w.drew∧(∀ u∈sS,u.oneCell'=true)∧
   (∀ (k:Nat) (row:List D) (j:Nat) (d:D) (v:Value),rows[k]? = some row→row[j]? = some d→sS[k*i.size+j]? = some v→RD M s d v)∧(∀ row∈rows,row.length=i.size)∧
   (∀ b q,base=some ⟨b,q,none⟩→∀ o,o<rows.length*i.size→M.G b (q+o)=sS[o]?)∧
   ((base=none∧rows = []∧ko M s g zx 0 none cap)∨∃ b q,base=some ⟨b,q,none⟩∧ko M s g zx rows.length (some (b,q)) cap):=by
   rcases sJ with h0|h0
   ·subst h0
    rcases hx.kG with ⟨_,hv,q7⟩|⟨_,rfl,_⟩|⟨b,q,cap,hv,hl,_,_,_,q7⟩
    ·exact⟨none,0,[],hv,zak _,by simp,by simp[Builtin.firstCells],by simp,by simp,by simp,by simp, .inl ⟨rfl,rfl,q7⟩⟩
    ·exfalso;simp only[← dF]at he;cases he
    ·exact⟨some ⟨b,q,none⟩,cap,[],hv,hl,by simp,by simp[Builtin.firstCells,loadCells,loadCellsFrom],by simp,by simp,by simp,by simp, .inr ⟨b,q,rfl,q7⟩⟩
   ·subst h0
    obtain⟨sS,Ee,ho2,ho3⟩:=LA r ht hx
    rcases hx.kG with ⟨h0,hv,q7⟩|⟨_,rfl,_⟩|⟨b,q,cap,hv,hl,rL,_,_,q7⟩
    ·subst h0
     refine⟨none,0,sS,hv,zak _,Ee.newsLen, ?_,Ee.one,ho2,by simp,by simp, .inl ⟨rfl,rfl,q7⟩⟩
     have:=Ee.cellsD;rw[hv]at this;exact this
    ·exfalso;simp only[← dF]at he;cases he
    ·refine⟨some ⟨b,q,none⟩,cap,sS,hv,hl,Ee.newsLen, ?_,Ee.one,ho2,rL,fun b' q' heq o ho=> ?_, .inr ⟨b,q,rfl,q7⟩⟩
     ·have:=Ee.cellsD;rw[hv]at this;exact this
     ·cases heq;exact ho3 b q _ cap hv o ho
  subst hxv
  -- the way that makes a new row
  have grow : ∀ (hg:cap<rows.length+eU.length),∃ (w':World) (M1:Map) (vs:Array Value) (rM:Nat),
   (Builtin.append_ #[t,u] ty #[.slice base rows.length cap,y]).run P w = .ok (.slice (some ⟨w.heap.size,0,none⟩) (rows.length+eU.length) rM) w'∧
   w'.heap[w.heap.size]? = some (.cells vs e (0,0))∧vs.size=rM*i.size∧rows.length+eU.length≤rM∧M1=M.gU w.heap.size ((rows.length+eU.length)*i.size) vs∧
   oq M s i.size (rows++eU) vs∧Rel M1 s w'∧Ext M s w M1 s w':=by
   intro hg
   have qK:=grownCap_ge w (rows.length+eU.length) cap e
   have ek:=run_append_grow_src (P:=P) w t u ty e i z ht hi hz base rows.length cap sS hod y eU.length news hs hg (by omega) (growslice_fits hg wH)
   have dL:=Ir (M:=M) (s:=s) hsx LB kg hs.newsLen adC hs.one ahq Fx (Builtin.zeroCells z.cells (grownCap w (rows.length+eU.length) cap e - (rows.length+eU.length))) (xg Gm _)
   obtain⟨r1,e1⟩:=(r.of_heap (w':=w.drew) rfl).gU ((rows.length+eU.length)*i.size) _ e (0,0) dL.2.2.1
   refine⟨_,_,_,_,ek,heap_alloc_new w.drew _, ?_,qK,rfl,dL,r1,(Ext.of_heap (M:=M) (s:=s) (w:=w) (w':=w.drew) rfl rfl rfl rfl).trans e1⟩
   simp only[Array.size_append,List.size_toArray,zal,size_zeroCells,yr,kg,hs.newsLen, ← zbm]
   congr 1;omega
  have hlen:(rows++eU).length=rows.length+eU.length:=by simp
  cases g with
  |shared=>simp only[← dF]at he;cases he
  | full=>
   have xf:cap=rows.length:=by
    rcases q7 with ⟨_,h0,h1⟩|⟨_,_,_,h1⟩
    ·subst h0;exact h1
    ·exact h1
   obtain⟨w',M1,vs,rM,ek,hh,dJ,hn,Is,dL,r1,e1⟩:=grow (by omega)
   simp only[← dF]at he
   simp only[dF]at he
   cases he
   have N7:zs (bz eb i.size)=i.size:=adA (fun h=>(heb h).2) vF
   have hyb:bz eb i.size=0→e=sw:=fun h0=>by
    cases eb with
    |true=>exact(heb rfl).1
    |false=>simp[bz]at h0;omega
   obtain⟨r2,l2⟩:=r1.ady (rows.length+eU.length) w.heap.size rM (bz eb i.size) vs e hh (by rw[N7];exact dJ) hn ⟨hyb,dL.2.2.1⟩
    (fun off ho=>by rw[N7]at ho;rw[Is];simp[Map.gU];omega)
    (fun o ho=>by have:=r.tz ho;rw [Is];show M.mu o≠_;omega) (fun q c z' hl heq=>by
     have:M.be q=some (w.heap.size,c,z'):=by rw[Is]at heq;exact heq
     have:=r.v8 hl this;omega)
   refine⟨_,w',_,ek,r2, ?_, ?_⟩
   ·obtain⟨f1,f2⟩:=dL.fixed (e1.le.trans l2) (b:=w.heap.size) (fun o ho=>by
     rw[Is,hlen]at *
     simp[Map.eY,Map.gU,ho])
    have key:=RD.slice (M:=M1.eY s.au.length (some (w.heap.size,rM,bz eb i.size))) (s:= {s with au:=s.au++ [some (rows.length+eU.length)]}) (.tok s.au.length eb) i.size (rows++eU) w.heap.size 0 rM (by rw[hlen];exact hn) dL.2.1 f1 f2
     ⟨by simp,fun n uK=>by
      simp at uK
      subst uK
      exact⟨by rw[hlen];exact zak _,fun _=> .inr ⟨_,rfl,by simp[Map.eY]⟩⟩⟩
    rw[hlen]at key
    exact key
   ·refine⟨e1.le.trans l2,e1.kept,e1.vz,fun q b c z' hl heq=> ?_,e1.uE,e1.size,e1.os,e1.tape,e1.output⟩
    obtain⟨k,hk⟩:=hl
    rcases zaE q s.au.length with h|h
    ·have N8:M1.be q=some (b,c,z'):=by
      have:(M1.eY s.au.length (some (w.heap.size,rM,bz eb i.size))).be q=M1.be q:=by simp[Map.eY];omega
      rw[this]at heq;exact heq
     simp only[zai h]at hk
     exact e1.rH q b c z' ⟨k,hk⟩ N8
    ·have:=(zac.1 hk).1
     simp at this
     have:q=s.au.length:=by omega
     subst this
     have:(M1.eY s.au.length (some (w.heap.size,rM,bz eb i.size))).be s.au.length=some (w.heap.size,rM,bz eb i.size):=by simp[Map.eY]
     rw[this]at heq;cases heq
     exact .inr (zak _)
  | tok q yb=>
   simp only[← dF]at he
   simp only[dF]at he
   split at he
   case isFalse=>cases he
   rename_i hq
   obtain⟨hyb,hzx,hq⟩:=hq
   cases he
   have N7:zs (bz yb i.size)=i.size:=adA (fun h=>(heb (hyb h)).2) vF
   have apH:bz yb i.size=0→e=sw:=fun h0=>by
    cases yb with
    |true=>exact(heb (hyb rfl)).1
    |false=>simp[bz]at h0;omega
   have TG : ∀ (hg:cap<rows.length+eU.length),∃ v w' M',(Builtin.append_ #[t,u] ty #[.slice base rows.length cap,y]).run P w = .ok v w'∧Rel M' {s with au:=s.au.set q (some (rows.length+eU.length))} w'∧
    RD M' {s with au:=s.au.set q (some (rows.length+eU.length))} (.slice (.tok q yb) i.size (rows++eU)) v∧Ext M s w M' {s with au:=s.au.set q (some (rows.length+eU.length))} w':=by
    intro hg
    obtain⟨w',M1,vs,rM,ek,hh,dJ,hn,Is,dL,r1,e1⟩:=grow hg
    have Gn:q<s.au.length:=(zac.1 hq).1
    obtain⟨r2,l2⟩:=r1.alQ q rows.length (rows.length+eU.length) w.heap.size rM (bz yb i.size) vs e hq (by omega) hh (by rw[N7];exact dJ) hn ⟨apH,dL.2.2.1⟩
     (fun off ho=>by rw[N7]at ho;rw[Is];simp[Map.gU];omega)
     (fun o ho=>by have:=r.tz ho;rw [Is];show M.mu o≠_;omega) (fun q c z' hl heq=>by
      have:M.be q=some (w.heap.size,c,z'):=by rw[Is]at heq;exact heq
      have:=r.v8 hl this;omega)
    refine⟨_,w',_,ek,r2, ?_, ?_⟩
    ·obtain⟨f1,f2⟩:=dL.fixed (e1.le.trans l2) (b:=w.heap.size) (fun o ho=>by
      rw[Is,hlen]at *
      simp[Map.eY,Map.gU,ho])
     have key:=RD.slice (M:=M1.eY q (some (w.heap.size,rM,bz yb i.size))) (s:= {s with au:=s.au.set q (some (rows.length+eU.length))}) (.tok q yb) i.size (rows++eU) w.heap.size 0 rM (by rw[hlen];exact hn) dL.2.1 f1 f2
      ⟨by simp [Gn],fun n uK=>by
       simp[Gn]at uK
       subst uK
       exact⟨by rw[hlen];exact zak _,fun _=> .inr ⟨_,rfl,by simp[Map.eY]⟩⟩⟩
     rw[hlen]at key
     exact key
    ·refine⟨e1.le.trans l2,e1.kept,e1.vz,fun q' b c z' hl heq=> ?_,e1.uE,e1.size,e1.os,e1.tape,e1.output⟩
     obtain⟨k,hk⟩:=hl
     by_cases h:q'=q
     ·subst h
      have:(M1.eY q' (some (w.heap.size,rM,bz yb i.size))).be q'=some (w.heap.size,rM,bz yb i.size):=by simp[Map.eY]
      rw[this]at heq;cases heq
      exact .inr (zak _)
     ·have N8:M1.be q'=some (b,c,z'):=by
       have:(M1.eY q (some (w.heap.size,rM,bz yb i.size))).be q'=M1.be q':=by simp[Map.eY,h]
       rw[this]at heq;exact heq
      simp only[zam (Ne.symm h)]at hk
      exact e1.rH q' b c z' ⟨k,hk⟩ N8
   rcases q7 with ⟨rfl,rfl,h1⟩|⟨b,k,rfl,h1⟩
   ·obtain⟨_,h2⟩:=h1
    obtain⟨_,h3⟩:=h2 _ hq
    rcases h3 rfl with ⟨_,h4⟩|⟨b,h4,_⟩
    ·exact TG (by simp;omega)
    ·cases h4
   ·obtain⟨_,h2⟩:=h1
    obtain⟨_,h3⟩:=h2 _ hq
    rcases h3 rfl with ⟨_,h4⟩|⟨b2,h4,jK⟩
    ·exact TG (by omega)
    cases h4
    subst hzx
    by_cases gk:rows.length+eU.length≤cap
    ·rcases r.tok q rows.length hq with ⟨h4,_⟩ | ⟨b',sR,Cv,vs,T,h4,h5,h6,h7,h8⟩
     ·rw[jK]at h4;cases h4
     ·rw [jK]at h4;cases h4
      rw[N7]at h6
      obtain⟨r2,e2⟩:=r.alR q rows.length eU.length b cap (bz yb i.size) i.size news N7 hq jK hs.newsLen gk hm hs.one vs T h5 h6 h8.2
      have gT:rows.length*i.size+news.length≤vs.size:=by rw[hs.newsLen,h6, ← zbm];exact zaR _ gk
      have gG:=run_storeCells_at P b (rows.length*i.size) T news 0 vs w h5 (by simpa using gT) hs.one
      simp only[zaP]at gG
      have ek:(Builtin.append_ #[t,u] ty #[.slice (some ⟨b,0,none⟩) rows.length cap,y]).run P w = .ok (.slice (some ⟨b,0,none⟩) (rows.length+eU.length) cap) (w.setRow b (vs.toList.take (rows.length*i.size)++news++vs.toList.drop (rows.length*i.size+news.length)).toArray):=by
       rcases hs.kind with ⟨RY,hk⟩|hk<;>simp[Builtin.append_,run_underlying ht,run_underlying hk,sizeOf,typeInfo,hi,hs.len,gk,hs.cells,Addr.add_lit,gG]
      refine⟨_,_,_,ek,r2, ?_,e2⟩
      have hG : ∀ o,o<(rows++eU).length*i.size→(M.fix b (rows.length*i.size) news).G b o=(sS++news).toArray[o]? :=by
       intro o ho
       rw[hlen,zbm]at ho
       rw[zbD]
       by_cases h9:o<rows.length*i.size
       ·rw [zai (by omega)]
        have:(M.fix b (rows.length*i.size) news).G b o=M.G b o:=by simp[Map.fix];omega
        rw[this]
        have:=hoG b 0 rfl o h9
        rwa [zaS]at this
       ·rw [zao (by omega),kg]
        have:(M.fix b (rows.length*i.size) news).G b o=news[o - rows.length*i.size]? :=by
         simp only[Map.fix];rw[if_pos ⟨trivial,by omega,by rw[hs.newsLen];omega⟩]
        rw[this]
      have dL:=Ir (M:=M) (s:=s) hsx LB kg hs.newsLen adC hs.one ahq Fx #[] (by simp)
      rw[Array.append_empty]at dL
      obtain⟨f1,f2⟩:=dL.fixed e2.le (b:=b) hG
      have Gn:q<s.au.length:=(zac.1 hq).1
      have key:=RD.slice (M:=M.fix b (rows.length*i.size) news) (s:= {s with au:=s.au.set q (some (rows.length+eU.length))}) (.tok q yb) i.size (rows++eU) b 0 cap (by rw[hlen];exact gk) dL.2.1 f1 f2
       ⟨by simp [Gn],fun n uK=>by
        simp[Gn]at uK
        subst uK
        exact⟨by rw[hlen];exact zak _,fun _=> .inr ⟨_,rfl,jK⟩⟩⟩
      rw[hlen]at key
      exact key
    ·exact TG (by omega)
theorem J7 (r:Rel M s w) {u e':TypeId} {i:TypeInfo} (hu:P.underlying u=some (.slice e')) {y:Value} {dy:D} (hy:RD M s dy y) (g:Tag) (size:Nat) (rows:List (List D)) (hdy:dy = .slice g size rows) :
 (rows = []→Src P i.size u y 0 [] w)∧(rows≠ []→size=i.size→(∀ row∈rows,row.length=i.size)∧∃ news:List Value,Src P i.size u y rows.length news w∧
  (∀ (k:Nat) (row:List D) (j:Nat) (d:D) (v:Value),rows[k]? = some row→row[j]? = some d→news[k*i.size+j]? = some v→RD M s d v)):=by
 subst hdy
 refine⟨fun h0=>?_,fun dj dJ=>?_⟩
 ·subst h0
  rcases hy.kG with ⟨_,rfl,_⟩|⟨_,_,a,cap,rfl⟩|⟨b,q,cap,rfl,_⟩
  ·exact Src.ofNil w hu 0
  ·exact Src.ofSlice w hu a 0 cap [] (by simp) (by simp) (by simp)
  ·exact Src.ofSlice w hu ⟨b,q,none⟩ 0 cap [] (by simp) (by simp) (by simp)
 ·subst dJ
  obtain⟨news,h1,h2,_⟩:=LA r hu hy
  refine⟨?_,news,h1,h2⟩
  rcases hy.kG with ⟨h0,_⟩|⟨h0,_⟩|⟨_,_,_,_,_,h,_⟩
  ·exact(dj h0).elim
  ·exact(dj h0).elim
  ·exact h
theorem WY (r:Rel M s w) {t u ty e e':TypeId} {i:TypeInfo} {z:Value} (ht:P.underlying t=some (.slice e)) (hu:P.underlying u=some (.slice e')) (hi:P.info? e=some i) (hz:i.zero=some z)
 (yr:z.cells.size=i.size) (Gm : ∀ v∈z.cells,v.oneCell'=true) {dx dy d:D} {x y:Value} {s':St} (hx:RD M s dx x) (hy:RD M s dy y) (vF:0<i.size) (he:fS i.size i.bytes dx dy s=some (d,s')) :
 ∃ v w' M',(Builtin.append_ #[t,u] ty #[x,y]).run P w = .ok v w'∧Rel M' s' w'∧RD M' s' d v∧Ext M s w M' s' w':=
 Hc false r ht hi hz yr Gm hx (fun h=>by cases h) vF (aho he) (J7 r hu hy)
theorem TH (r:Rel M s w) {t u ty e':TypeId} {i:TypeInfo} {z:Value} (ht:P.underlying t=some (.slice sw)) (hu:P.underlying u=some (.slice e')) (hi:P.info? sw=some i) (hz:i.zero=some z) (h1:i.size=1) (h2:i.bytes=1)
 (yr:z.cells.size=i.size) (Gm : ∀ v∈z.cells,v.oneCell'=true) {dx dy d:D} {x y:Value} {s':St} (hx:RD M s dx x) (hy:RD M s dy y) (he:D2 dx dy s=some (d,s')) :
 ∃ v w' M',(Builtin.append_ #[t,u] ty #[x,y]).run P w = .ok v w'∧Rel M' s' w'∧RD M' s' d v∧Ext M s w M' s' w':=
 Hc true r ht hi hz yr Gm hx (fun _=>⟨rfl,h1⟩) (by omega) (by rw[h1,h2];exact WV he) (J7 r hu hy)
theorem TI (r:Rel M s w) {t u ty:TypeId} {i:TypeInfo} {z:Value} (ht:P.underlying t=some (.slice sw)) (hu:P.underlying u=some .string) (hi:P.info? sw=some i) (hz:i.zero=some z) (h1:i.size=1) (h2:i.bytes=1)
 (yr:z.cells.size=i.size) (Gm : ∀ v∈z.cells,v.oneCell'=true) {dx d:D} {x:Value} {l:List UInt8} {s':St} (hx:RD M s dx x) (he:D2 dx (.slice .shared 1 (l.map fun c=> [.int .u8 c.toNat])) s=some (d,s')) :
 ∃ v w' M',(Builtin.append_ #[t,u] ty #[x, .string ⟨⟨l⟩⟩]).run P w = .ok v w'∧Rel M' s' w'∧RD M' s' d v∧Ext M s w M' s' w':=by
 have hs:Src P i.size u (.string ⟨⟨l⟩⟩) l.length (l.map fun c=> .int .u8 c.toNat) w:=by
  rw[h1]
  exact Src.ofString w hu ⟨⟨l⟩⟩
 refine Hc true r ht hi hz yr Gm hx (fun _=>⟨rfl,h1⟩) (by omega) (by rw[h1,h2];exact WV he) fun g size rows hdy=>?_
 cases hdy
 refine⟨fun h0=>?_,fun dj dJ=>?_⟩
 ·have:l = []:=by simpa using h0
  subst this
  exact hs
 ·refine⟨fun row hr=> ?_,_,by simpa using hs,fun k row j d v e1 e2 e3=> ?_⟩
  ·obtain⟨c,_,rfl⟩:=zaG.1 hr
   rw[h1];rfl
  ·rw [zap,zaw]at e1
   obtain⟨c,e1,rfl⟩:=e1
   cases j with
   |zero=>
    simp at e2
    subst e2
    simp[h1,e1]at e3
    subst e3
    exact .int _ _
   |succ j=>simp at e2
end
end Go.Abs
namespace Go.Abs
section
variable {P:Program} {M:Map} {s:St} {w:World}
theorem map_some {α β:Type} {f:α→β} {x:Option α} {y:β} (h:x.map f=some y) : ∃ a,x=some a∧y=f a:=by
 cases x with
 |none=>cases h
 |some a=>cases h;exact⟨a,rfl,rfl⟩
theorem wa {t:TypeId} {z:List D} (h:zeroOf P t=some z) : ∃ i v,P.info? t=some i∧i.zero=some v∧v.cells.size=i.size∧qs v.cells.toList=some z:=by
 unfold zeroOf at h
 split at h
 ·rename_i i hi
  split at h
  ·rename_i v hv
   split at h
   ·exact⟨i,v,hi,hv, ‹_›,h⟩
   ·cases h
  ·cases h
 ·cases h
theorem uL {z:List D} {v:Value} (h:qs v.cells.toList=some z):wE M s z v.cells:=by
 obtain⟨h1,h2,h3⟩:=ny (M:=M) (s:=s) h
 exact⟨by simpa using h1.symm,fun u hu=>h2 u (by simpa using hu),fun i d u e1 e2=>h3 i d u e1 (by simpa using e2)⟩
theorem TJ {t:TypeId} {z:List D} (h:Cu P t=some z) : ∃ i v,P.info? t=some i∧i.zero=some v∧v.cells.size=i.size∧wE M s z v.cells:=by
 unfold Cu at h
 split at h
 ·rename_i i hi
  split at h
  ·rename_i v hv
   split at h
   ·refine⟨i,v,hi,hv, ‹_›, ?_⟩
    obtain⟨h1,h2,h3⟩:=Gk (M:=M) (s:=s) h
    exact⟨by simpa using h1.symm,fun u hu=>h2 u (by simpa using hu),fun i d u e1 e2=>h3 i d u e1 (by simpa using e2)⟩
   ·cases h
  ·cases h
 ·cases h
theorem Ef {t:TypeId} {tm:Tm} {act:Act} (hr:oo M s tm act.tmps) : ∀ {l:List (Nat×Operand)} {ps:List (Nat×Nat×X)},D4 P t l=some ps→
 (ps.map fun p=>(p.1,p.2.1,p.2.2.ev tm)).length=(l.map fun p=>(p.1,act.eval p.2)).length∧
 ∀ (j:Nat) (i:Nat) (v:Value) (off size:Nat) (d:D),(l.map fun p=>(p.1,act.eval p.2))[j]? = some (i,v)→(ps.map fun p=>(p.1,p.2.1,p.2.2.ev tm))[j]? = some (off,size,d)→
  (∃ a,oP P t i=some (off,size,a))∧RD M s d v
 | [],ps,h=>by cases h;exact⟨rfl,by simp⟩
 | (i0,x)::l,ps,h=>by
  unfold D4 at h
  split at h
  ·rename_i off size a x' r' h1 h2 h3
   cases h
   obtain⟨g1,g2⟩:=Ef hr h3
   refine⟨by simpa using g1,fun j i v AE Cv d e1 e2=>?_⟩
   cases j with
   |zero=>
    simp at e1 e2
    obtain⟨rfl,rfl⟩:=e1
    obtain⟨rfl,rfl,rfl⟩:=e2
    exact⟨⟨a,h1⟩,cQ h2 hr⟩
   |succ j=>exact g2 j i v AE Cv d (by simpa using e1) (by simpa using e2)
  ·cases h
theorem Iu {tm:Tm} {act:Act} (hr:oo M s tm act.tmps) : ∀ {l:List (Nat×Operand)} {ps:List (Nat×X)},NY l=some ps→
 (ps.map fun p=>(p.1,p.2.ev tm)).length=(l.map fun p=>(p.1,act.eval p.2)).length∧
 ∀ (j:Nat) (i:Nat) (v:Value) (i':Nat) (d:D),(l.map fun p=>(p.1,act.eval p.2))[j]? = some (i,v)→(ps.map fun p=>(p.1,p.2.ev tm))[j]? = some (i',d)→i'=i∧RD M s d v
 | [],ps,h=>by cases h;exact⟨rfl,by simp⟩
 | (i0,x)::l,ps,h=>by
  unfold NY at h
  split at h
  ·rename_i x' r' h1 h2
   cases h
   obtain⟨g1,g2⟩:=Iu hr h2
   refine⟨by simpa using g1,fun j i v i' d e1 e2=>?_⟩
   cases j with
   |zero=>
    simp at e1 e2
    obtain⟨rfl,rfl⟩:=e1
    obtain⟨rfl,rfl⟩:=e2
    exact⟨rfl,cQ h1 hr⟩
   |succ j=>exact g2 j i v i' d (by simpa using e1) (by simpa using e2)
  ·cases h
theorem Iv : ∀ (l:List Field),(∀ f∈l,(P.info? f.type).isSome)→
 ∃ ps:List (Nat×Nat),(l.mapM fun f=>do pure (f.offset, ← sizeOf f.type):Sem (List (Nat×Nat))).run P w = .ok ps w∧
  ∀ (j:Nat) (f:Field) (i:TypeInfo),l[j]? = some f→P.info? f.type=some i→ps[j]? = some (f.offset,i.size)
 | [],_=>⟨[],rfl,by simp⟩
 | f::l,h=>by
  obtain⟨i,hi⟩:=Option.isSome_iff_exists.1 (h f (by simp))
  obtain⟨ps,h1,h2⟩:=Iv l (fun g hg=>h g (by simp[hg]))
  refine⟨(f.offset,i.size)::ps, ?_,fun j g i' e1 e2=>?_⟩
  ·rw [List.mapM_cons]
   simp only[Sem.run_bind,sizeOf,iE P hi,Result.andThen_ok,Sem.run_pure]at h1 ⊢
   simp only[h1,Result.andThen_ok]
  ·cases j with
   |zero=>simp at e1;subst e1;rw[hi]at e2;cases e2;rfl
   |succ j=>exact h2 j g i' (by simpa using e1) e2
theorem TK (r:Rel M s w) {t:TypeId} {fs:Array Field} {z:List D} {l:List (Nat×Operand)} {ps:List (Nat×Nat×X)} {tm:Tm} {act:Act} {cs:List D} (hr:oo M s tm act.tmps)
 (ht:P.underlying t=some (.struct fs)) (sK:(fs.toList.all fun f=>(P.info? f.type).isSome)=true) (hz:Cu P t=some z) (hp:D4 P t l=some ps) (hf:uF z (ps.map fun p=>(p.1,p.2.1,p.2.2.ev tm))=some cs) :
 dt P M s w (do pure (.value (← Instr.build t (l.toArray.map fun(i,x)=>(i,act.eval x))))) (.agg cs) s:=by
 obtain⟨i,v,h1,h2,h3,hc⟩:=TJ (M:=M) (s:=s) hz
 obtain⟨g1,g2⟩:=Ef hr hp
 obtain⟨pl,p1,p2⟩:=Iv (P:=P) (w:=w) fs.toList (fun f hf'=>by simpa using za3.1 sK f hf')
 have aeY:(fs.mapM fun f=>do pure (f.offset, ← sizeOf f.type):Sem (Array (Nat×Nat))).run P w = .ok pl.toArray w:=by
  rw[Array.mapM_eq_mapM_toList,Sem.run_map,p1];rfl
 obtain⟨vs,f1,f2⟩:=N4 (place:=(pl.toArray[·]?)) (l.map fun p=>(p.1,act.eval p.2)) _ z v.cells cs hc g1 (fun j i v off size d e1 e2=>by
  obtain⟨⟨a,ha⟩,hd⟩:=g2 j i v off size d e1 e2
  refine⟨?_,hd⟩
  unfold oP at ha
  rw[ht]at ha
  simp only at ha
  split at ha
  ·rename_i fd xA
   split at ha
   ·rename_i i' a' jL _
    split at ha
    ·cases ha
    ·cases ha
     simpa using p2 i fd i' (by simpa using xA) jL
   ·cases ha
  ·cases ha) hf
 refine dt.pure (v:= .agg vs) r ?_ (.agg _ _ f2.1.symm f2.2.1 f2.2.2)
 have nX:(l.toArray.map fun(i,x)=>(i,act.eval x)).toList=l.map fun p=>(p.1,act.eval p.2):=by simp
 unfold Instr.build
 simp only[Sem.run_bind,zeroValue,iE P h1,h2,Result.andThen_ok,Sem.run_pure,run_underlying ht,aeY,nX,f1]
theorem Gp (r:Rel M s w) {t e:TypeId} {i:TypeInfo} {z:List D} {n:Nat} {l:List (Nat×Operand)} {ps:List (Nat×X)} {tm:Tm} {act:Act} {rows:List (List D)} (hr:oo M s tm act.tmps)
 (ht:P.underlying t=some (.slice e)) (hi:P.info? e=some i) (hz:zeroOf P e=some z) (vF:0<i.size) (hn:n*i.size≤65536) (hp:NY l=some ps)
 (hf:lM i.size (gJ z n) (ps.map fun p=>(p.1,p.2.ev tm))=some rows) :
 ∃ (vs:Array Value) (T:TypeId),oq M s i.size rows vs∧rows.length=n∧vs.size=n*i.size∧
  (Instr.buildSlice t n (l.toArray.map fun(i,x)=>(i,act.eval x))).run P w = .ok (.slice (some ⟨w.heap.size,0,none⟩) n n) (w.alloc (.cells vs T)):=by
 obtain⟨i',v,h1,h2,h3,h4⟩:=wa hz
 rw[hi]at h1;cases h1
 have hc:=uL (M:=M) (s:=s) h4
 have Dw:z.length=i.size:=by rw[← hc.1,h3]
 have Gq:=oq.zero hc (by omega) n
 rw[Dw]at Gq
 obtain⟨g1,g2⟩:=Iu hr hp
 obtain⟨vs,f1,f2,f3,f4⟩:=Ed (l.map fun p=>(p.1,act.eval p.2)) _ _ _ rows Gq g1 g2 hf
 have hzr:=ou z n
 refine⟨vs,e,f2,by rw[f3,hzr],by rw[f4];simp, ?_⟩
 have wH : ¬ (n*i.size > 2 ^ 24):=by omega
 have nX:(l.toArray.map fun(i,x)=>(i,act.eval x)).toList=l.map fun p=>(p.1,act.eval p.2):=by simp
 by_cases h0:n*i.size=0
 ·have ov:(Array.range (n*i.size)).map ((#[] : Array Value)[· % (#[] : Array Value).size]!)=(Array.range (n*i.size)).map (v.cells[· % v.cells.size]!):=by rw [h0];simp
  unfold Instr.buildSlice
  simp only[Sem.run_bind,run_underlying ht,Result.andThen_ok,sizeOf,iE P hi,Sem.run_pure,if_neg wH,if_pos h0,ov,nX,f1,newRow,run_newObj]
  rfl
 ·unfold Instr.buildSlice
  simp only[Sem.run_bind,run_underlying ht,Result.andThen_ok,sizeOf,iE P hi,Sem.run_pure,if_neg wH,if_neg h0,zeroValue,h2,nX,f1,newRow,run_newObj]
  rfl
end
end Go.Abs
namespace Go.Abs
section
variable {P:Program} {M:Map} {s:St} {w:World}
theorem foldl_push (ns:List Int) : ∀ r:ByteArray,ns.foldl (fun r n=>r.push (UInt8.ofNat n.toNat)) r = ⟨r.data++(ns.map fun n=>UInt8.ofNat n.toNat).toArray⟩:=by
 induction ns with
 |nil=>intro r;simp
 |cons n ns ih=>intro r;simp only[List.foldl_cons];rw[ih];simp[ByteArray.push]
theorem yu : ∀ {rows:List (List D)} {l:List UInt8},qY rows=some l→∃ ns:List Int,rows=ns.map (fun n=> [.int .u8 n])∧l=ns.map fun n=>UInt8.ofNat n.toNat
 | [],l,h=>by cases h;exact⟨[],rfl,rfl⟩
 | r::rs,l,h=>by
  unfold qY at h
  split at h
  ·rename_i b bs h1 h2
   cases h
   obtain⟨ns,g1,g2⟩:=yu h2
   unfold Lv at h1
   split at h1
   ·rename_i n
    cases h1
    exact⟨n::ns,by rw[g1];rfl,by rw[g2];rfl⟩
   ·cases h1
  ·cases h
theorem TN (r:Rel M s w) {src dst e:TypeId} {g:Tag} {z:Nat} {rows:List (List D)} {v:Value} {l:List UInt8} (hs:P.underlying src=some (.slice e)) (he:P.underlying e=some (.int .u8)) (hd:P.underlying dst=some .string)
 (hv:RD M s (.slice g z rows) v) (hb:qY rows=some l):dt P M s w (do pure (.value (← convert src dst v))) (.str l) s:=by
 obtain⟨ns,rfl,rfl⟩:=yu hb
 refine dt.pure (v:= .string ⟨⟨ns.map fun n=>UInt8.ofNat n.toNat⟩⟩) r ?_ (.str _)
 rcases hv.kG with ⟨h0,rfl,_⟩|⟨h0,_,a,cap,rfl⟩|⟨b,q,cap,rfl,hl,dJ,g1,g2,_⟩
 ·have:ns = []:=by simpa using h0
  subst this
  have:=run_convert_bytes_string w src dst e none 0 0 hs he hd
  simp only[Sem.run_bind,this,Conv.bytesToString,Sem.run_pure,Result.andThen_ok]
  rfl
 ·have:ns = []:=by simpa using h0
  subst this
  have h2:=run_convert_bytes_string w src dst e (some a) 0 cap hs he hd
  simp only[Sem.run_bind,h2,Conv.bytesToString,Sem.run_pure,Result.andThen_ok]
  rfl
 ·have ov:=run_loadCells_list (P:=P) w ⟨b,q,none⟩ (ns.map (Value.int .u8)) (fun j v hj=>by
   rw[oR]
   simp only[zap,zaw]at hj
   obtain⟨n,hn,rfl⟩:=hj
   have dL:(ns.map (fun n=> [D.int .u8 n]))[j]? = some [.int .u8 n]:=by simp[hn]
   have hz:z=1:=by have:=dJ [.int .u8 n] (zad dL);simpa using this.symm
   subst hz
   obtain⟨u,hu⟩:=g1 j _ 0 _ dL rfl
   have:=g2 j _ 0 _ u dL rfl hu
   rw[this.jz]at hu
   have:=(r.comm _ _ _ hu).1
   simpa using this)
  simp only[zau]at ov ⊢
  have h1:=run_bytesToString (P:=P) w ⟨b,q,none⟩ ns.length cap ns ov
  have h2:=run_convert_bytes_string w src dst e (some ⟨b,q,none⟩) ns.length cap hs he hd
  simp only[Sem.run_bind,h2,h1,Sem.run_pure,Result.andThen_ok,foldl_push]
  congr 3
  simp[ByteArray.empty,ByteArray.emptyWithCapacity]
  rfl
theorem N9 (r:Rel M s w) {src dst e:TypeId} {l:List UInt8} (hs:P.underlying src=some .string) (hd:P.underlying dst=some (.slice e)) (he:P.underlying e=some (.int .u8)) :
 dt P M s w (do pure (.value (← convert src dst (.string ⟨⟨l⟩⟩)))) (.slice .shared 1 (l.map fun c=> [.int .u8 c.toNat])) s:=by
 have ek:=run_bytes_of_string (P:=P) w src dst e ⟨⟨l⟩⟩ hs hd he
 generalize xf:grownCap w (ByteArray.size ⟨⟨l⟩⟩) 0 e=cap at ek
 have qK:l.length≤cap:=by rw[← xf];exact grownCap_ge w l.length 0 e
 have dL : ∀ j,j<l.length→(bytesRow ⟨⟨l⟩⟩ cap)[j]? = some (.int .u8 ((l[j]?.getD 0).toNat:Int)):=by
  intro j hj
  unfold bytesRow
  rw[zbe (by simpa using hj)]
  simp[hj]
 have dJ:(bytesRow ⟨⟨l⟩⟩ cap).size=cap:=by simp[bytesRow,Fv];omega
 have ig : ∀ v∈bytesRow ⟨⟨l⟩⟩ cap,v.oneCell'=true:=by
  intro v hv
  unfold bytesRow at hv
  simp at hv
  rcases hv with ⟨a,_,rfl⟩|⟨_,rfl⟩<;>rfl
 have hR:oq M s 1 (l.map fun c=> [D.int .u8 c.toNat]) (bytesRow ⟨⟨l⟩⟩ cap):=by
  refine⟨by simp[dJ];omega,by simp,ig,fun i row j d v e1 e2 e3=>?_⟩
  simp only[zap,zaw]at e1
  obtain⟨c,hc,rfl⟩:=e1
  cases j with
  |zero=>
   simp at e2;subst e2
   have hi:=(zac.1 hc).1
   rw[show i*1+0=i by omega,dL i hi,hc]at e3
   cases e3
   exact .int _ _
  |succ j=>simp at e2
 obtain⟨r1,e1⟩:=(r.of_heap (w':=w.drew) rfl).gU l.length (bytesRow ⟨⟨l⟩⟩ cap) e ((bytesRow ⟨⟨l⟩⟩ cap).size,(bytesRow ⟨⟨l⟩⟩ cap).size+1) ig
 obtain⟨f1,f2⟩:=hR.fixed e1.le (b:=w.heap.size) (fun o ho=>by simp at ho;simp[Map.gU,ho])
 refine⟨.slice (some ⟨w.heap.size,0,none⟩) l.length cap,_,_, .inl (by simp only[Sem.run_bind,ek,Result.andThen_ok,Sem.run_pure];rfl),r1, ?_,(Ext.of_heap (M:=M) (s:=s) (w:=w) (w':=w.drew) rfl rfl rfl rfl).trans e1⟩
 have key:=RD.slice (M:=M.gU w.heap.size l.length (bytesRow ⟨⟨l⟩⟩ cap)) (s:=s) .shared 1 (l.map fun c=> [D.int .u8 c.toNat]) w.heap.size 0 cap (by simpa using qK) hR.2.1 f1 f2 trivial
 simp only[zau]at key
 exact key
theorem Z6 (r:Rel M s w) {t e:TypeId} {q z:Nat} {yb:Bool} {rows:List (List D)} {v:Value} (ht:P.underlying t=some (.slice e)) (he:P.underlying e=some (.int .u8)) (hv:RD M s (.slice (.tok q yb) z rows) v) (dj:rows≠ []) (hq:s.au[q]? = some (some rows.length)) :
 dt P M s w (do pure (.value (← convert t t v))) (.slice .shared z rows) {s with au:=s.au.set q none}:=by
 rcases hv.kG with ⟨h0,_,_⟩|⟨h0,_,_⟩|⟨b,k,cap,rfl,hl,dJ,g1,g2,q7⟩
 ·exact(dj h0).elim
 ·exact(dj h0).elim
 ·obtain⟨_,h2⟩:=q7
  obtain⟨_,h3⟩:=h2 _ hq
  rcases h3 rfl with ⟨_,h4,_⟩|⟨b2,h4,jK⟩
  ·subst h4
   exact(dj (za2 (Nat.le_zero.1 hl))).elim
  cases h4
  obtain⟨r1,l1⟩:=r.alS q
  rcases r.tok q rows.length hq with ⟨h4,_⟩|⟨b',sR,Cv,vs,T,h4,h5,h6,h7,h8⟩
  ·rw[jK]at h4;cases h4
  ·rw [jK]at h4;cases h4
   have kb : ∀ p,St.live {s with au:=s.au.set q none} p→p≠q∧s.live p:=by
    rintro p ⟨n,hn⟩
    rw[zaM]at hn
    split at hn
    ·simp at hn
    ·rename_i dj;exact⟨fun h=>dj h.symm,n,hn⟩
   obtain⟨r2,hh,rL,ho,vv,He⟩:=r1.freeze (b:=b) vs.size 1 (fun o ho=>r.fL q b cap _ o ⟨_,hq⟩ jK ho)
    (fun p c y hp heq=>(kb p hp).1 (r.gS p q b c y cap _ (kb p hp).2 ⟨_,hq⟩ heq jK))
   have ahs:w.shape? b=some (T,vs.size):=by simp[World.shape?,h5]
   refine⟨.slice (some ⟨b,0,none⟩) rows.length cap,_,M, .inl ?_,r2, ?_, ?_⟩
   ·simp[convert,run_underlying ht,run_underlying he,markStringish,ahs]
   ·have h9:=(RD.slice (M:=M) (s:=s) .shared z rows b 0 cap hl dJ g1 g2 trivial).mono l1
    exact h9
   ·refine⟨l1,fun p _ _ h4=>hh p (fun e=>h4 q cap (bz yb z) ⟨_,hq⟩ (by rw [jK,e])),fun o h3 h4=> ?_,fun p b' c y hp heq=> .inl ⟨(kb p hp).2,c,y,heq⟩,fun _ _ h=>(h rfl).elim,by rw [rL];exact zak _,ho,vv,He⟩
    simp at h4;omega
theorem WZ (r:Rel M s w) {size:Nat} {rows:List (List D)} {vs:Array Value} (T:TypeId) (h:oq M s size rows vs) (dJ:vs.size=rows.length*size) (vF:0<size) :
 ∃ M',RD M' {s with au:=s.au++ [some rows.length]} (.slice (.tok s.au.length) size rows) (.slice (some ⟨w.heap.size,0,none⟩) rows.length rows.length)∧
 Rel M' {s with au:=s.au++ [some rows.length]} (w.alloc (.cells vs T))∧Ext M s w M' {s with au:=s.au++ [some rows.length]} (w.alloc (.cells vs T)):=by
 obtain⟨r1,e1⟩:=r.gU vs.size vs T (0,0) h.2.2.1
 have yr:zs size=size:=by show(if size=0 then 1 else size)=size;rw[if_neg (by omega)]
 obtain⟨r2,l2⟩:=r1.ady rows.length w.heap.size rows.length size vs T (heap_alloc_new w _) (by rw[yr];exact dJ) (zak _) ⟨fun h=>by omega,h.2.2.1⟩
  (fun off ho=>by rw[yr]at ho;simp[Map.gU];omega) (fun o ho=>by have:=r.tz ho;show M.mu o≠_;omega)
  (fun q c z' hl heq=>by have:=r.v8 hl (show M.be q=some (w.heap.size,c,z')from heq);omega)
 obtain⟨f1,f2⟩:=h.fixed (e1.le.trans l2) (b:=w.heap.size) (fun o ho=>by
  have:o<vs.size:=zaX ho h.1
  simp[Map.eY,Map.gU,this])
 refine⟨_, ?_,r2, ?_⟩
 ·exact .slice _ size rows w.heap.size 0 rows.length (zak _) h.2.1 f1 f2 ⟨by simp,fun n hn=>by
   simp at hn;subst hn
   exact⟨zak _,fun _=> .inr ⟨_,rfl,by simp[Map.eY,bz]⟩⟩⟩
 ·refine⟨e1.le.trans l2,e1.kept,e1.vz,fun q b c z' hl heq=> ?_,e1.uE,e1.size,e1.os,e1.tape,e1.output⟩
  obtain⟨k,hk⟩:=hl
  rcases zaE q s.au.length with h'|h'
  ·have N8:M.be q=some (b,c,z'):=by
    have:((M.gU w.heap.size vs.size vs).eY s.au.length (some (w.heap.size,rows.length,size))).be q=M.be q:=by simp[Map.eY,Map.gU];omega
    rw[this]at heq;exact heq
   simp only[zai h']at hk
   exact .inl ⟨⟨k,hk⟩,c,z',N8⟩
  ·have:=(zac.1 hk).1
   simp at this
   have:q=s.au.length:=by omega
   subst this
   have:((M.gU w.heap.size vs.size vs).eY s.au.length (some (w.heap.size,rows.length,size))).be s.au.length=some (w.heap.size,rows.length,size):=by simp[Map.eY]
   rw[this]at heq;cases heq
   exact .inr (zak _)
end
end Go.Abs
namespace Go.Abs
open Go.MapKept
section
variable {P:Program} {M:Map} {s:St} {w:World}
theorem zC : ∀ (a b:List MapEntry),jg (a++b)=jg a++jg b
 | [],b=>rfl
 |e::a,b=>by simp only[zaV,jg,zC a b]
theorem LC : ∀ (a:List MapEntry) (j:Nat) (e:MapEntry) (k v:Value),a[j]? = some e→e.key=k→jg (a.set j {e with key:=k,val:=v})=(jg a).set (2*j+1) v
 | [],j,e,k,v,h,_=>by simp at h
 |x::a,0,e,k,v,h,hk=>by
  simp at h;subst h;subst hk
  simp[jg]
 |x::a,j+1,e,k,v,h,hk=>by
  have:=LC a j e k v (by simpa using h) hk
  simp only[zbt,jg,this]
  rw[show 2*(j+1)=(2*j+1)+1 by omega,zbt]
theorem Z7 (a b:List UInt8):((⟨⟨a⟩⟩:ByteArray) == ⟨⟨b⟩⟩)=(a==b):=by
 show((⟨a⟩:Array UInt8) == ⟨b⟩)=(a==b)
 simp
theorem find_spec {key:List UInt8} : ∀ (es:List MapEntry) (cs:List D) (i:Nat),(jg es).length=cs.length→(∀ (i:Nat) (d:D) (v:Value),cs[i]? = some d→(jg es)[i]? = some v→RD M s d v)→
 (∀ z d,Cr key z cs=some d→(Instr.findNow .string (.string ⟨⟨key⟩⟩) es i=some none∧d=z)∨∃ (j:Nat) (e:MapEntry),Instr.findNow .string (.string ⟨⟨key⟩⟩) es i=some (some (i+j,e.val))∧RD M s d e.val)∧
 (∀ d lq,AA key d cs=some lq→(Instr.findNow .string (.string ⟨⟨key⟩⟩) es i=some none∧lq=cs++ [.str key,d])∨
  ∃ (j:Nat) (e:MapEntry),Instr.findNow .string (.string ⟨⟨key⟩⟩) es i=some (some (i+j,e.val))∧es[j]? = some e∧e.key = .string ⟨⟨key⟩⟩∧lq=cs.set (2*j+1) d)
 | [],cs,i,hl,hr=>by
  have:cs = []:=by cases cs<;>simp[jg]at hl;rfl
  subst this
  refine⟨fun z d h=> .inl ⟨rfl,by simp[Cr]at h;exact h.symm⟩,fun d lq h=> .inl ⟨rfl,by simp[AA]at h;simp[← h]⟩⟩
 | x::es,cs,i,hl,hr=>by
  match cs,hl with
  | [],hl=>simp[jg]at hl
  | [_],hl=>simp[jg]at hl
  | c0::c1::r,hl=>
   simp only[jg,zas]at hl hr
   have h0:=hr 0 c0 x.key rfl rfl
   have h1:=hr 1 c1 x.val rfl rfl
   obtain⟨ih1,ih2⟩:=find_spec es r (i+1) (by omega) (fun j d v e1 e2=>hr (j+2) d v (by simpa using e1) (by simpa using e2))
   have hky : ∀ k,c0 = .str k→x.key = .string ⟨⟨k⟩⟩∧Instr.findNow .string (.string ⟨⟨key⟩⟩) (x::es) i=if key==k then some (some (i,x.val))else Instr.findNow .string (.string ⟨⟨key⟩⟩) es (i+1):=by
    intro k hk
    subst hk
    have hx:=h0.nw
    refine⟨hx, ?_⟩
    simp only[Instr.findNow,hx,Instr.sameNow,Z7]
    cases hb:key==k<;>simp
   refine⟨fun z d h=>?_,fun d lq h=>?_⟩
   ·cases c0 <;> simp only [Cr]at h <;> try (cases h;done)
    rename_i k
    obtain⟨k1,k2⟩:=hky k rfl
    rw[k2]
    by_cases Dx:k=key
    ·subst Dx
     simp at h
     subst h
     exact .inr ⟨0,x,by simp,h1⟩
    ·have e1:(k==key)=false:=by simpa using Dx
     have e2:(key==k)=false:=by simpa using fun e:key=k=>Dx (Eq.symm e)
     rw[e1]at h
     rw[e2]
     simp only[zab,↓reduceIte]at h ⊢
     rcases ih1 z d h with h2|⟨j,e,h2,h3⟩
     ·exact .inl h2
     ·exact .inr ⟨j+1,e,by rw[h2];congr 3;omega,h3⟩
   ·cases c0 <;> simp only [AA]at h <;> try (cases h;done)
    rename_i k
    obtain⟨k1,k2⟩:=hky k rfl
    rw[k2]
    by_cases Dx:k=key
    ·subst Dx
     simp at h
     subst h
     exact .inr ⟨0,x,by simp,rfl,k1,by simp⟩
    ·have e1:(k==key)=false:=by simpa using Dx
     have e2:(key==k)=false:=by simpa using fun e:key=k=>Dx (Eq.symm e)
     rw[e1]at h
     rw[e2]
     simp only[zab,↓reduceIte]at h ⊢
     split at h
     ·rename_i r' Lz
      cases h
      rcases ih2 d r' Lz with ⟨h2,h3⟩|⟨j,e,h2,h3,h4,h5⟩
      ·exact .inl ⟨h2,by rw[h3];rfl⟩
      ·refine .inr ⟨j+1,e,by rw [h2];congr 3;omega,by simpa using h3,h4, ?_⟩
       rw[h5,show 2*(j+1)+1=(2*j+1)+1+1 by omega]
       simp only[zbt]
     ·cases h
theorem Rel.nJ (r:Rel M s w) {o:Nat} {cs lq:List D} (he:s.ag[o]? = some cs) (hk:M.ob o = .map) (Eg:Array MapEntry) (ck:Nat) (hl:(jg Eg.toList).length=lq.length)
 (h1 : ∀ v∈jg Eg.toList,v.oneCell'=true) (h2 : ∀ (i:Nat) (d:D) (v:Value),lq[i]? = some d→(jg Eg.toList)[i]? = some v→RD M s d v) :
 Rel M {s with ag:=s.ag.set o lq} {w with heap:=w.heap.setIfInBounds (M.mu o) (.map Eg ck)}∧Ext M s w M {s with ag:=s.ag.set o lq} {w with heap:=w.heap.setIfInBounds (M.mu o) (.map Eg ck)}:=by
 obtain⟨vs,T,hh,hs,⟨ig,hty⟩,jy⟩:=r.obj o cs he
 obtain⟨es,ck0,(hh:w.heap[M.mu o]? = _),nh⟩:=hh.Tg hk
 have ho:o<s.ag.length:=(zac.1 he).1
 obtain⟨nV,oj⟩:=heap_set (w:=w) (o':= .map Eg ck) hh
 have le:Le M s M {s with ag:=s.ag.set o lq}:=
  ⟨fun _ _ _ h=>h,by simp,fun _ _=> .refl _,zak _,fun t n _ h=>⟨n,h,zak _,fun _=>rfl⟩⟩
 refine⟨⟨fun b q v e=>?_,fun o' ds e=>?_,fun q hq AE=>r.kU q (by simpa using hq) AE,fun q q' hq om e=>r.inj q q' (by simpa using hq) (by simpa using om) e,fun t n e=>?_,
  fun t b c z q hl e hq=>r.fL t b c z q hl e (by simpa using hq),fun t t' b c z c' z' h h' e e'=>r.gS t t' b c z c' z' h h' e e'⟩, ?_⟩
 ·obtain⟨h3,h4⟩:=r.comm b q v e
  refine⟨?_,h4⟩
  have hb:b≠M.mu o:=fun eq=>by subst eq;rw[r.kU o ho q]at e;cases e
  rw[← h3]
  simp[World.cell?,oj b hb]
 ·rw [zaM]at e
  split at e
  ·rename_i heq
   subst heq
   simp at e
   obtain⟨_,rfl⟩:=e
   refine⟨⟨jg Eg.toList⟩,0, ?_,by simpa using hl,⟨fun v hv=>h1 v (by simpa using hv),fun T' h=>?_⟩,fun i d v e1 e2=>(h2 i d v e1 (by simpa using e2)).mono le⟩
   ·exact jR.ofMap hk ⟨Eg,ck,nV,rfl⟩
   ·have:M.ty o=none:=by
     have:(M.loc o).2 = .map:=hk
     simp[Map.ty,this,Ob.ty?]
    rw[this]at h;cases h
  ·rename_i dj
   obtain⟨gf,T',h3,h4,h5,h6⟩:=r.obj o' ds e
   have nF:o'<s.ag.length:=(zac.1 e).1
   refine⟨gf,T', ?_,h4,h5,fun i d v e1 e2=>(h6 i d v e1 e2).mono le⟩
   exact h3.keep (oj _ (fun eq=>dj (r.inj o o' ho nF eq.symm)))
 ·rcases r.tok t n e with h3 | ⟨b,cap,size,gf,T',h3,h4,h5⟩
  ·exact .inl h3
  ·refine .inr ⟨b,cap,size,gf,T',h3, ?_,h5⟩
   show(w.heap.setIfInBounds (M.mu o) (.map Eg ck))[b]? = _
   rw[oj b (fun eq=>r.fL t b cap size o ⟨n,e⟩ h3 ho eq.symm)];exact h4
 ·refine⟨le,fun b hb h3 _=>oj b (fun eq=>h3 o ho eq.symm),fun q h3 h4=> ?_,fun t b c z h e=> .inl ⟨h,c,z,e⟩,fun _ _ h=>(h rfl).elim,by simp,rfl,rfl,rfl⟩
  simp at h4;rcases h3 with h3|h3;omega;exact(h3 rfl).elim
theorem wK (l:List UInt8):IsKey .string (.string ⟨⟨l⟩⟩):=by simp[IsKey]
theorem TO (r:Rel M s w) {t kt e:TypeId} (ht:P.underlying t=some (.map kt e)):dt P M s w (do pure (.value (← Instr.makeMap t none))) (.iC s.ag.length) {s with ag:=s.ag++ [[]]}:=by
 obtain⟨r',e'⟩:=r.NZ [] (.map #[] 0) #[] 0 .map (fun hp e=>⟨#[],0,e,rfl⟩) (fun _ h=>by cases h) rfl (by simp) (by simp)
 have hm:(M.eD s.ag.length w.heap.size .map).mu s.ag.length=w.heap.size:=by simp[Map.eD,Map.mu]
 have hv:=RD.iC (M:=M.eD s.ag.length w.heap.size .map) (s:= {s with ag:=s.ag++ [[]]}) s.ag.length (by simp) (by simp[Map.eD,Map.ob])
 rw[hm]at hv
 refine⟨_,_,_, .inl ?_,r',hv,e'⟩
 simp only[Instr.makeMap,newObj,Sem.run_bind,Sem.run_pure,Sem.run,Result.andThen_ok]
 rfl
theorem TP (r:Rel M s w) {t kt e:TypeId} {i:TypeInfo} {z:Value} {zd:D} (ht:P.underlying t=some (.map kt e)) (hk:P.underlying kt=some .string) (hi:P.info? e=some i) (hz:i.zero=some z) (hzd:vB z=some zd)
 {o:Nat} {key:List UInt8} {cs:List D} {d:D} (yo:M.ob o = .map) (ho:s.ag[o]? = some cs) (hg:Cr key zd cs=some d) :
 dt P M s w (do pure (.value (← Instr.lookup t (.map (some (M.mu o))) (.string ⟨⟨key⟩⟩) false))) d s:=by
 obtain⟨vs,T,hh,hs,⟨ig,hty⟩,jy⟩:=r.obj o cs ho
 obtain⟨es,ck,(hh:w.heap[M.mu o]? = _),nh⟩:=hh.Tg yo
 have Hf : ∀ (i:Nat) (d:D) (v:Value),cs[i]? = some d→(jg es.toList)[i]? = some v→RD M s d v:=fun i d v e1 e2=>jy i d v e1 (by rw[← nh]at e2;simpa using e2)
 have hzv:(zeroValue e).run P w = .ok z w:=by simp[zeroValue,iE P hi,hz]
 rcases(find_spec es.toList cs 0 (by rw[← nh];simpa using hs) Hf).1 zd d hg with ⟨h1,rfl⟩|⟨j,en,h1,h2⟩
 ·refine dt.pure (v:=z) r ?_ (tB hzd).1
  simp[Instr.lookup,run_underlying ht,MapKept.run_getObj_map hh,run_checkKey hk (wK key),run_findKey hk h1,hzv]
 ·refine dt.pure (v:=en.val) r ?_ h2
  simp[Instr.lookup,run_underlying ht,MapKept.run_getObj_map hh,run_checkKey hk (wK key),run_findKey hk h1]
theorem W0 (r:Rel M s w) {t kt e:TypeId} (ht:P.underlying t=some (.map kt e)) (hk:P.underlying kt=some .string)
 {o:Nat} {key:List UInt8} {cs lq:List D} {d:D} {v:Value} (yo:M.ob o = .map) (ho:s.ag[o]? = some cs) (hv:RD M s d v) (xB:v.oneCell'=true) (hg:AA key d cs=some lq) :
 dt P M s w (do Instr.mapUpdate t (.map (some (M.mu o))) (.string ⟨⟨key⟩⟩) v;pure .skip) (.tuple []) {s with ag:=s.ag.set o lq}:=by
 obtain⟨vs,T,hh,hs,⟨ig,hty⟩,jy⟩:=r.obj o cs ho
 obtain⟨es,ck,(hh:w.heap[M.mu o]? = _),nh⟩:=hh.Tg yo
 have Hf : ∀ (i:Nat) (d:D) (v:Value),cs[i]? = some d→(jg es.toList)[i]? = some v→RD M s d v:=fun i d v e1 e2=>jy i d v e1 (by rw[← nh]at e2;simpa using e2)
 have hl:(jg es.toList).length=cs.length:=by rw[← nh];simpa using hs
 have adE : ∀ v∈jg es.toList,v.oneCell'=true:=fun v hv=>ig v (by rw[← nh]at hv;simpa using hv)
 rcases(find_spec es.toList cs 0 hl Hf).2 d lq hg with ⟨h1,rfl⟩|⟨j,en,h1,h2,h3,rfl⟩
 ·obtain⟨r',e'⟩:=r.nJ (lq:=cs++ [.str key,d]) ho yo (es.push {key:= .string ⟨⟨key⟩⟩,val:=v,born:=ck}) (ck+1) (by simp [zC,jg,hl]) (fun u hu=>by
   simp only[Array.toList_push,zC,jg,zar,zaq,zbG,or_false]at hu
   rcases hu with hu|rfl|rfl
   ·exact adE u hu
   ·rfl
   ·exact xB) (fun i d' u e1 e2=>by
   simp only[Array.toList_push,zC,jg]at e2
   rcases zaE i cs.length with hi|hi
   ·rw [zai hi]at e1
    rw[zai (by omega)]at e2
    exact Hf i d' u e1 e2
   ·rw [zao hi]at e1
    rw[zao (by omega),hl]at e2
    match i - cs.length,e1,e2 with
    | 0,e1,e2=>simp at e1 e2;subst e1 e2;exact .str _
    | 1,e1,e2=>simp at e1 e2;subst e1 e2;exact hv
    |k+2,e1,e2=>simp at e1)
  refine⟨Go.undef,_,M, .inr ⟨?_,rfl⟩,r', .undef,e'⟩
  simp[Instr.mapUpdate,run_underlying ht,MapKept.run_getObj_map hh,run_checkKey hk (wK key),run_findKey hk h1,MapKept.run_setObj_map _ hh]
 ·simp only [zaS]at h1
  have hj:es[j]? = some en:=by simpa using h2
  have Z8:(es.modify j fun e=> {e with key:= .string ⟨⟨key⟩⟩,val:=v}).toList=es.toList.set j {en with key:= .string ⟨⟨key⟩⟩,val:=v}:=by
   apply zbZ
   intro i
   rw[Array.getElem?_toList,zbW,zaM]
   by_cases hij:j=i
   ·subst hij
    have:j<es.size:=by have:=(zac.1 h2).1;simpa using this
    simp[hj,this]
    have:=(zaU.1 hj).2
    rw[this]
   ·simp[hij]
  have fM:=LC es.toList j en (.string ⟨⟨key⟩⟩) v h2 h3
  obtain⟨r',e'⟩:=r.nJ (lq:=cs.set (2*j+1) d) ho yo (es.modify j fun e=> {e with key:= .string ⟨⟨key⟩⟩,val:=v}) ck (by rw[Z8,fM];simp[hl]) (fun u hu=>by
   rw[Z8,fM]at hu
   rcases List.mem_or_eq_of_mem_set hu with hu|rfl
   ·exact adE u hu
   ·exact xB) (fun i d' u e1 e2=>by
   rw[Z8,fM,zaM]at e2
   rw[zaM]at e1
   by_cases hi:2*j+1=i
   ·rw [if_pos hi]at e1 e2
    split at e1
    ·split at e2
     ·cases e1;cases e2;exact hv
     ·cases e2
    ·cases e1
   ·rw [if_neg hi]at e1 e2
    exact Hf i d' u e1 e2)
  refine⟨Go.undef,_,M, .inr ⟨?_,rfl⟩,r', .undef,e'⟩
  simp[Instr.mapUpdate,run_underlying ht,MapKept.run_getObj_map hh,run_checkKey hk (wK key),run_findKey hk h1,hj,h3,run_keyThatStays (wK key),MapKept.run_setObj_map _ hh]
end
end Go.Abs
namespace Go.Abs
section
variable {M:Map} {s:St} {w:World}
theorem Iw {o g:Nat} {cells:List D} (h:qq s o g=some cells):s.ag[o]? = some (.int .i64 g::cells):=by
 unfold qq at h
 split at h
 ·rename_i n cs e
  split at h
  ·rename_i hn;cases h;rw[e,hn]
  ·cases h
 ·cases h
theorem Rel.Oa (r:Rel M s w) {o z g:Nat} {A:Nat→Option (Nat×Nat)} {cells:List D} (hm:M.ob o = .arr z A) (ha:qq s o g=some cells) :
 ∃ (us:Array Value) (T:TypeId) (cap:Nat),w.heap[M.mu o]? = some (.cells us T (0,0))∧A g=some (M.mu o,cap)∧(∀ g',g<g'→A g'=none)∧us.size=cap*z∧cells.length≤us.size∧
  (∀ u∈us,u.oneCell'=true)∧∀ (i:Nat) (d:D) (u:Value),cells[i]? = some d→us[i]? = some u→RD M s d u:=by
 obtain⟨vs,T,hh,hs,_,jy⟩:=r.obj o _ (Iw ha)
 obtain⟨us,g0,n,cap,h1,h2,h3,h4,h5,h6,h7⟩ : ∃ (us:Array Value) (g n cap:Nat),w.heap[(M.loc o).1]? = some (.cells us T (0,0))∧A g=some ((M.loc o).1,cap)∧(∀ g',g<g'→A g'=none)∧us.size=cap*z∧n≤us.size∧
  vs.toList = .int .i64 g::us.toList.take n∧∀ u∈us,u.oneCell'=true:=by
  unfold jR at hh
  rw[show(M.loc o).2 = .arr z A from hm]at hh
  exact hh
 have hZ : ∀ i,vs[i]? = (Value.int .i64 g0::us.toList.take n)[i]? :=fun i=>by rw[← h6,Array.getElem?_toList]
 have hg:g0=g:=by
  have:=(jy 0 (.int .i64 g) (.int .i64 g0) rfl (by rw[hZ];rfl))
  cases this
  rfl
 subst hg
 have hn:n=cells.length:=by
  have:vs.toList.length=(Value.int .i64 g0::us.toList.take n).length:=by rw[h6]
  simp at this hs
  omega
 subst hn
 refine⟨us,T,cap,h1,h2,h3,h4,h5,h7,fun i d u e1 e2=>jy (i+1) d u (by simpa using e1) ?_⟩
 rw[hZ,za5,zaY,if_pos (zac.1 e1).1]
 simpa using e2
def Map.rP (M:Map) (o:Nat) (l:Nat×Ob):Map:= {M with loc:=fun q=>if q=o then l else M.loc q}
theorem Rel.Z9 (r:Rel M s w) {o z g:Nat} {A:Nat→Option (Nat×Nat)} {cells:List D} (hm:M.ob o = .arr z A) (ha:qq s o g=some cells) (b' g' sR:Nat) (A':Nat→Option (Nat×Nat))
 (hA : ∀ g x,A g=some x→A' g=some x) (wD:A' g'=some (b',sR)) (Gl : ∀ R4,g'<R4→A' R4=none) (w':World) (us:Array Value) (T:TypeId) (hh:w'.heap[b']? = some (.cells us T (0,0))) (dJ:us.size=sR*z)
 (wL:List D) (hl:wL.length≤us.size) (ig : ∀ u∈us,u.oneCell'=true) (jy : ∀ (i:Nat) (d:D) (u:Value),wL[i]? = some d→us[i]? = some u→RD M s d u)
 (hb:b'=M.mu o∨w.heap.size≤b') (Nx : ∀ b,b<w.heap.size→b≠M.mu o→w'.heap[b]? = w.heap[b]?) (wb:w.heap.size≤w'.heap.size) (h1:w'.os=w.os) (h2:w'.tape=w.tape) (h3:w'.output=w.output) :
 Rel (M.rP o (b', .arr z A')) {s with ag:=s.ag.set o (.int .i64 g'::wL)} w'∧Ext M s w (M.rP o (b', .arr z A')) {s with ag:=s.ag.set o (.int .i64 g'::wL)} w':=by
 have ho:o<s.ag.length:=(zac.1 (Iw ha)).1
 have Dv:(M.loc o).2 = .arr z A:=hm
 have nV:(M.rP o (b', .arr z A')).loc o=(b', .arr z A'):=by simp[Map.rP]
 have TQ : ∀ q,q≠o→(M.rP o (b', .arr z A')).loc q=M.loc q:=fun q hq=>by simp[Map.rP,hq]
 have pL:(M.rP o (b', .arr z A')).mu o=b':=congrArg Prod.fst nV
 have Hg : ∀ q,q≠o→(M.rP o (b', .arr z A')).mu q=M.mu q:=fun q hq=>congrArg Prod.fst (TQ q hq)
 have le:Le M s (M.rP o (b', .arr z A')) {s with ag:=s.ag.set o (.int .i64 g'::wL)}:=by
  refine⟨fun _ _ _ h=>h,by simp,fun q _=>?_,zak _,fun t n _ h=>⟨n,h,zak _,fun _=>rfl⟩⟩
  by_cases hq:q=o
  ·subst hq
   rw[nV,show M.loc q=((M.loc q).1, .arr z A) by rw[← Dv]]
   exact .arr _ _ z A A' hA
  ·rw[TQ q hq];exact .refl _
 have dj : ∀ q,q<s.ag.length→q≠o→M.mu q≠b':=fun q hq yv e=>by
  rcases hb with hb|hb
  ·exact yv (r.inj q o hq ho (e.trans hb))
  ·have:=r.tz hq;omega
 have hG : ∀ off,M.G b' off=none:=fun off=>by
  rcases hb with hb|hb
  ·rw[hb];exact r.kU o ho off
  ·exact r.Nw hb off
 refine⟨⟨fun b q v e=>?_,fun q ds e=>?_,fun q hq off=>?_,fun q q' hq om e=>?_,fun t n e=>?_,fun t b c z' q hl e hq=>?_,fun t t' b c z c' z' h h' e e'=>r.gS t t' b c z c' z' h h' e e'⟩, ?_⟩
 ·obtain⟨h4,h5⟩:=r.comm b q v e
  refine⟨?_,h5⟩
  have hbo:b≠M.mu o:=fun eq=>by subst eq;have e0:M.G (M.mu o) q=some v:=e;rw[r.kU o ho q]at e0;cases e0
  rw[← h4]
  simp[World.cell?,Nx b (r.D7 e) hbo]
 ·simp only [zaM]at e
  split at e
  ·rename_i hq
   subst hq
   cases e
   refine⟨⟨.int .i64 g'::us.toList.take wL.length⟩,T, ?_,by simp;omega,⟨fun v hv=>?_,fun T' hT=>?_⟩,fun i d v e1 e2=>?_⟩
   ·unfold jR
    rw[nV]
    exact⟨us,g',wL.length,sR,hh,wD,Gl,dJ,hl,rfl,ig⟩
   ·simp at hv
    rcases hv with rfl|hv
    ·rfl
    ·exact ig v (zaQ.1 (za0 hv))
   ·have:(M.rP o (b', .arr z A')).ty o=none:=by unfold Map.ty;rw [nV];rfl
    rw[this]at hT;cases hT
   ·cases i with
    |zero=>simp at e1 e2;subst e1 e2;exact .int _ _
    |succ i=>
     simp at e1 e2
     rw[zaY]at e2
     split at e2
     ·exact(jy i d v e1 (by simpa using e2)).mono le
     ·cases e2
  ·rename_i hq
   have hq:q≠o:=fun e=>hq e.symm
   obtain⟨gf,T',h4,h5,h6,h7⟩:=r.obj q ds e
   have Gn:q<s.ag.length:=(zac.1 e).1
   refine⟨gf,T', ?_,h5,⟨h6.1,by unfold Map.ty;rw[TQ q hq];exact h6.2⟩,fun i d v e1 e2=>(h7 i d v e1 e2).mono le⟩
   rw[TQ q hq]
   exact h4.keep (Nx _ h4.lt fun e=>hq (r.inj q o Gn ho e))
 ·simp at hq
  by_cases yv:q=o
  ·subst yv;rw[pL];exact hG off
  ·rw[Hg q yv];exact r.kU q hq off
 ·simp at hq om
  by_cases h4:q=o<;>by_cases h5:q'=o
  ·omega
  ·subst h4;rw[pL,Hg q' h5]at e;exact(dj q' om h5 e.symm).elim
  ·subst h5;rw[pL,Hg q h4]at e;exact(dj q hq h4 e).elim
  ·rw[Hg q h4,Hg q' h5]at e;exact r.inj q q' hq om e
 ·rcases r.tok t n e with h4 | ⟨b,cap,size,gf,T',h4,h5,h6⟩
  ·exact .inl h4
  ·refine .inr ⟨b,cap,size,gf,T',h4, ?_,h6⟩
   rw[Nx b (lT h5) (fun eq=>r.fL t b cap size o ⟨n,e⟩ h4 ho eq.symm)];exact h5
 ·simp at hq
  by_cases yv:q=o
  ·subst yv;rw [pL]
   rcases hb with hb|hb
   ·rw[hb];exact r.fL t b c z' q hl e hq
   ·have:=r.v8 hl e;omega
  ·rw[Hg q yv];exact r.fL t b c z' q hl e hq
 ·refine⟨le,fun b rQ h4 _=>Nx b rQ (fun e=>h4 o ho e.symm),fun q h4 h5=> ?_,fun t b c z h e=> .inl ⟨h,c,z,e⟩,fun _ _ h=>(h rfl).elim,wb,h1,h2,h3⟩
  simp at h5
  by_cases yv:q=o
  ·subst yv
   rw[pL]at h4 ⊢
   rcases hb with hb|hb
   ·rcases h4 with h4 | h4
    ·omega
    ·exact(h4 hb).elim
   ·exact hb
  ·rw [Hg q yv]at h4
   rcases h4 with h4|h4
   ·omega
   ·exact(h4 rfl).elim
theorem Rel.ahu (r:Rel M s w) (z cap:Nat) (us:Array Value) (T:TypeId) (dJ:us.size=cap*z) (cells:List D) (hl:cells.length≤us.size) (ig : ∀ u∈us,u.oneCell'=true)
 (jy : ∀ (i:Nat) (d:D) (u:Value),cells[i]? = some d→us[i]? = some u→RD M s d u) :
 ∃ M',Rel M' {s with ag:=s.ag++ [.int .i64 ((0:Nat):Int)::cells]} (w.alloc (.cells us T))∧Ext M s w M' {s with ag:=s.ag++ [.int .i64 ((0:Nat):Int)::cells]} (w.alloc (.cells us T))∧
  ∀ len,len≤cap→RD M' {s with ag:=s.ag++ [.int .i64 ((0:Nat):Int)::cells]} (.dr z s.ag.length 0 len) (.slice (some ⟨w.heap.size,0,none⟩) len cap):=by
 obtain⟨r',e'⟩:=r.NZ (.int .i64 ((0:Nat):Int)::cells) (.cells us T) ⟨.int .i64 ((0:Nat):Int)::us.toList.take cells.length⟩ T (.arr z fun g=>if g=0 then some (w.heap.size,cap)else none)
  (fun hp e=>⟨us,0,cells.length,cap,e,rfl,fun g' h=>if_neg (by omega),dJ,hl,rfl,ig⟩) (fun _ h=>by cases h) (by simp;omega) (fun v hv=>by
   simp at hv
   rcases hv with rfl|hv
   ·rfl
   ·exact ig v (zaQ.1 (za0 hv))) (fun i d v e1 e2=>by
   cases i with
   |zero=>simp at e1 e2;subst e1 e2;exact .int _ _
   |succ i=>
    simp at e1 e2
    rw[zaY]at e2
    split at e2
    ·exact(jy i d v e1 (by simpa using e2)).mono (vC s w.heap.size _ _)
    ·cases e2)
 exact⟨_,r',e',fun len h=> .dr z _ 0 len w.heap.size cap _ (by simp) (by simp[Map.eD,Map.ob];rfl) (if_pos rfl) h⟩
end
end Go.Abs
namespace Go.Abs
section
variable {P:Program} {M:Map} {s:St} {w:World}
theorem R5 (r:Rel M s w) {o g off:Nat} {v:Value} {cells:List D} (hx:RD M s (.fK o g off) v) (ha:qq s o g=some cells) :
 ∃ z A,M.ob o = .arr z A∧v = .pointer (some ⟨M.mu o,off,none⟩):=by
 obtain⟨z,b,cap,A,hv,ho,hm,hg⟩:=hx.G8
 obtain⟨us,T,sR,h1,h2,_⟩:=r.Oa hm ha
 rw[hg]at h2;cases h2
 exact⟨z,A,hm,hv⟩
theorem Q7 (r:Rel M s w) {t:TypeId} {i:TypeInfo} {agg:Bool} (hi:P.info? t=some i) (hag:uG P t=some agg) {x d:D} {v:Value} {s':St} (hx:RD M s x v) (h:Cs x agg i.size s=some (d,s')) :
 dt P M s w (do pure (.value (← Instr.loadAt t v))) d s':=by
 unfold Cs at h
 split at h
 case h_2=>cases h
 rename_i o g off
 split at h
 case h_2=>cases h
 rename_i cells ha
 split at h
 case h_2=>cases h
 rename_i d' hp
 cases h
 obtain⟨z,A,hm,rfl⟩:=R5 r hx ha
 obtain⟨us,T,cap,hh,_,_,_,hl,ig,jy⟩:=r.Oa hm ha
 let n:=if agg then i.size else 1
 have gT:off+n≤us.size:=by
  rcases ug hp with ⟨rfl,h1,_⟩|⟨rfl,h1⟩
  ·simp[n];omega
  ·have:=(zac.1 h1).1;simp[n];omega
 have hlen:((us.toList.drop off).take n).length=n:=by simp;omega
 have hZ : ∀ (j:Nat) (u:Value),((us.toList.drop off).take n)[j]? = some u→us[off+j]? = some u:=by
  intro j u h
  rw[zaY]at h
  split at h
  ·rw[zbq]at h;simpa using h
  ·cases h
 have ek:=Cx (w:=w) P hi hag (M.mu o) off ((us.toList.drop off).take n) hlen (fun j u h=>by rw[j9 hh];exact hZ j u h)
 refine dt.pure (v:=if agg then .agg ((us.toList.drop off).take n).toArray else((us.toList.drop off).take n).getD 0 Go.undef) r (by simp[Instr.loadAt,Instr.sureAddr,ek]) ?_
 refine uI hp _ hlen (fun _ u hu=>ig u ?_) (fun j d u e1 e2=>jy _ d u e1 (hZ j u e2))
 exact zaQ.1 (zbw (za0 hu))
theorem Bu {vs:Array Value} {off:Nat} {us:List Value} {n:Nat} (hu:us.length=n) (h:off+n≤vs.size) (i:Nat) :
 (vs.toList.take off++us++vs.toList.drop (off+us.length)).toArray[i]? = if i<off then vs[i]? else if i<off+n then us[i - off]? else vs[i]? :=by
 subst hu
 simp only[zbD]
 have hl:(vs.toList.take off).length=off:=by simp;omega
 split
 ·rename_i h3
  rw[zaB,zai (by omega),zbn h3];simp
 ·rename_i h3
  rw[zaB,zao (by omega),hl]
  split
  ·rename_i h4
   rw[zai (by omega)]
  ·rename_i h4
   rw[zao (by omega),zbq]
   rw[show off+us.length+(i - off - us.length)=i by omega];simp
theorem Bv {vs:Array Value} {off k:Nat} {us:List Value} (h1 : ∀ v∈vs,v.oneCell'=true) (h2 : ∀ u∈us,u.oneCell'=true) : ∀ v∈(vs.toList.take off++us++vs.toList.drop k).toArray,v.oneCell'=true:=by
 intro v hv
 simp at hv
 rcases hv with hv|hv|hv
 ·exact h1 v (zaQ.1 (za0 hv))
 ·exact h2 v hv
 ·exact h1 v (zaQ.1 (zbw hv))
theorem Oc (r:Rel M s w) {t:TypeId} {i:TypeInfo} (hi:P.info? t=some i) {x y d:D} {v u:Value} {s':St} (hx:RD M s x v) (hy:RD M s y u) (h:D3 x y.row i.size s=some (d,s')) :
 dt P M s w (do Instr.storeAt t v u;pure .skip) d s':=by
 unfold D3 at h
 split at h
 case h_2=>cases h
 rename_i o g off row hr
 split at h
 case h_2=>cases h
 rename_i cells ha
 split at h
 case isFalse=>cases h
 rename_i hc
 obtain⟨hl,gT⟩:=hc
 cases h
 obtain⟨z,A,hm,rfl⟩:=R5 r hx ha
 obtain⟨us,T,cap,hh,wD,Gl,dJ,hle,ig,jy⟩:=r.Oa hm ha
 obtain⟨h1,h2,h3⟩:=hy.row hr
 have hu:u.cells.toList.length=row.length:=by simpa using h1
 have gG:=run_storeCells_at P (M.mu o) off T u.cells.toList 0 us w hh (by omega) (fun u hu=>h2 u (by simpa using hu))
 simp only[zaP]at gG
 generalize dF:(us.toList.take off++u.cells.toList++us.toList.drop (off+u.cells.toList.length)).toArray=kx at gG
 have uH:kx.size=us.size:=by rw[← dF];simp;omega
 have hZ : ∀ i,kx[i]? = if i<off then us[i]? else if i<off+row.length then u.cells.toList[i - off]? else us[i]? :=fun i=>by rw[← dF];exact Bu hu (by omega) i
 have hlc:(fU cells off row).length=cells.length:=tA cells off row (by omega)
 obtain⟨r',e'⟩:=r.Z9 hm ha (M.mu o) g cap A (fun _ _ h=>h) wD Gl (w.setRow (M.mu o) kx) kx T (setRow_heap w (M.mu o) us kx T (0,0) hh) (by rw[uH,dJ]) (fU cells off row) (by omega)
  (by rw [← dF];exact Bv ig (fun u hu=>h2 u (by simpa using hu))) (fun i d v e1 e2=>by
   rw[q9 cells off row (by omega)]at e1
   rw[hZ]at e2
   split at e1
   ·rename_i h4;simp only[h4,if_true]at e2;exact jy i d v e1 e2
   ·rename_i h4
    simp only[h4,if_false]at e2
    split at e1
    ·rename_i h5;simp only[h5,if_true]at e2;exact h3 _ d v e1 (by simpa using e2)
    ·rename_i h5;simp only[h5,if_false]at e2;exact jy i d v e1 e2) (.inl rfl) (fun b _ hb=>setRow_other w (M.mu o) b _ hb) (by simp) rfl rfl rfl
 refine⟨Go.undef,_,_, .inr ⟨?_,rfl⟩,r', .undef,e'⟩
 have apI:u.cells.size=i.size:=by omega
 simp[Instr.storeAt,Instr.sureAddr,storeVar,sizeOf,iE P hi,apI,gG]
theorem Od (r:Rel M s w) {t e:TypeId} {i:TypeInfo} (ht:P.underlying t=some (.slice e)) (hi:P.info? e=some i) {x y d:D} {v u:Value} (hx:RD M s x v) (hy:RD M s y u) (h:wB x y i.size=some d) :
 dt P M s w (do pure (.value (← Instr.indexAt t v u))) d s:=by
 unfold wB at h
 split at h
 case h_2=>cases h
 rename_i z o g len k n
 split at h
 case isFalse=>cases h
 rename_i hc
 obtain⟨h0,h1,rfl⟩:=hc
 cases h
 obtain⟨b,cap,A,rfl,ho,hm,hg,hl⟩:=hx.Bq
 rw[hy.jz]
 refine dt.pure (v:= .pointer (some ⟨b,n.toNat*i.size,none⟩)) r ?_ (.fK _ _ _ _ b cap A ho hm hg)
 simp[Instr.indexAt,asIntOf,run_underlying ht,h0,h1,sizeOf,iE P hi,oR]
theorem TR (r:Rel M s w) {t e:TypeId} {i:TypeInfo} {lv hv:Option Value} {lo hi:Option D} (ht:P.underlying t=some (.slice e)) (Iq:P.info? e=some i) {x d:D} {v:Value} (hx:RD M s x v)
 (h1 : ∀ l,vt lo=some l→WS lv l) (h2 : ∀ len l,vu hi len=some l→WT hv len l) (h:vA x lo hi=some d) :
 dt P M s w (do pure (.value (← Instr.sliceAt t v lv hv none))) d s:=by
 unfold vA at h
 split at h
 ·rename_i z o g len
  split at h
  case h_2=>cases h
  rename_i l hh el eh
  split at h
  case isFalse=>cases h
  rename_i hc
  obtain⟨rfl,h0,hle⟩:=hc
  cases h
  obtain⟨b,cap,A,rfl,ho,hm,hg,hl⟩:=hx.Bq
  have hb:=sx (P:=P) (w:=w) (isSlice:=true) (cap:=cap) (h1 _ el) (h2 _ _ eh) (zbc 0) h0 hle hl
  refine dt.pure (v:= .slice (some ⟨b,0,none⟩) hh.toNat cap) r ?_ (.dr z o g _ b cap A ho hm hg (by omega))
  simp[Instr.sliceAt,run_underlying ht,Instr.slice,hb,sizeOf,iE P Iq,oR]
 ·rename_i z
  split at h
  case h_2=>cases h
  rename_i l hh el eh
  split at h
  case isFalse=>cases h
  rename_i hc
  obtain⟨rfl,rfl⟩:=hc
  cases h
  obtain⟨a,rfl⟩:=hx.G9
  have hb:=sx (P:=P) (w:=w) (isSlice:=true) (len:=0) (cap:=0) (h1 _ el) (h2 _ _ eh) (zbc 0) (zbc 0) (zbc 0) (zak 0)
  refine dt.pure (v:= .slice a 0 0) r ?_ (.ew z a)
  cases a<;>simp[Instr.sliceAt,run_underlying ht,Instr.slice,hb,sizeOf,iE P Iq,oR]
 ·cases h
theorem TS (r:Rel M s w) {t ty e:TypeId} (ht:P.underlying t=some (.slice e)) {x d:D} {v:Value} (hx:RD M s x v) (h:J0 x=some d) :
 dt P M s w (do pure (.value (← Builtin.len_ #[t] ty #[v]))) d s:=by
 unfold J0 at h
 split at h
 ·cases h
  obtain⟨b,cap,A,rfl,_⟩:=hx.Bq
  exact pM r ht
 ·cases h
  obtain⟨a,rfl⟩:=hx.G9
  exact pM r ht
 ·cases h
theorem yw {size:Nat} : ∀ {rows:List (List D)},(∀ row∈rows,row.length=size)→rows.flatten.length=rows.length*size∧
 ∀ (k:Nat) (d:D),rows.flatten[k]? = some d→∃ (i:Nat) (row:List D) (j:Nat),rows[i]? = some row∧row[j]? = some d∧k=i*size+j
 | [],_=>by simp
 | row::rows,h=>by
  have hr:=h row (zaz ..)
  obtain⟨h1,h2⟩:=yw fun q hq=>h q (zan _ hq)
  refine⟨by simp only[zbi,zal,h1,hr,zas,zbm];omega,fun k d e=>?_⟩
  rw[zbi]at e
  rcases zaE k row.length with hk|hk
  ·rw [zai hk]at e
   exact⟨0,row,k,rfl,e,by omega⟩
  ·rw [zao hk]at e
   obtain⟨i,l5,j,g1,g2,g3⟩:=h2 _ d e
   exact⟨i+1,l5,j,by simpa using g1,g2,by rw[zbm];omega⟩
theorem TT (r:Rel M s w) {t u ty e e':TypeId} {i:TypeInfo} {z:Value} (ht:P.underlying t=some (.slice e)) (hu:P.underlying u=some (.slice e')) (hi:P.info? e=some i) (hz:i.zero=some z)
 (yr:z.cells.size=i.size) (Gm : ∀ v∈z.cells,v.oneCell'=true) {dx dy d:D} {x y:Value} {s':St} (hx:RD M s dx x) (hy:RD M s dy y) (vF:0<i.size) (he:Ct i.size i.bytes dx dy s=some (d,s')) :
 ∃ v w' M',(Builtin.append_ #[t,u] ty #[x,y]).run P w = .ok v w'∧Rel M' s' w'∧RD M' s' d v∧Ext M s w M' s' w':=by
 have src:=J7 (i:=i) r hu hy
 unfold Ct at he
 split at he
 ·-- behind an array
  rename_i z0 o g len g' zy new
  split at he
  case isFalse=>cases he
  rename_i hc
  obtain⟨rfl,N6,wG⟩:=hc
  obtain⟨b,cap,A,rfl,ho,hm,hg,hlc⟩:=hx.Bq
  cases new with
  |nil=>
   simp only at he
   cases he
   exact⟨_,w,M,nI ht hi ((src _ _ _ rfl).1 rfl) hlc,r,hx,Ext.refl M s w⟩
  |cons n0 new=>
  have dj:(n0::new)≠ []:=by simp
  generalize dF:n0::new=eU at *
  have WW:zy=i.size:=N6.resolve_left dj
  subst WW
  obtain⟨LB,news,hs,Fx⟩:=(src _ _ _ rfl).2 dj rfl
  have Dv:0<eU.length:=List.length_pos_iff.2 dj
  simp only[← dF]at he
  simp only[dF]at he
  split at he
  case h_2=>cases he
  rename_i cells ha
  split at he
  case isFalse=>cases he
  rename_i kP
  cases he
  obtain⟨us,T,sR,hh,wD,Gl,dJ,hle,ig,jy⟩:=r.Oa hm ha
  rw[hg]at wD
  simp only[Option.some.injEq,Prod.mk.injEq]at wD
  obtain⟨rfl,rfl⟩:=wD
  obtain⟨fM,W1⟩:=yw LB
  have qL:(cells.take (len*i.size)).length=len*i.size:=by simp;omega
  have hA : ∀ (b' c':Nat) (g0:Nat) (x:Nat×Nat),A g0=some x→(if g0=g+1 then some (b',c')else A g0)=some x:=fun b' c' g0 x h=>by
   rw[if_neg]
   ·exact h
   ·rintro rfl
    rw[Gl (g+1) (by omega)]at h;cases h
  have wH:(len+eU.length)*i.bytes≤140737488355328:=by rw[Nat.mul_succ]at wG;simp only[aT]at wG;omega
  have WX:len+eU.length≤1099511627776:=by rw[Nat.mul_succ]at wG;simp only[aT]at wG;omega
  have LD:=hs.newsLen
  -- what is laid there
  have adH : ∀ (vs:Array Value),(∀ k,k<len*i.size→vs[k]? = us[k]?)→(∀ k,k<news.length→vs[len*i.size+k]? = news[k]?)→∀ (k:Nat) (d:D) (v:Value),
   (cells.take (len*i.size)++eU.flatten)[k]? = some d→vs[k]? = some v→RD M s d v:=fun vs g1 g2 k d v e1 e2=>by
   rcases zaE k (len*i.size)with hk|hk
   ·rw [zai (by omega),zbn hk]at e1
    rw[g1 k hk]at e2
    exact jy k d v e1 e2
   ·rw [zao (by omega),qL]at e1
    have aV:=(zac.1 e1).1
    have:=g2 (k - len*i.size) (by omega)
    rw[show len*i.size+(k - len*i.size)=k by omega]at this
    rw[this]at e2
    obtain⟨a,row,j,f1,f2,f3⟩:=W1 _ d e1
    rw[f3]at e2
    exact Fx a row j d v f1 f2 e2
  by_cases gk:len+eU.length≤cap
  ·have gT:len*i.size+news.length≤us.size:=by rw [LD,dJ, ← zbm];exact zaR _ gk
   have gG:=run_storeCells_at P (M.mu o) (len*i.size) T news 0 us w hh (by simpa using gT) hs.one
   simp only[zaP]at gG
   have ek:(Builtin.append_ #[t,u] ty #[.slice (some ⟨M.mu o,0,none⟩) len cap,y]).run P w = .ok (.slice (some ⟨M.mu o,0,none⟩) (len+eU.length) cap) (w.setRow (M.mu o) (us.toList.take (len*i.size)++news++us.toList.drop (len*i.size+news.length)).toArray):=by
    rcases hs.kind with ⟨RY,hk⟩|hk<;>simp[Builtin.append_,run_underlying ht,run_underlying hk,sizeOf,typeInfo,hi,hs.len,gk,hs.cells,Addr.add_lit,gG]
   have hZ:=Bu (vs:=us) (off:=len*i.size) (us:=news) rfl gT
   generalize uM:(us.toList.take (len*i.size)++news++us.toList.drop (len*i.size+news.length)).toArray=kx at ek hZ
   have uH:kx.size=us.size:=by rw[← uM];simp;omega
   obtain⟨r',e'⟩:=r.Z9 hm ha (M.mu o) (g+1) cap (fun g0=>if g0=g+1 then some (M.mu o,cap)else A g0) (hA _ _) (if_pos rfl) (fun R4 h=>by rw[if_neg (by omega)];exact Gl R4 (by omega))
    (w.setRow (M.mu o) kx) kx T (setRow_heap w (M.mu o) us kx T (0,0) hh) (by rw[uH,dJ]) (cells.take (len*i.size)++eU.flatten) (by rw[zal,qL,fM,uH];omega)
    (by rw[← uM];exact Bv ig hs.one) (adH kx (fun k hk=>by rw[hZ,if_pos hk]) (fun k hk=>by rw[hZ,if_neg (by omega),if_pos (by omega)];congr 1;omega)) (.inl rfl) (fun b _ hb=>setRow_other w (M.mu o) b _ hb) (by simp) rfl rfl rfl
   refine⟨_,_,_,ek,r', ?_,e'⟩
   exact .dr i.size o (g+1) _ (M.mu o) cap _ (by simpa using ho) (by simp[Map.ob,Map.rP];rfl) (if_pos rfl) gk
  ·have Gr:cap<len+eU.length:=by omega
   have qK:=grownCap_ge w (len+eU.length) cap e
   have R6:(Builtin.firstCells i.size len (.slice (some ⟨M.mu o,0,none⟩) len cap)).run P w.drew = .ok (us.toList.take (len*i.size)).toArray w.drew:=
    (Src.ofSlice w ht ⟨M.mu o,0,none⟩ len cap (us.toList.take (len*i.size)) (by simp;omega) (fun j v hj=>by
     rw[oR,zaS,j9 hh]
     rw[zaY]at hj
     split at hj
     ·simpa using hj
     ·cases hj) (fun v hv=>ig v (zaQ.1 (za0 hv)))).cellsD
   have ek:=run_append_grow_src (P:=P) w t u ty e i z ht hi hz (some ⟨M.mu o,0,none⟩) len cap (us.toList.take (len*i.size)) R6 y eU.length news hs Gr (by omega) (growslice_fits Gr wH)
   generalize uM:(us.toList.take (len*i.size)++news).toArray++Builtin.zeroCells z.cells (grownCap w (len+eU.length) cap e - (len+eU.length))=kx at ek
   have Bo:(us.toList.take (len*i.size)).length=len*i.size:=by simp;omega
   have uH:kx.size=grownCap w (len+eU.length) cap e*i.size:=by
    rw[← uM]
    simp only[Array.size_append,List.size_toArray,zal,size_zeroCells,yr,Bo,LD, ← zbm]
    congr 1;omega
   have CA : ∀ v∈kx,v.oneCell'=true:=fun v hv=>by
    rw[← uM,Array.mem_append]at hv
    rcases hv with hv|hv
    ·simp at hv
     rcases hv with hv|hv
     ·exact ig v (zaQ.1 (za0 hv))
     ·exact hs.one v hv
    ·exact xg Gm _ v hv
   have alU : ∀ k,k<len*i.size→kx[k]? = us[k]? :=fun k hk=>by
    rw[← uM,zbe (by simp;omega),zbD,zai (by omega),zbn hk];simp
   have pA : ∀ k,k<news.length→kx[len*i.size+k]? = news[k]? :=fun k hk=>by
    rw[← uM,zbe (by simp;omega),zbD,zao (by omega),Bo]
    congr 1;omega
   have J8:(len+eU.length)*i.size≤kx.size:=by rw[uH];exact zaR _ qK
   have aac:w.heap.size≤(w.drew.alloc (.cells kx e)).heap.size:=by
    have e1:w.drew.heap.size=w.heap.size:=rfl
    have e2:(w.drew.alloc (.cells kx e)).heap.size=w.drew.heap.size+1:=by simp
    omega
   obtain⟨r',e'⟩:=r.Z9 hm ha w.heap.size (g+1) (grownCap w (len+eU.length) cap e) (fun g0=>if g0=g+1 then some (w.heap.size,grownCap w (len+eU.length) cap e)else A g0) (hA _ _) (if_pos rfl) (fun R4 h=>by rw[if_neg (by omega)];exact Gl R4 (by omega))
    (w.drew.alloc (.cells kx e)) kx e (heap_alloc_new w.drew _) uH (cells.take (len*i.size)++eU.flatten) (by rw[zal,qL,fM];rw[zbm]at J8;omega)
    CA (adH kx alU pA) (.inr (zak _)) (fun b hb _=>heap_alloc_old w.drew _ b hb) aac rfl rfl rfl
   refine⟨_,_,_,ek,r', ?_,e'⟩
   exact .dr i.size o (g+1) _ w.heap.size _ _ (by simpa using ho) (by simp[Map.ob,Map.rP];rfl) (if_pos rfl) qK
 ·-- the first array
  rename_i z0 g' zy new
  split at he
  case isFalse=>cases he
  rename_i hc
  obtain⟨rfl,N6,wG⟩:=hc
  obtain⟨a,rfl⟩:=hx.G9
  cases new with
  |nil=>
   simp only at he
   cases he
   exact⟨_,w,M,nI ht hi ((src _ _ _ rfl).1 rfl) (zak 0),r,hx,Ext.refl M s w⟩
  |cons n0 new=>
  have dj:(n0::new)≠ []:=by simp
  generalize dF:n0::new=eU at *
  have WW:zy=i.size:=N6.resolve_left dj
  subst WW
  obtain⟨LB,news,hs,Fx⟩:=(src _ _ _ rfl).2 dj rfl
  have Dv:0<eU.length:=List.length_pos_iff.2 dj
  simp only[← dF]at he
  simp only[dF]at he
  cases he
  obtain⟨fM,W1⟩:=yw LB
  have LD:=hs.newsLen
  have wH:(0+eU.length)*i.bytes≤140737488355328:=by rw[Nat.mul_succ]at wG;simp only[aT]at wG;rw[zaS];omega
  have WX:eU.length≤1099511627776:=by rw[Nat.mul_succ]at wG;simp only[aT]at wG;omega
  have Gr:0<0+eU.length:=by omega
  have qK:=grownCap_ge w (0+eU.length) 0 e
  have R6:(Builtin.firstCells i.size 0 (.slice a 0 0)).run P w.drew = .ok ([] : List Value).toArray w.drew:=by
   cases a with
   |none=>simp[Builtin.firstCells]
   |some a=>simp[Builtin.firstCells,loadCells,loadCellsFrom]
  have ek:=run_append_grow_src (P:=P) w t u ty e i z ht hi hz a 0 0 [] R6 y eU.length news hs Gr (by omega) (growslice_fits Gr wH)
  generalize uM:(([] : List Value)++news).toArray++Builtin.zeroCells z.cells (grownCap w (0+eU.length) 0 e - (0+eU.length))=kx at ek
  have uH:kx.size=grownCap w (0+eU.length) 0 e*i.size:=by
   rw[← uM]
   simp only[Array.size_append,List.size_toArray,za1,size_zeroCells,yr,LD, ← zbm]
   congr 1;omega
  have CA : ∀ v∈kx,v.oneCell'=true:=fun v hv=>by
   rw[← uM,Array.mem_append]at hv
   rcases hv with hv|hv
   ·exact hs.one v (by simpa using hv)
   ·exact xg Gm _ v hv
  have pA : ∀ k,k<news.length→kx[k]? = news[k]? :=fun k hk=>by
   rw[← uM,zbe (by simpa using hk)];simp
  have J8:eU.length*i.size≤kx.size:=by rw[uH];exact zaR _ (by omega)
  have rd:Rel M s w.drew:=r.of_heap rfl
  obtain⟨M',r',e',f'⟩:=rd.ahu i.size (grownCap w (0+eU.length) 0 e) kx e uH eU.flatten (by omega) CA (fun k d v e1 e2=>by
   have hk:=(zac.1 e1).1
   rw[pA k (by omega)]at e2
   obtain⟨a,row,j,f1,f2,f3⟩:=W1 _ d e1
   rw[f3]at e2
   exact Fx a row j d v f1 f2 e2)
  refine⟨_,_,M',ek,r', ?_,(Ext.of_heap (M:=M) (s:=s) (w:=w) (w':=w.drew) rfl rfl rfl rfl).trans e'⟩
  have:=f' eU.length (by omega)
  simpa using this
 ·cases he
theorem TU (r:Rel M s w) {t e:TypeId} {i:TypeInfo} {z:List D} (ht:P.underlying t=some (.slice e)) (hi:P.info? e=some i) (hz:zeroOf P e=some z) (vF:0<i.size) {n:Int} (h0:0≤n) (h1:n*((i.bytes:Int)+1)≤aT) :
 dt P M s w (do pure (.value (← Instr.makeSlice t (.int .i64 n) (.int .i64 n)))) (.dr i.size s.ag.length 0 n.toNat) {s with ag:=s.ag++ [.int .i64 ((0:Nat):Int)::(gJ z n.toNat).flatten]}:=by
 obtain⟨i',v,g1,g2,g3,g4⟩:=wa hz
 rw[hi]at g1;cases g1
 have LF:=uL (M:=M) (s:=s) g4
 have hmul:n*((i.bytes:Int)+1)=(i.bytes:Int)*n+n:=by rw[Int.mul_add,Int.mul_one,Int.mul_comm]
 have hnb:0≤(i.bytes:Int)*n:=Int.mul_nonneg (by omega) h0
 have hmx:(aT:Int)=1099511627776:=rfl
 have ek:=run_make (P:=P) w t e i v ht hi g2 .i64 .i64 n n h0 (zbc _) (by omega) (by omega)
 have Dw:z.length=i.size:=by have:=LF.1;omega
 obtain⟨q1,q2,q3,q4⟩:=oq.zero LF (by omega) n.toNat
 obtain⟨fM,W1⟩:=yw (rows:=gJ z n.toNat) (size:=z.length) (fun row hr=>by rw[rK z _ row hr])
 rw[ou]at fM
 have Dy:madeCells v.cells (n.toNat*i.size)=(Array.range (n.toNat*z.length)).map (v.cells[· % v.cells.size]!):=by rw[Dw];rfl
 obtain⟨M',r',e',f'⟩:=r.ahu i.size n.toNat (madeCells v.cells (n.toNat*i.size)) e (by rw[Dy];simp[Dw]) (gJ z n.toNat).flatten (by rw[fM,Dy];simp) (by rw[Dy];exact q3) (fun k d u e1 e2=>by
  obtain⟨a,row,j,f1,f2,f3⟩:=W1 k d e1
  rw[Dy,f3]at e2
  exact q4 a row j d u f1 f2 e2)
 refine⟨_,_,M', .inl ?_,r',f' n.toNat (zak _),e'⟩
 simp only[Sem.run_bind,ek,Result.andThen_ok,Sem.run_pure]
end
end Go.Abs
namespace Go.Abs
section
variable {P:Program} {M:Map} {s:St} {w:World}
theorem R7 {tm:Tm} {act:Act} (hr:oo M s tm act.tmps) : ∀ {l:List Operand} {xs:List X},Bn l=some xs→
 xs.length=l.length∧∀ (i:Nat) (d:D) (v:Value),(xs.map (·.ev tm))[i]? = some d→(l.map act.eval)[i]? = some v→RD M s d v
 | [],xs,h=>by cases h;exact⟨rfl,by simp⟩
 | x::l,xs,h=>by
  unfold Bn at h
  split at h
  ·rename_i x' r' h1 h2
   cases h
   obtain⟨g1,g2⟩:=R7 hr h2
   refine⟨by simp[g1],fun i d v e1 e2=>?_⟩
   cases i with
   |zero=>simp at e1 e2;subst e1;subst e2;exact cQ h1 hr
   |succ i=>exact g2 i d v (by simpa using e1) (by simpa using e2)
  ·cases h
theorem Oe {lo:Option Operand} {LG:Option X} {tm:Tm} {act:Act} (hr:oo M s tm act.tmps) (h:cXo lo=some LG) {l:Int} (hl:vt (LG.map (·.ev tm))=some l):WS (lo.map act.eval) l:=by
 cases lo with
 |none=>cases h;simp only[zbX,vt,Option.some.injEq]at hl;exact .inl ⟨rfl,hl.symm⟩
 |some x=>
  obtain⟨y,hy,rfl⟩:=map_some (f:=some) h
  have:=cQ hy hr
  simp only[za9]at hl ⊢
  cases hd:y.ev tm<;>rw[hd]at hl this<;>simp only[vt]at hl<;>try (cases hl;done)
  cases hl
  rw[this.jz]
  exact .inr ⟨_,rfl⟩
theorem Og {hi:Option Operand} {jL:Option X} {tm:Tm} {act:Act} (hr:oo M s tm act.tmps) (h:cXo hi=some jL) {len:Nat} {l:Int} (hl:vu (jL.map (·.ev tm)) len=some l):WT (hi.map act.eval) len l:=by
 cases hi with
 |none=>cases h;simp only[zbX,vu,Option.some.injEq]at hl;exact .inl ⟨rfl,hl.symm⟩
 |some x=>
  obtain⟨y,hy,rfl⟩:=map_some (f:=some) h
  have:=cQ hy hr
  simp only[za9]at hl ⊢
  cases hd:y.ev tm<;>rw[hd]at hl this<;>simp only[vu]at hl<;>try (cases hl;done)
  cases hl
  rw[this.jz]
  exact .inr ⟨_,rfl⟩
theorem TV {t:TypeId} {f off size:Nat} {agg:Bool} (h:oP P t f=some (off,size,agg)) {cs:List D} {vs:Array Value} (hl:cs.length=vs.size) (h1 : ∀ v∈vs,v.oneCell'=true)
 (h2 : ∀ (i:Nat) (d:D) (v:Value),cs[i]? = some d→vs[i]? = some v→RD M s d v) {d:D} (hp:part cs off agg size=some d) (r:Rel M s w) :
 dt P M s w (do pure (.value (← Instr.field t (.agg vs) f))) d s:=by
 let n:=if agg then size else 1
 have gT:off+n≤vs.size:=by
  rcases ug hp with ⟨rfl,h1,_⟩|⟨rfl,h1⟩
  ·simp[n];omega
  ·have:=(zac.1 h1).1;simp[n];omega
 have hlen:((vs.toList.drop off).take n).length=n:=by simp;omega
 have hZ : ∀ (j:Nat),j<((vs.toList.drop off).take n).length→vs[off+j]? = ((vs.toList.drop off).take n)[j]? :=by
  intro j h
  rw[hlen]at h
  rw[zaY,if_pos h,zbq];simp
 refine dt.pure (v:=if agg then .agg ((vs.toList.drop off).take n).toArray else((vs.toList.drop off).take n).getD 0 Go.undef) r (by simp only[Sem.run_bind,WK h vs _ hlen hZ,Result.andThen_ok,Sem.run_pure]) ?_
 refine uI hp _ hlen (fun _ u hu=>h1 u (zaQ.1 (zbw (za0 hu)))) (fun j d u e1 e2=>h2 _ d u e1 ?_)
 rw[hZ j (zac.1 e2).1];exact e2
theorem wc {o:Oper} {ao:AO} {tm:Tm} {act:Act} {d:D} {s':St} (hc:Io P o=some ao) (r:Rel M s w) (hr:oo M s tm act.tmps) (he:bF ao tm s=some (d,s')) :
 dt P M s w (execOp act.eval o) d s':=by
 obtain⟨dst,op,type,pos,after,guard⟩:=o
 unfold Io at hc
 simp only at hc
 cases op with
 |move x=>
  obtain⟨y,hy,rfl⟩:=map_some hc
  cases he
  exact dt.pure r rfl (cQ hy hr)
 |assign x=>
  obtain⟨y,hy,rfl⟩:=map_some hc
  cases he
  exact dt.pure r rfl (cQ hy hr)
 | pick c a b=>
  simp only at hc
  split at hc
  ·rename_i c' a' b' h1 h2 h3
   cases hc
   simp only[bF]at he
   split at he
   ·rename_i t ht
    cases he
    have hcb:=cQ h1 hr
    rw[ht]at hcb
    have:=hcb.qt
    refine dt.pure (v:=if t then act.eval a else act.eval b) r ?_ ?_
    ·simp only [execOp,this,asBool]
     simp
    ·cases t
     ·exact cQ h3 hr
     ·exact cQ h2 hr
   ·cases he
  ·cases hc
 | alloc t=>
  simp only at hc
  split at hc
  ·obtain⟨z,hz,rfl⟩:=map_some hc
   simp only[bF]at he
   split at he
   ·cases he;exact Q5 r hz
   ·cases he
  ·obtain⟨z,hz,rfl⟩:=map_some hc
   cases he
   exact Tw r hz
 | box t x=>
  simp only at hc
  split at hc
  ·obtain⟨y,hy,rfl⟩:=map_some hc
   simp only[bF]at he
   split at he
   ·rename_i row dL
    cases he
    exact WJ r (cQ hy hr) dL
   ·cases he
  ·obtain⟨y,hy,rfl⟩:=map_some hc
   simp only[bF]at he
   split at he
   ·rename_i row dL
    cases he
    exact Z0 r (cQ hy hr) dL
   ·cases he
 | build t parts=>
  simp only at hc
  split at hc
  ·rename_i fs z ps h1 h2 h3
   split at hc
   ·rename_i sK
    cases hc
    simp only[bF]at he
    split at he
    ·rename_i cs mK
     cases he
     have:=TK r hr h1 sK h2 h3 mK
     simpa[execOp]using this
    ·cases he
   ·cases hc
  ·cases hc
 | buildSlice t n parts=>
  simp only at hc
  split at hc
  ·rename_i e hu
   split at hc
   ·rename_i i z ps h1 h2 h3
    split at hc
    ·rename_i nL
     cases hc
     simp only[bF]at he
     split at he
     ·rename_i rows lU
      cases he
      obtain⟨vs,T,g1,g2,g3,g4⟩:=Gp r hr hu h1 h2 nL.1 nL.2 h3 lU
      obtain⟨f1,f2,f3⟩:=TF r T g1
      refine⟨_,_,_, .inl ?_,f2,f1,f3⟩
      simp only[zba]at g4
      simp only[execOp,Sem.run_bind,g4,Result.andThen_ok,Sem.run_pure]
      rw[g2]
     ·cases he
    ·cases hc
   ·cases hc
  ·cases hc
 | load t x=>
  simp only at hc
  split at hc
  ·rename_i y a i h1 h2 h3
   cases hc
   have hx:=cQ h1 hr
   simp only[bF]at he
   split at he
   ·rename_i o off ho
    rw[ho]at hx
    have Oh:=hx.D8
    obtain⟨hv,_⟩:=hx.vE
    split at he
    ·rename_i cs mK
     split at he
     ·rename_i d' mL
      cases he
      have:=MR r h3 h2 mK Oh mL
      simp only[execOp,hv]
      exact this
     ·cases he
    ·cases he
   ·rename_i row off ho
    rw[ho]at hx
    obtain⟨b,k,hv,g1,g2⟩:=hx.Cw
    split at he
    ·rename_i d' mL
     cases he
     have:=MS r h3 h2 g1 g2 mL
     simp only[execOp,hv]
     exact this
    ·cases he
   ·exact Q7 r h3 h2 hx he
  ·cases hc
 | store t a x=>
  simp only at hc
  split at hc
  ·rename_i a' x' i h1 h2 h3
   cases hc
   have ha:=cQ h1 hr
   have hx:=cQ h2 hr
   simp only[bF]at he
   split at he
   ·rename_i o off row ho dL
    rw[ho]at ha
    have Oh:=ha.D8
    obtain⟨hv,_⟩:=ha.vE
    split at he
    ·rename_i cs mK
     split at he
     ·rename_i gT
      cases he
      have:=Tx r h3 mK Oh hx dL gT.1 gT.2
      simp only[execOp,hv]
      exact this
     ·cases he
    ·cases he
   ·exact Oc r h3 ha hx he
  ·cases hc
 | nilCheck x=>
  obtain⟨y,hy,rfl⟩:=map_some hc
  have hx:=cQ hy hr
  simp only[bF]at he
  split at he
  ·rename_i o off ho
   cases he
   rw[ho]at hx
   have hv:=hx.vE.1
   rw[hv]at hx
   simp only[execOp,hv]
   exact Cz r hx
  ·rename_i row off ho
   cases he
   rw[ho]at hx
   obtain⟨b,k,hv,_⟩:=hx.Cw
   rw[hv]at hx
   simp only[execOp,hv]
   exact Cz r hx
  ·split at he
   case h_2=>cases he
   rename_i d' wM
   cases he
   unfold To at wM
   split at wM
   ·rename_i o g off hq
    cases wM
    rw[hq]at hx
    obtain⟨z,b,cap,A,hv,_⟩:=hx.G8
    rw[hv]at hx
    simp only[execOp,hv]
    exact Cz r hx
   ·cases wM
 | binOp op t x y yt=>
  simp only at hc
  split at hc
  ·rename_i x' y' h1 h2
   have hx:=cQ h1 hr
   have hy:=cQ h2 hr
   have fin : ∀ d',Az op (x'.ev tm) (y'.ev tm)=some d'→(d',s)=(d,s')→dt P M s w (execOp act.eval ⟨dst, .binOp op t x y yt,type,pos,after,guard⟩) d s':=by
    intro d' mL heq
    cases heq
    exact Z1 r hx hy mL
   have ahv:(match Az op (x'.ev tm) (y'.ev tm)with|some d=>some (d,s)|none=>none)=some (d,s')→dt P M s w (execOp act.eval ⟨dst, .binOp op t x y yt,type,pos,after,guard⟩) d s':=by
    intro h
    split at h
    ·rename_i d' mL
     exact fin d' mL (by cases h;rfl)
    ·cases h
   have aae : ∀ o:FO,((o = .eq∧op = .eql)∨(o = .NU∧op = .add)∨(o = .WE∧op = .eql))→bF (.Bl o x' y') tm s=some (d,s')→dt P M s w (execOp act.eval ⟨dst, .binOp op t x y yt,type,pos,after,guard⟩) d s':=by
    intro o ho h
    simp only[bF]at h
    split at h
    ·rename_i d' mL
     cases h
     exact WO r ho hx hy mL
    ·cases h
   have ahw : ∀ neg,op=(if neg then .neq else .eql)→P.underlying t=some .bool→bF (.RZ neg x' y') tm s=some (d,s')→dt P M s w (execOp act.eval ⟨dst, .binOp op t x y yt,type,pos,after,guard⟩) d s':=by
    intro neg pd ht h
    simp only[bF]at h
    split at h
    ·rename_i p q hp hq
     cases h
     rw[hp]at hx;rw[hq]at hy
     simp only[execOp,hx.qt,hy.qt,pd]
     exact Z2 r ht
    ·cases h
   have ahx : ∀ neg e,op=(if neg then .neq else .eql)→P.underlying t=some (.pointer e)→bF (.R0 neg x' y') tm s=some (d,s')→dt P M s w (execOp act.eval ⟨dst, .binOp op t x y yt,type,pos,after,guard⟩) d s':=by
    intro neg e pd ht h
    simp only[bF]at h
    split at h
    ·rename_i hp hq
     cases h
     rw[hp]at hx;rw[hq]at hy
     simp only[execOp,hx.vD,hy.vD,pd]
     have:=Ha r (neg:=neg) (x:=x) (y:=y) (a:=none) ht
     cases neg<;>simpa using this
    ·rename_i o off hp hq
     cases h
     rw[hp]at hx;rw[hq]at hy
     simp only[execOp,hx.vE.1,hy.vD,pd]
     have:=Ha r (neg:=neg) (x:=x) (y:=y) (a:=some ⟨M.mu o,off,none⟩) ht
     cases neg<;>simpa using this
    ·rename_i row off hp hq
     cases h
     rw[hp]at hx;rw[hq]at hy
     obtain⟨b,k,hv,_⟩:=hx.Cw
     simp only[execOp,hv,hy.vD,pd]
     have:=Ha r (neg:=neg) (x:=x) (y:=y) (a:=some ⟨b,k+off,none⟩) ht
     cases neg<;>simpa using this
    ·cases h
   have ahy : ∀ neg ks,op=(if neg then .neq else .eql)→sZ P t=some ks→bF (.eqs neg ks x' y') tm s=some (d,s')→dt P M s w (execOp act.eval ⟨dst, .binOp op t x y yt,type,pos,after,guard⟩) d s':=by
    intro neg ks pd ht h
    simp only[bF]at h
    split at h
    ·rename_i p q hp hq
     split at h
     ·rename_i e' wM
      cases h
      rw[hp]at hx;rw[hq]at hy
      simp only[execOp,pd]
      exact Z3 r ht hx hy wM
     ·cases h
    ·cases h
   split at hc
   ·cases hc;exact ahv he
   ·cases hc;exact ahv he
   ·rename_i hu;cases hc;exact ahw false rfl hu he
   ·rename_i hu;cases hc;exact ahw true rfl hu he
   ·rename_i hu;cases hc;exact ahx false _ rfl hu he
   ·rename_i hu;cases hc;exact ahx true _ rfl hu he
   ·obtain⟨ks,hk,rfl⟩:=map_some hc;exact ahy false ks rfl hk he
   ·obtain⟨ks,hk,rfl⟩:=map_some hc;exact ahy true ks rfl hk he
   ·cases hc;exact aae .eq (.inl ⟨rfl,rfl⟩) he
   ·cases hc;exact aae .NU (.inr (.inl ⟨rfl,rfl⟩)) he
   ·cases hc;exact aae .WE (.inr (.inr ⟨rfl,rfl⟩)) he
   ·cases hc
  ·cases hc
 | unOp op t x=>
  obtain⟨y,hy,rfl⟩:=map_some hc
  have hx:=cQ hy hr
  simp only[bF]at he
  split at he
  ·rename_i d' mL
   cases he
   unfold Lu at mL
   split at mL
   ·rename_i k n hk
    cases mL
    rw[hk]at hx
    exact dt.pure (v:= .int k (k.wrap (0 - n))) r (by simp[execOp,hx.jz,Op.unary,Op.intArith]) (.int _ _)
   ·rename_i b hb
    cases mL
    rw[hb]at hx
    exact dt.pure (v:= .bool (!b)) r (by simp[execOp,hx.qt,Op.unary]) (.bool _)
   ·rename_i k n hk
    cases mL
    rw[hk]at hx
    exact dt.pure (v:= .int k (Cq k (if k.signed then -1 else k.max) n)) r (by simp only[execOp,hx.jz,Op.unary,Op.intBits];rfl) (.int _ _)
   ·cases mL
  ·cases he
 | convert src avb x=>
  simp only at hc
  split at hc
  ·rename_i y k1 k h1 h2 h3
   cases hc
   have hx:=cQ h1 hr
   simp only[bF]at he
   split at he
   ·rename_i k2 n hn
    cases he
    rw[hn]at hx
    refine dt.pure (v:= .int k (k.wrap n)) r ?_ (.int _ _)
    simp[execOp,hx.jz,convert,run_underlying h2,run_underlying h3,Conv.intToInt]
   ·cases he
  ·rename_i y e h1 h2 h3
   split at hc
   ·rename_i h4
    cases hc
    have hx:=cQ h1 hr
    simp only[bF]at he
    split at he
    ·rename_i g z rows lU
     split at he
     ·rename_i b hb
      cases he
      rw[lU]at hx
      exact TN r h2 h4 h3 hx hb
     ·cases he
    ·cases he
   ·cases hc
  ·rename_i y e e2 h1 h2 h3
   split at hc
   ·rename_i h4
    split at hc
    ·rename_i rh
     cases hc
     subst rh
     have hx:=cQ h1 hr
     simp only[bF]at he
     split at he
     ·rename_i t z rows lU
      split at he
      ·rename_i nL
       cases he
       rw[lU]at hx
       exact Z6 r h2 h4 hx nL.1 nL.2
      ·cases he
     ·cases he
    ·cases hc
   ·cases hc
  ·rename_i y e h1 h2 h3
   split at hc
   ·rename_i i h4 h5
    split at hc
    ·cases hc
     have hx:=cQ h1 hr
     simp only[bF]at he
     split at he
     ·rename_i l hl
      cases he
      rw[hl]at hx
      simp only[execOp,hx.nw]
      exact N9 r h2 h3 h4
     ·cases he
    ·cases hc
   ·cases hc
  ·rename_i y k0 k h1 h2 h3
   cases hc
   have hx:=cQ h1 hr
   simp only[bF]at he
   split at he
   ·rename_i d' mL
    cases he
    obtain⟨j,n,hn,rfl⟩:=TA mL
    rw[hn]at hx
    refine dt.pure (v:= .float k (k.nearest n)) r ?_ (.val _ rfl)
    simp[execOp,hx.jz,convert,run_underlying h2,run_underlying h3,Conv.intToFloat]
   ·cases he
  ·rename_i y k0 k h1 h2 h3
   cases hc
   have hx:=cQ h1 hr
   simp only[bF]at he
   split at he
   ·rename_i d' mL
    cases he
    obtain⟨f,b,n,hn,h4,h5,rfl⟩:=TB mL
    rw[hn]at hx
    refine dt.pure (v:= .int k n) r ?_ (.int _ _)
    simp[execOp,hx.nH,convert,run_underlying h2,run_underlying h3,Conv.floatToInt,h4,h5]
   ·cases he
  ·cases hc
 | slice t x lo hi mx=>
  cases mx with
  |some m=>cases hc
  | none=>
   simp only at hc
   split at hc
   ·rename_i y LG jL h1 h2 h3 h4
    cases hc
    have hx:=cQ h1 hr
    simp only[bF]at he
    split at he
    ·rename_i u hu
     rw[hu]at hx
     split at he
     ·rename_i l h hl hh
      split at he
      ·rename_i nL
       cases he
       have:=WU r h4 (Oe hr h2 hl) (Og hr h3 hh) nL.1 nL.2.1 nL.2.2
       simp only[execOp,hx.nw,zbX]
       exact this
      ·cases he
     ·cases he
    ·cases he
   ·rename_i y LG jL e h1 h2 h3 h4
    split at hc
    ·rename_i i Iq
     cases hc
     have hx:=cQ h1 hr
     simp only[bF]at he
     split at he
     ·rename_i g z rows lU
      rw[lU]at hx
      split at he
      ·rename_i l h hl hh
       split at he
       ·rename_i nL
        cases he
        have:=Z5 r h4 Iq nL.1 hx (Oe hr h2 hl) (Og hr h3 hh) nL.2.1 nL.2.2.1 nL.2.2.2
        simp only[execOp,zbX]
        exact this
       ·cases he
      ·cases he
     ·split at he
      case h_2=>cases he
      rename_i d' wM
      cases he
      have:=TR r h4 Iq hx (fun l e=>Oe hr h2 e) (fun len l e=>Og hr h3 e) wM
      simp only[execOp,zbX]
      exact this
    ·cases hc
   ·cases hc
 | fieldAddr t x f=>
  simp only at hc
  split at hc
  ·rename_i y off size a h1 h2
   cases hc
   have hx:=cQ h1 hr
   simp only[bF]at he
   split at he
   ·rename_i o k ho
    cases he
    rw[ho]at hx
    have Oh:=hx.D8
    obtain⟨hv,hD⟩:=hx.vE
    refine dt.pure (v:= .pointer (some ⟨M.mu o,k+off,none⟩)) r ?_ (.ptr _ _ hD Oh)
    simp only[execOp,hv,Sem.run_bind,Ea h2,Result.andThen_ok,Sem.run_pure]
   ·rename_i row k ho
    cases he
    rw[ho]at hx
    obtain⟨b,q,hv,g1,g2⟩:=hx.Cw
    refine dt.pure (v:= .pointer (some ⟨b,q+(k+off),none⟩)) r ?_ (.dW _ _ _ _ g1 g2)
    simp only[execOp,hv,Sem.run_bind,Ea h2,Result.andThen_ok,Sem.run_pure,Nat.add_assoc]
   ·split at he
    case h_2=>cases he
    rename_i d' wM
    cases he
    unfold Il at wM
    split at wM
    ·rename_i o g k hq
     cases wM
     rw[hq]at hx
     obtain⟨z,b,cap,A,hv,ho,hm,hg⟩:=hx.G8
     refine dt.pure (v:= .pointer (some ⟨b,k+off,none⟩)) r ?_ (.fK _ _ _ _ b cap A ho hm hg)
     simp only[execOp,hv,Sem.run_bind,Ea h2,Result.andThen_ok,Sem.run_pure]
    ·cases wM
  ·cases hc
 | field t x f=>
  simp only at hc
  split at hc
  ·rename_i y off size a h1 h2
   cases hc
   have hx:=cQ h1 hr
   simp only[bF]at he
   split at he
   ·rename_i cs mK
    split at he
    ·rename_i d' mL
     cases he
     rw[mK]at hx
     obtain⟨vs,hv,g1,g2,g3⟩:=hx.J4
     simp only[execOp,hv]
     exact TV h2 g1 g2 g3 mL r
    ·cases he
   ·cases he
  ·cases hc
 | indexAddr t x i=>
  simp only at hc
  split at hc
  ·rename_i y j e h1 h2 h3
   split at hc
   ·rename_i inf TX
    split at hc
    ·cases hc
     have hx:=cQ h1 hr
     have hj:=cQ h2 hr
     simp only[bF]at he
     split at he
     ·rename_i g z rows k n lU hn
      split at he
      ·rename_i nL
       obtain⟨Gs,hz⟩:=nL
       subst hz
       split at he
       ·rename_i row dL
        cases he
        rw[lU]at hx;rw[hn]at hj
        simp only[execOp,hj.jz]
        exact TE r h3 TX hx Gs dL
       ·cases he
      ·cases he
     ·split at he
      case h_2=>cases he
      rename_i d' wM
      cases he
      exact Od r h3 TX hx hj wM
    ·cases hc
   ·cases hc
  ·cases hc
 | index t x i=>
  simp only at hc
  split at hc
  ·rename_i y j h1 h2 h3
   cases hc
   have hx:=cQ h1 hr
   have hj:=cQ h2 hr
   simp only[bF]at he
   split at he
   ·rename_i l k n hl hn
    split at he
    ·rename_i Gs
     split at he
     ·rename_i c hcc
      cases he
      rw[hl]at hx;rw[hn]at hj
      simp only[execOp,hj.jz,hx.nw]
      exact WR r h3 Gs hcc
     ·cases he
    ·cases he
   ·cases he
  ·cases hc
 | extract x i=>
  obtain⟨y,hy,rfl⟩:=map_some hc
  have hx:=cQ hy hr
  simp only[bF]at he
  split at he
  ·rename_i ds xC
   split at he
   ·rename_i d' mL
    cases he
    rw[xC]at hx
    obtain⟨vs,hv,g1,g2⟩:=hx.Lw
    have hD:=(zac.1 mL).1
    have Oi:vs[i]? = some vs[i]:=za6 (by omega)
    refine dt.pure (v:=vs[i]) r ?_ (g2 i _ _ mL Oi)
    simp[execOp,hv,Instr.extract,Oi]
   ·cases he
  ·cases he
 | call c=>
  obtain⟨callee,args,pe⟩:=c
  cases callee with
  |value f=>cases hc
  |invoke f m=>cases hc
  | builtin bi=>
   have two : ∀ {x y:Operand} {x' y':X} {isMax:Bool},cX x=some x'→cX y=some y'→bi=(if isMax then .max else .min)→args.toList = [x,y]→bF (.mm isMax x' y') tm s=some (d,s')→
    dt P M s w (execOp act.eval ⟨dst, .call ⟨.builtin bi,args,pe⟩,type,pos,after,guard⟩) d s':=by
    intro x y x' y' isMax h1 h2 hb ha h
    have jb:args = #[x,y]:=by rw[← zba (xs:=args),ha]
    subst jb
    have hx:=cQ h1 hr
    have hy:=cQ h2 hr
    simp only[bF]at h
    split at h
    ·rename_i k a k' b LH Oh
     split at h
     ·rename_i Dx
      subst Dx
      cases h
      rw[LH]at hx;rw[Oh]at hy
      refine dt.pure (v:= .int k (if isMax then(if b > a then b else a)else(if b<a then b else a))) r ?_ (.int _ _)
      subst hb
      cases isMax
      ·simp[execOp,resolve,invoke,builtin,Builtin.min_,Builtin.min2,hx.jz,hy.jz]
      ·simp[execOp,resolve,invoke,builtin,Builtin.max_,Builtin.max2,hx.jz,hy.jz]
     ·cases h
    ·cases h
   cases bi<;>simp only at hc<;>try (cases hc;done)
   case append=>
    split at hc
    ·rename_i x y t u ha gV
     split at hc
     ·rename_i e e' x' y' h1 h2 h3 h4
      split at hc
      ·rename_i i z hi hz
       split at hc
       ·rename_i vF
        cases hc
        have jb:args = #[x,y]:=by rw[← zba (xs:=args),ha]
        have Oj:pe = #[t,u]:=by rw[← zba (xs:=pe),gV]
        subst jb;subst Oj
        obtain⟨i',v,g1,g2,g3,g4⟩:=wa hz
        rw[hi]at g1;cases g1
        have LF:=uL (M:=M) (s:=s) g4
        split at he
        ·rename_i hb
         obtain⟨rfl,Ix,LI⟩:=hb
         obtain⟨v',w',M',f1,f2,f3,f4⟩:=TH (ty:=type) r h1 h2 hi g2 Ix LI g3 LF.2.1 (cQ h3 hr) (cQ h4 hr) he
         refine⟨v',w',M', .inl ?_,f2,f3,f4⟩
         simp[execOp,resolve,invoke,builtin,f1]
        ·have hxx:=cQ h3 hr
         simp only[bF]at he
         split at he
         ·rename_i gq zq rq hq
          rw[hq]at hxx
          obtain⟨v',w',M',f1,f2,f3,f4⟩:=WY (ty:=type) r h1 h2 hi g2 g3 LF.2.1 hxx (cQ h4 hr) vF he
          refine⟨v',w',M', .inl ?_,f2,f3,f4⟩
          simp[execOp,resolve,invoke,builtin,f1]
         ·obtain⟨v',w',M',f1,f2,f3,f4⟩:=TT (ty:=type) r h1 h2 hi g2 g3 LF.2.1 hxx (cQ h4 hr) vF he
          refine⟨v',w',M', .inl ?_,f2,f3,f4⟩
          simp[execOp,resolve,invoke,builtin,f1]
       ·cases hc
      ·cases hc
     ·rename_i e x' y' h1 h2 h3 h4
      split at hc
      ·rename_i i z hi hz
       split at hc
       ·rename_i hb
        cases hc
        obtain⟨rfl,Ix,LI⟩:=hb
        have jb:args = #[x,y]:=by rw[← zba (xs:=args),ha]
        have Oj:pe = #[t,u]:=by rw[← zba (xs:=pe),gV]
        subst jb;subst Oj
        obtain⟨i',v,g1,g2,g3,g4⟩:=wa hz
        rw[hi]at g1;cases g1
        have LF:=uL (M:=M) (s:=s) g4
        have hy:=cQ h4 hr
        simp only[bF]at he
        split at he
        ·rename_i l hl
         rw[hl]at hy
         obtain⟨v',w',M',f1,f2,f3,f4⟩:=TI (ty:=type) r h1 h2 hi g2 Ix LI g3 LF.2.1 (cQ h3 hr) he
         refine⟨v',w',M', .inl ?_,f2,f3,f4⟩
         simp[execOp,resolve,invoke,builtin,hy.nw,f1]
        ·cases he
       ·cases hc
      ·cases hc
     ·cases hc
    ·cases hc
   case len=>
    split at hc
    ·rename_i x t ha gV
     have jb:args = #[x]:=by rw[← zba (xs:=args),ha]
     have Oj:pe = #[t]:=by rw[← zba (xs:=pe),gV]
     subst jb;subst Oj
     have hex:execOp act.eval ⟨dst, .call ⟨.builtin .len, #[x], #[t]⟩,type,pos,after,guard⟩=(do pure (.value (← Builtin.len_ #[t] type #[act.eval x]))):=by
      simp[execOp,resolve,invoke,builtin]
     rw[hex]
     split at hc
     ·rename_i ht
      obtain⟨y,hy,rfl⟩:=map_some hc
      have hx:=cQ hy hr
      simp only[bF]at he
      split at he
      ·rename_i l hl
       cases he
       rw[hl]at hx
       rw[hx.nw]
       exact N3 r ht
      ·cases he
     ·rename_i e ht
      obtain⟨y,hy,rfl⟩:=map_some hc
      have hx:=cQ hy hr
      simp only[bF]at he
      split at he
      ·rename_i g z rows lU
       cases he
       rw[lU]at hx
       rcases hx.kG with ⟨h0,hv,_⟩|⟨h0,_,a,cap,hv⟩|⟨b,q,cap,hv,_⟩
       ·rw[hv,h0];exact pM r ht
       ·rw[hv,h0];exact pM r ht
       ·rw[hv];exact pM r ht
      ·split at he
       case h_2=>cases he
       rename_i d' wM
       cases he
       exact TS r ht hx wM
     ·cases hc
    ·cases hc
   case max=>
    split at hc
    ·rename_i x y ha
     split at hc
     ·rename_i x' y' h1 h2
      cases hc
      exact two (isMax:=true) h1 h2 rfl ha he
     ·cases hc
    ·cases hc
   case min=>
    split at hc
    ·rename_i x y ha
     split at hc
     ·rename_i x' y' h1 h2
      cases hc
      exact two (isMax:=false) h1 h2 rfl ha he
     ·cases hc
    ·cases hc
   case complex=>
    split at hc
    ·rename_i x y ha
     split at hc
     ·rename_i x' y' h1 h2
      cases hc
      have jb:args = #[x,y]:=by rw[← zba (xs:=args),ha]
      subst jb
      have hx:=cQ h1 hr
      have hy:=cQ h2 hr
      simp only[bF]at he
      split at he
      ·rename_i d' mL
       cases he
       obtain⟨k,a,b,Bx,rQ,rfl⟩:=WL mL
       rw[Bx]at hx;rw[rQ]at hy
       refine dt.pure (v:= .complex k a b) r ?_ (.val _ rfl)
       have hb:Builtin.complex_ pe type #[.float k a, .float k b] = pure (.complex k a b):=if_pos rfl
       simp[execOp,resolve,invoke,builtin,hb,hx.nH,hy.nH]
      ·cases he
     ·cases hc
    ·cases hc
   case real=>
    split at hc
    ·rename_i x ha
     obtain⟨x',h1,rfl⟩:=map_some hc
     have jb:args = #[x]:=by rw[← zba (xs:=args),ha]
     subst jb
     have hx:=cQ h1 hr
     simp only[bF]at he
     split at he
     ·rename_i d' mL
      cases he
      obtain⟨k,a,b,Bx,rfl⟩:=WM mL
      rw[Bx]at hx
      refine dt.pure (v:= .float k a) r ?_ (.val _ rfl)
      have hb:Builtin.real_ pe type #[.complex k a b] = pure (.float k a):=rfl
      simp[execOp,resolve,invoke,builtin,hb,hx.nH]
     ·cases he
    ·cases hc
   case imag=>
    split at hc
    ·rename_i x ha
     obtain⟨x',h1,rfl⟩:=map_some hc
     have jb:args = #[x]:=by rw[← zba (xs:=args),ha]
     subst jb
     have hx:=cQ h1 hr
     simp only[bF]at he
     split at he
     ·rename_i d' mL
      cases he
      obtain⟨k,a,b,Bx,rfl⟩:=WN mL
      rw[Bx]at hx
      refine dt.pure (v:= .float k b) r ?_ (.val _ rfl)
      have hb:Builtin.imag_ pe type #[.complex k a b] = pure (.float k b):=rfl
      simp[execOp,resolve,invoke,builtin,hb,hx.nH]
     ·cases he
    ·cases hc
 | makeFunc fn first captured=>
  cases fn<;>simp only at hc<;>try (cases hc;done)
  split at hc
  ·rename_i f h0
   obtain⟨xs,ri,rfl⟩:=map_some hc
   simp only[bF,Option.some.injEq,Prod.mk.injEq]at he
   obtain⟨rfl,rfl⟩:=he
   obtain⟨c1,c2⟩:=R7 hr ri
   have hf:first = #[]:=Array.eq_empty_of_size_eq_zero h0
   subst hf
   refine dt.pure (v:= .func (.func f) #[] (captured.map act.eval)) r ?_ (.iL _ _ _ (by simp[c1]) (fun i d v e1 e2=>c2 i d v e1 (by simpa using e2)))
   simp[execOp,Instr.makeFunc]
  ·cases hc
 | makeMap t rv=>
  cases rv with
  | none=>
   simp only at hc
   split at hc
   ·rename_i ht
    cases hc
    simp only[bF,Option.some.injEq,Prod.mk.injEq]at he
    obtain⟨rfl,rfl⟩:=he
    simp only[execOp,zbX]
    exact TO r ht
   ·cases hc
  |some x=>cases hc
 | makeSlice t l c=>
  simp only at hc
  split at hc
  ·rename_i l' c' e h1 h2 ht
   split at hc
   ·rename_i i z hi hz
    split at hc
    ·rename_i vF
     cases hc
     have hl:=cQ h1 hr
     have hcx:=cQ h2 hr
     simp only[bF]at he
     split at he
     ·rename_i n m hn hm
      split at he
      ·rename_i nL
       obtain⟨rfl,h0,hmx⟩:=nL
       cases he
       rw[hn]at hl;rw[hm]at hcx
       simp only[execOp,hl.jz,hcx.jz]
       exact TU r ht hi hz vF h0 hmx
      ·cases he
     ·cases he
    ·cases hc
   ·cases hc
  ·cases hc
 | mapUpdate t m k v=>
  simp only at hc
  split at hc
  ·rename_i kt et m' k' v' ht h1 h2 h3
   split at hc
   ·rename_i hkt
    cases hc
    have hm:=cQ h1 hr
    have hk:=cQ h2 hr
    have hv:=cQ h3 hr
    simp only[bF]at he
    split at he
    ·rename_i o key g z rows ho aaf lU
     rw[ho]at hm;rw[aaf]at hk;rw[lU]at hv
     obtain⟨hmv,hD,yo⟩:=hm.N2
     split at he
     ·rename_i cs mK
      split at he
      ·rename_i lq apN
       cases he
       have xB:(act.eval v).oneCell'=true:=by
        rcases hv.kG with ⟨_,h,_⟩|⟨_,_,a,cap,h⟩|⟨b,q,cap,h,_⟩<;>rw[h]<;>rfl
       simp only[execOp,hmv,hk.nw]
       exact W0 r ht hkt yo mK hv xB apN
      ·cases he
     ·cases he
    ·cases he
   ·cases hc
  ·cases hc
 | lookup t m k ok=>
  cases ok<;>simp only at hc<;>try (cases hc;done)
  split at hc
  ·rename_i kt et m' k' ht h1 h2
   split at hc
   ·rename_i i hkt hi
    split at hc
    ·rename_i z hz
     obtain⟨zd,hzd,rfl⟩:=map_some hc
     have hm:=cQ h1 hr
     have hk:=cQ h2 hr
     simp only[bF]at he
     split at he
     ·rename_i o key ho aaf
      rw[ho]at hm;rw[aaf]at hk
      obtain⟨hmv,hD,yo⟩:=hm.N2
      split at he
      ·rename_i cs mK
       split at he
       ·rename_i d' mL
        cases he
        simp only[execOp,hmv,hk.nw]
        exact TP r ht hkt hi hz hzd yo mK mL
       ·cases he
      ·cases he
     ·cases he
    ·cases hc
   ·cases hc
  ·cases hc
 |_=>cases hc
theorem CC {o:Oper} {z:List D} {k n:Nat} {ps:List (Nat×X)} {tm:Tm} {act:Act} {d:D} {s':St} (hc:Io P o=some (.rI z k n ps)) (r:Rel M s w) (hr:oo M s tm act.tmps) (he:bF (.yk z k n ps) tm s=some (d,s')) :
 dt P M s w (execOp act.eval o) d s':=by
 obtain⟨dst,op,type,pos,after,guard⟩:=o
 unfold Io at hc
 simp only at hc
 cases op with
 | buildSlice t n' parts=>
  simp only at hc
  split at hc
  ·rename_i e hu
   split at hc
   ·rename_i i z ps h1 h2 h3
    split at hc
    ·rename_i nL
     cases hc
     simp only[bF]at he
     split at he
     ·rename_i rows lU
      cases he
      obtain⟨vs,T,g1,g2,g3,g4⟩:=Gp r hr hu h1 h2 nL.1 nL.2 h3 lU
      obtain⟨M',f1,f2,f3⟩:=WZ r T g1 (by rw[g3,g2]) nL.1
      refine⟨_,_,_, .inl ?_,f2,f1,f3⟩
      simp only[zba]at g4
      simp only[execOp,Sem.run_bind,g4,Result.andThen_ok,Sem.run_pure]
      rw[g2]
     ·cases he
    ·cases hc
   ·cases hc
  ·cases hc
 |_=>
  exfalso
  revert hc
  try simp only
  repeat' split
  all_goals (first|(intro h;cases h;done)|(intro h;obtain⟨_,_,h⟩:=map_some h;cases h;done)|contradiction|(simp;done)|(intro h;simp_all;done))
end
end Go.Abs
namespace Go.Abs
structure gK where
 M:Map
 s:St
 w:World
 laid:Laid M s w
 Gt : ∀ b o v,M.G b o=some v→b<w.heap.size
def Holds (B:gK) (nt:Nat) (tm:Tm) (s:St) (act:Act) (w:World):Prop:=
 ∃ M,Ext B.M B.s B.w M s w∧Rel M s w∧oo M s tm act.tmps∧act.tmps.size=nt∧act.defers = []
def n6 (B:gK) (nt:Nat) (Q:Exit→Tm→St→Prop):Exit→Act→World→Prop:=fun e act w=>∃ tm s,Q e tm s∧Holds B nt tm s act w
def bk (P:Program) (f:FuncId) (args:List D) (s:St) (Q:D→St→Prop):Prop:=
 ∀ (M:Map) (w:World) (fH:Array Value),Rel M s w→Laid M s w→fH.size=args.length→(∀ (i:Nat) (d:D) (v:Value),args[i]? = some d→fH[i]? = some v→RD M s d v)→
  Calls P f fH w fun e w'=>∃ M' d v s',e = .returned v∧Q d s'∧Ext M s w M' s' w'∧Rel M' s' w'∧RD M' s' d v
theorem bk.mono {P:Program} {f:FuncId} {args:List D} {s:St} {Q Q':D→St→Prop} (h:bk P f args s Q) (hq : ∀ d s',Q d s'→Q' d s'):bk P f args s Q':=
 fun M w fH r hd hl ha=>(h M w fH r hd hl ha).mono fun _ _ ⟨M',d,v,s',h1,h2,h3⟩=>⟨M',d,v,s',h1,hq _ _ h2,h3⟩
def guarded (g:Option (Nat×Bool)) (tm:Tm) (A B:Prop):Prop:=
 match g with
 |none=>A
 |some (t,want)=>
  match tm.get t with
  | .bool b=>(b=want→A)∧(b=(!want)→B)
  | .tuple _=>B
  |_=>False
def jA (P:Program):List AI→(Tm→St→Prop)→Tm→St→Prop
 | [],K,tm,s=>K tm s
 | .op dst g o::r,K,tm,s=>
  guarded g tm (match bF o tm s with|some (d,s')=>jA P r K (tm.put dst d) s'|none=>False) (jA P r K (tm.put dst (.tuple [])) s)
 | .call dst g f xs::r,K,tm,s=>
  guarded g tm (bk P f (xs.map (·.ev tm)) s fun d s'=>jA P r K (tm.put dst d) s') (jA P r K (tm.put dst (.tuple [])) s)
 | .nil dst g neg x::r,K,tm,s=>
  guarded g tm (match x.ev tm with
   | .slice _ _ rows=>∀ b:Bool,(rows≠ []→b=false)→jA P r K (tm.put dst (.bool (if neg then !b else b))) s
   |_=>False) (jA P r K (tm.put dst (.tuple [])) s)
 | .lR dst g t xs::r,K,tm,s=>
  guarded g tm (match tm.get t with
   | .iL f qp=>enters P f=true∧bk P f (xs.map (·.ev tm)++qp) s fun d s'=>jA P r K (tm.put dst d) s'
   |_=>False) (jA P r K (tm.put dst (.tuple [])) s)
section
variable {P:Program}
theorem Ei {f:FuncId} (h:enters P f=true) (args:Array Value) (w:World):(callFunc f args).run P w = .ok (.enter f args) w:=by
 unfold enters at h
 split at h
 ·rename_i fn hf
  simp only[zat,zaL]at h
  obtain⟨h1,h2⟩:=h
  have h3:fn.body.isNone=false:=by cases hb:fn.body<;>simp_all
  simp only[callFunc,Sem.run_bind,run_program,Result.andThen_ok,hf,h2,h3]
  simp
 ·cases h
theorem AH (ρ:Operand→Value) (dst:Option Tmp) (f:FuncId) (args:Array Operand) (pe:Array TypeId) (ty:TypeId) (pos:String) (after:Array Edge) (g:Option (Nat×Bool))
 (hρ:ρ (.func f) = .func (.func f) #[] #[]) (h:enters P f=true) (w:World) :
 (execOp ρ ⟨dst, .call ⟨.value (.func f),args,pe⟩,ty,pos,after,g⟩).run P w = .ok (.enter f (args.map ρ)) w:=by
 simp[execOp,resolve,hρ,Deferred.ofValue,invoke,Ei h]
theorem Ej (ρ:Operand→Value) (dst:Option Tmp) (x:Operand) (f:FuncId) (qp:Array Value) (args:Array Operand) (pe:Array TypeId) (ty:TypeId) (pos:String) (after:Array Edge) (g:Option (Nat×Bool))
 (hρ:ρ x = .func (.func f) #[] qp) (h:enters P f=true) (w:World) :
 (execOp ρ ⟨dst, .call ⟨.value x,args,pe⟩,ty,pos,after,g⟩).run P w = .ok (.enter f (args.map ρ++qp)) w:=by
 simp[execOp,resolve,hρ,Deferred.ofValue,invoke,Ei h]
theorem zD {M:Map} {s:St} {tm:Tm} {act:Act} (hr:oo M s tm act.tmps) : ∀ {l:List Operand} {xs:List X},Bn l=some xs→
 xs.length=l.length∧∀ (i:Nat) (d:D) (v:Value),(xs.map (·.ev tm))[i]? = some d→(l.map act.eval)[i]? = some v→RD M s d v
 | [],xs,h=>by cases h;exact⟨rfl,by simp⟩
 | x::l,xs,h=>by
  unfold Bn at h
  split at h
  ·rename_i x' r' h1 h2
   cases h
   obtain⟨g1,g2⟩:=zD hr h2
   refine⟨by simp[g1],fun i d v e1 e2=>?_⟩
   cases i with
   |zero=>simp at e1 e2;subst e1;subst e2;exact cQ h1 hr
   |succ i=>exact g2 i d v (by simpa using e1) (by simpa using e2)
  ·cases h
theorem LJ {M:Map} {s:St} {tm:Tm} {act:Act} {args:Array Operand} {xs:List X} {qp:List D} {vs:Array Value} (ri:Bn args.toList=some xs) (ht:oo M s tm act.tmps) (hlen:qp.length=vs.size)
 (Iy : ∀ (i:Nat) (d:D) (v:Value),qp[i]? = some d→vs[i]? = some v→RD M s d v) :
 (args.map act.eval++vs).size=(xs.map (·.ev tm)++qp).length∧∀ (i:Nat) (d:D) (v:Value),(xs.map (·.ev tm)++qp)[i]? = some d→(args.map act.eval++vs)[i]? = some v→RD M s d v:=by
 obtain⟨c1,c2⟩:=zD ht ri
 refine⟨by simp[c1,hlen],fun i d v e1 e2=>?_⟩
 rcases zaE i args.size with lu|lu
 ·rw [zai (by simp [c1];exact lu)]at e1
  rw[zbe (by simp;exact lu)]at e2
  exact c2 i d v e1 (by simpa using e2)
 ·rw [zao (by simp [c1];exact lu)]at e1
  rw[Array.getElem?_append_right (by simp;exact lu)]at e2
  simp only[zau,c1,Array.size_map,Array.length_toList]at e1 e2
  exact Iy _ d v e1 e2
theorem Dz {M:Map} {s:St} {w:World} {o:Oper} {neg:Bool} {x:X} {tm:Tm} {act:Act} (hc:J1 P o=some (neg,x)) (hr:oo M s tm act.tmps) {g:Tag} {z:Nat} {rows:List (List D)} (hx:x.ev tm = .slice g z rows) :
 ∃ b:Bool,(rows≠ []→b=false)∧(execOp act.eval o).run P w = .ok (.value (.bool (if neg then !b else b))) w:=by
 obtain⟨dst,op,type,pos,after,guard⟩:=o
 unfold J1 at hc
 split at hc
 ·rename_i op t y yt heq
  simp only at heq
  subst heq
  have fin : ∀ e,P.underlying t=some (.slice e)→cX y=some x→op=(if neg then .neq else .eql)→∃ b:Bool,(rows≠ []→b=false)∧
   (execOp act.eval ⟨dst, .binOp op t y (.const (.slice none 0 0)) yt,type,pos,after,guard⟩).run P w = .ok (.value (.bool (if neg then !b else b))) w:=by
   intro e ht hy pd
   have hv:=cQ hy hr
   rw[hx]at hv
   have key : ∀ (a:Option Addr) (n c:Nat),act.eval y = .slice a n c→(execOp act.eval ⟨dst, .binOp op t y (.const (.slice none 0 0)) yt,type,pos,after,guard⟩).run P w = .ok (.value (.bool (if neg then !a.isNone else a.isNone))) w:=by
    intro a n c sT
    have hg:=lr (P:=P) (w:=w) (op:=op) (t:=t) (x:=y) (y:= .const (.slice none 0 0)) (a:= .slice a n c) (b:= .slice none 0 0) ⟨by simp,by simp⟩
    have he:(Op.equal t (.slice a n c) (.slice none 0 0)).run P w = .ok a.isNone w:=by
     have : ∀ d,(Op.equalIn (d+1) t (.slice a n c) (.slice none 0 0)).run P w = .ok a.isNone w:=by
      intro d
      cases a<;>simp[Op.equalIn,run_underlying ht]
     exact this 9999
    have apP:act.eval (.const (.slice none 0 0)) = .slice none 0 0:=rfl
    simp only[execOp,sT,apP]
    rw[pd]at hg ⊢
    cases neg
    ·simp only [zab,if_false]at hg ⊢
     simp[hg,binOp,he]
    ·simp only [if_true]at hg ⊢
     simp[hg,binOp,he]
   rcases hv.kG with ⟨h0,sT,_⟩|⟨_,_,a,cap,sT⟩|⟨b,q,cap,sT,_⟩
   ·exact⟨true,fun h=>(h h0).elim,key none 0 0 sT⟩
   ·exact⟨false,fun _=>rfl,key _ _ _ sT⟩
   ·exact⟨false,fun _=>rfl,key _ _ _ sT⟩
  split at hc
  ·cases hc
   exact fin _ ‹_› ‹_› rfl
  ·cases hc
   exact fin _ ‹_› ‹_› rfl
  ·cases hc
 ·cases hc
variable {B:gK} {nt:Nat}
theorem Holds.put {tm:Tm} {s:St} {act:Act} {w:World} {M':Map} {s':St} {w':World} {M:Map} (e:Ext B.M B.s B.w M s w) (ht:oo M s tm act.tmps) (hn:act.tmps.size=nt) (hd:act.defers = [])
 {dst:Option Nat} (tO : ∀ t,dst=some t→t<nt) {d:D} {v:Value} (e':Ext M s w M' s' w') (r':Rel M' s' w') (hv:RD M' s' d v):Holds B nt (tm.put dst d) s' (act.put dst v) w':=by
 refine⟨M',e.trans e',r',(ht.mono e'.le).put (fun t h=>by rw[hn];exact tO t h) hv, ?_, ?_⟩
 ·cases dst<;>simp[Act.put,hn]
 ·cases dst<;>simp[Act.put,hd]
theorem yx {ops:Array Oper} {o:Oper} {ai:AI} (h:cI P nt ops o=some ai) : ∀ t,o.dst=some t→t<nt:=by
 intro t ht
 unfold cI at h
 split at h
 ·cases h
 ·split at h
  ·rename_i hD;rw[ht]at hD;simpa[adv]using hD
  ·cases h
theorem lV {ops:Array Oper} {o:Oper} {g:Option (Nat×Bool)} (hg:yn ops o.guard=some g) {M:Map} {s:St} {tm:Tm} {act:Act} (hr:oo M s tm act.tmps) {A C:Prop} (h:guarded g tm A C) :
 (Region.wanted o (yielded ops act.tmps)=true∧A)∨(Region.wanted o (yielded ops act.tmps)=false∧C):=by
 unfold yn at hg
 split at hg
 ·rename_i hn
  cases hg
  exact .inl ⟨by simp[Region.wanted,hn],h⟩
 ·rename_i j want hn
  split at hg
  ·rename_i t ht
   cases hg
   have hrt:=hr t
   unfold guarded at h
   simp only at h
   split at h
   ·rename_i b hb
    rw[hb]at hrt
    have hv:=hrt.qt
    have alV:act.tmps[t]? = some (.bool b):=by
     cases hc:act.tmps[t]? with
     |none=>simp[zbu,hc,Go.undef]at hv
     |some v=>simp[zbu,hc]at hv;rw[hv]
    have hy:yielded ops act.tmps j=some b:=by simp[yielded,ht,alV]
    have hw:Region.wanted o (yielded ops act.tmps)=(some b==some want):=by simp[Region.wanted,hn,hy]
    by_cases hbw:b=want
    ·exact .inl ⟨by rw[hw,hbw];simp,h.1 hbw⟩
    ·refine .inr ⟨by rw [hw];simp [hbw],h.2 ?_⟩
     cases b<;>cases want<;>simp_all
   ·rename_i ds xC
    rw[xC]at hrt
    obtain⟨vs,hv,_⟩:=hrt.Lw
    refine .inr ⟨?_,h⟩
    have hy:yielded ops act.tmps j=none:=by
     unfold yielded
     rw[ht]
     cases hc:act.tmps[t]? with
     |none=>simp[hc]
     |some v=>simp[zbu,hc]at hv;simp[hc,hv]
    simp[Region.wanted,hn,hy]
   ·exact h.elim
  ·cases hg
theorem Ek {ops:Array Oper} {Q:Exit→Tm→St→Prop} : ∀ (l:List Nat) (ol:List Oper) (is:List AI),l.map (ops[·]?)=ol.map some→sI P nt ops ol=some is→
 ∀ (tm:Tm) (s:St) (act:Act) (w:World),jA P is (Q .normal) tm s→Holds B nt tm s act w→wpOps P ops (n6 B nt Q) l act w
 | [],[],is,_,hc,tm,s,act,w,h,hh=>by cases hc;exact⟨tm,s,h,hh⟩
 | [],_::_,_,hl,_,_,_,_,_,_,_=>by simp at hl
 |_::_,[],_,hl,_,_,_,_,_,_,_=>by simp at hl
 | i::l,o::ol,is,hl,hc,tm,s,act,w,h,hh=>by
  simp only[zaf,List.cons.injEq]at hl
  obtain⟨hi,hl⟩:=hl
  unfold sI at hc
  split at hc
  ·rename_i ai W3 h1 h2
   cases hc
   obtain⟨M,e,r,ht,hn,hd⟩:=hh
   have tO:=yx h1
   have ih:=fun tm s act w=>Ek (Q:=Q) l ol W3 hl h2 tm s act w
   have skip : ∀ (x:Prop),jA P W3 (Q .normal) (tm.put o.dst (.tuple [])) s→wpOps P ops (n6 B nt Q) l (act.put o.dst Go.undef) w:=fun _ hk=>
    ih _ _ _ _ hk (Holds.put e ht hn hd tO (Ext.refl M s w) r .undef)
   simp only[wpOps,hi]
   unfold cI at h1
   split at h1
   ·cases h1
   ·rename_i g hg
    split at h1
    ·unfold v7 at h1
     split at h1
     ·-- a call
      rename_i f args pe pd
      split at h1
      ·rename_i oT
       obtain⟨xs,ri,rfl⟩:=map_some h1
       unfold jA at h
       rcases lV hg ht h with ⟨hw,hA⟩|⟨hw,hB⟩
       ·simp only [hw,if_true]
        left
        have hex:(execOp act.eval o).run P w = .ok (.enter f (args.map act.eval)) w:=by
         obtain⟨dst,op,type,pos,after,guard⟩:=o
         simp only at pd
         subst pd
         exact AH act.eval dst f args pe type pos after guard rfl oT w
        obtain⟨c1,c2⟩:=zD ht ri
        unfold Oper.wp
        rw[hex,Oper.upon_enter]
        refine(hA M w (args.map act.eval) r (B.laid.ext e) (by simp[c1]) (fun i d v e1 e2=>c2 i d v e1 (by simpa using e2))).mono ?_
        rintro en w' ⟨M',d,v,s',rfl,hk,e',r',hv⟩
        exact ih _ _ _ _ hk (Holds.put e ht hn hd tO e' r' hv)
       ·simp only [hw]
        exact skip True hB
      ·cases h1
     ·-- what a slot holds is called
      rename_i t args pe pd
      obtain⟨xs,ri,rfl⟩:=map_some h1
      unfold jA at h
      rcases lV hg ht h with ⟨hw,hA⟩|⟨hw,hB⟩
      ·simp only [hw,if_true]
       left
       split at hA
       ·rename_i f qp kP
        obtain⟨oT,hA⟩:=hA
        have W4:=ht t
        rw[kP]at W4
        obtain⟨vs,nh,hlen,Iy⟩:=W4.R3
        have hex:(execOp act.eval o).run P w = .ok (.enter f (args.map act.eval++vs)) w:=by
         obtain⟨dst,op,type,pos,after,guard⟩:=o
         simp only at pd
         subst pd
         exact Ej act.eval dst (.tmp t) f vs args pe type pos after guard nh oT w
        unfold Oper.wp
        rw[hex,Oper.upon_enter]
        have cc:=LJ ri ht hlen Iy
        refine(hA M w (args.map act.eval++vs) r (B.laid.ext e) cc.1 cc.2).mono ?_
        rintro en w' ⟨M',d,v,s',rfl,hk,e',r',hv⟩
        exact ih _ _ _ _ hk (Holds.put e ht hn hd tO e' r' hv)
       ·exact hA.elim
      ·simp only [hw]
       exact skip True hB
     ·split at h1
      ·-- a slice held against nil
       rename_i neg x AJ
       cases h1
       unfold jA at h
       rcases lV hg ht h with ⟨hw,hA⟩|⟨hw,hB⟩
       ·simp only [hw,if_true]
        left
        split at hA
        ·rename_i g' z rows hx
         obtain⟨b,hb,hex⟩:=Dz (w:=w) AJ ht hx
         unfold Oper.wp
         rw[hex,Oper.upon_value]
         exact ih _ _ _ _ (hA b hb) (Holds.put e ht hn hd tO (Ext.refl M s w) r (.bool _))
        ·exact hA.elim
       ·simp only [hw]
        exact skip True hB
      ·-- any other operation
       have fin : ∀ ao,ai = .op o.dst g ao→(∀ d s',bF ao tm s=some (d,s')→dt P M s w (execOp act.eval o) d s')→
        (if Region.wanted o (yielded ops act.tmps)=true then o.wp P act w (wpOps P ops (n6 B nt Q) l) (n6 B nt Q)∨(o.asks P act w∧LetsOut (n6 B nt Q))else wpOps P ops (n6 B nt Q) l (act.put o.dst Go.undef) w):=by
        intro ao zE Ol
        subst zE
        unfold jA at h
        rcases lV hg ht h with ⟨hw,hA⟩|⟨hw,hB⟩
        ·simp only [hw,if_true]
         left
         split at hA
         ·rename_i d s' qM
          obtain⟨v,w',M',ek,r',hv,e'⟩:=Ol d s' qM
          unfold Oper.wp
          rcases ek with ek|⟨ek,rfl⟩
          ·rw [ek,Oper.upon_value]
           exact ih _ _ _ _ hA (Holds.put e ht hn hd tO e' r' hv)
          ·rw [ek,Oper.upon_skip]
           exact ih _ _ _ _ hA (Holds.put e ht hn hd tO e' r' hv)
         ·exact hA.elim
        ·simp only [hw]
         exact skip True hB
       split at h1
       ·rename_i z k n ps qN
        cases h1
        refine fin _ rfl (fun d s' qM=>?_)
        split at qM
        ·exact CC qN r ht qM
        ·exact wc qN r ht qM
       ·rename_i ao qN
        cases h1
        exact fin _ rfl (fun d s' qM=>wc qN r ht qM)
       ·cases h1
    ·cases h1
  ·cases hc
end
end Go.Abs
namespace Go.Abs
def Turned (P:Program) (nt:Nat):AC→Code→Prop
 | .skip,c=>c = .skip
 | .run is,c=>∃ id ops,c = .region id ops false∧sI P nt ops ops.toList=some is
 | .par is nZ,c=>∃ id ops,c = .region id ops true∧sI P nt ops ops.toList=some is∧P.follows .mixedOrders=true∧∃ pt,Ij is (ops.toList.map ki) pt nZ=true
 | .any a d,c=>∃ id ops,c = .region id ops true∧sI P nt ops ops.toList=some [.op (some a) none (.alloc [.bool false]), .op none none (.store (.s a) (.k (.bool true)) 1), .op none none (.store (.s a) (.k (.bool false)) 1), .op (some d) none (.load (.s a) false 1)]∧P.follows .mixedOrders=true∧ops.toList.map ki = [[],[0],[0],[0,0,1,2]]
 | .seq a b,c=>∃ x y,c = .seq x y∧cC P nt x=some a∧cC P nt y=some b
 | .cond x a b,c=>∃ o p q,c = .cond o p q∧cX o=some x∧cC P nt p=some a∧cC P nt q=some b
 | .block id a,c=>∃ x,c = .block id x∧cC P nt x=some a
 | .loop a,c=>∃ x,c = .loop x∧cC P nt x=some a
 | .exit id,c=>c = .exit id
 | .scope a,c=>∃ x,c = .scope x∧cC P nt x=some a
 | .label l,c=>c = .label l
 | .goto l,c=>c = .goto l
 | .ret,c=>c = .ret
theorem mM {P:Program} {nt:Nat} {c:Code} {ac:AC} (h:cC P nt c=some ac):Turned P nt ac c:=by
 cases c with
 |skip=>cases h;rfl
 | region id ops draw=>
  cases draw
  ·obtain⟨is,h1,rfl⟩:=map_some (x:=sI P nt ops ops.toList) (f:=AC.run) (by simpa [cC]using h)
   exact⟨id,ops,rfl,h1⟩
  ·simp only [cC]at h
   split at h
   ·rename_i hm
    obtain⟨is,h1,h2⟩:=Option.bind_eq_some_iff.1 h
    unfold D5 at h2
    split at h2
    ·rename_i c' hq
     unfold Ts at hq
     cases h2
     split at hq
     ·rename_i hp
      cases hq
      exact⟨id,ops,rfl,h1,hm,_,hp⟩
     ·cases hq
    ·unfold adw at h2
     split at h2
     ·split at h2
      ·rename_i hc
       obtain⟨rfl,rfl,rfl,W5⟩:=hc
       cases h2
       exact⟨id,ops,rfl,h1,hm,W5⟩
      ·cases h2
     ·cases h2
   ·cases h
 |seq a b=>
  simp only[cC]at h
  split at h
  ·rename_i a' b' h1 h2;cases h;exact⟨a,b,rfl,h1,h2⟩
  ·cases h
 |cond x a b=>
  simp only[cC]at h
  split at h
  ·rename_i x' a' b' h1 h2 h3;cases h;exact⟨x,a,b,rfl,h1,h2,h3⟩
  ·cases h
 |block id a=>
  obtain⟨a',h1,rfl⟩:=map_some (x:=cC P nt a) (f:=AC.block id) (by simpa[cC]using h)
  exact⟨a,rfl,h1⟩
 |loop a=>
  obtain⟨a',h1,rfl⟩:=map_some (x:=cC P nt a) (f:=AC.loop) (by simpa[cC]using h)
  exact⟨a,rfl,h1⟩
 |rangeFunc f p a b=>simp[cC]at h
 |exit id=>cases h;rfl
 |scope a=>
  obtain⟨a',h1,rfl⟩:=map_some (x:=cC P nt a) (f:=AC.scope) (by simpa[cC]using h)
  exact⟨a,rfl,h1⟩
 |label l=>cases h;rfl
 |goto l=>cases h;rfl
 |ret=>cases h;rfl
 |refuse w=>simp[cC]at h
def Sem (P:Program) (B:gK) (nt:Nat) (ac:AC) (Q:Exit→Tm→St→Prop) (tm:Tm) (s:St):Prop:=
 ∀ c,cC P nt c=some ac→∀ act w,Holds B nt tm s act w→c.wp P (n6 B nt Q) act w
def kp (next:Tm→St→Prop) (Q:Exit→Tm→St→Prop):Exit→Tm→St→Prop
 | .normal,tm,s=>next tm s
 |e,tm,s=>Q e tm s
def fV (id:Nat) (Q:Exit→Tm→St→Prop):Exit→Tm→St→Prop
 | .exit i,tm,s=>if i=id then Q .normal tm s else Q (.exit i) tm s
 |e,tm,s=>Q e tm s
section
variable {P:Program} {B:gK} {nt:Nat} {Q:Exit→Tm→St→Prop} {tm:Tm} {s:St}
theorem Sem.mono {ac:AC} {Q':Exit→Tm→St→Prop} (h:Sem P B nt ac Q tm s) (hq : ∀ e tm s,Q e tm s→Q' e tm s):Sem P B nt ac Q' tm s:=
 fun c hc act w hh=>wp_mono (h c hc act w hh) fun _ _ _ ⟨tm,s,h1,h2⟩=>⟨tm,s,hq _ _ _ h1,h2⟩
theorem Sem.skip (h:Q .normal tm s):Sem P B nt .skip Q tm s:=by
 intro c hc act w hh
 cases mM hc
 exact wp_skip ⟨tm,s,h,hh⟩
theorem Sem.label {l:Nat} (h:Q .normal tm s):Sem P B nt (.label l) Q tm s:=by
 intro c hc act w hh
 cases mM hc
 exact wp_label ⟨tm,s,h,hh⟩
theorem Sem.exit {id:Nat} (h:Q (.exit id) tm s):Sem P B nt (.exit id) Q tm s:=by
 intro c hc act w hh
 cases mM hc
 exact wp_exit ⟨tm,s,h,hh⟩
theorem Sem.goto {l:Nat} (h:Q (.goto l) tm s):Sem P B nt (.goto l) Q tm s:=by
 intro c hc act w hh
 cases mM hc
 exact wp_goto ⟨tm,s,h,hh⟩
theorem Sem.ret (h:Q .ret tm s):Sem P B nt .ret Q tm s:=by
 intro c hc act w hh
 cases mM hc
 exact wp_ret ⟨tm,s,h,hh⟩
theorem El (ops:Array Oper):(List.range ops.size).map (ops[·]?)=ops.toList.map some:=by
 apply zbZ
 intro i
 by_cases h:i<ops.size
 ·simp[h]
 ·simp[h]
theorem Sem.run {is:List AI} (h:jA P is (Q .normal) tm s):Sem P B nt (.run is) Q tm s:=by
 intro c hc act w hh
 obtain⟨id,ops,rfl,hi⟩:=mM hc
 exact wp_region (Ek (Q:=Q) (List.range ops.size) ops.toList is (El ops) hi tm s act w h hh)
theorem Sem.seq {a b:AC} (h:Sem P B nt a (kp (Sem P B nt b Q) Q) tm s):Sem P B nt (.seq a b) Q tm s:=by
 intro c hc act w hh
 obtain⟨x,y,rfl,h1,h2⟩:=mM hc
 refine wp_seq (wp_mono (h x h1 act w hh) fun e act w hp=>?_)
 obtain⟨da,s',hq,lx⟩:=hp
 cases e with
 |normal=>exact hq y h2 act w lx
 |exit id=>exact⟨da,s',hq,lx⟩
 |goto l=>exact⟨da,s',hq,lx⟩
 |ret=>exact⟨da,s',hq,lx⟩
 |panic ch=>exact⟨da,s',hq,lx⟩
 |outgrown=>exact⟨da,s',hq,lx⟩
theorem Sem.cond {x:X} {a b:AC} {t:Bool} (hx:x.ev tm = .bool t) (h1:t=true→Sem P B nt a Q tm s) (h2:t=false→Sem P B nt b Q tm s):Sem P B nt (.cond x a b) Q tm s:=by
 intro c hc act w hh
 obtain⟨o,p,q,rfl,g1,g2,g3⟩:=mM hc
 have lx:=hh
 obtain⟨M,e,r,ht,hn,hd⟩:=hh
 have hv:=cQ g1 ht
 rw[hx]at hv
 exact wp_cond_split hv.qt (fun h=>h1 h p g2 act w lx) (fun h=>h2 h q g3 act w lx)
theorem Sem.block {id:Nat} {a:AC} (h:Sem P B nt a (fV id Q) tm s):Sem P B nt (.block id a) Q tm s:=by
 intro c hc act w hh
 obtain⟨x,rfl,h1⟩:=mM hc
 refine wp_block (wp_mono (h x h1 act w hh) fun e act w hp=>?_)
 obtain⟨da,s',hq,lx⟩:=hp
 cases e with
 |exit i=>
  simp only[fV]at hq
  simp only[Exit.inBlock]
  split at hq
  ·rename_i h;rw[if_pos h];exact⟨da,s',hq,lx⟩
  ·rename_i h;rw[if_neg h];exact⟨da,s',hq,lx⟩
 |normal=>exact⟨da,s',hq,lx⟩
 |goto l=>exact⟨da,s',hq,lx⟩
 |ret=>exact⟨da,s',hq,lx⟩
 |panic ch=>exact⟨da,s',hq,lx⟩
 |outgrown=>exact⟨da,s',hq,lx⟩
def CD (P:Program) (c:Code) (Q:Exit→Act→World→Prop) (a:Act) (w:World):Prop:=
 ∀ (b:Frame) (k:List Item) (cs:List Frame),∃ e a' w',Q e a' w'∧Arrives P (lone (b.at a (.code c:: .inLoop c::k)) cs w) b k cs e a' w'
theorem CD.wp {c:Code} {Q:Exit→Act→World→Prop} {a:Act} {w:World} (h:CD P c Q a w):(Code.loop c).wp P Q a w:=fun b k cs=>
 let ⟨e,a',w',hq,jb⟩:=h b k cs
 ⟨e,a',w',hq, .of_steps (.one step_loop) jb⟩
theorem CD.once {c:Code} {Q:Exit→Act→World→Prop} {a:Act} {w:World} (h:c.wp P (Exit.then (CD P c Q) Q) a w):CD P c Q a w:=by
 intro b k cs
 obtain⟨e,a₁,w₁,hq,jb⟩:=h b (.inLoop c::k) cs
 cases e with
 |normal=>
  obtain⟨e₂,a₂,w₂,hq₂,TY⟩:=hq b k cs
  exact⟨e₂,a₂,w₂,hq₂, .of_steps (Steps.trans jb (.one step_inLoop)) TY⟩
 |exit id=>exact⟨_,a₁,w₁,hq, .pass (x:= .inLoop c) rfl (fun _ _=> .inl (by simp)) jb⟩
 |goto l=>exact⟨_,a₁,w₁,hq, .pass (x:= .inLoop c) rfl (fun _ _=> .inl (by simp)) jb⟩
 |ret=>exact⟨_,a₁,w₁,hq, .pass (x:= .inLoop c) rfl (fun _ _=> .inl (by simp)) jb⟩
 |panic ch=>exact⟨_,a₁,w₁,hq, .pass (x:= .inLoop c) rfl (fun _ _=> .inl (by simp)) jb⟩
 |outgrown=>exact⟨_,a₁,w₁,hq, .pass (x:= .inLoop c) rfl (fun _ _=> .inl (by simp)) jb⟩
def aJ (P:Program) (B:gK) (nt:Nat) (ac:AC) (Q:Exit→Tm→St→Prop) (tm:Tm) (s:St):Prop:=
 ∀ c,cC P nt c=some ac→∀ act w,Holds B nt tm s act w→CD P c (n6 B nt Q) act w
theorem Sem.loop {a:AC} (h:aJ P B nt a Q tm s):Sem P B nt (.loop a) Q tm s:=by
 intro c hc act w hh
 obtain⟨x,rfl,h1⟩:=mM hc
 exact(h x h1 act w hh).wp
theorem aJ.once {a:AC} (h:Sem P B nt a (kp (aJ P B nt a Q) Q) tm s):aJ P B nt a Q tm s:=by
 intro c hc act w hh
 refine CD.once (wp_mono (h c hc act w hh) fun e act w hp=>?_)
 obtain⟨da,s',hq,lx⟩:=hp
 cases e with
 |normal=>exact hq c hc act w lx
 |exit id=>exact⟨da,s',hq,lx⟩
 |goto l=>exact⟨da,s',hq,lx⟩
 |ret=>exact⟨da,s',hq,lx⟩
 |panic ch=>exact⟨da,s',hq,lx⟩
 |outgrown=>exact⟨da,s',hq,lx⟩
def yy (P:Program) (c r:Code) (Q:Exit→Act→World→Prop) (a:Act) (w:World):Prop:=
 ∀ (b:Frame) (k:List Item) (cs:List Frame),∃ e a' w',Q e a' w'∧Arrives P (lone (b.at a (.code r:: .inScope c::k)) cs w) b k cs e a' w'
def alW (P:Program) (c:Code) (Q:Exit→Act→World→Prop):Exit→Act→World→Prop
 | .goto l,a,w=>∃ rest,findLabel c l=some rest∧yy P c rest Q a w
 |e,a,w=>Q e a w
theorem yy.wp {c:Code} {Q:Exit→Act→World→Prop} {a:Act} {w:World} (h:yy P c c Q a w):(Code.scope c).wp P Q a w:=fun b k cs=>
 let ⟨e,a',w',hq,jb⟩:=h b k cs
 ⟨e,a',w',hq, .of_steps (.one step_scope) jb⟩
theorem yy.once {c r:Code} {Q:Exit→Act→World→Prop} {a:Act} {w:World} (h:r.wp P (alW P c Q) a w):yy P c r Q a w:=by
 intro b k cs
 obtain⟨e,a₁,w₁,hq,jb⟩:=h b (.inScope c::k) cs
 cases e with
 |normal=>exact⟨.normal,a₁,w₁,hq,Steps.trans jb (.one step_inScope)⟩
 |exit id=>exact⟨.exit id,a₁,w₁,hq,fun k' hk=>jb k' (by simp[exitTo,hk])⟩
 |goto l=>
  obtain⟨rest,hf,hs⟩:=hq
  obtain⟨e₂,a₂,w₂,hq₂,TY⟩:=hs b k cs
  exact⟨e₂,a₂,w₂,hq₂, .of_steps (jb _ (by simp[gotoIn,hf])) TY⟩
 |ret=>exact⟨_,a₁,w₁,hq,jb⟩
 |panic ch=>exact⟨_,a₁,w₁,hq,jb⟩
 |outgrown=>exact⟨_,a₁,w₁,hq,jb⟩
def xQ:AC→Nat→Option AC
 | .seq a b,l=>
  match xQ a l with
  |some r=>some (.seq r b)
  |none=>xQ b l
 | .label l',l=>if l'==l then some .skip else none
 |_,_=>none
theorem Q8 : ∀ {c:Code} {ac:AC},cC P nt c=some ac→∀ l,(xQ ac l=none→findLabel c l=none)∧∀ r,xQ ac l=some r→∃ rest,findLabel c l=some rest∧cC P nt rest=some r:=by
 intro c
 induction c with
 | seq a b Iz IA=>
  intro ac h l
  simp only[cC]at h
  split at h
  ·rename_i a' b' h1 h2
   cases h
   obtain⟨n1,s1⟩:=Iz h1 l
   obtain⟨n2,s2⟩:=IA h2 l
   simp only[xQ,findLabel]
   cases hf:xQ a' l with
   |none=>
    rw[n1 hf]
    exact⟨n2,s2⟩
   |some r=>
    obtain⟨rest,g1,g2⟩:=s1 r hf
    rw[g1]
    refine⟨(by intro h;cases h),fun r' h=>?_⟩
    cases h
    exact⟨_,rfl,by simp[cC,g2,h2]⟩
  ·cases h
 |label l'=>
  intro ac h l
  cases h
  simp only[xQ,findLabel]
  split
  ·exact⟨(by intro h;cases h),(by intro r h;cases h;exact⟨_,rfl,rfl⟩)⟩
  ·exact⟨fun _=>rfl,(by intro r h;cases h)⟩
 | _=>
  intro ac h l
  have:=mM h
  cases ac<;>simp only[Turned]at this<;>first
   |(exfalso;obtain⟨_,_,this⟩:=this;cases this.1;done)
   |exact⟨fun _=>rfl,(by intro r h;cases h)⟩
   |(exfalso;cases this;done)
   |(exfalso;obtain⟨_,this⟩:=this;cases this.1;done)
   |(exfalso;obtain⟨_,_,_,_,this⟩:=this;cases this.1;done)
def nM (P:Program) (B:gK) (nt:Nat) (ac r:AC) (Q:Exit→Tm→St→Prop) (tm:Tm) (s:St):Prop:=
 ∀ c rest,cC P nt c=some ac→cC P nt rest=some r→∀ act w,Holds B nt tm s act w→yy P c rest (n6 B nt Q) act w
def CF (P:Program) (B:gK) (nt:Nat) (ac:AC) (Q:Exit→Tm→St→Prop):Exit→Tm→St→Prop
 | .goto l,tm,s=>∃ r,xQ ac l=some r∧nM P B nt ac r Q tm s
 |e,tm,s=>Q e tm s
theorem Sem.scope {a:AC} (h:nM P B nt a a Q tm s):Sem P B nt (.scope a) Q tm s:=by
 intro c hc act w hh
 obtain⟨x,rfl,h1⟩:=mM hc
 exact(h x x h1 h1 act w hh).wp
theorem nM.once {a r:AC} (h:Sem P B nt r (CF P B nt a Q) tm s):nM P B nt a r Q tm s:=by
 intro c rest hc Ny act w hh
 refine yy.once (wp_mono (h rest Ny act w hh) fun e act w hp=>?_)
 obtain⟨da,s',hq,lx⟩:=hp
 cases e with
 |normal=>exact⟨da,s',hq,lx⟩
 |exit id=>exact⟨da,s',hq,lx⟩
 |goto l=>
  obtain⟨r',hf,hs⟩:=hq
  obtain⟨qu,g1,g2⟩:=(Q8 hc l).2 r' hf
  exact⟨qu,g1,hs c qu hc g2 act w lx⟩
 |ret=>exact⟨da,s',hq,lx⟩
 |panic ch=>exact⟨da,s',hq,lx⟩
 |outgrown=>exact⟨da,s',hq,lx⟩
def Tag.fg (m:Nat):Tag→Tag
 | .tok t y=>if t<m then .tok t y else .shared
 |g=>g
mutual
def D.fg (n m:Nat):D→D
 | .ptr o off=>if o<n then .ptr o off else .junk
 | .dW row off=> .dW (D.iI n m row) off
 | .slice g z rows=> .slice (g.fg m) z (D.kY n m rows)
 | .agg cs=> .agg (D.iI n m cs)
 | .tuple ds=> .tuple (D.iI n m ds)
 | .junk=> .junk
 | .int k x=> .int k x
 | .bool b=> .bool b
 | .str l=> .str l
 | .fJ=> .fJ
 | .val v=> .val v
 | .gd T o=>if o<n then .gd T o else .junk
 | .iL f cs=> .iL f (D.iI n m cs)
 | .iC o=>if o<n then .iC o else .junk
 | .dr z o g len=>if o<n then .dr z o g len else .junk
 | .fK o g off=>if o<n then .fK o g off else .junk
 | .ew z=> .ew z
def D.iI (n m:Nat):List D→List D
 | []=> []
 |d::r=>D.fg n m d::D.iI n m r
def D.kY (n m:Nat):List (List D)→List (List D)
 | []=> []
 |d::r=>D.iI n m d::D.kY n m r
end
theorem pO (n m:Nat) : ∀ l,D.iI n m l=l.map (D.fg n m)
 | []=>by simp[D.iI]
 |d::r=>by simp[D.iI,pO n m r]
theorem W7 (n m:Nat) : ∀ l,D.kY n m l=l.map (D.iI n m)
 | []=>by simp[D.kY]
 |d::r=>by simp[D.kY,W7 n m r]
def St.cut (s:St) (n m:Nat):St:=⟨(s.ag.take n).map (D.iI n m),s.au.take m⟩
def Tm.fg (n m:Nat) (tm:Tm):Tm:=tm.map fun p=>(p.1,p.2.fg n m)
def Tm.keep (ks:List Nat) (tm:Tm):Tm:=tm.filter fun p=>ks.contains p.1
theorem qv (s:St) (n m:Nat):(s.cut n m).ag.length=min n s.ag.length:=by simp[St.cut]
theorem ko.fg {M:Map} {g:Tag} {z len cap:Nat} {base:Option (Nat×Nat)} (n m:Nat) (h:ko M s g z len base cap):ko M (s.cut n m) (g.fg m) z len base cap:=by
 cases g with
 |full=>exact h
 |shared=>exact h
 | tok t y=>
  simp only[Tag.fg]
  split
  ·rename_i ht
   obtain⟨h1,h2⟩:=h
   refine⟨by simp[St.cut];omega,fun k hk=>h2 k ?_⟩
   simpa[St.cut,zbn ht]using hk
  ·trivial
theorem RD.fg {M:Map} {d:D} {v:Value} (n m:Nat) (h:RD M s d v):RD M (s.cut n m) (d.fg n m) v:=by
 induction h with
 |junk v=>simp only[D.fg];exact .junk v
 |int k x=>simp only[D.fg];exact .int k x
 |bool b=>simp only[D.fg];exact .bool b
 |str l=>simp only[D.fg];exact .str l
 |fJ=>simp only[D.fg];exact .fJ
 |val v hv=>simp only[D.fg];exact .val v hv
 |gd T o v h ht hv=>
  simp only[D.fg]
  split
  ·exact .gd T o v (by rw[qv];omega) ht hv
  ·exact .junk _
 |iC o h hm=>
  simp only[D.fg]
  split
  ·exact .iC o (by rw[qv];omega) hm
  ·exact .junk _
 |ew z a=>simp only[D.fg];exact .ew z a
 |dr z o g len b cap A h hm ha hl=>
  simp only[D.fg]
  split
  ·exact .dr z o g len b cap A (by rw[qv];omega) hm ha hl
  ·exact .junk _
 |fK z o g off b cap A h hm ha=>
  simp only[D.fg]
  split
  ·exact .fK z o g off b cap A (by rw[qv];omega) hm ha
  ·exact .junk _
 |iL f ds vs hl _ ih=>
  simp only[D.fg,pO]
  refine .iL f _ vs (by simpa using hl) (fun i d v e1 e2=>?_)
  simp only[zap,zaw]at e1
  obtain⟨d',e1,rfl⟩:=e1
  exact ih i d' v e1 e2
 |ptr o off h hm=>
  simp only[D.fg]
  split
  ·exact .ptr o off (by rw[qv];omega) hm
  ·exact .junk _
 | dW row off b k h1 h2 ih=>
  simp only[D.fg,pO]
  refine .dW _ off b k (fun i d e=>?_) (fun i d u e eu=>?_)
  ·simp only [zap,zaw]at e
   obtain⟨d',e,rfl⟩:=e
   exact h1 i d' e
  ·simp only [zap,zaw]at e
   obtain⟨d',e,rfl⟩:=e
   exact ih i d' u e eu
 |jw g z cap hc ht=>simp only[D.fg,D.kY];exact .jw _ z cap hc (ht.fg n m)
 |lY z a cap=>simp only[D.fg,D.kY,Tag.fg];exact .lY z a cap
 | slice g z rows b k cap hl hs h1 h2 ht ih=>
  simp only[D.fg,W7]
  have hlen:(rows.map (D.iI n m)).length=rows.length:=by simp
  have key:=RD.slice (M:=M) (s:=s.cut n m) (g.fg m) z (rows.map (D.iI n m)) b k cap (by rw[hlen];exact hl) (fun row hr=>by
   obtain⟨l5,h',rfl⟩:=zaG.1 hr
   rw[pO,zau];exact hs l5 h')
   (fun i row j d e1 e2=>by
    simp only[zap,zaw]at e1
    obtain⟨l5,e1,rfl⟩:=e1
    rw[pO]at e2
    simp only[zap,zaw]at e2
    obtain⟨d',e2,rfl⟩:=e2
    exact h1 i l5 j d' e1 e2)
   (fun i row j d u e1 e2 eu=>by
    simp only[zap,zaw]at e1
    obtain⟨l5,e1,rfl⟩:=e1
    rw[pO]at e2
    simp only[zap,zaw]at e2
    obtain⟨d',e2,rfl⟩:=e2
    exact ih i l5 j d' u e1 e2 eu)
   (by rw[hlen];exact ht.fg n m)
  rw[hlen]at key
  exact key
 |agg cells vs hl h1 _ ih=>
  simp only[D.fg,pO]
  refine .agg _ vs (by simpa using hl) h1 (fun i d v e1 e2=>?_)
  simp only[zap,zaw]at e1
  obtain⟨d',e1,rfl⟩:=e1
  exact ih i d' v e1 e2
 |tuple ds vs hl _ ih=>
  simp only[D.fg,pO]
  refine .tuple _ vs (by simpa using hl) (fun i d v e1 e2=>?_)
  simp only[zap,zaw]at e1
  obtain⟨d',e1,rfl⟩:=e1
  exact ih i d' v e1 e2
theorem J9 {t k n m:Nat} (h:(s.cut n m).au[t]? = some (some k)):s.au[t]? = some (some k):=by
 simp only[St.cut,zaY]at h
 split at h
 ·exact h
 ·cases h
theorem yz {t n m:Nat} (h:(s.cut n m).live t):s.live t:=by
 obtain⟨k,hk⟩:=h
 exact⟨k,J9 hk⟩
theorem Rel.cut {M:Map} {w:World} (n m:Nat) (r:Rel M s w):Rel M (s.cut n m) w:=by
 have hD : ∀ o,o<(s.cut n m).ag.length→o<s.ag.length:=fun o h=>by rw[qv]at h;omega
 refine⟨r.comm,fun o ds e=>?_,fun o ho=>r.kU o (hD o ho),fun o o' h h'=>r.inj o o' (hD o h) (hD o' h'),fun t k e=>r.tok t k (J9 e),
  fun t b c z o hl e ho=>r.fL t b c z o (yz hl) e (hD o ho),fun t t' b c z c' z' h h' e e'=>r.gS t t' b c z c' z' (yz h) (yz h') e e'⟩
 simp only[St.cut,zap,zaw,zaY]at e
 obtain⟨qi,e,rfl⟩:=e
 split at e
 ·obtain⟨vs,T,h1,h2,h3,h4⟩:=r.obj o qi e
  refine⟨vs,T,h1,by rw[pO];simpa using h2,h3,fun i d v e1 e2=>?_⟩
  rw[pO]at e1
  simp only[zap,zaw]at e1
  obtain⟨d',e1,rfl⟩:=e1
  exact(h4 i d' v e1 e2).fg n m
 ·cases e
theorem Ext.cut {M0 M:Map} {s0:St} {w0 w:World} {n m:Nat} (e:Ext M0 s0 w0 M s w) (hn:s0.ag.length≤n) (hm:s0.au.length≤m):Ext M0 s0 w0 M (s.cut n m) w:=by
 have hD : ∀ o,o<(s.cut n m).ag.length→o<s.ag.length:=fun o h=>by rw[qv]at h;omega
 refine⟨⟨e.le.G,by rw[qv];have:=e.le.n;omega,e.le.loc,by simp[St.cut];have:=e.le.t;omega,fun t k h1 h2=>e.le.tk t k h1 (J9 h2)⟩,e.kept,fun o h1 h2=>e.vz o h1 (hD o h2),fun t b c z h=>e.rH t b c z (yz h),e.uE,e.size,e.os,e.tape,e.output⟩
end
end Go.Abs
namespace Go.Abs
def ox:Nat→List D→Tm
 |_,[]=> []
 |n,d::r=>(n,d)::ox (n+1) r
def bZ:List (Nat×Option (Bool×Nat))→Tm→St→Option (List D)
 | [],_,_=>some []
 |(t,none)::r,tm,s=>match bZ r tm s with|some l=>some (tm.get t::l)|none=>none
 | (t,some (agg,size))::r,tm,s=>
  match tm.get t with
  | .ptr o off=>
   match s.ag[o]? with
   |some cs=>match part cs off agg size,bZ r tm s with|some d,some l=>some (d::l)|_,_=>none
   |none=>none
  |_=>none
def cd:List D→D
 | [d]=>d
 |l=> .tuple l
def apT (B:gK) (res:List (Nat×Option (Bool×Nat))) (Q:D→St→Prop):Exit→Tm→St→Prop
 | .normal,tm,s| .ret,tm,s=>∃ l,bZ res tm s=some l∧∃ n m,B.s.ag.length≤n∧B.s.au.length≤m∧Q ((cd l).fg n m) (s.cut n m)
 |_,_,_=>False
section
variable {P:Program} {M:Map} {s:St} {w:World}
theorem LK : ∀ (l:List D) (n t:Nat),(ox n l).get t=if n≤t then(l[t - n]?).getD .junk else .junk
 | [],n,t=>by simp[ox,Tm.get]
 | d::r,n,t=>by
  simp only[ox,Tm.get,LK r (n+1) t]
  by_cases h:n=t
  ·subst h;simp
  ·rw [if_neg h]
   by_cases h2:n+1≤t
   ·rw[if_pos h2,if_pos (by omega),show t - n=(t - (n+1))+1 by omega];simp
   ·rw[if_neg h2,if_neg (by omega)]
def Em (tmps:Array Value):ResultVar→Go.Sem Value
 | .tmp t=>pure (tmps.getD t Go.undef)
 | .cell a t=>do loadVar t (← asAddr (tmps.getD a Go.undef))
theorem Hh (r:Rel M s w) {tm:Tm} {tmps:Array Value} (ht:oo M s tm tmps) : ∀ {rs:List ResultVar} {res:List (Nat×Option (Bool×Nat))} {l:List D},D6 P rs=some res→bZ res tm s=some l→
 ∃ vs:List Value,(rs.mapM (Em tmps)).run P w = .ok vs w∧vs.length=l.length∧
  ∀ (i:Nat) (d:D) (v:Value),l[i]? = some d→vs[i]? = some v→RD M s d v
 | [],res,l,hc,hl=>by cases hc;cases hl;exact⟨[],rfl,rfl,by simp⟩
 | .tmp t::rs,res,l,hc,hl=>by
  obtain⟨apU,h1,rfl⟩:=map_some (by simpa[D6]using hc)
  simp only[bZ]at hl
  split at hl
  ·rename_i l' qJ
   cases hl
   obtain⟨vs,g1,g2,g3⟩:=Hh r ht h1 qJ
   refine⟨tmps.getD t Go.undef::vs, ?_,by simp[g2],fun i d v e1 e2=>?_⟩
   ·rw [List.mapM_cons]
    simp only[Em,Go.Sem.run_bind,Go.Sem.run_pure,Result.andThen_ok,g1]
   ·cases i with
    |zero=>simp only[zbh,Option.some.injEq]at e1 e2;subst e1;subst e2;exact ht t
    |succ i=>exact g3 i d v (by simpa using e1) (by simpa using e2)
  ·cases hl
 | .cell a t::rs,res,l,hc,hl=>by
  simp only[D6]at hc
  split at hc
  ·rename_i g i apU h1 h2 h3
   cases hc
   simp only[bZ]at hl
   split at hl
   ·rename_i o off ho
    split at hl
    ·rename_i cs mK
     split at hl
     ·rename_i d l' hd qJ
      cases hl
      obtain⟨vs,g1,g2,g3⟩:=Hh r ht h3 qJ
      have hv:=ht a
      rw[ho]at hv
      have hk:=hv.D8
      obtain⟨hv,_⟩:=hv.vE
      have alX : ∃ v,(loadVar t ⟨M.mu o,off,none⟩).run P w = .ok v w∧RD M s d v:=by
       obtain⟨gf,T,hh,dJ,⟨ig,_⟩,Hf⟩:=r.obj o cs mK
       replace hh:w.heap[M.mu o]? = some (.cells gf T (0,0)):=hh.cells hk
       let n:=if g then i.size else 1
       have gT:off+n≤gf.size:=by
        rcases ug hd with ⟨rfl,hq,_⟩|⟨rfl,hq⟩
        ·simp[n];omega
        ·have:=(zac.1 hq).1;simp[n];omega
       have hlen:((gf.toList.drop off).take n).length=n:=by simp;omega
       have hZ : ∀ (j:Nat) (u:Value),((gf.toList.drop off).take n)[j]? = some u→gf[off+j]? = some u:=by
        intro j u h
        rw[zaY]at h
        split at h
        ·rw[zbq]at h;simpa using h
        ·cases h
       refine⟨_,Cx (w:=w) P h2 h1 (M.mu o) off ((gf.toList.drop off).take n) hlen (fun j u h=>by rw[j9 hh];exact hZ j u h), ?_⟩
       exact uI hd _ hlen (fun _ u hu=>ig u (zaQ.1 (zbw (za0 hu)))) (fun j d u e1 e2=>Hf _ d u e1 (hZ j u e2))
      obtain⟨v,hlv,hvd⟩:=alX
      refine⟨v::vs, ?_,by simp[g2],fun i d' v' e1 e2=>?_⟩
      ·rw [List.mapM_cons]
       have ig:(Em tmps (.cell a t)).run P w = .ok v w:=by
        simp only[Em,Go.Sem.run_bind,hv,asAddr,Go.Sem.run_pure,Result.andThen_ok,hlv]
       simp only[Go.Sem.run_bind,ig,Result.andThen_ok,g1,Go.Sem.run_pure]
      ·cases i with
       |zero=>simp only[zbh,Option.some.injEq]at e1 e2;subst e1;subst e2;exact hvd
       |succ i=>exact g3 i d' v' (by simpa using e1) (by simpa using e2)
     ·cases hl
    ·cases hl
   ·cases hl
  ·cases hc
theorem MT (r:Rel M s w) {tm:Tm} {tmps:Array Value} (ht:oo M s tm tmps) {fn:Func} {res:List (Nat×Option (Bool×Nat))} {l:List D} (hc:D6 P fn.results.toList=some res) (hl:bZ res tm s=some l) :
 ∃ v,(results fn tmps).run P w = .ok v w∧RD M s (cd l) v:=by
 obtain⟨vs,g1,g2,g3⟩:=Hh (P:=P) r ht hc hl
 have ek:(results fn tmps).run P w = .ok (if h:vs.toArray.size=1 then vs.toArray[0]else .tuple vs.toArray) w:=by
  have e:results fn tmps=(do let vs ← fn.results.mapM (Em tmps);pure (if h:vs.size=1 then vs[0]else .tuple vs)):=by
   unfold results
   rfl
  rw[e,Array.mapM_eq_mapM_toList]
  simp only[Go.Sem.run_bind,Go.Sem.run_map,g1,Result.andThen_ok,Go.Sem.run_pure]
 refine⟨_,ek, ?_⟩
 clear ek g1 hl
 match l,vs,g2,g3 with
 | [],[],_,_=>exact .tuple [] #[] rfl (by simp)
 | [d],[v],_,g3=>exact g3 0 d v rfl rfl
 |d::d'::l,v::v'::vs,h,g3=>
  have : ¬ ((v::v'::vs).toArray.size=1):=by simp
  rw[dif_neg this]
  exact .tuple _ _ (by simpa using h.symm) (fun i d v e1 e2=>g3 i d v e1 (by simpa using e2))
def Hi (res:List (Nat×Option (Bool×Nat))) (Q:D→St→Prop):Exit→Tm→St→Prop
 | .normal,tm,s| .ret,tm,s=>∃ l,bZ res tm s=some l∧Q (cd l) s
 |_,_,_=>False
theorem bk.Oo {f:FuncId} {fn:Func} {af:AF} {args:List D} {Q:D→St→Prop} (hf:P.funcs[f]? = some fn) (hc:cF P fn=some af) (hl:args.length≤af.ntmps)
 (h : ∀ B:gK,B.s=s→Sem P B af.ntmps af.body (Hi af.results Q) (ox 0 args) s):bk P f args s Q:=by
 intro M w fH r kM dJ ha
 unfold cF at hc
 split at hc
 ·rename_i c Fy
  split at hc
  ·rename_i b res h1 h2
   cases hc
   simp only at h hl
   refine calls_of_wp hf Fy ?_
   have hs:=h ⟨M,s,w,kM,fun b o v e=>r.D7 e⟩ rfl c h1 {tmps:=fH++Array.replicate (fn.ntmps - fH.size) Go.undef,defers:= []} w
    ⟨M,Ext.refl M s w,r,fun t=>by
     rw[LK]
     simp only[zaA,if_true,Nat.sub_zero]
     cases hd:args[t]? with
     |none=>exact .junk _
     | some d=>
      have hD:=(zac.1 hd).1
      have hv:fH[t]? = some fH[t]:=za6 (by omega)
      have:(fH++Array.replicate (fn.ntmps - fH.size) Go.undef).getD t Go.undef=fH[t]:=by
       rw[zbu,zbe (by omega),hv];rfl
      rw[this]
      exact ha t d _ hd hv,by simp;omega,rfl⟩
   refine wp_mono hs fun e act w' hp=>?_
   obtain⟨tm,s',hq,M',apV,r',ht,_,hdf⟩:=hp
   have fin:(∃ l,bZ res tm s'=some l∧Q (cd l) s')→act.defers = []∧∃ v,(results fn act.tmps).run P w' = .ok v w'∧
    ∃ M' d v' s',Ending.returned v = .returned v'∧Q d s'∧Ext M s w M' s' w'∧Rel M' s' w'∧RD M' s' d v':=by
    rintro⟨l,hl,hQ⟩
    obtain⟨v,ek,jy⟩:=MT (P:=P) r' ht h2 hl
    exact⟨hdf,v,ek,M',_,v,_,rfl,hQ,apV,r',jy⟩
   cases e with
   |normal=>exact fin hq
   |ret=>exact fin hq
   |exit id=>exact hq.elim
   |goto l=>exact hq.elim
   |panic ch=>exact hq.elim
   |outgrown=>exact hq.elim
  ·cases hc
 ·cases hc
theorem bk.intro {f:FuncId} {fn:Func} {af:AF} {args:List D} {Q:D→St→Prop} (hf:P.funcs[f]? = some fn) (hc:cF P fn=some af) (hl:args.length≤af.ntmps)
 (h : ∀ B:gK,B.s=s→Sem P B af.ntmps af.body (apT B af.results Q) (ox 0 args) s):bk P f args s Q:=by
 intro M w fH r kM dJ ha
 refine(bk.Oo (Q:=fun d s'=>∃ n m,s.ag.length≤n∧s.au.length≤m∧Q (d.fg n m) (s'.cut n m)) hf hc hl (fun B hB=>(h B hB).mono fun e tm s' hq=>?_) M w fH r kM dJ ha).mono ?_
 ·subst hB
  cases e<;>exact hq
 ·rintro e w' ⟨M',d,v,s',h1,⟨n,m,hn,hm,hQ⟩,h3,h4,h5⟩
  exact⟨M',_,v,_,h1,hQ,h3.cut hn hm,h4.cut n m,h5.fg n m⟩
end
end Go.Abs
