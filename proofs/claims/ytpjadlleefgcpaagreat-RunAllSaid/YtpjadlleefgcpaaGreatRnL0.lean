/-
  What is proved here: part 0 of the road to the claim (Globs, Abs, Lang, Rel, Sound, Sound2, Sound3, Sound4, Sound5, Sound6, Sound7, SoundM, RelA, SoundA, Sound8, Code, Flow, Call).
  No conditions.
-/
import GoSem.Core.Value
import Derived.Orders
import Derived.Calls
import Derived.Below
import Derived.Laws.AppendOwn
import Derived.Deep.AppendSrc
import Derived.Laws.StructEq
import Derived.Laws.Slices
import Derived.Laws.Strings
import Derived.Laws.IdiomStrings
import Derived.Laws.BytesString
import Derived.MapKept
import Derived.Laws.MakeOwn
import Derived.Scope

set_option linter.unusedSimpArgs false
set_option linter.unusedVariables false
namespace Go.Abs
abbrev zaa:=@Bool.eq_false_or_eq_true
abbrev zab:=@Bool.false_eq_true
abbrev zac:=@List.getElem?_eq_some_iff
abbrev zad:=@List.mem_of_getElem?
abbrev zae:=@Nat.lt_succ_self
abbrev zaf:=@List.map_cons
abbrev zag:=@List.map_append
abbrev zah:=@List.getElem?_eq_getElem
abbrev zai:=@List.map_nil
abbrev zaj:=@List.length_append
abbrev zak:=@List.getElem?_append_left
abbrev zal:=@Nat.le_refl
abbrev zam:=@List.getElem?_set_ne
abbrev zan:=@List.mem_cons_of_mem
abbrev zao:=@List.getElem?_map
abbrev zap:=@List.mem_cons
abbrev zaq:=@List.mem_append
abbrev zar:=@Bool.and_eq_true
abbrev zas:=@List.getElem?_append_right
abbrev zat:=@List.length_cons
abbrev zau:=@Bool.not_true
abbrev zav:=@Option.map_eq_some_iff
abbrev zaw:=@List.length_map
abbrev zax:=@Bool.not_false
abbrev zay:=@List.getD_eq_getElem?_getD
abbrev zaz:=@Nat.zero_le
abbrev zaA:=@List.mem_cons_self
abbrev zaB:=@List.append_assoc
abbrev zaC:=@Bool.or_eq_true
abbrev zaD:=@List.length_nil
abbrev zaE:=@Nat.lt_or_ge
abbrev zaF:=@List.mem_map
abbrev zaG:=@List.mem_singleton
abbrev zaH:=@Bool.not_eq_true'
abbrev zaI:=@List.append_nil
abbrev zaJ:=@List.mem_append_left
abbrev zaK:=@List.length_singleton
abbrev zaL:=@List.getElem?_set
abbrev zaM:=@List.getElem?_set_self
abbrev zaN:=@Bool.false_and
abbrev zaO:=@Nat.mul_le_mul_right
abbrev zaP:=@List.drop_eq_nil_iff
abbrev zaQ:=@Int.toNat_natCast
abbrev zaR:=@List.cons_append
abbrev zaS:=@Nat.add_zero
abbrev zaT:=@Array.getElem?_eq_some_iff
abbrev zaU:=@Array.mem_toList_iff
abbrev zaV:=@List.nil_append
abbrev zaW:=@Nat.le_trans
abbrev zaX:=@Nat.lt_of_lt_of_le
abbrev zaY:=@List.getElem?_take
abbrev zaZ:=@Nat.zero_add
abbrev za0:=@List.all_eq_true
abbrev za1:=@List.mem_map_of_mem
abbrev za2:=@List.getElem?_cons_succ
abbrev za3:=@Option.map_some
abbrev za4:=@List.nodup_cons
abbrev za5:=@List.mem_of_mem_take
abbrev za6:=@Array.toArray_toList
abbrev za7:=@List.mem_append_right
abbrev za8:=@Int.le_refl
abbrev za9:=@Nat.not_lt_zero
abbrev zba:=@List.nodup_append
abbrev zbb:=@Bool.not_eq_false
abbrev zbc:=@Array.getElem?_append_left
abbrev zbd:=@List.contains_iff_mem
abbrev zbe:=@List.getElem?_cons_zero
abbrev zbf:=@Bool.true_and
abbrev zbg:=@Bool.false_or
abbrev zbh:=@Option.getD_some
abbrev zbi:=@List.flatten_cons
abbrev zbj:=@Bool.true_or
abbrev zbk:=@List.eq_nil_of_length_eq_zero
abbrev zbl:=@Array.getElem?_eq_getElem
abbrev zbm:=@Nat.add_mul
abbrev zbn:=@List.getElem?_take_of_lt
abbrev zbo:=@List.map_congr_left
abbrev zbp:=@Nat.le_of_ble_eq_true
abbrev zbq:=@List.getElem?_drop
abbrev zbr:=@List.length_set
abbrev zbs:=@Int.natAbs_natCast
abbrev zbt:=@Bool.and_false
abbrev zbu:=@List.set_cons_succ
abbrev zbv:=@Array.getD_eq_getD_getElem?
abbrev zbw:=@Option.isSome_some
abbrev zbx:=@Option.getD_none
abbrev zby:=@List.nodup_iff_pairwise_ne
abbrev zbz:=@List.set_set
abbrev zbA:=@List.getElem?_eq_none_iff
abbrev zbB:=@List.getElem?_toArray
abbrev zbC:=@List.getElem?_eq_none
abbrev zbD:=@Bool.not_eq_true
abbrev zbE:=@List.mem_flatten
abbrev zbF:=@Option.isSome_none
abbrev zbG:=@Bool.and_true
abbrev zbH:=@List.mem_of_mem_drop
abbrev zbI:=@Bool.or_true
abbrev zbJ:=@Array.mem_of_getElem?
abbrev zbK:=@Array.getElem?_setIfInBounds_ne
abbrev zbL:=@List.take_append_of_le_length
abbrev zbM:=@List.getElem?_replicate_of_lt
abbrev zbN:=@List.mem_range
abbrev zbO:=@List.length_take
abbrev zbP:=@Bool.not_not
abbrev zbQ:=@List.set_cons_zero
abbrev zbR:=@Int.natCast_nonneg
abbrev zbS:=@Nat.lt_of_le_of_lt
abbrev zbT:=@Array.getElem?_modify
abbrev zbU:=@Option.map_none
abbrev zbV:=@List.ext_getElem?
abbrev zbW:=@Nat.mod_lt
abbrev zbX:=@List.getElem?_range
abbrev zbY:=@Nat.lt_irrefl
abbrev zbZ:=@List.range_succ
abbrev zb0:=@List.take_of_length_le
abbrev zb1:=@List.drop_of_length_le
def adQ:Nat→Option (Array Value):=fun _=>none
def qZ:TypeId:=1000000
inductive Tag where
 |full
 |shared
 |tok (t:Nat) (byte:Bool:=false) -- 'byte': its row's block bears the bytes' type
inductive D where
 |junk
 |int (k:IntKind) (n:Int)
 |bool (b:Bool)
 |str (s:List UInt8)
 |fv
 |ptr (o off:Nat)
 |dO (row:List D) (off:Nat)
 |slice (g:Tag) (size:Nat) (rows:List (List D))
 |agg (cells:List D)
 |tuple (vs:List D)
 |val (v:Value)
 |fM (T:TypeId) (o:Nat)
 |il (f:Nat) (pf:List D) -- a function value with what it captured
 |gU (o:Nat) -- a map, kept as an object: keys and values by turns
 |dM (z o g len:Nat) -- a slice from an array's beginning: the object, its generation
 |fC (o g off:Nat) -- a pointer into an array
 |ek (z:Nat) -- an empty slice without room: what is laid behind it becomes an array
instance:Inhabited D:=⟨.junk⟩
inductive Ob where
 |any
 |ty (T:TypeId)
 |map
 |arr (z:Nat) (A:Nat→Option (Nat×Nat))
def Ob.plain:Ob→Prop
 | .any=>True
 | .ty _=>True
 |_=>False
inductive wq:Nat×Ob→Nat×Ob→Prop where
 |refl (x:Nat×Ob):wq x x
 |arr (b b' z:Nat) (A A':Nat→Option (Nat×Nat)) (h : ∀ g x,A g=some x→A' g=some x):wq (b, .arr z A) (b', .arr z A')
theorem wq.trans {x y z:Nat×Ob} (h:wq x y) (k:wq y z):wq x z:=by
 cases h with
 |refl=>exact k
 |arr b b' z A A' h=>
  cases k with
  |refl=>exact .arr b b' z A A' h
  |arr _ b'' _ _ A'' h'=>exact .arr b b'' z A A'' fun g x e=>h' g x (h g x e)
structure Map where
 G:Nat→Nat→Option Value
 loc:Nat→Nat×Ob
 be:Nat→Option (Nat×Nat×Nat)
def Map.mu (M:Map) (o:Nat):Nat:=(M.loc o).1
def Ob.ty? : Ob→Option TypeId
 | .ty T=>some T
 |_=>none
def Map.ob (M:Map) (o:Nat):Ob:=(M.loc o).2
def Map.ty (M:Map) (o:Nat):Option TypeId:=(M.loc o).2.ty?
structure St where
 aq:List (List D)
 ay:List (Option Nat)
def zs (z:Nat):Nat:=if z=0 then 1 else z
def bz (byte:Bool) (size:Nat):Nat:=match byte with|true=>0|false=>size
def jO (M:Map) (s:St) (g:Tag) (size len:Nat) (base:Option (Nat×Nat)) (cap:Nat):Prop:=
 match g with
 | .full=>cap=len
 | .shared=>True
 | .tok t y=>t<s.ay.length∧∀ n,s.ay[t]? = some (some n)→len≤n∧
  (len=n→(M.be t=none∧cap=0∧(y=true→base=none))∨∃ b,base=some (b,0)∧M.be t=some (b,cap,bz y size))
inductive RD (M:Map) (s:St):D→Value→Prop where
 |junk (v:Value):RD M s .junk v
 |int (k:IntKind) (n:Int):RD M s (.int k n) (.int k n)
 |bool (b:Bool):RD M s (.bool b) (.bool b)
 |str (l:List UInt8):RD M s (.str l) (.string ⟨⟨l⟩⟩)
 |fv:RD M s .fv (.pointer none)
 |ptr (o off:Nat) (h:o<s.aq.length) (hm:(M.ob o).plain):RD M s (.ptr o off) (.pointer (some ⟨M.mu o,off,none⟩))
 |dO (row:List D) (off b k:Nat) (h1 : ∀ (i:Nat) (d:D),row[i]? = some d→∃ u,M.G b (k+i)=some u)
  (h2 : ∀ (i:Nat) (d:D) (u:Value),row[i]? = some d→M.G b (k+i)=some u→RD M s d u) :
  RD M s (.dO row off) (.pointer (some ⟨b,k+off,none⟩))
 |jz (g:Tag) (size cap:Nat) (hc:cap=0) (ht:jO M s g size 0 none cap):RD M s (.slice g size []) (.slice none 0 cap)
 |mF (size:Nat) (a:Addr) (cap:Nat):RD M s (.slice .shared size []) (.slice (some a) 0 cap)
 |slice (g:Tag) (size:Nat) (rows:List (List D)) (b k cap:Nat) (hl:rows.length≤cap)
  (hs : ∀ row∈rows,row.length=size)
  (h1 : ∀ (i:Nat) (row:List D) (j:Nat) (d:D),rows[i]? = some row→row[j]? = some d→∃ u,M.G b (k+(i*size+j))=some u)
  (h2 : ∀ (i:Nat) (row:List D) (j:Nat) (d:D) (u:Value),rows[i]? = some row→row[j]? = some d→M.G b (k+(i*size+j))=some u→RD M s d u)
  (ht:jO M s g size rows.length (some (b,k)) cap) :
  RD M s (.slice g size rows) (.slice (some ⟨b,k,none⟩) rows.length cap)
 |agg (cells:List D) (vs:Array Value) (hl:cells.length=vs.size) (h1 : ∀ v∈vs,v.oneCell'=true)
  (h : ∀ (i:Nat) (d:D) (v:Value),cells[i]? = some d→vs[i]? = some v→RD M s d v):RD M s (.agg cells) (.agg vs)
 |tuple (ds:List D) (vs:Array Value) (hl:ds.length=vs.size)
  (h : ∀ (i:Nat) (d:D) (v:Value),ds[i]? = some d→vs[i]? = some v→RD M s d v):RD M s (.tuple ds) (.tuple vs)
 |val (v:Value) (h:v.oneCell'=true):RD M s (.val v) v
 |fM (T:TypeId) (o:Nat) (v:Value) (h:o<s.aq.length) (ht:M.ty o=some T) (hv:v = .pointer none∨v = .pointer (some ⟨M.mu o,0,none⟩)):RD M s (.fM T o) v
 |il (f:Nat) (ds:List D) (vs:Array Value) (hl:ds.length=vs.size)
  (h : ∀ (i:Nat) (d:D) (v:Value),ds[i]? = some d→vs[i]? = some v→RD M s d v):RD M s (.il f ds) (.func (.func f) #[] vs)
 |gU (o:Nat) (h:o<s.aq.length) (hm:M.ob o = .map):RD M s (.gU o) (.map (some (M.mu o)))
 |dM (z o g len b cap:Nat) (A:Nat→Option (Nat×Nat)) (h:o<s.aq.length) (hm:M.ob o = .arr z A) (ha:A g=some (b,cap)) (hl:len≤cap):RD M s (.dM z o g len) (.slice (some ⟨b,0,none⟩) len cap)
 |fC (z o g off b cap:Nat) (A:Nat→Option (Nat×Nat)) (h:o<s.aq.length) (hm:M.ob o = .arr z A) (ha:A g=some (b,cap)):RD M s (.fC o g off) (.pointer (some ⟨b,off,none⟩))
 |ek (z:Nat) (a:Option Addr):RD M s (.ek z) (.slice a 0 0)
structure Le (M:Map) (s:St) (M':Map) (s':St):Prop where
 G : ∀ b o v,M.G b o=some v→M'.G b o=some v
 n:s.aq.length≤s'.aq.length
 loc : ∀ o,o<s.aq.length→wq (M.loc o) (M'.loc o)
 t:s.ay.length≤s'.ay.length
 tk : ∀ t n',t<s.ay.length→s'.ay[t]? = some (some n')→∃ n,s.ay[t]? = some (some n)∧n≤n'∧(n'=n→M'.be t=M.be t)
theorem Le.same {M:Map} {s:St} {M':Map} {s':St} (h:Le M s M' s') {o:Nat} (ho:o<s.aq.length) (hk : ∀ z A,M.ob o≠ .arr z A):M'.loc o=M.loc o:=by
 have:=h.loc o ho
 have vX : ∀ z A,(M.loc o).2≠ .arr z A:=hk
 generalize M.loc o=x at *
 generalize M'.loc o=y at *
 cases this with
 |refl=>rfl
 |arr b b' z A A' h=>exact(vX z A rfl).elim
theorem Ob.Jg {x:Ob} (h:x.plain) : ∀ z A,x≠ .arr z A:=fun z A e=>by subst e;exact h
theorem Le.mu {M:Map} {s:St} {M':Map} {s':St} (h:Le M s M' s') {o:Nat} (ho:o<s.aq.length) (hk : ∀ z A,M.ob o≠ .arr z A):M'.mu o=M.mu o:=congrArg Prod.fst (h.same ho hk)
theorem Le.ob {M:Map} {s:St} {M':Map} {s':St} (h:Le M s M' s') {o:Nat} (ho:o<s.aq.length) (hk : ∀ z A,M.ob o≠ .arr z A):M'.ob o=M.ob o:=congrArg Prod.snd (h.same ho hk)
theorem wq.ty {x y:Nat×Ob} (h:wq x y):y.2.ty? = x.2.ty? :=by cases h<;>rfl
theorem Le.ty {M:Map} {s:St} {M':Map} {s':St} (h:Le M s M' s') : ∀ o,o<s.aq.length→M'.ty o=M.ty o:=fun o ho=>(h.loc o ho).ty
theorem Le.arr {M:Map} {s:St} {M':Map} {s':St} (h:Le M s M' s') {o z:Nat} {A:Nat→Option (Nat×Nat)} (ho:o<s.aq.length) (hm:M.ob o = .arr z A) : ∃ A',M'.ob o = .arr z A'∧∀ g x,A g=some x→A' g=some x:=by
 have:=h.loc o ho
 have BK:(M.loc o).2 = .arr z A:=hm
 show ∃ A',(M'.loc o).2=_∧_
 generalize M.loc o=x at *
 generalize M'.loc o=y at *
 cases this with
 |refl=>exact⟨A,BK,fun _ _ h=>h⟩
 |arr b b' z A A' h=>cases BK;exact⟨A',rfl,h⟩
theorem Le.refl (M:Map) (s:St):Le M s M s:=⟨fun _ _ _ h=>h,zal _,fun _ _=> .refl _,zal _,fun _ n _ h=>⟨n,h,zal _,fun _=>rfl⟩⟩
theorem Le.trans {M M' Pa:Map} {s s' TF:St} (h:Le M s M' s') (k:Le M' s' Pa TF):Le M s Pa TF:=
 ⟨fun b o v e=>k.G b o v (h.G b o v e),zaW h.n k.n,fun o ho=>(h.loc o ho).trans (k.loc o (zaX ho h.n)),zaW h.t k.t,
  fun t n'' ht e=>by
   obtain⟨n',e',l,b⟩:=k.tk t n'' (zaX ht h.t) e
   obtain⟨n,Pb,l',b'⟩:=h.tk t n' ht e'
   refine⟨n,Pb,zaW l' l,fun eq=>?_⟩
   have h1:n'=n:=by omega
   have h2:n''=n':=by omega
   rw[b h2,b' h1]⟩
theorem jO.mono {M M':Map} {s s':St} (h:Le M s M' s') {g:Tag} {size len cap:Nat} {base:Option (Nat×Nat)} (ht:jO M s g size len base cap) :
 jO M' s' g size len base cap:=by
 cases g with
 |full=>exact ht
 |shared=>trivial
 |tok t y=>
  obtain⟨hD,ht⟩:=ht
  refine⟨zaX hD h.t,fun n' e'=>?_⟩
  obtain⟨n,e,l,b⟩:=h.tk t n' hD e'
  obtain⟨l',b'⟩:=ht n e
  refine⟨zaW l' l,fun eq=>?_⟩
  have h1:n'=n:=by omega
  have h2:len=n:=by omega
  rw[b h1]
  exact b' h2
theorem RD.mono {M M':Map} {s s':St} (h:Le M s M' s') {d:D} {v:Value} (r:RD M s d v):RD M' s' d v:=by
 induction r with
 |junk v=>exact .junk v
 |int k n=>exact .int k n
 |bool b=>exact .bool b
 |str l=>exact .str l
 |fv=>exact .fv
 |ptr o off ho hm=>rw[← h.mu ho (Ob.Jg hm)];exact .ptr o off (zaX ho h.n) (by rw[h.ob ho (Ob.Jg hm)];exact hm)
 | dO row off b k h1 h2 ih=>
  refine .dO row off b k (fun i d e=>?_) (fun i d u e eu=>?_)
  ·obtain⟨u,hu⟩:=h1 i d e;exact⟨u,h.G _ _ _ hu⟩
  ·obtain⟨u',hu⟩:=h1 i d e
   have:=h.G _ _ _ hu
   rw[eu]at this
   cases this
   exact ih i d u e hu
 |jz g size cap hc ht=>exact .jz g size cap hc (ht.mono h)
 |mF size a cap=>exact .mF size a cap
 | slice g size rows b k cap hl hs h1 h2 ht ih=>
  refine .slice g size rows b k cap hl hs (fun i row j d e e2=>?_) (fun i row j d u e e2 eu=>?_) (ht.mono h)
  ·obtain⟨u,hu⟩:=h1 i row j d e e2;exact⟨u,h.G _ _ _ hu⟩
  ·obtain⟨u',hu⟩:=h1 i row j d e e2
   have:=h.G _ _ _ hu
   rw[eu]at this
   cases this
   exact ih i row j d u e e2 hu
 |agg cells vs hl h1 _ ih=>exact .agg cells vs hl h1 ih
 |tuple ds vs hl _ ih=>exact .tuple ds vs hl ih
 |val v hv=>exact .val v hv
 |fM T o v ho ht hv=>exact .fM T o v (zaX ho h.n) (by rw[h.ty o ho];exact ht) (by rw[h.mu ho (fun z A e=>by rw[Map.ty,show(M.loc o).2=_ from e]at ht;cases ht)];exact hv)
 |il f ds vs hl _ ih=>exact .il f ds vs hl ih
 |gU o ho hm=>
  have hk : ∀ z A,M.ob o≠ .arr z A:=fun z A e=>by rw[hm]at e;cases e
  rw[← h.mu ho hk];exact .gU o (zaX ho h.n) (by rw[h.ob ho hk];exact hm)
 |dM z o g len b cap A ho hm ha hl=>
  obtain⟨A',h1,h2⟩:=h.arr ho hm
  exact .dM z o g len b cap A' (zaX ho h.n) h1 (h2 g _ ha) hl
 |fC z o g off b cap A ho hm ha=>
  obtain⟨A',h1,h2⟩:=h.arr ho hm
  exact .fC z o g off b cap A' (zaX ho h.n) h1 (h2 g _ ha)
 |ek z a=>exact .ek z a
def St.live (s:St) (t:Nat):Prop:=∃ n,s.ay[t]? = some (some n)
def iL:List MapEntry→List Value
 | []=> []
 |e::l=>e.key::e.val::iL l
def jF (hp:Array Obj) (l:Nat×Ob) (vs:Array Value) (T:TypeId):Prop:=
 match l.2 with
 | .map=>∃ es ck,hp[l.1]? = some (.map es ck)∧vs.toList=iL es.toList
 | .arr z A=>∃ (us:Array Value) (g n cap:Nat),hp[l.1]? = some (.cells us T (0,0))∧A g=some (l.1,cap)∧(∀ g',g<g'→A g'=none)∧us.size=cap*z∧n≤us.size∧
  vs.toList = .int .i64 g::us.toList.take n∧∀ u∈us,u.oneCell'=true
 |_=>hp[l.1]? = some (.cells vs T (0,0))
theorem jF.cells {hp:Array Obj} {l:Nat×Ob} {vs:Array Value} {T:TypeId} (h:jF hp l vs T) (hk:l.2.plain):hp[l.1]? = some (.cells vs T (0,0)):=by
 obtain⟨b,k⟩:=l
 cases k with
 |map=>exact hk.elim
 |arr _ _=>exact hk.elim
 |any=>exact h
 |ty _=>exact h
theorem jF.of {hp:Array Obj} {l:Nat×Ob} {vs:Array Value} {T:TypeId} (h:hp[l.1]? = some (.cells vs T (0,0))) (hk:l.2.plain):jF hp l vs T:=by
 obtain⟨b,k⟩:=l
 cases k with
 |map=>exact hk.elim
 |arr _ _=>exact hk.elim
 |any=>exact h
 |ty _=>exact h
theorem jF.Qn {hp:Array Obj} {l:Nat×Ob} {vs:Array Value} {T:TypeId} (h:jF hp l vs T) (hk:l.2 = .map) : ∃ es ck,hp[l.1]? = some (.map es ck)∧vs.toList=iL es.toList:=by
 unfold jF at h
 rw[hk]at h
 exact h
theorem jF.ofMap {hp:Array Obj} {l:Nat×Ob} {vs:Array Value} {T:TypeId} (hk:l.2 = .map) (h : ∃ es ck,hp[l.1]? = some (.map es ck)∧vs.toList=iL es.toList):jF hp l vs T:=by
 unfold jF
 rw[hk]
 exact h
theorem jF.some {hp:Array Obj} {l:Nat×Ob} {vs:Array Value} {T:TypeId} (h:jF hp l vs T) : ∃ o,hp[l.1]? = some o:=by
 obtain⟨b,k⟩:=l
 cases k with
 |map=>obtain⟨es,ck,h,_⟩:=h;exact⟨_,h⟩
 |arr _ _=>obtain⟨us,g,n,cap,h,_⟩:=h;exact⟨_,h⟩
 |any=>exact⟨_,h⟩
 |ty _=>exact⟨_,h⟩
theorem jF.lt {hp:Array Obj} {l:Nat×Ob} {vs:Array Value} {T:TypeId} (h:jF hp l vs T):l.1<hp.size:=by
 obtain⟨o,h⟩:=h.some
 exact(zaT.1 h).1
theorem jF.keep {hp oA:Array Obj} {l:Nat×Ob} {vs:Array Value} {T:TypeId} (h:jF hp l vs T) (e:oA[l.1]? = hp[l.1]?):jF oA l vs T:=by
 unfold jF at h ⊢
 rw[e];exact h
structure Rel (M:Map) (s:St) (w:World):Prop where
 comm : ∀ b o v,M.G b o=some v→w.cell? ⟨b,o,none⟩=some v∧v.oneCell'=true
 obj : ∀ (o:Nat) (ds:List D),s.aq[o]? = some ds→∃ (vs:Array Value) (T:TypeId),jF w.heap (M.loc o) vs T∧vs.size=ds.length∧
  ((∀ v∈vs,v.oneCell'=true)∧∀ T',M.ty o=some T'→T'=T)∧∀ (i:Nat) (d:D) (v:Value),ds[i]? = some d→vs[i]? = some v→RD M s d v
 kv : ∀ o,o<s.aq.length→∀ off,M.G (M.mu o) off=none
 inj : ∀ o o',o<s.aq.length→o'<s.aq.length→M.mu o=M.mu o'→o=o'
 tok : ∀ t n,s.ay[t]? = some (some n)→(M.be t=none∧n=0)∨∃ (b cap z:Nat) (vs:Array Value) (T:TypeId),M.be t=some (b,cap,z)∧
  w.heap[b]? = some (.cells vs T (0,0))∧vs.size=cap*zs z∧n≤cap∧(∀ off,n*zs z≤off→M.G b off=none)∧(z=0→T=qZ)
 fw : ∀ t b c z o,s.live t→M.be t=some (b,c,z)→o<s.aq.length→M.mu o≠b
 gP : ∀ t t' b c z c' z',s.live t→s.live t'→M.be t=some (b,c,z)→M.be t'=some (b,c',z')→t=t'
structure Ext (M:Map) (s:St) (w:World) (M':Map) (s':St) (w':World):Prop where
 le:Le M s M' s'
 kept : ∀ b,b<w.heap.size→(∀ o,o<s.aq.length→M.mu o≠b)→(∀ t c z,s.live t→M.be t≠some (b,c,z))→w'.heap[b]? = w.heap[b]?
 vH : ∀ o,(s.aq.length≤o∨M'.mu o≠M.mu o)→o<s'.aq.length→w.heap.size≤M'.mu o
 sj : ∀ t b c z,s'.live t→M'.be t=some (b,c,z)→(s.live t∧∃ c' z',M.be t=some (b,c',z'))∨w.heap.size≤b
 ui : ∀ b o,M'.G b o≠M.G b o→w.heap.size≤b∨∃ t c z,s.live t∧M.be t=some (b,c,z)
 size:w.heap.size≤w'.heap.size
 os:w'.os=w.os
 tape:w'.tape=w.tape
 output:w'.output=w.output
theorem Ext.refl (M:Map) (s:St) (w:World):Ext M s w M s w:=
 ⟨Le.refl M s,fun _ _ _ _=>rfl,fun o h h'=>by rcases h with h|h;omega;exact(h rfl).elim,fun t b c z h e=> .inl ⟨h,c,z,e⟩,fun _ _ h=>(h rfl).elim,zal _,rfl,rfl,rfl⟩
theorem Ext.mo {M M':Map} {s s':St} {w w':World} (h:Ext M s w M' s' w') {o:Nat} (ho:o<s'.aq.length):(o<s.aq.length∧M'.mu o=M.mu o)∨w.heap.size≤M'.mu o:=by
 by_cases h1:s.aq.length≤o
 ·exact .inr (h.vH o (.inl h1) ho)
 ·by_cases h2:M'.mu o=M.mu o
  ·exact .inl ⟨by omega,h2⟩
  ·exact .inr (h.vH o (.inr h2) ho)
theorem Ext.trans {M M' Pa:Map} {s s' TF:St} {w w' w'':World} (h:Ext M s w M' s' w') (k:Ext M' s' w' Pa TF w''):Ext M s w Pa TF w'':=by
 refine⟨h.le.trans k.le,fun b hb ho ht=>?_,fun o h1 h2=>?_,fun t b c z h1 e=>?_,fun b o eO=>?_,zaW h.size k.size,
  k.os.trans h.os,k.tape.trans h.tape,k.output.trans h.output⟩
 ·rw [k.kept b (zaX hb h.size) (fun o hD e=> ?_) (fun t c z hD e=> ?_),h.kept b hb ho ht]
  ·rcases h.mo hD with ⟨h1,h2⟩ | h1
   ·exact ho o h1 (h2.symm.trans e)
   ·omega
  ·rcases h.sj t b c z hD e with ⟨h1,c',z',e'⟩ | h1
   ·exact ht t c' z' h1 e'
   ·omega
 ·rcases k.mo h2 with ⟨h3,h4⟩ | h3
  ·rw [h4]
   refine h.vH o ?_ h3
   rcases h1 with h1|h1
   ·exact .inl h1
   ·exact .inr (by rw[h4]at h1;exact h1)
  ·exact zaW h.size h3
 ·rcases k.sj t b c z h1 e with ⟨h2,c',z',e'⟩ | h2
  ·exact h.sj t b c' z' h2 e'
  ·exact .inr (zaW h.size h2)
 ·by_cases e:M'.G b o=M.G b o
  ·have:Pa.G b o≠M'.G b o:=fun e'=>eO (e'.trans e)
   rcases k.ui b o this with h1|⟨t,c,z,h1,h2⟩
   ·exact .inl (zaW h.size h1)
   ·rcases h.sj t b c z h1 h2 with ⟨h3,c',z',e'⟩ | h3
    ·exact .inr ⟨t,c',z',h3,e'⟩
    ·exact .inl h3
  ·exact h.ui b o e
def Laid (M:Map) (s:St) (w:World):Prop:=∀ g cs,adQ g=some cs→
 (∃ T fr,w.heap[g]? = some (.cells cs T fr))∧(∀ o,o<s.aq.length→M.mu o≠g)∧∀ t c z,s.live t→M.be t≠some (g,c,z)
theorem Laid.ext {M M':Map} {s s':St} {w w':World} (h:Laid M s w) (e:Ext M s w M' s' w'):Laid M' s' w':=by
 intro g cs hg
 obtain⟨⟨T,fr,h1⟩,h2,h3⟩:=h g cs hg
 have hD:g<w.heap.size:=(zaT.1 h1).1
 refine⟨⟨T,fr,by rw[e.kept g hD h2 h3];exact h1⟩,fun o ho=>?_,fun t c z hl hb=>?_⟩
 ·rcases e.mo ho with ⟨h4,h5⟩ | h4
  ·rw[h5];exact h2 o h4
  ·omega
 ·rcases e.sj t g c z hl hb with ⟨h4,c',z',h5⟩ | h4
  ·exact h3 t c' z' h4 h5
  ·omega
abbrev Tm:=List (Nat×D)
def Tm.get:Tm→Nat→D
 | [],_=> .junk
 |(k,d)::r,t=>if k=t then d else Tm.get r t
def Tm.set:Tm→Nat→D→Tm
 | [],t,d=> [(t,d)]
 |(k,e)::r,t,d=>if k=t then(k,d)::r else(k,e)::Tm.set r t d
def Tm.put (tm:Tm) (dst:Option Nat) (d:D):Tm:=
 match dst with
 |some t=>tm.set t d
 |none=>tm
inductive X where
 |s (t:Nat)
 |k (d:D)
def X.ev (tm:Tm):X→D
 | .s t=>tm.get t
 | .k d=>d
inductive FO where
 |ofInt (k:FloatKind)
 |toInt (k:IntKind)
 |Qo
 |real
 |imag
 |eq
 |Ll
 |TG
inductive AO where
 |mv (x:X)
 |pick (c a b:X)
 |alloc (zero:List D)
 |box (x:X)
 |build (zero:List D) (parts:List (Nat×Nat×X))
 |qw (zero:List D) (size n:Nat) (parts:List (Nat×X))
 |wR (zero:List D) (size n:Nat) (parts:List (Nat×X))
 |Cd (x:X)
 |load (x:X) (agg:Bool) (size:Nat)
 |store (p x:X) (size:Nat)
 |F2 (x:X)
 |bin (op:BinOp) (x y:X)
 |Lm (neg:Bool) (x y:X)
 |eqs (neg:Bool) (ks:List Nat) (x y:X) -- the fields' kinds: 0 an integer, 1 a bool, 2 a text
 |Ln (neg:Bool) (x y:X)
 |un (op:UnOp) (x:X)
 |conv (k:IntKind) (x:X)
 |F3 (x:X)
 |zk (x:X)
 |TH (size:Nat) (x:X) (lo hi:Option X)
 |Lo (x:X) (lo hi:Option X)
 |F4 (x:X) (off:Nat)
 |TI (x:X) (off:Nat) (agg:Bool) (size:Nat)
 |F5 (x i:X) (size:Nat)
 |Lp (x i:X)
 |ext (x:X) (i:Nat)
 |len (x:X)
 |Lq (x:X)
 |app (size bytes:Nat) (x y:X)
 |mm (isMax:Bool) (x y:X)
 |va (zero:List D) (T:TypeId) -- a new object whose first cell is to hold its own address
 |Ce (x:X) (T:TypeId)
 |Cg (x y:X) -- bytes behind others
 |apps (x y:X) -- a text's bytes behind others
 |DH (f:Nat) (xs:List X) -- a function value
 |xK
 |Ch (m k v:X) -- a text's slice in a map
 |AA (m k:X) (zero:D)
 |Ci (size bytes:Nat) (zero:List D) (l c:X) -- a new array of zeros
 |xL (o:FO) (x y:X)
inductive AI where
 |k6 (dst:Option Nat) (g:Option (Nat×Bool)) (t:Nat) (xs:List X) -- what a slot holds is called
 |nil (dst:Option Nat) (g:Option (Nat×Bool)) (neg:Bool) (x:X) -- is a slice nil? (of an empty one nothing is known)
 |op (dst:Option Nat) (g:Option (Nat×Bool)) (o:AO)
 |call (dst:Option Nat) (g:Option (Nat×Bool)) (f:Nat) (xs:List X)
inductive AC where
 |skip
 |run (is:List AI)
 |par (is:List AI) (mZ:List (Nat×Nat))
 |seq (a b:AC)
 |cond (x:X) (a b:AC)
 |block (id:Nat) (a:AC)
 |loop (a:AC)
 |exit (id:Nat)
 |scope (a:AC)
 |label (l:Nat)
 |goto (l:Nat)
 |ret
structure AF where
 ntmps:Nat
 results:List (Nat×Option (Bool×Nat)) -- a slot; or a slot that holds the address, whether an aggregate, how many cells
 body:AC
inductive AK where
 |pure
 |load
 |alloc
 |core
 deriving DecidableEq
def AO.kind:AO→AK
 | .alloc _=> .core
 | .box _=> .core
 | .wR .. => .core
 | .Cd _=> .core
 | .store .. => .core
 | .app .. => .core
 | .va .. => .core
 | .Ce .. => .core
 | .Cg .. => .core
 | .apps .. => .core
 | .xK=> .core
 | .Ch .. => .core
 | .Ci .. => .core
 | .AA .. => .load
 | .load .. => .load
 |_=> .pure
def AI.kind:AI→AK
 | .op (some _) none (.alloc _)=> .alloc
 | .op _ _ o=>o.kind
 |_=> .core
def AI.dst:AI→Option Nat
 | .op d _ _=>d
 | .call d _ _ _=>d
 | .nil d _ _ _=>d
 | .k6 d _ _ _=>d
def X.reads:X→List Nat
 | .s t=> [t]
 | .k _=> []
def pM:List X→List Nat
 | []=> []
 |x::r=>x.reads++pM r
def Cj:Option X→List Nat
 |none=> []
 |some x=>x.reads
def AO.reads:AO→List Nat
 | .mv x=>x.reads
 | .pick c a b=>c.reads++(a.reads++b.reads)
 | .alloc _=> []
 | .box x=>x.reads
 | .build _ ps=>pM (ps.map (·.2.2))
 | .qw _ _ _ ps=>pM (ps.map (·.2))
 | .wR _ _ _ ps=>pM (ps.map (·.2))
 | .Cd x=>x.reads
 | .load x _ _=>x.reads
 | .store p x _=>p.reads++x.reads
 | .F2 x=>x.reads
 | .bin _ x y=>x.reads++y.reads
 | .Lm _ x y=>x.reads++y.reads
 | .eqs _ _ x y=>x.reads++y.reads
 | .Ln _ x y=>x.reads++y.reads
 | .un _ x=>x.reads
 | .conv _ x=>x.reads
 | .F3 x=>x.reads
 | .zk x=>x.reads
 | .TH _ x lo hi=>x.reads++(Cj lo++Cj hi)
 | .Lo x lo hi=>x.reads++(Cj lo++Cj hi)
 | .F4 x _=>x.reads
 | .TI x _ _ _=>x.reads
 | .F5 x i _=>x.reads++i.reads
 | .Lp x i=>x.reads++i.reads
 | .ext x _=>x.reads
 | .len x=>x.reads
 | .Lq x=>x.reads
 | .app _ _ x y=>x.reads++y.reads
 | .mm _ x y=>x.reads++y.reads
 | .va _ _=> []
 | .Ce x _=>x.reads
 | .Cg x y=>x.reads++y.reads
 | .apps x y=>x.reads++y.reads
 | .DH _ xs=>pM xs
 | .xK=> []
 | .Ch m k v=>m.reads++(k.reads++v.reads)
 | .AA m k _=>m.reads++k.reads
 | .Ci _ _ _ l c=>l.reads++c.reads
 | .xL _ x y=>x.reads++y.reads
def wS:Option (Nat×Bool)→List Nat
 |none=> []
 |some (t,_)=> [t]
def AI.reads:AI→List Nat
 | .op _ g o=>wS g++o.reads
 | .call _ g _ xs=>wS g++pM xs
 | .nil _ g _ x=>wS g++x.reads
 | .k6 _ g t xs=>wS g++(t::pM xs)
def F7 (d:Option Nat) (l:List Nat):Bool:=
 match d with
 |none=>true
 |some t=> !l.contains t
def AI.apart (a q:AI):Bool:=
 F7 a.dst q.reads && F7 q.dst a.reads && (match a.dst,q.dst with|some x,some y=>x != y|_,_=>true)
def je (l:List (List Nat)) (i:Nat):List Nat:=l.getD i []
def jZ (is:List AI) (i:Nat):AK:=
 match is[i]? with
 |some a=>a.kind
 |none=> .core
def mn (is:List AI) (i j:Nat):Bool:=
 match is[i]?,is[j]? with
 |some a,some b=>a.apart b
 |_,_=>false
def iM:AK→Bool
 | .core=>true
 | .alloc=>true
 |_=>false
def kI (is:List AI) (l:List Nat):Nat:=(l.filter fun i=>iM (jZ is i)).length
def l8 (is:List AI) (pq:List Nat):List Nat→Bool
 | []=>true
 |a::r=>(!(jZ is a == .alloc && pq.contains a) ||r.all pq.contains) && l8 is pq r
def qx (is:List AI) (pt:List (List Nat)) (pre:List Nat) (q b:Nat):Bool:=
 match jZ is q with
 | .core=>pre.all (je pt q).contains
 | .alloc=>pre.all fun a=>mn is a q
 | .pure=>(pre.all fun a=>(je pt q).contains a ||mn is a q) && l8 is (je pt q) pre
 | .load=>(pre.all fun a=>(je pt q).contains a ||mn is a q) && l8 is (je pt q) pre &&
  decide (kI is (pre.filter fun a=> !(je pt q).contains a)≤b)
def vY (is:List AI) (af pt:List (List Nat)):List Nat→List (Nat×Nat)→Bool
 |_,[]=>true
 |pre,(q,b)::r=>qx is pt pre q b && !pre.contains q && ((je af q).all fun j=>j != q && !(r.map (·.1)).contains j) && vY is af pt (q::pre) r
def zl (af pt:List (List Nat)):Nat→Bool
 | 0=>true
 |i+1=>((je pt i).all fun j=>(je af i).contains j ||(je af i).any fun k=>(je pt k).contains j) && zl af pt i
def F8 (is:List AI) (af pt:List (List Nat)) (mZ:List (Nat×Nat)):Bool:=
 zl af pt is.length && vY is af pt [] mZ && (List.range is.length).all (mZ.map (·.1)).contains && mZ.all (fun p=>decide (p.1<is.length)) &&
  (List.range is.length).all fun i=>(je af i).all fun j=>decide (j<is.length)
def mr (o:Oper):List Nat:=(o.after.toList.filter (Region.binds .any)).map (·.on)
def F9:List (List Nat)→List (List Nat)→List (List Nat)
 |done,[]=>done
 |done,es::r=>F9 (done++ [(es.flatMap fun k=>je done k).foldl (fun l j=>if l.contains j then l else l++ [j]) es]) r
def Qp (is:List AI) (pt:List (List Nat)):List Nat→List Nat→List Nat→List Nat
 | [],rest,out=>out++((rest.filter fun j=>jZ is j == .alloc)++rest.filter fun j=> !(jZ is j == .alloc))
 |c::cs,rest,out=>
  let WQ:=rest.filter fun j=>(je pt c).contains j
  Qp is pt cs (rest.filter fun j=> !(WQ.contains j) && j != c) (out++((WQ.filter fun j=>jZ is j == .alloc)++(WQ.filter fun j=> !(jZ is j == .alloc))++ [c]))
def Qq (is:List AI) (pt:List (List Nat)):List Nat→List Nat→List (Nat×Nat)
 |_,[]=> []
 |pre,q::r=>(q,if jZ is q == .load then kI is (pre.filter fun a=> !(je pt q).contains a)else 0)::Qq is pt (q::pre) r
def TJ (is:List AI) (af:List (List Nat)):List (Nat×Nat):=
 let pt:=F9 [] af
 let all:=List.range is.length
 Qq is pt [] (Qp is pt (all.filter fun i=>jZ is i == .core) all [])
def D.row:D→Option (List D)
 | .agg cs=>some cs
 | .junk=>none
 | .tuple _=>none
 |d=>some [d]
def part (cs:List D) (off:Nat) (agg:Bool) (size:Nat):Option D:=
 match agg with
 |true=>if off+size≤cs.length then some (.agg ((cs.drop off).take size))else none
 |false=>cs[off]?
def gV (cs:List D) (off:Nat) (r:List D):List D:=cs.take off++r++cs.drop (off+r.length)
def sS (cells:List D):List (Nat×Nat×D)→Option (List D)
 | []=>some cells
 |(off,size,d)::rest=>
  match d.row with
  |none=>none
  |some r=>if r.length=size∧off+size≤cells.length then sS (gV cells off r) rest else none
def gj (zero:List D):Nat→List (List D)
 | 0=> []
 |n+1=>zero::gj zero n
def kV (size:Nat) (rows:List (List D)):List (Nat×D)→Option (List (List D))
 | []=>some rows
 |(i,d)::rest=>
  match d.row with
  |none=>none
  |some r=>if r.length=size∧i<rows.length then kV size (rows.set i r) rest else none
def bytesLess:List UInt8→List UInt8→Bool:=Op.bytesLess
def aV:Nat:=1099511627776
def HQ (k:IntKind) (a b:Int):Int:=k.wrap ((BitVec.ofInt k.bits a &&& BitVec.ofInt k.bits b).toNat)
def Z2 (k:IntKind) (a b:Int):Int:=k.wrap ((BitVec.ofInt k.bits a |||BitVec.ofInt k.bits b).toNat)
def AB (k:IntKind) (a b:Int):Int:=k.wrap ((BitVec.ofInt k.bits a ^^^ BitVec.ofInt k.bits b).toNat)
def E0 (k:IntKind) (a b:Int):Int:=k.wrap (a*2 ^ (min b.toNat k.bits))
def HR (k:IntKind) (a b:Int):Int:=a.fdiv (2 ^ (min b.toNat k.bits))
def fW (op:BinOp) (k:IntKind) (a b:Int):Option D:=
 match op with
 | .add=>some (.int k (k.wrap (a+b)))
 | .sub=>some (.int k (k.wrap (a - b)))
 | .mul=>some (.int k (k.wrap (a*b)))
 | .quo=>if b=0 then none else some (.int k (k.wrap (a.tdiv b)))
 | .rem=>if b=0 then none else some (.int k (a.tmod b))
 | .eql=>some (.bool (a==b))
 | .neq=>some (.bool (a != b))
 | .lss=>some (.bool (decide (a<b)))
 | .leq=>some (.bool (decide (a≤b)))
 | .gtr=>some (.bool (decide (a > b)))
 | .geq=>some (.bool (decide (a≥b)))
 | .and=>some (.int k (HQ k a b))
 | .or=>some (.int k (Z2 k a b))
 | .xor=>some (.int k (AB k a b))
 | .shl=>if b<0 then none else some (.int k (E0 k a b))
 | .shr=>if b<0 then none else some (.int k (HR k a b))
 |_=>none
def pN (op:BinOp) (a b:List UInt8):Option D:=
 match op with
 | .add=>if a.length+b.length≤aV then some (.str (a++b))else none
 | .eql=>some (.bool (a==b))
 | .neq=>some (.bool (!(a==b)))
 | .lss=>some (.bool (bytesLess a b))
 |_=>none
def yF (op:BinOp) (x y:D):Option D:=
 match x,y with
 | .int k a, .int k' b=>if k=k' then fW op k a b else none
 | .str a, .str b=>pN op a b
 |_,_=>none
def oB:Nat→D→D→Option Bool
 | 0, .int k a, .int k' b=>if k=k' then some (a==b)else none
 | 1, .bool a, .bool b=>some (a==b)
 | 2, .str a, .str b=>some (a==b)
 |_,_,_=>none
def mw:List Nat→List D→List D→Option Bool
 | [],[],[]=>some true
 |k::ks,x::xs,y::ys=>
  match oB k x y with
  |none=>none
  |some true=>mw ks xs ys
  |some false=>some false
 |_,_,_=>none
def Jh (op:UnOp) (x:D):Option D:=
 match op,x with
 | .neg, .int k n=>some (.int k (k.wrap (0 - n)))
 | .not, .bool b=>some (.bool (!b))
 | .xor, .int k n=>some (.int k (AB k (if k.signed then -1 else k.max) n))
 |_,_=>none
def Ji:List D→Option UInt8
 | [.int .u8 n]=>some (UInt8.ofNat n.toNat)
 |_=>none
def pZ:List (List D)→Option (List UInt8)
 | []=>some []
 |r::rs=>
  match Ji r,pZ rs with
  |some b,some bs=>some (b::bs)
  |_,_=>none
def Tag.cut (g:Tag) (whole:Bool):Tag:=
 match g with
 | .full=>if whole then .full else .shared
 |g=>g
def ud (lo:Option D):Option Int:=
 match lo with
 |none=>some 0
 |some (.int _ n)=>some n
 |_=>none
def uf (hi:Option D) (len:Nat):Option Int:=
 match hi with
 |none=>some len
 |some (.int _ n)=>some n
 |_=>none
def fH (size bytes:Nat) (x y:D) (s:St):Option (D×St):=
 match x,y with
 | .slice g z rows, .slice _ z' new=>
  if(rows = []∨z=size)∧(new = []∨z'=size)∧(rows.length+new.length)*(bytes+1)≤aV then
   match new with
   | []=>some (.slice g z rows,s)
   |_::_=>
    match g with
    | .full=>some (.slice (.tok s.ay.length) size (rows++new),{s with ay:=s.ay++ [some (rows.length+new.length)]})
    | .shared=>none
    | .tok _ true=>none
    | .tok t false=>if z=size∧s.ay[t]? = some (some rows.length)then some (.slice (.tok t) size (rows++new),{s with ay:=s.ay.set t (some (rows.length+new.length))})else none
  else none
 |_,_=>none
def Ck (x y:D) (s:St):Option (D×St):=
 match x,y with
 | .slice g z rows, .slice _ z' new=>
  if(rows = []∨z=1)∧(new = []∨z'=1)∧(rows.length+new.length)*2≤aV then
   match new with
   | []=>some (.slice g z rows,s)
   |_::_=>
    match g with
    | .full=>some (.slice (.tok s.ay.length true) 1 (rows++new),{s with ay:=s.ay++ [some (rows.length+new.length)]})
    | .shared=>none
    | .tok t y=>if z=1∧s.ay[t]? = some (some rows.length)then some (.slice (.tok t y) 1 (rows++new),{s with ay:=s.ay.set t (some (rows.length+new.length))})else none
  else none
 |_,_=>none
def AE (key:List UInt8) (zero:D):List D→Option D
 | []=>some zero
 | .str k::d::r=>if k==key then some d else AE key zero r
 |_=>none
def yG (key:List UInt8) (v:D):List D→Option (List D)
 | []=>some [.str key,v]
 | .str k::d::r=>if k==key then some (.str k::v::r)else match yG key v r with|some r'=>some (.str k::d::r')|none=>none
 |_=>none
def pg (s:St) (o g:Nat):Option (List D):=
 match s.aq[o]? with
 |some (.int .i64 n::cells)=>if n=(g:Int)then some cells else none
 |_=>none
def AG (d:D) (agg:Bool) (size:Nat) (s:St):Option (D×St):=
 match d with
 | .fC o g off=>
  match pg s o g with
  |some cells=>(match part cells off agg size with|some d=>some (d,s)|none=>none)
  |none=>none
 |_=>none
def Cl (d:D) (r:Option (List D)) (size:Nat) (s:St):Option (D×St):=
 match d,r with
 | .fC o g off,some r=>match pg s o g with
  |some cells=>if r.length=size∧off+size≤cells.length then some (.tuple [],{s with aq:=s.aq.set o (.int .i64 g::gV cells off r)})else none
  |none=>none
 |_,_=>none
def Qr (d:D):Option D:=
 match d with
 | .fC o g off=>some (.fC o g off)
 |_=>none
def Ga (d:D) (off:Nat):Option D:=
 match d with
 | .fC o g k=>some (.fC o g (k+off))
 |_=>none
def zm (d e:D) (size:Nat):Option D:=
 match d,e with
 | .dM z o g len, .int _ n=>if 0≤n∧n<len∧z=size then some (.fC o g (n.toNat*z))else none
 |_,_=>none
def uj (d:D) (lo hi:Option D):Option D:=
 match d with
 | .dM z o g len=>
  match ud lo,uf hi len with
  |some l,some h=>if l=0∧0≤h∧h≤len then some (.dM z o g h.toNat)else none
  |_,_=>none
 | .ek z=>
  match ud lo,uf hi 0 with
  |some l,some h=>if l=0∧h=0 then some (.ek z)else none
  |_,_=>none
 |_=>none
def HS (d:D):Option D:=
 match d with
 | .dM _ _ _ len=>some (.int .i64 len)
 | .ek _=>some (.int .i64 0)
 |_=>none
def AH (size bytes:Nat) (x y:D) (s:St):Option (D×St):=
 match x,y with
 | .dM z o g len, .slice _ z' new=>
  if z=size∧(new = []∨z'=size)∧(len+new.length)*(bytes+1)≤aV then
   match new with
   | []=>some (.dM z o g len,s)
   |_::_=>match pg s o g with
    |some cells=>if len*z≤cells.length then some (.dM z o (g+1) (len+new.length),{s with aq:=s.aq.set o (.int .i64 ((g+1:Nat):Int)::(cells.take (len*z)++new.flatten))})else none
    |none=>none
  else none
 | .ek z, .slice _ z' new=>
  if z=size∧(new = []∨z'=size)∧new.length*(bytes+1)≤aV then
   match new with
   | []=>some (.ek z,s)
   |_::_=>some (.dM z s.aq.length 0 new.length,{s with aq:=s.aq++ [.int .i64 ((0:Nat):Int)::new.flatten]})
  else none
 |_,_=>none
def WR (k:FloatKind) (a b:Nat):Option Nat:=k.format.add a b
def sk (o:FO) (x y:D):Option D:=
 match o,x,y with
 | .ofInt k, .int _ n,_=>some (.val (.float k (k.nearest n)))
 | .toInt k, .val (.float s b),_=>match (s.decode b).toInt .zero with|some n=>if k.min≤n∧n≤k.max then some (.int k n)else none|none=>none
 | .Qo, .val (.float k a), .val (.float k' b)=>if k=k' then some (.val (.complex k a b))else none
 | .real, .val (.complex k a _),_=>some (.val (.float k a))
 | .imag, .val (.complex k _ b),_=>some (.val (.float k b))
 | .eq, .val (.float k a), .val (.float k' b)=>if k=k' then some (.bool (k.format.order a b==some .eq))else none
 | .Ll, .val (.complex k a b), .val (.complex k' c d)=>if k=k' then(match WR k a c,WR k b d with|some e,some f=>some (.val (.complex k e f))|_,_=>none)else none
 | .TG, .val (.complex k a b), .val (.complex k' c d)=>if k=k' then some (.bool (k.format.order a c==some .eq && k.format.order b d==some .eq))else none
 |_,_,_=>none
def aS (o:AO) (tm:Tm) (s:St):Option (D×St):=
 match o with
 | .mv x=>some (x.ev tm,s)
 | .pick c a b=>
  match c.ev tm with
  | .bool t=>some (if t then a.ev tm else b.ev tm,s)
  |_=>none
 | .alloc zero=>some (.ptr s.aq.length 0,{s with aq:=s.aq++ [zero]})
 | .box x=>
  match (x.ev tm).row with
  |some r=>some (.ptr s.aq.length 0,{s with aq:=s.aq++ [r]})
  |none=>none
 | .build zero parts=>
  match sS zero (parts.map fun p=>(p.1,p.2.1,p.2.2.ev tm))with
  |some cs=>some (.agg cs,s)
  |none=>none
 | .qw zero size n parts=>
  match kV size (gj zero n) (parts.map fun p=>(p.1,p.2.ev tm))with
  |some rows=>some (.slice .full size rows,s)
  |none=>none
 | .wR zero size n parts=>
  match kV size (gj zero n) (parts.map fun p=>(p.1,p.2.ev tm))with
  |some rows=>some (.slice (.tok s.ay.length) size rows,{s with ay:=s.ay++ [some rows.length]})
  |none=>none
 | .Cd x=>
  match x.ev tm with
  | .slice (.tok t _) z rows=>if rows≠ []∧s.ay[t]? = some (some rows.length)then some (.slice .shared z rows,{s with ay:=s.ay.set t none})else none
  |_=>none
 | .load x agg size=>
  match x.ev tm with
  | .ptr o off=>
   match s.aq[o]? with
   |some cs=>match part cs off agg size with|some d=>some (d,s)|none=>none
   |none=>none
  | .dO row off=>match part row off agg size with|some d=>some (d,s)|none=>none
  |d=>AG d agg size s
 | .store p x size=>
  match p.ev tm,(x.ev tm).row with
  | .ptr o off,some r=>
   match s.aq[o]? with
   |some cs=>if r.length=size∧off+size≤cs.length then some (.tuple [],{s with aq:=s.aq.set o (gV cs off r)})else none
   |none=>none
  |d,r=>Cl d r size s
 | .F2 x=>
  match x.ev tm with
  | .ptr o off=>some (.ptr o off,s)
  | .dO row off=>some (.dO row off,s)
  |d=>match Qr d with|some d=>some (d,s)|none=>none
 | .bin op x y=>match yF op (x.ev tm) (y.ev tm)with|some d=>some (d,s)|none=>none
 | .Lm neg x y=>
  match x.ev tm,y.ev tm with
  | .bool a, .bool b=>some (.bool (if neg then !(a==b)else a==b),s)
  |_,_=>none
 | .eqs neg ks x y=>
  match x.ev tm,y.ev tm with
  | .agg a, .agg b=>match mw ks a b with|some e=>some (.bool (if neg then !e else e),s)|none=>none
  |_,_=>none
 | .Ln neg x y=>
  match x.ev tm,y.ev tm with
  | .fv, .fv=>some (.bool (!neg),s)
  | .ptr _ _, .fv=>some (.bool neg,s)
  | .dO _ _, .fv=>some (.bool neg,s)
  |_,_=>none
 | .un op x=>match Jh op (x.ev tm)with|some d=>some (d,s)|none=>none
 | .conv k x=>match x.ev tm with| .int _ n=>some (.int k (k.wrap n),s)|_=>none
 | .F3 x=>
  match x.ev tm with
  | .slice _ _ rows=>match pZ rows with|some b=>some (.str b,s)|none=>none
  |_=>none
 | .zk x=>
  match x.ev tm with
  | .str l=>some (.slice .shared 1 (l.map fun c=> [.int .u8 c.toNat]),s)
  |_=>none
 | .TH size x lo hi=>
  match x.ev tm with
  | .slice g z rows=>
   match ud (lo.map (·.ev tm)),uf (hi.map (·.ev tm)) rows.length with
   | some l,some h=>
    if(rows = []∨z=size)∧0≤l∧l≤h∧h≤rows.length then
     some (.slice (if l=0 then g.cut (h=rows.length)else .shared) z ((rows.take h.toNat).drop l.toNat),s)else none
   |_,_=>none
  |d=>match uj d (lo.map (·.ev tm)) (hi.map (·.ev tm))with|some d=>some (d,s)|none=>none
 | .Lo x lo hi=>
  match x.ev tm with
  | .str t=>
   match ud (lo.map (·.ev tm)),uf (hi.map (·.ev tm)) t.length with
   |some l,some h=>if 0≤l∧l≤h∧h≤t.length then some (.str ((t.take h.toNat).drop l.toNat),s)else none
   |_,_=>none
  |_=>none
 | .F4 x off=>
  match x.ev tm with
  | .ptr o k=>some (.ptr o (k+off),s)
  | .dO row k=>some (.dO row (k+off),s)
  |d=>match Ga d off with|some d=>some (d,s)|none=>none
 | .TI x off agg size=>
  match x.ev tm with
  | .agg cs=>match part cs off agg size with|some d=>some (d,s)|none=>none
  |_=>none
 | .F5 x i size=>
  match x.ev tm,i.ev tm with
  | .slice _ z rows, .int _ n=>
   if 0≤n∧z=size then
    match rows[n.toNat]? with
    |some row=>some (.dO row 0,s)
    |none=>none
   else none
  |d,e=>match zm d e size with|some d=>some (d,s)|none=>none
 | .Lp x i=>
  match x.ev tm,i.ev tm with
  | .str t, .int _ n=>
   if 0≤n then
    match t[n.toNat]? with
    |some c=>some (.int .u8 c.toNat,s)
    |none=>none
   else none
  |_,_=>none
 | .ext x i=>
  match x.ev tm with
  | .tuple ds=>match ds[i]? with|some d=>some (d,s)|none=>none
  |_=>none
 | .Lq x=>
  match x.ev tm with
  | .str t=>some (.int .i64 t.length,s)
  |_=>none
 | .len x=>
  match x.ev tm with
  | .slice _ _ rows=>some (.int .i64 rows.length,s)
  |d=>match HS d with|some d=>some (d,s)|none=>none
 | .app size bytes x y=>
  match x.ev tm with
  | .slice g z rows=>fH size bytes (.slice g z rows) (y.ev tm) s
  |d=>AH size bytes d (y.ev tm) s
 | .mm isMax x y=>
  match x.ev tm,y.ev tm with
  | .int k a, .int k' b=>if k=k' then some (.int k (if isMax then(if b > a then b else a)else(if b<a then b else a)),s)else none
  |_,_=>none
 | .va zero T=>
  match zero with
  | .fv::r=>some (.ptr s.aq.length 0,{s with aq:=s.aq++ [.fM T s.aq.length::r]})
  |_=>none
 | .Ce x T=>
  match (x.ev tm).row with
  |some (.fv::r)=>some (.ptr s.aq.length 0,{s with aq:=s.aq++ [.fM T s.aq.length::r]})
  |_=>none
 | .Cg x y=>Ck (x.ev tm) (y.ev tm) s
 | .apps x y=>
  match y.ev tm with
  | .str l=>Ck (x.ev tm) (.slice .shared 1 (l.map fun c=> [.int .u8 c.toNat])) s
  |_=>none
 | .DH f xs=>some (.il f (xs.map (·.ev tm)),s)
 | .xK=>some (.gU s.aq.length,{s with aq:=s.aq++ [[]]})
 | .Ch m k v=>
  match m.ev tm,k.ev tm,v.ev tm with
  | .gU o, .str key, .slice g z rows=>
   match s.aq[o]? with
   |some cs=>match yG key (.slice g z rows) cs with|some kL=>some (.tuple [],{s with aq:=s.aq.set o kL})|none=>none
   |none=>none
  |_,_,_=>none
 | .AA m k zero=>
  match m.ev tm,k.ev tm with
  | .gU o, .str key=>
   match s.aq[o]? with
   |some cs=>match AE key zero cs with|some d=>some (d,s)|none=>none
   |none=>none
  |_,_=>none
 | .Ci size bytes zero l c=>
  match l.ev tm,c.ev tm with
  | .int .i64 n, .int .i64 m=>if n=m∧0≤n∧n*((bytes:Int)+1)≤aV then some (.dM size s.aq.length 0 n.toNat,{s with aq:=s.aq++ [.int .i64 ((0:Nat):Int)::(gj zero n.toNat).flatten]})else none
  |_,_=>none
 | .xL o x y=>match sk o (x.ev tm) (y.ev tm)with|some d=>some (d,s)|none=>none
def WS (b:ByteArray):List UInt8:=b.data.toList
def uk:Value→Option D
 | .int k n=>some (.int k n)
 | .bool b=>some (.bool b)
 | .string b=>some (.str (WS b))
 | .pointer none=>some .fv
 | .slice none 0 0=>some (.slice .full 0 [])
 | .nilIface=>some (.val .nilIface)
 | .float k b=>some (.val (.float k b))
 | .complex k a b=>some (.val (.complex k a b))
 |_=>none
def ph:List Value→Option (List D)
 | []=>some []
 |v::r=>match uk v,ph r with|some d,some ds=>some (d::ds)|_,_=>none
def E1:Value→Option D
 | .slice none 0 0=>some (.val (.slice none 0 0))
 |v=>uk v
def xM:List Value→Option (List D)
 | []=>some []
 |v::r=>match E1 v,xM r with|some d,some ds=>some (d::ds)|_,_=>none
def Qs:Value→Option D
 | .agg cs=>(ph cs.toList).map .agg
 | .tuple ⟨[]⟩=>some (.tuple [])
 |v=>uk v
def cX:Operand→Option X
 | .tmp t=>some (.s t)
 | .const v=>(Qs v).map .k
 | .func f=>some (.k (.il f []))
 |_=>none
def zn:List Operand→Option (List X)
 | []=>some []
 |x::r=>match cX x,zn r with|some d,some ds=>some (d::ds)|_,_=>none
def Z3:Option Operand→Option (Option X)
 |none=>some none
 |some x=>(cX x).map some
section
variable (P:Program)
def sT (t:TypeId):Option Bool:=
 match P.underlying t with
 |some (.struct _)|some (.array _ _)=>some true
 |some _=>some false
 |none=>none
def zeroOf (t:TypeId):Option (List D):=
 match P.info? t with
 |some i=>match i.zero with|some z=>if z.cells.size=i.size then ph z.cells.toList else none|none=>none
 |none=>none
def nO (t:TypeId) (f:Nat):Option (Nat×Nat×Bool):=
 match P.underlying t with
 | some (.struct fs)=>
  match fs[f]? with
  |some fd=>match P.info? fd.type,sT P fd.type with
   |some i,some a=>if i.size=0 then none else some (fd.offset,i.size,a)
   |_,_=>none
  |none=>none
 |_=>none
def TK (t u:TypeId):Bool:=
 match P.underlying u with
 |some (.pointer e)=>e==t
 |_=>false
def adR (t:TypeId):Bool:=
 match P.underlying t with
 |some (.struct fs)=>
  match fs[0]? with
  |some f=>TK P t f.type
  |none=>false
 |_=>false
def Qt (t:TypeId):Bool:=
 match P.underlying t with
 |some (.struct fs)=>
  match fs[0]? with
  |some f=>TK P t f.type ||adR P f.type
  |none=>false
 |_=>false
def Qu (self:Bool) (l:List Value):Option (List D):=if self then xM l else ph l
def AJ (t:TypeId):Option (List D):=
 match P.info? t with
 |some i=>match i.zero with|some z=>if z.cells.size=i.size then Qu (Qt P t) z.cells.toList else none|none=>none
 |none=>none
def Cm (t:TypeId):List (Nat×Operand)→Option (List (Nat×Nat×X))
 | []=>some []
 |(i,x)::r=>match nO P t i,cX x,Cm t r with
  |some (off,size,_),some x',some r'=>some ((off,size,x')::r')
  |_,_,_=>none
def Lr:List (Nat×Operand)→Option (List (Nat×X))
 | []=>some []
 |(i,x)::r=>match cX x,Lr r with
  |some x',some r'=>some ((i,x')::r')
  |_,_=>none
def kx (t:TypeId):Option Nat:=
 match P.underlying t with
 |some (.int _)=>some 0
 |some .bool=>some 1
 |some .string=>some 2
 |_=>none
def DI:Nat→List Field→Option (List Nat)
 |_,[]=>some []
 | n,f::fs=>
  if f.offset=n∧f.name≠ "_" then
   match kx P f.type,DI (n+1) fs with
   |some k,some ks=>some (k::ks)
   |_,_=>none
  else none
def rO (t:TypeId):Option (List Nat):=
 match P.underlying t with
 |some (.struct fs)=>if P.eqGuardType P.depth t=false∧P.stoodInHeld t=false then DI P 0 fs.toList else none
 |_=>none
def Gb (o:Oper):Option AO:=
 match o.op with
 | .move x| .assign x=>(cX x).map .mv
 | .pick c a b=>match cX c,cX a,cX b with|some c,some a,some b=>some (.pick c a b)|_,_,_=>none
 | .alloc t=>if Qt P t then(AJ P t).map (.va · t)else(zeroOf P t).map .alloc
 | .box t x=>if Qt P t then(cX x).map (.Ce · t)else(cX x).map .box
 | .build t parts=>
  match P.underlying t,AJ P t,Cm P t parts.toList with
  |some (.struct fs),some z,some ps=>if fs.toList.all fun f=>(P.info? f.type).isSome then some (.build z ps)else none
  |_,_,_=>none
 | .buildSlice t n parts=>
  match P.underlying t with
  |some (.slice e)=>
   match P.info? e,zeroOf P e,Lr parts.toList with
   |some i,some z,some ps=>if 0<i.size∧n*i.size≤65536 then some (.qw z i.size n ps)else none
   |_,_,_=>none
  |_=>none
 | .load t x=>
  match cX x,sT P t,P.info? t with
  |some x,some a,some i=>some (.load x a i.size)
  |_,_,_=>none
 | .store t a x=>
  match cX a,cX x,P.info? t with
  |some a,some x,some i=>some (.store a x i.size)
  |_,_,_=>none
 | .nilCheck x=>(cX x).map .F2
 | .binOp op t x y _=>
  match cX x,cX y with
  |some x,some y=>
   match P.underlying t,op with
   |some (.int _),_=>some (.bin op x y)
   |some .string,_=>some (.bin op x y)
   |some .bool, .eql=>some (.Lm false x y)
   |some .bool, .neq=>some (.Lm true x y)
   |some (.pointer _), .eql=>some (.Ln false x y)
   |some (.pointer _), .neq=>some (.Ln true x y)
   |some (.struct _), .eql=>(rO P t).map (.eqs false · x y)
   |some (.struct _), .neq=>(rO P t).map (.eqs true · x y)
   |some (.float _), .eql=>some (.xL .eq x y)
   |some (.complex _), .add=>some (.xL .Ll x y)
   |some (.complex _), .eql=>some (.xL .TG x y)
   |_,_=>none
  |_,_=>none
 | .unOp op _ x=>(cX x).map (.un op)
 | .convert src dst x=>
  match cX x,P.underlying src,P.underlying dst with
  |some x,some (.int _),some (.int k)=>some (.conv k x)
  |some x,some (.slice e),some .string=>match P.underlying e with|some (.int .u8)=>some (.F3 x)|_=>none
  |some x,some (.slice e),some (.slice _)=>match P.underlying e with|some (.int .u8)=>if src=dst then some (.Cd x)else none|_=>none
  |some x,some .string,some (.slice e)=>match P.underlying e,P.info? e with|some (.int .u8),some i=>if i.size=1 then some (.zk x)else none|_,_=>none
  |some x,some (.int _),some (.float k)=>some (.xL (.ofInt k) x x)
  |some x,some (.float _),some (.int k)=>some (.xL (.toInt k) x x)
  |_,_,_=>none
 | .slice t x lo hi none=>
  match cX x,Z3 lo,Z3 hi,P.underlying t with
  |some x,some lo,some hi,some .string=>some (.Lo x lo hi)
  |some x,some lo,some hi,some (.slice e)=>match P.info? e with|some i=>some (.TH i.size x lo hi)|none=>none
  |_,_,_,_=>none
 | .fieldAddr t x f=>match cX x,nO P t f with|some x,some (off,_,_)=>some (.F4 x off)|_,_=>none
 | .field t x f=>match cX x,nO P t f with|some x,some (off,size,a)=>some (.TI x off a size)|_,_=>none
 | .indexAddr t x i=>
  match cX x,cX i,P.underlying t with
  |some x,some i,some (.slice e)=>match P.info? e with|some j=>if 0<j.size then some (.F5 x i j.size)else none|none=>none
  |_,_,_=>none
 | .index t x i=>match cX x,cX i,P.underlying t with|some x,some i,some .string=>some (.Lp x i)|_,_,_=>none
 | .extract x i=>(cX x).map (.ext · i)
 | .call {callee:= .builtin .len,args,argTypes}=>
  match args.toList,argTypes.toList with
  | [x],[t]=>match P.underlying t with
   |some .string=>(cX x).map .Lq
   |some (.slice _)=>(cX x).map .len
   |_=>none
  |_,_=>none
 | .call {callee:= .builtin .append,args,argTypes}=>
  match args.toList,argTypes.toList with
  | [x,y],[t,u]=>match P.underlying t,P.underlying u,cX x,cX y with
   |some (.slice e),some (.slice _),some x,some y=>match P.info? e,zeroOf P e with
    |some i,some _=>if 0<i.size then some (if e=qZ∧i.size=1∧i.bytes=1 then .Cg x y else .app i.size i.bytes x y)else none
    |_,_=>none
   |some (.slice e),some .string,some x,some y=>match P.info? e,zeroOf P e with
    |some i,some _=>if e=qZ∧i.size=1∧i.bytes=1 then some (.apps x y)else none
    |_,_=>none
   |_,_,_,_=>none
  |_,_=>none
 | .call {callee:= .builtin .max,args, ..}=>
  match args.toList with
  | [x,y]=>match cX x,cX y with|some x,some y=>some (.mm true x y)|_,_=>none
  |_=>none
 | .call {callee:= .builtin .min,args, ..}=>
  match args.toList with
  | [x,y]=>match cX x,cX y with|some x,some y=>some (.mm false x y)|_,_=>none
  |_=>none
 | .call {callee:= .builtin .complex,args, ..}=>
  match args.toList with
  | [x,y]=>match cX x,cX y with|some x,some y=>some (.xL .Qo x y)|_,_=>none
  |_=>none
 | .call {callee:= .builtin .real,args, ..}=>
  match args.toList with
  | [x]=>(cX x).map fun x=> .xL .real x x
  |_=>none
 | .call {callee:= .builtin .imag,args, ..}=>
  match args.toList with
  | [x]=>(cX x).map fun x=> .xL .imag x x
  |_=>none
 | .makeSlice t l c=>
  match cX l,cX c,P.underlying t with
  |some l,some c,some (.slice e)=>match P.info? e,zeroOf P e with
   |some i,some z=>if 0<i.size then some (.Ci i.size i.bytes z l c)else none
   |_,_=>none
  |_,_,_=>none
 | .makeFunc (.func f) first captured=>if first.size=0 then(zn captured.toList).map (.DH f)else none
 | .makeMap t none=>match P.underlying t with|some (.map _ _)=>some .xK|_=>none
 | .mapUpdate t m k v=>
  match P.underlying t,cX m,cX k,cX v with
  |some (.map kt _),some m,some k,some v=>match P.underlying kt with|some .string=>some (.Ch m k v)|_=>none
  |_,_,_,_=>none
 | .lookup t m k false=>
  match P.underlying t,cX m,cX k with
  |some (.map kt e),some m,some k=>
   match P.underlying kt,P.info? e with
   |some .string,some i=>match i.zero with|some z=>(uk z).map (.AA m k)|none=>none
   |_,_=>none
  |_,_,_=>none
 |_=>none
def wT (ops:Array Oper):Option (Nat×Bool)→Option (Option (Nat×Bool))
 |none=>some none
 |some (j,b)=>
  match (ops[j]?).bind (·.dst)with
  |some t=>some (some (t,b))
  |none=>none
def enters (f:FuncId):Bool:=
 match P.funcs[f]? with
 |some fn=>fn.body.isSome && !(fn.name == "runtime.NumGoroutine")
 |none=>false
def frozenIn (ops:Array Oper) (dst:Option Nat):Bool:=
 ops.toList.any fun o=>match o.op,dst with
  | .convert s d (.tmp t),some t'=>t==t' && s==d
  |_,_=>false
def HU (o:Oper):Option (Bool×X):=
 match o.op with
 | .binOp op t x (.const (.slice none 0 0)) _=>
  match P.underlying t,op,cX x with
  |some (.slice _), .eql,some x=>some (false,x)
  |some (.slice _), .neq,some x=>some (true,x)
  |_,_,_=>none
 |_=>none
def Z4 (nt:Nat) (dst:Option Nat):Bool:=
 match dst with
 |some d=>decide (d<nt)
 |none=>true
def uO (ops:Array Oper) (o:Oper) (g:Option (Nat×Bool)):Option AI:=
 match o.op with
 | .call {callee:= .value (.func f),args, ..}=>if enters P f then(zn args.toList).map (.call o.dst g f)else none
 | .call {callee:= .value (.tmp t),args, ..}=>(zn args.toList).map (.k6 o.dst g t)
 | _=>
  match HU P o with
  |some (neg,x)=>some (.nil o.dst g neg x)
  |none=>
   match Gb P o with
   |some (.qw z k n ps)=>some (.op o.dst g (if frozenIn ops o.dst then .wR z k n ps else .qw z k n ps))
   |some ao=>some (.op o.dst g ao)
   |none=>none
def cI (nt:Nat) (ops:Array Oper) (o:Oper):Option AI:=
 match wT ops o.guard with
 |none=>none
 |some g=>if Z4 nt o.dst=true then uO P ops o g else none
def rP (nt:Nat) (ops:Array Oper):List Oper→Option (List AI)
 | []=>some []
 |o::r=>match cI P nt ops o,rP nt ops r with|some i,some is=>some (i::is)|_,_=>none
def Qv (is:List AI) (af:List (List Nat)):Option AC:=
 if F8 is af (F9 [] af) (TJ is af)then some (.par is (TJ is af))else none
def cC (nt:Nat):Code→Option AC
 | .skip=>some .skip
 | .region _ ops false=>(rP P nt ops ops.toList).map .run
 | .region _ ops true=>if P.follows .mixedOrders then(rP P nt ops ops.toList).bind (Qv · (ops.toList.map mr))else none
 | .seq a b=>match cC nt a,cC nt b with|some a,some b=>some (.seq a b)|_,_=>none
 | .cond x a b=>match cX x,cC nt a,cC nt b with|some x,some a,some b=>some (.cond x a b)|_,_,_=>none
 | .block id a=>(cC nt a).map (.block id)
 | .loop a=>(cC nt a).map .loop
 | .exit id=>some (.exit id)
 | .scope a=>(cC nt a).map .scope
 | .label l=>some (.label l)
 | .goto l=>some (.goto l)
 | .ret=>some .ret
 |_=>none
def Cn:List ResultVar→Option (List (Nat×Option (Bool×Nat)))
 | []=>some []
 | .tmp t::r=>(Cn r).map ((t,none):: ·)
 | .cell a t::r=>match sT P t,P.info? t,Cn r with
  |some g,some i,some r'=>some ((a,some (g,i.size))::r')
  |_,_,_=>none
def cF (fn:Func):Option AF:=
 match fn.body with
 |some c=>match cC P fn.ntmps c,Cn P fn.results.toList with
  |some b,some r=>some ⟨fn.ntmps,r,b⟩
  |_,_=>none
 |none=>none
end
end Go.Abs
namespace Go.Abs
theorem j8 {w:World} {b:Nat} {vs:Array Value} {T:TypeId} {fr:Nat×Nat} (h:w.heap[b]? = some (.cells vs T fr)) (o:Nat):w.cell? ⟨b,o,none⟩=vs[o]? :=by
 simp[World.cell?,h]
theorem k7 {w:World} {b:Nat} {o:Obj} (h:w.heap[b]? = some o):b<w.heap.size:=(zaT.1 h).1
section
variable {M:Map} {s:St} {w:World}
theorem Rel.Co (r:Rel M s w) {b o:Nat} {v:Value} (h:M.G b o=some v):b<w.heap.size:=World.block_lt_of_cell? w _ (r.comm b o v h).1
theorem Rel.Qw (r:Rel M s w) {b:Nat} (h:w.heap.size≤b) (o:Nat):M.G b o=none:=by
 cases e:M.G b o with
 |none=>rfl
 |some v=>have:=r.Co e;omega
theorem Rel.sc (r:Rel M s w) {o:Nat} (h:o<s.aq.length):M.mu o<w.heap.size:=by
 obtain⟨vs,T,hh,_⟩:=r.obj o _ (zah h)
 exact hh.lt
theorem Rel.uP (r:Rel M s w) {t b c z:Nat} (h:s.live t) (e:M.be t=some (b,c,z)):b<w.heap.size:=by
 obtain⟨n,hn⟩:=h
 rcases r.tok t n hn with ⟨h1,_⟩|⟨b',cap,size,vs,T,h1,h2,_⟩
 ·rw[e]at h1;cases h1
 ·rw[e]at h1;cases h1;exact k7 h2
theorem Rel.of_heap (r:Rel M s w) {w':World} (h:w'.heap=w.heap):Rel M s w':=by
 refine⟨fun b o v e=>?_,fun o ds e=>?_,r.kv,r.inj,fun t n e=>?_,r.fw,r.gP⟩
 ·obtain⟨h1,h2⟩:=r.comm b o v e
  refine⟨?_,h2⟩
  rw[← h1];simp[World.cell?,h]
 ·rw[h];exact r.obj o ds e
 ·rw[h];exact r.tok t n e
theorem Ext.of_heap {w':World} (h:w'.heap=w.heap) (h1:w'.os=w.os) (h2:w'.tape=w.tape) (h3:w'.output=w.output):Ext M s w M s w':=
 ⟨Le.refl M s,fun _ _ _ _=>by rw[h],fun o h h'=>by rcases h with h|h;omega;exact(h rfl).elim,fun t b c z h e=> .inl ⟨h,c,z,e⟩,fun _ _ h=>(h rfl).elim,by rw[h];exact zal _,h1,h2,h3⟩
def Map.ep (M:Map) (n b:Nat) (x:Ob:= .any):Map:= {M with loc:=fun o=>if o=n then(b,x)else M.loc o}
theorem vb (M:Map) {n:Nat} (b:Nat) (x:Ob) {o:Nat} (ho:o<n):(M.ep n b x).loc o=M.loc o:=by simp[Map.ep];omega
theorem um (s:St) (b:Nat) (ds:List D) (x:Ob:= .any):Le M s (M.ep s.aq.length b x) {s with aq:=s.aq++ [ds]}:=
 ⟨fun _ _ _ h=>h,by simp,fun o ho=>by rw[vb M b x ho];exact .refl _,zal _,fun t n _ h=>⟨n,h,zal _,fun _=>rfl⟩⟩
theorem Rel.Ls (r:Rel M s w) (ds:List D) (ob:Obj) (vs:Array Value) (T:TypeId) (x:Ob) (zo : ∀ hp:Array Obj,hp[w.heap.size]? = some ob→jF hp (w.heap.size,x) vs T) (hx : ∀ T',x.ty? = some T'→T'=T) (hl:vs.size=ds.length) (h1 : ∀ v∈vs,v.oneCell'=true)
 (h2 : ∀ (i:Nat) (d:D) (v:Value),ds[i]? = some d→vs[i]? = some v→RD (M.ep s.aq.length w.heap.size x) {s with aq:=s.aq++ [ds]} d v) :
 Rel (M.ep s.aq.length w.heap.size x) {s with aq:=s.aq++ [ds]} (w.alloc ob)∧
 Ext M s w (M.ep s.aq.length w.heap.size x) {s with aq:=s.aq++ [ds]} (w.alloc ob):=by
 have le:=um (M:=M) s w.heap.size ds x
 have ky : ∀ o,o<s.aq.length→(M.ep s.aq.length w.heap.size x).loc o=M.loc o:=fun o ho=>vb M _ x ho
 have oD : ∀ o,o<s.aq.length→(M.ep s.aq.length w.heap.size x).mu o=M.mu o:=fun o ho=>congrArg Prod.fst (ky o ho)
 have du:(M.ep s.aq.length w.heap.size x).mu s.aq.length=w.heap.size:=by simp[Map.ep,Map.mu]
 have ah6:(M.ep s.aq.length w.heap.size x).ty s.aq.length=x.ty? :=by simp[Map.ep,Map.ty]
 have ah7:(M.ep s.aq.length w.heap.size x).loc s.aq.length=(w.heap.size,x):=by simp[Map.ep]
 refine⟨⟨fun b o v e=>?_,fun o o6 e=>?_,fun o ho off=>?_,fun o o' ho n9 e=>?_,fun t n e=>?_,fun t b c z o hl e ho=>?_,fun t t' b c z c' z' h h' e e'=>r.gP t t' b c z c' z' h h' e e'⟩, ?_⟩
 ·obtain⟨h3,h4⟩:=r.comm b o v e
  refine⟨?_,h4⟩
  rw[World.cell?_alloc_lt]
  ·exact h3
  ·exact r.Co e
 ·rcases zaE o s.aq.length with ho | ho
  ·rw [zak ho]at e
   obtain⟨fP,T',h3,h4,h5,h6⟩:=r.obj o o6 e
   refine⟨fP,T', ?_,h4,⟨h5.1,by rw[le.ty o ho];exact h5.2⟩,fun i d v e1 e2=>(h6 i d v e1 e2).mono le⟩
   rw[ky o ho];exact h3.keep (heap_alloc_old w _ _ h3.lt)
  ·rw [zas ho]at e
   have:o=s.aq.length:=by
    have:=(zac.1 e).1
    simp at this;omega
   subst this
   simp at e;subst e
   refine⟨vs,T, ?_,hl,⟨h1,by rw[ah6];exact hx⟩,fun i d v e1 e2=>h2 i d v e1 e2⟩
   rw[ah7];exact zo _ (heap_alloc_new w _)
 ·simp at ho
  rcases zaE o s.aq.length with h3|h3
  ·rw[oD o h3];exact r.kv o h3 off
  ·have:o=s.aq.length:=by omega
   subst this
   rw[du];exact r.Qw (zal _) off
 ·simp at ho n9
  rcases zaE o s.aq.length with h3|h3<;>rcases zaE o' s.aq.length with h4|h4
  ·rw[oD o h3,oD o' h4]at e;exact r.inj o o' h3 h4 e
  ·have:o'=s.aq.length:=by omega
   subst this
   rw[oD o h3,du]at e
   have:=r.sc h3;omega
  ·have:o=s.aq.length:=by omega
   subst this
   rw[oD o' h4,du]at e
   have:=r.sc h4;omega
  ·omega
 ·rcases r.tok t n e with h3 | ⟨b,cap,size,fP,T',h3,h4,h5⟩
  ·exact .inl h3
  ·exact .inr ⟨b,cap,size,fP,T',h3,by rw[heap_alloc_old w _ _ (k7 h4)];exact h4,h5⟩
 ·simp at ho
  rcases zaE o s.aq.length with h3|h3
  ·rw[oD o h3];exact r.fw t b c z o hl e h3
  ·have:o=s.aq.length:=by omega
   subst this
   rw[du]
   have:=r.uP hl e;omega
 ·refine⟨le,fun b hb _ _=>heap_alloc_old w _ b hb,fun o h3 h4=> ?_,fun t b c z h e=> .inl ⟨h,c,z,e⟩,fun _ _ h=>(h rfl).elim,by simp,rfl,rfl,rfl⟩
  simp at h4
  rcases zaE o s.aq.length with h5|h5
  ·rcases h3 with h3 | h3
   ·omega
   ·exact(h3 (oD o h5)).elim
  have:o=s.aq.length:=by omega
  subst this
  rw[du];exact zal _
theorem Rel.Lt (r:Rel M s w) (ds:List D) (vs:Array Value) (T:TypeId) (x:Ob) (hk:x.plain) (hx : ∀ T',x.ty? = some T'→T'=T) (hl:vs.size=ds.length) (h1 : ∀ v∈vs,v.oneCell'=true)
 (h2 : ∀ (i:Nat) (d:D) (v:Value),ds[i]? = some d→vs[i]? = some v→RD (M.ep s.aq.length w.heap.size x) {s with aq:=s.aq++ [ds]} d v) :
 Rel (M.ep s.aq.length w.heap.size x) {s with aq:=s.aq++ [ds]} (w.alloc (.cells vs T))∧
 Ext M s w (M.ep s.aq.length w.heap.size x) {s with aq:=s.aq++ [ds]} (w.alloc (.cells vs T)):=
 r.Ls ds _ vs T x (fun hp e=>jF.of e hk) hx hl h1 h2
theorem Rel.ep (r:Rel M s w) (ds:List D) (vs:Array Value) (T:TypeId) (hl:vs.size=ds.length) (h1 : ∀ v∈vs,v.oneCell'=true)
 (h2 : ∀ (i:Nat) (d:D) (v:Value),ds[i]? = some d→vs[i]? = some v→RD M s d v) :
 Rel (M.ep s.aq.length w.heap.size) {s with aq:=s.aq++ [ds]} (w.alloc (.cells vs T))∧
 Ext M s w (M.ep s.aq.length w.heap.size) {s with aq:=s.aq++ [ds]} (w.alloc (.cells vs T)):=
 r.Lt ds vs T .any trivial (fun _ h=>by cases h) hl h1 fun i d v e1 e2=>(h2 i d v e1 e2).mono (um s w.heap.size ds)
theorem sU (cs:List D) (off:Nat) (r:List D) (h:off+r.length≤cs.length) (i:Nat) :
 (gV cs off r)[i]? = if i<off then cs[i]? else if i<off+r.length then r[i - off]? else cs[i]? :=by
 unfold gV
 have hl:(cs.take off).length=off:=by simp;omega
 split
 ·rename_i h1
  rw[zaB,zak (by omega),zbn h1]
 ·rename_i h1
  rw[zaB,zas (by omega),hl]
  split
  ·rename_i h2
   rw[zak (by omega)]
  ·rename_i h2
   rw[zas (by omega),zbq]
   congr 1;omega
theorem vI (cs:List D) (off:Nat) (r:List D) (h:off+r.length≤cs.length):(gV cs off r).length=cs.length:=by
 unfold gV;simp;omega
theorem Rel.Qx (P:Program) (r:Rel M s w) {o off:Nat} {cs:List D} (he:s.aq[o]? = some cs) (hk:(M.ob o).plain) (row:List D) (us:List Value) (hu:us.length=row.length) (iB:off+row.length≤cs.length)
 (h1 : ∀ u∈us,u.oneCell'=true) (h2 : ∀ (i:Nat) (d:D) (v:Value),row[i]? = some d→us[i]? = some v→RD M s d v) :
 ∃ w',(storeCells (⟨M.mu o,off,none⟩:Addr) us).run P w = .ok () w'∧Rel M {s with aq:=s.aq.set o (gV cs off row)} w'∧Ext M s w M {s with aq:=s.aq.set o (gV cs off row)} w':=by
 obtain⟨vs,T,hh,hs,⟨ig,Z5⟩,jG⟩:=r.obj o cs he
 replace hh:=hh.cells hk
 have ho:o<s.aq.length:=(zac.1 he).1
 have gd:=run_storeCells_at P (M.mu o) off T us 0 vs w hh (by omega) h1
 simp only[zaS]at gd
 have le:Le M s M {s with aq:=s.aq.set o (gV cs off row)}:=
  ⟨fun _ _ _ h=>h,by simp,fun _ _=> .refl _,zal _,fun t n _ h=>⟨n,h,zal _,fun _=>rfl⟩⟩
 generalize du:(vs.toList.take off++us++vs.toList.drop (off+us.length)).toArray=jR at gd
 have sV:jR.size=vs.size:=by rw[← du];simp;omega
 have hY : ∀ i,jR[i]? = if i<off then vs[i]? else if i<off+row.length then us[i - off]? else vs[i]? :=by
  intro i
  rw[← du]
  simp only[zbB]
  have hl:(vs.toList.take off).length=off:=by simp;omega
  split
  ·rename_i h3
   rw[zaB,zak (by omega),zbn h3];simp
  ·rename_i h3
   rw[zaB,zas (by omega),hl]
   split
   ·rename_i h4
    rw[zak (by omega)]
   ·rename_i h4
    rw[zas (by omega),zbq]
    rw[show off+us.length+(i - off - us.length)=i by omega];simp
 have np : ∀ b,b≠M.mu o→(w.setRow (M.mu o) jR).heap[b]? = w.heap[b]? :=fun b hb=>setRow_other w (M.mu o) b _ hb
 refine⟨_,gd,⟨fun b q v e=>?_,fun o' ds e=>?_,fun q hq yH=>r.kv q (by simpa using hq) yH,fun q q' hq nq e=>r.inj q q' (by simpa using hq) (by simpa using nq) e,fun t n e=>?_,
  fun t b c z q hl e hq=>r.fw t b c z q hl e (by simpa using hq),fun t t' b c z c' z' h h' e e'=>r.gP t t' b c z c' z' h h' e e'⟩, ?_⟩
 ·obtain⟨h3,h4⟩:=r.comm b q v e
  refine⟨?_,h4⟩
  have hb:b≠M.mu o:=fun eq=>by subst eq;rw[r.kv o ho q]at e;cases e
  rw[← h3]
  simp[World.cell?,np b hb]
 ·rw [zaL]at e
  split at e
  ·rename_i heq
   subst heq
   simp at e
   obtain⟨_,rfl⟩:=e
   refine⟨jR,T,jF.of (l:=M.loc o) (setRow_heap w (M.mu o) vs jR T (0,0) hh) hk,by rw[sV,hs,vI cs off row iB],⟨fun v hv=>?_,Z5⟩,fun i d v e1 e2=>?_⟩
   ·rw [← du]at hv
    simp at hv
    rcases hv with hv|hv|hv
    ·exact ig v (zaU.1 (za5 hv))
    ·exact h1 v hv
    ·exact ig v (zaU.1 (zbH hv))
   ·rw [sU cs off row iB]at e1
    rw[hY]at e2
    split at e1
    ·rename_i h3;simp only[h3,if_true]at e2;exact(jG i d v e1 e2).mono le
    ·rename_i h3
     simp only[h3,if_false]at e2
     split at e1
     ·rename_i h4;simp only[h4,if_true]at e2;exact(h2 _ d v e1 e2).mono le
     ·rename_i h4;simp only[h4,if_false]at e2;exact(jG i d v e1 e2).mono le
  ·rename_i eO
   obtain⟨fP,T',h3,h4,h5,h6⟩:=r.obj o' ds e
   have n9:o'<s.aq.length:=(zac.1 e).1
   refine⟨fP,T', ?_,h4,h5,fun i d v e1 e2=>(h6 i d v e1 e2).mono le⟩
   exact h3.keep (np _ (fun eq=>eO (r.inj o o' ho n9 eq.symm)))
 ·rcases r.tok t n e with h3 | ⟨b,cap,size,fP,T',h3,h4,h5⟩
  ·exact .inl h3
  ·refine .inr ⟨b,cap,size,fP,T',h3, ?_,h5⟩
   rw[np b (fun eq=>r.fw t b cap size o ⟨n,e⟩ h3 ho eq.symm)];exact h4
 ·refine⟨le,fun b hb h3 _=>np b (fun eq=>h3 o ho eq.symm),fun q h3 h4=> ?_,fun t b c z h e=> .inl ⟨h,c,z,e⟩,fun _ _ h=>(h rfl).elim,by simp,rfl,rfl,rfl⟩
  simp at h4;rcases h3 with h3|h3;omega;exact(h3 rfl).elim
def Map.gD (M:Map) (b n:Nat) (vs:Array Value):Map:= {M with G:=fun b' o=>if b'=b then(if o<n then vs[o]? else none)else M.G b' o}
theorem TN (r:Rel M s w) (n:Nat) (vs:Array Value):Le M s (M.gD w.heap.size n vs) s:=
 ⟨fun b o v h=>by
  have hb:b≠w.heap.size:=fun e=>by have:=r.Co h;omega
  simp[Map.gD,hb,h],zal _,fun _ _=> .refl _,zal _,fun t n _ h=>⟨n,h,zal _,fun _=>rfl⟩⟩
theorem Rel.gD (r:Rel M s w) (n:Nat) (vs:Array Value) (T:TypeId) (fr:Nat×Nat) (h1 : ∀ v∈vs,v.oneCell'=true) :
 Rel (M.gD w.heap.size n vs) s (w.alloc (.cells vs T fr))∧Ext M s w (M.gD w.heap.size n vs) s (w.alloc (.cells vs T fr)):=by
 have le:=TN r n vs
 have hold : ∀ b,b<w.heap.size→∀ o,(M.gD w.heap.size n vs).G b o=M.G b o:=fun b hb o=>by
  have:b≠w.heap.size:=by omega
  simp[Map.gD,this]
 refine⟨⟨fun b o v e=>?_,fun o ds e=>?_,fun o ho off=>?_,r.inj,fun t k e=>?_,r.fw,r.gP⟩, ?_⟩
 ·by_cases hb:b=w.heap.size
  ·subst hb
   simp[Map.gD]at e
   obtain⟨_,e⟩:=e
   refine⟨by rw[j8 (heap_alloc_new w _)];exact e,h1 v (zbJ e)⟩
  ·simp [Map.gD,hb]at e
   obtain⟨h3,h4⟩:=r.comm b o v e
   refine⟨?_,h4⟩
   rw[World.cell?_alloc_lt]
   ·exact h3
   ·exact r.Co e
 ·obtain⟨fP,T',h3,h4,h5,h6⟩:=r.obj o ds e
  exact⟨fP,T',h3.keep (heap_alloc_old w _ _ h3.lt),h4,h5,fun i d v e1 e2=>(h6 i d v e1 e2).mono le⟩
 ·rw [hold]
  ·exact r.kv o ho off
  ·exact r.sc ho
 ·rcases r.tok t k e with h3 | ⟨b,cap,size,fP,T',h3,h4,h5,h6,h7⟩
  ·exact .inl h3
  ·exact .inr ⟨b,cap,size,fP,T',h3,by rw[heap_alloc_old w _ _ (k7 h4)];exact h4,h5,h6,fun off ho=>by rw[hold b (k7 h4)];exact h7.1 off ho,h7.2⟩
 ·refine⟨le,fun b hb _ _=>heap_alloc_old w _ b hb,fun o h3 h4=>by rcases h3 with h3 | h3;omega;exact(h3 rfl).elim,fun t b c z h e=> .inl ⟨h,c,z,e⟩,fun b o h=> ?_,by simp,rfl,rfl,rfl⟩
  rcases zaE b w.heap.size with hb|hb
  ·exact(h (hold b hb o)).elim
  ·exact .inl hb
def Map.fa (M:Map) (t:Nat) (x:Option (Nat×Nat×Nat)):Map:= {M with be:=fun t'=>if t'=t then x else M.be t'}
theorem Rel.Z6 (r:Rel M s w) (n b cap size:Nat) (vs:Array Value) (T:TypeId) (hb:w.heap[b]? = some (.cells vs T (0,0))) (dT:vs.size=cap*zs size) (hn:n≤cap) (hy:size=0→T=qZ)
 (hG : ∀ off,n*zs size≤off→M.G b off=none) (ho : ∀ o,o<s.aq.length→M.mu o≠b) (ht : ∀ t c z,s.live t→M.be t≠some (b,c,z)) :
 Rel (M.fa s.ay.length (some (b,cap,size))) {s with ay:=s.ay++ [some n]} w∧Le M s (M.fa s.ay.length (some (b,cap,size))) {s with ay:=s.ay++ [some n]}:=by
 have jH : ∀ t,St.live {s with ay:=s.ay++ [some n]} t→s.live t∨t=s.ay.length:=by
  rintro t ⟨k,hk⟩
  rcases zaE t s.ay.length with h|h
  ·rw[zak h]at hk;exact .inl ⟨k,hk⟩
  ·have:=(zac.1 hk).1
   simp at this;exact .inr (by omega)
 have hD : ∀ t,s.live t→t<s.ay.length:=fun t ⟨k,hk⟩=>(zac.1 hk).1
 have hold : ∀ t,t<s.ay.length→(M.fa s.ay.length (some (b,cap,size))).be t=M.be t:=fun t h=>by simp[Map.fa];omega
 have du:(M.fa s.ay.length (some (b,cap,size))).be s.ay.length=some (b,cap,size):=by simp[Map.fa]
 have le:Le M s (M.fa s.ay.length (some (b,cap,size))) {s with ay:=s.ay++ [some n]}:=
  ⟨fun _ _ _ h=>h,zal _,fun _ _=> .refl _,by simp,fun t k h e=>by
   rw[zak h]at e
   exact⟨k,e,zal _,fun _=>hold t h⟩⟩
 refine⟨⟨r.comm,fun o ds e=>?_,r.kv,r.inj,fun t k e=>?_,fun t b' c z o hl e n9=>?_,fun t t' b' c z c' z' h h' e e'=>?_⟩,le⟩
 ·obtain⟨fP,T',h3,h4,h5,h6⟩:=r.obj o ds e
  exact⟨fP,T',h3,h4,h5,fun i d v e1 e2=>(h6 i d v e1 e2).mono le⟩
 ·rcases zaE t s.ay.length with h | h
  ·rw [zak h]at e
   rw[hold t h];exact r.tok t k e
  ·have:=(zac.1 e).1
   simp at this
   have:t=s.ay.length:=by omega
   subst this
   simp at e;subst e
   exact .inr ⟨b,cap,size,vs,T,du,hb,dT,hn,hG,hy⟩
 ·rcases jH t hl with h | h
  ·rw[hold t (hD t h)]at e;exact r.fw t b' c z o h e n9
  ·subst h;rw[du]at e;cases e;exact ho o n9
 ·rcases jH t h with h | h <;> rcases jH t' h' with h' | h'
  ·rw[hold t (hD t h)]at e;rw[hold t' (hD t' h')]at e';exact r.gP t t' b' c z c' z' h h' e e'
  ·subst h';rw[du]at e';cases e';rw[hold t (hD t h)]at e;exact(ht t c z h e).elim
  ·subst h;rw[du]at e;cases e;rw[hold t' (hD t' h')]at e';exact(ht t' c' z' h' e').elim
  ·omega
theorem Rel.ah8 (r:Rel M s w) (t n n' b cap size:Nat) (vs:Array Value) (T:TypeId) (Gc:s.ay[t]? = some (some n)) (Z7:n<n') (hb:w.heap[b]? = some (.cells vs T (0,0))) (dT:vs.size=cap*zs size) (hn:n'≤cap) (hy:size=0→T=qZ)
 (hG : ∀ off,n'*zs size≤off→M.G b off=none) (ho : ∀ o,o<s.aq.length→M.mu o≠b) (ht : ∀ t c z,s.live t→M.be t≠some (b,c,z)) :
 Rel (M.fa t (some (b,cap,size))) {s with ay:=s.ay.set t (some n')} w∧Le M s (M.fa t (some (b,cap,size))) {s with ay:=s.ay.set t (some n')}:=by
 have zp:t<s.ay.length:=(zac.1 Gc).1
 have jH : ∀ q,St.live {s with ay:=s.ay.set t (some n')} q→s.live q:=by
  rintro q ⟨k,hk⟩
  rw[zaL]at hk
  split at hk
  ·rename_i h;subst h;exact⟨n,Gc⟩
  ·exact⟨k,hk⟩
 have hold : ∀ q,q≠t→(M.fa t (some (b,cap,size))).be q=M.be q:=fun q h=>by simp[Map.fa,h]
 have du:(M.fa t (some (b,cap,size))).be t=some (b,cap,size):=by simp[Map.fa]
 have le:Le M s (M.fa t (some (b,cap,size))) {s with ay:=s.ay.set t (some n')}:=
  ⟨fun _ _ _ h=>h,zal _,fun _ _=> .refl _,by simp,fun q k h e=>by
   rw[zaL]at e
   split at e
   ·rename_i h2;subst h2
    simp at e;subst e
    exact⟨n,Gc,by omega,fun h=>by omega⟩
   ·rename_i h2
    exact⟨k,e,zal _,fun _=>hold q (fun h=>h2 h.symm)⟩⟩
 refine⟨⟨r.comm,fun o ds e=>?_,r.kv,r.inj,fun q k e=>?_,fun q b' c z o hl e n9=>?_,fun q q' b' c z c' z' h h' e e'=>?_⟩,le⟩
 ·obtain⟨fP,T',h3,h4,h5,h6⟩:=r.obj o ds e
  exact⟨fP,T',h3,h4,h5,fun i d v e1 e2=>(h6 i d v e1 e2).mono le⟩
 ·rw [zaL]at e
  split at e
  ·rename_i h2;subst h2
   simp at e;subst e
   exact .inr ⟨b,cap,size,vs,T,du,hb,dT,hn,hG,hy⟩
  ·rename_i h2
   rw[hold q (fun h=>h2 h.symm)];exact r.tok q k e
 ·by_cases h:q=t
  ·subst h;rw[du]at e;cases e;exact ho o n9
  ·rw[hold q h]at e;exact r.fw q b' c z o (jH q hl) e n9
 ·by_cases h1:q=t <;> by_cases h2:q'=t
  ·omega
  ·subst h1;rw[du]at e;cases e;rw[hold q' h2]at e';exact(ht q' c' z' (jH q' h') e').elim
  ·subst h2;rw[du]at e';cases e';rw[hold q h1]at e;exact(ht q c z (jH q h) e).elim
  ·rw[hold q h1]at e;rw[hold q' h2]at e';exact r.gP q q' b' c z c' z' (jH q h) (jH q' h') e e'
def Map.fix (M:Map) (b lo:Nat) (us:List Value):Map:=
 {M with G:=fun b' o=>if b'=b∧lo≤o∧o<lo+us.length then us[o - lo]? else M.G b' o}
theorem Rel.ah9 (r:Rel M s w) (t n m b cap z size:Nat) (us:List Value) (hz:zs z=size) (Gc:s.ay[t]? = some (some n)) (lM:M.be t=some (b,cap,z)) (Ep:us.length=m*size) (iF:n+m≤cap) (hm:0<m)
 (h1 : ∀ u∈us,u.oneCell'=true) (vs:Array Value) (T:TypeId) (hh:w.heap[b]? = some (.cells vs T (0,0))) (dT:vs.size=cap*size) (hy:z=0→T=qZ) :
 Rel (M.fix b (n*size) us) {s with ay:=s.ay.set t (some (n+m))} (w.setRow b (vs.toList.take (n*size)++us++vs.toList.drop (n*size+us.length)).toArray)∧
 Ext M s w (M.fix b (n*size) us) {s with ay:=s.ay.set t (some (n+m))} (w.setRow b (vs.toList.take (n*size)++us++vs.toList.drop (n*size+us.length)).toArray):=by
 have zp:t<s.ay.length:=(zac.1 Gc).1
 have zr:s.live t:=⟨n,Gc⟩
 have Qy : ∀ off,n*size≤off→M.G b off=none:=by
  rcases r.tok t n Gc with ⟨h3,_⟩|⟨b',sn,AL,fP,T',h3,h4,h5,h6,h7⟩
  ·rw[lM]at h3;cases h3
  ·rw[lM]at h3;cases h3;rw[← hz];exact h7.1
 have iB:n*size+us.length≤vs.size:=by rw[Ep,dT, ← zbm];exact zaO _ iF
 have jH : ∀ q,St.live {s with ay:=s.ay.set t (some (n+m))} q→s.live q:=by
  rintro q ⟨k,hk⟩
  rw[zaL]at hk
  split at hk
  ·rename_i h;subst h;exact zr
  ·exact⟨k,hk⟩
 generalize du:(vs.toList.take (n*size)++us++vs.toList.drop (n*size+us.length)).toArray=jR
 have sV:jR.size=vs.size:=by rw[← du];simp;omega
 have hY : ∀ i,jR[i]? = if i<n*size then vs[i]? else if i<n*size+us.length then us[i - n*size]? else vs[i]? :=by
  intro i
  rw[← du]
  simp only[zbB]
  have hl:(vs.toList.take (n*size)).length=n*size:=by simp;omega
  split
  ·rename_i h3
   rw[zaB,zak (by omega),zbn h3];simp
  ·rename_i h3
   rw[zaB,zas (by omega),hl]
   split
   ·rename_i h4
    rw[zak (by omega)]
   ·rename_i h4
    rw[zas (by omega),zbq]
    rw[show n*size+us.length+(i - n*size - us.length)=i by omega];simp
 have dX:(w.setRow b jR).heap[b]? = some (.cells jR T (0,0)):=setRow_heap w b vs jR T (0,0) hh
 have np : ∀ q,q≠b→(w.setRow b jR).heap[q]? = w.heap[q]? :=fun q hq=>setRow_other w b q _ hq
 have le:Le M s (M.fix b (n*size) us) {s with ay:=s.ay.set t (some (n+m))}:=by
  refine⟨fun b' o v h=>?_,zal _,fun _ _=> .refl _,by simp,fun q k h e=>?_⟩
  ·show(if b'=b∧n*size≤o∧o<n*size+us.length then us[o - n*size]? else M.G b' o)=some v
   rw[if_neg]
   ·exact h
   ·rintro⟨rfl,h3,_⟩;rw[Qy o h3]at h;cases h
  ·rw [zaL]at e
   split at e
   ·rename_i h2;subst h2
    simp at e;subst e
    exact⟨n,Gc,by omega,fun h=>by omega⟩
   ·exact⟨k,e,zal _,fun _=>rfl⟩
 have rQ : ∀ b' o,b'≠b→(M.fix b (n*size) us).G b' o=M.G b' o:=fun b' o h=>by simp[Map.fix,h]
 refine⟨⟨fun b' o v e=>?_,fun o ds e=>?_,fun o ho off=>?_,r.inj,fun q k e=>?_,fun q b' c z o hl e n9=>r.fw q b' c z o (jH q hl) e n9,
  fun q q' b' c z c' z' h h' e e'=>r.gP q q' b' c z c' z' (jH q h) (jH q' h') e e'⟩, ?_⟩
 ·by_cases hb:b'=b
  ·subst hb
   rw[j8 dX,hY]
   have e':(if b'=b'∧n*size≤o∧o<n*size+us.length then us[o - n*size]? else M.G b' o)=some v:=e
   by_cases h3:n*size≤o
   ·by_cases h4:o<n*size+us.length
    ·rw [if_pos ⟨rfl,h3,h4⟩]at e'
     rw[if_neg (by omega),if_pos h4]
     exact⟨e',h1 v (zad e')⟩
    ·rw[if_neg (fun h=>h4 h.2.2),Qy o h3]at e';cases e'
   ·rw [if_neg (fun h=>h3 h.2.1)]at e'
    obtain⟨h5,h6⟩:=r.comm b' o v e'
    rw[j8 hh]at h5
    rw[if_pos (by omega)]
    exact⟨h5,h6⟩
  ·rw [rQ b' o hb]at e
   obtain⟨h5,h6⟩:=r.comm b' o v e
   refine⟨?_,h6⟩
   rw[← h5]
   simp[World.cell?,np b' hb]
 ·obtain⟨fP,T',h3,h4,h5,h6⟩:=r.obj o ds e
  have ho:o<s.aq.length:=(zac.1 e).1
  refine⟨fP,T', ?_,h4,h5,fun i d v e1 e2=>(h6 i d v e1 e2).mono le⟩
  exact h3.keep (np _ (r.fw t b cap z o zr lM ho))
 ·show(M.fix b (n*size) us).G (M.mu o) off=none
  rw[rQ _ _ (r.fw t b cap z o zr lM ho)];exact r.kv o ho off
 ·rw [zaL]at e
  split at e
  ·rename_i h2;subst h2
   simp at e;subst e
   refine .inr ⟨b,cap,z,jR,T,lM,dX,by rw[sV,dT,hz],iF,fun off ho=>?_,hy⟩
   rw[hz]at ho
   show(if b=b∧n*size≤off∧off<n*size+us.length then us[off - n*size]? else M.G b off)=none
   rw[zbm]at ho
   rw[if_neg (by rintro⟨_,_,h⟩;omega)]
   exact Qy off (by omega)
  ·rename_i h2
   rcases r.tok q k e with h3|⟨b',sn,AL,fP,T',h3,h4,h5,h6,h7⟩
   ·exact .inl h3
   ·have eO:b'≠b:=fun h=>h2 (r.gP t q b cap z sn AL zr ⟨k,e⟩ lM (by rw [h3,h]))
    exact .inr ⟨b',sn,AL,fP,T',h3,by rw[np b' eO];exact h4,h5,h6,fun off ho=>by rw[rQ b' off eO];exact h7.1 off ho,h7.2⟩
 ·refine⟨le,fun q _ _ h4=>np q (fun h=>h4 t cap z zr (by rw [lM,h])),fun o h3 h4=>by simp at h4;rcases h3 with h3 | h3;omega;exact(h3 rfl).elim,fun q b' c z h e=> .inl ⟨jH q h,c,z,e⟩,fun b' o h=> ?_,by simp,rfl,rfl,rfl⟩
  by_cases hb:b'=b
  ·exact .inr ⟨t,cap,z,zr,by rw[lM,hb]⟩
  ·exact(h (rQ b' o hb)).elim
theorem Rel.freeze (r:Rel M s w) {b:Nat} (off n:Nat) (ho : ∀ o,o<s.aq.length→M.mu o≠b) (ht : ∀ t c z,s.live t→M.be t≠some (b,c,z)) :
 Rel M s (w.freeze ⟨b,off,none⟩ n)∧(∀ q,q≠b→(w.freeze ⟨b,off,none⟩ n).heap[q]? = w.heap[q]?)∧(w.freeze ⟨b,off,none⟩ n).heap.size=w.heap.size∧
 (w.freeze ⟨b,off,none⟩ n).os=w.os∧(w.freeze ⟨b,off,none⟩ n).tape=w.tape∧(w.freeze ⟨b,off,none⟩ n).output=w.output:=by
 by_cases hn:n=0
 ·simp[World.freeze,hn,r]
 ·have hh : ∀ q,q≠b→(w.freeze ⟨b,off,none⟩ n).heap[q]? = w.heap[q]? :=fun q hq=>by
   simp[World.freeze,hn,zbT,Ne.symm hq]
  have iN : ∀ q o,(w.freeze ⟨b,off,none⟩ n).cell? ⟨q,o,none⟩=w.cell? ⟨q,o,none⟩:=by
   intro q o
   by_cases hq:q=b
   ·subst hq
    unfold World.cell?
    simp only[World.freeze,hn,if_false,zbT,if_true]
    cases h:w.heap[q]? with
    |none=>rfl
    |some x=>cases x<;>rfl
   ·simp[World.cell?,hh q hq]
  refine⟨⟨fun q o v e=>?_,fun o ds e=>?_,r.kv,r.inj,fun t k e=>?_,r.fw,r.gP⟩,hh,by simp[World.freeze,hn],by simp[World.freeze,hn],by simp[World.freeze,hn],by simp[World.freeze,hn]⟩
  ·rw[iN];exact r.comm q o v e
  ·obtain⟨vs,T,h1,h2⟩:=r.obj o ds e
   exact⟨vs,T,h1.keep (hh _ (ho o (zac.1 e).1)),h2⟩
  ·rcases r.tok t k e with h3 | ⟨b',cap,size,vs,T,h3,h4,h5⟩
   ·exact .inl h3
   ·refine .inr ⟨b',cap,size,vs,T,h3, ?_,h5⟩
    rw[hh]
    ·exact h4
    ·rintro rfl;exact ht t cap size ⟨k,e⟩ h3
theorem Rel.aia (r:Rel M s w) (t:Nat):Rel M {s with ay:=s.ay.set t none} w∧Le M s M {s with ay:=s.ay.set t none}:=by
 have jH : ∀ q,St.live {s with ay:=s.ay.set t none} q→s.live q:=by
  rintro q ⟨k,hk⟩
  rw[zaL]at hk
  split at hk
  ·split at hk<;>simp at hk
  ·exact⟨k,hk⟩
 have vJ : ∀ (q k:Nat),(s.ay.set t none)[q]? = some (some k)→s.ay[q]? = some (some k):=by
  intro q k e
  rw[zaL]at e
  split at e
  ·split at e<;>simp at e
  ·exact e
 have le:Le M s M {s with ay:=s.ay.set t none}:=
  ⟨fun _ _ _ h=>h,zal _,fun _ _=> .refl _,by simp,fun q k _ e=>⟨k,vJ q k e,zal _,fun _=>rfl⟩⟩
 refine⟨⟨r.comm,fun o ds e=>?_,r.kv,r.inj,fun q k e=>r.tok q k (vJ q k e),fun q b' c z o hl e n9=>r.fw q b' c z o (jH q hl) e n9,
  fun q q' b' c z c' z' h h' e e'=>r.gP q q' b' c z c' z' (jH q h) (jH q' h') e e'⟩,le⟩
 obtain⟨fP,T',h3,h4,h5,h6⟩:=r.obj o ds e
 exact⟨fP,T',h3,h4,h5,fun i d v e1 e2=>(h6 i d v e1 e2).mono le⟩
end
end Go.Abs
namespace Go.Abs
section
variable {M:Map} {s:St} {w:World}
theorem RD.iV {k:IntKind} {n:Int} {v:Value} (h:RD M s (.int k n) v):v = .int k n:=by cases h;rfl
theorem RD.pj {b:Bool} {v:Value} (h:RD M s (.bool b) v):v = .bool b:=by cases h;rfl
theorem RD.mz {l:List UInt8} {v:Value} (h:RD M s (.str l) v):v = .string ⟨⟨l⟩⟩:=by cases h;rfl
theorem RD.uq {v:Value} (h:RD M s .fv v):v = .pointer none:=by cases h;rfl
theorem RD.ur {o off:Nat} {v:Value} (h:RD M s (.ptr o off) v):v = .pointer (some ⟨M.mu o,off,none⟩)∧o<s.aq.length:=by
 cases h with|ptr _ _ h hm=>exact⟨rfl,h⟩
theorem RD.Cp {o off:Nat} {v:Value} (h:RD M s (.ptr o off) v):(M.ob o).plain:=by cases h with|ptr _ _ h hm=>exact hm
theorem RD.Lu {o:Nat} {v:Value} (h:RD M s (.gU o) v):v = .map (some (M.mu o))∧o<s.aq.length∧M.ob o = .map:=by cases h with|gU _ h hm=>exact⟨rfl,h,hm⟩
theorem RD.zt {z o g len:Nat} {v:Value} (h:RD M s (.dM z o g len) v) : ∃ b cap A,v = .slice (some ⟨b,0,none⟩) len cap∧o<s.aq.length∧M.ob o = .arr z A∧A g=some (b,cap)∧len≤cap:=by
 cases h with|dM _ _ _ _ b cap A h hm ha hl=>exact⟨b,cap,A,rfl,h,hm,ha,hl⟩
theorem RD.E2 {o g off:Nat} {v:Value} (h:RD M s (.fC o g off) v) : ∃ z b cap A,v = .pointer (some ⟨b,off,none⟩)∧o<s.aq.length∧M.ob o = .arr z A∧A g=some (b,cap):=by
 cases h with|fC z _ _ _ b cap A h hm ha=>exact⟨z,b,cap,A,rfl,h,hm,ha⟩
theorem RD.E3 {z:Nat} {v:Value} (h:RD M s (.ek z) v) : ∃ a,v = .slice a 0 0:=by cases h with|ek _ a=>exact⟨a,rfl⟩
theorem RD.Pe {f:Nat} {ds:List D} {v:Value} (h:RD M s (.il f ds) v) : ∃ vs:Array Value,v = .func (.func f) #[] vs∧ds.length=vs.size∧
 ∀ (i:Nat) (d:D) (v:Value),ds[i]? = some d→vs[i]? = some v→RD M s d v:=by
 cases h with|il _ _ vs h1 h2=>exact⟨vs,rfl,h1,h2⟩
theorem RD.AN {row:List D} {off:Nat} {v:Value} (h:RD M s (.dO row off) v) : ∃ b k,v = .pointer (some ⟨b,k+off,none⟩)∧
 (∀ (i:Nat) (d:D),row[i]? = some d→∃ u,M.G b (k+i)=some u)∧(∀ (i:Nat) (d:D) (u:Value),row[i]? = some d→M.G b (k+i)=some u→RD M s d u):=by
 cases h with|dO _ _ b k h1 h2=>exact⟨b,k,rfl,h1,h2⟩
theorem RD.HW {ds:List D} {v:Value} (h:RD M s (.agg ds) v) : ∃ vs:Array Value,v = .agg vs∧ds.length=vs.size∧(∀ v∈vs,v.oneCell'=true)∧
 ∀ (i:Nat) (d:D) (v:Value),ds[i]? = some d→vs[i]? = some v→RD M s d v:=by
 cases h with|agg _ vs h1 h2 h3=>exact⟨vs,rfl,h1,h2,h3⟩
theorem RD.Jj {ds:List D} {v:Value} (h:RD M s (.tuple ds) v) : ∃ vs:Array Value,v = .tuple vs∧ds.length=vs.size∧
 ∀ (i:Nat) (d:D) (v:Value),ds[i]? = some d→vs[i]? = some v→RD M s d v:=by
 cases h with|tuple _ vs h1 h2=>exact⟨vs,rfl,h1,h2⟩
theorem RD.undef:RD M s (.tuple []) Go.undef:= .tuple [] #[] rfl (fun i d v h=>by simp at h)
theorem RD.j9 {g:Tag} {z:Nat} {rows:List (List D)} {v:Value} (h:RD M s (.slice g z rows) v) :
 (rows = []∧v = .slice none 0 0∧jO M s g z 0 none 0)∨(rows = []∧g = .shared∧∃ a cap,v = .slice (some a) 0 cap)∨
 ∃ b k cap,v = .slice (some ⟨b,k,none⟩) rows.length cap∧rows.length≤cap∧(∀ row∈rows,row.length=z)∧
  (∀ (i:Nat) (row:List D) (j:Nat) (d:D),rows[i]? = some row→row[j]? = some d→∃ u,M.G b (k+(i*z+j))=some u)∧
  (∀ (i:Nat) (row:List D) (j:Nat) (d:D) (u:Value),rows[i]? = some row→row[j]? = some d→M.G b (k+(i*z+j))=some u→RD M s d u)∧
  jO M s g z rows.length (some (b,k)) cap:=by
 cases h with
 |jz _ _ cap hc ht=>subst hc;exact .inl ⟨rfl,rfl,ht⟩
 |mF _ a cap=>exact .inr (.inl ⟨rfl,rfl,a,cap,rfl⟩)
 |slice _ _ _ b k cap hl hs h1 h2 ht=>exact .inr (.inr ⟨b,k,cap,rfl,hl,hs,h1,h2,ht⟩)
theorem RD.row {d:D} {v:Value} (h:RD M s d v) {r:List D} (hr:d.row=some r):v.cells.size=r.length∧(∀ u∈v.cells,u.oneCell'=true)∧
 ∀ (i:Nat) (d':D) (u:Value),r[i]? = some d'→v.cells[i]? = some u→RD M s d' u:=by
 have one : ∀ (x:Value),x.oneCell'=true→x.cells = #[x]:=by intro x hx;cases x<;>first|rfl|(simp[Value.oneCell']at hx)
 have go : ∀ (x:Value),x.oneCell'=true→RD M s d x→d.row=some [d]→x.cells.size=r.length∧(∀ u∈x.cells,u.oneCell'=true)∧
  ∀ (i:Nat) (d':D) (u:Value),r[i]? = some d'→x.cells[i]? = some u→RD M s d' u:=by
  intro x hx hd h1
  rw[h1]at hr;cases hr
  rw[one x hx]
  refine⟨rfl,by simp[hx],fun i d' u e1 e2=>?_⟩
  cases i with
  |zero=>simp at e1 e2;subst e1;subst e2;exact hd
  |succ i=>simp at e1
 cases h with
 |junk v=>cases hr
 |int k n=>exact go _ rfl (.int k n) rfl
 |bool b=>exact go _ rfl (.bool b) rfl
 |str l=>exact go _ rfl (.str l) rfl
 |fv=>exact go _ rfl .fv rfl
 |val v hv=>exact go _ hv (.val v hv) rfl
 |fM T o v h ht hv=>exact go _ (by rcases hv with rfl|rfl<;>rfl) (.fM T o v h ht hv) rfl
 |ptr o off h hm=>exact go _ rfl (.ptr o off h hm) rfl
 |il f ds vs hl h=>exact go _ rfl (.il f ds vs hl h) rfl
 |gU o h hm=>exact go _ rfl (.gU o h hm) rfl
 |dO row off b k h1 h2=>exact go _ rfl (.dO row off b k h1 h2) rfl
 |jz g z cap hc ht=>exact go _ rfl (.jz g z cap hc ht) rfl
 |mF z a cap=>exact go _ rfl (.mF z a cap) rfl
 |slice g z rows b k cap hl hs h1 h2 ht=>exact go _ rfl (.slice g z rows b k cap hl hs h1 h2 ht) rfl
 |dM z o g len b cap A h hm ha hl=>exact go _ rfl (.dM z o g len b cap A h hm ha hl) rfl
 |fC z o g off b cap A h hm ha=>exact go _ rfl (.fC z o g off b cap A h hm ha) rfl
 |ek z a=>exact go _ rfl (.ek z a) rfl
 |agg cells vs hl h1 h2=>cases hr;exact⟨hl.symm,h1,h2⟩
 |tuple ds vs hl h1=>cases hr
theorem se {v:Value} {d:D} (h:uk v=some d):RD M s d v∧v.oneCell'=true:=by
 unfold uk at h
 split at h<;>first|(cases h;done)|skip
 ·cases h;exact⟨.int _ _,rfl⟩
 ·cases h;exact⟨.bool _,rfl⟩
 ·cases h;exact⟨.str _,rfl⟩
 ·cases h;exact⟨.fv,rfl⟩
 ·cases h;exact⟨.jz _ _ 0 rfl rfl,rfl⟩
 ·cases h;exact⟨.val _ rfl,rfl⟩
 ·cases h;exact⟨.val _ rfl,rfl⟩
 ·cases h;exact⟨.val _ rfl,rfl⟩
theorem mA : ∀ {vs:List Value} {ds:List D},ph vs=some ds→ds.length=vs.length∧(∀ v∈vs,v.oneCell'=true)∧
 ∀ (i:Nat) (d:D) (v:Value),ds[i]? = some d→vs[i]? = some v→RD M s d v
 | [],ds,h=>by cases h;exact⟨rfl,by simp,by simp⟩
 | v::r,ds,h=>by
  unfold ph at h
  split at h
  ·rename_i d o6 h1 h2
   cases h
   obtain⟨a,b⟩:=se (M:=M) (s:=s) h1
   obtain⟨i1,i2,i3⟩:=mA h2
   refine⟨by simp[i1],fun u hu=>?_,fun i d' u e1 e2=>?_⟩
   ·rcases zap.1 hu with rfl | hu
    ·exact b
    ·exact i2 u hu
   ·cases i with
    |zero=>simp at e1 e2;subst e1;subst e2;exact a
    |succ i=>simp at e1 e2;exact i3 i d' u e1 e2
  ·cases h
theorem HX {v:Value} {d:D} (h:E1 v=some d):RD M s d v∧v.oneCell'=true:=by
 unfold E1 at h
 split at h
 ·cases h;exact⟨.val _ rfl,rfl⟩
 ·exact se h
theorem xN : ∀ {vs:List Value} {ds:List D},xM vs=some ds→ds.length=vs.length∧(∀ v∈vs,v.oneCell'=true)∧
 ∀ (i:Nat) (d:D) (v:Value),ds[i]? = some d→vs[i]? = some v→RD M s d v
 | [],ds,h=>by cases h;exact⟨rfl,by simp,by simp⟩
 | v::r,ds,h=>by
  unfold xM at h
  split at h
  ·rename_i d o6 h1 h2
   cases h
   obtain⟨g1,g2⟩:=HX (M:=M) (s:=s) h1
   obtain⟨k1,k2,k3⟩:=xN h2
   refine⟨by simp[k1],fun u hu=>?_,fun i d' u e1 e2=>?_⟩
   ·rcases zap.1 hu with rfl | hu
    ·exact g2
    ·exact k2 u hu
   ·cases i with
    |zero=>simp at e1 e2;subst e1;subst e2;exact g1
    |succ i=>exact k3 i d' u (by simpa using e1) (by simpa using e2)
  ·cases h
theorem Er {b:Bool} {vs:List Value} {ds:List D} (h:Qu b vs=some ds):ds.length=vs.length∧(∀ v∈vs,v.oneCell'=true)∧
 ∀ (i:Nat) (d:D) (v:Value),ds[i]? = some d→vs[i]? = some v→RD M s d v:=by
 unfold Qu at h
 split at h
 ·exact xN h
 ·exact mA h
theorem Qz {v:Value} {d:D} (h:Qs v=some d):RD M s d v:=by
 unfold Qs at h
 split at h
 ·rename_i cs
  cases hc:ph cs.toList with
  |none=>rw[hc]at h;cases h
  |some ds=>
   rw[hc]at h;cases h
   obtain⟨h1,h2,h3⟩:=mA (M:=M) (s:=s) hc
   exact .agg ds cs (by simpa using h1) (fun v hv=>h2 v (by simpa using hv)) (fun i d v e1 e2=>h3 i d v e1 (by simpa using e2))
 ·cases h;exact .undef
 ·exact(se h).1
def nr (M:Map) (s:St) (tm:Tm) (tmps:Array Value):Prop:=∀ t,RD M s (tm.get t) (tmps.getD t Go.undef)
theorem nr.mono {M':Map} {s':St} {tm:Tm} {tmps:Array Value} (h:nr M s tm tmps) (le:Le M s M' s'):nr M' s' tm tmps:=fun t=>(h t).mono le
theorem cu {x:Operand} {y:X} (h:cX x=some y) {tm:Tm} {act:Act} (hr:nr M s tm act.tmps):RD M s (y.ev tm) (act.eval x):=by
 unfold cX at h
 split at h
 ·cases h;exact hr _
 ·rename_i v
  cases hv:Qs v with
  |none=>rw[hv]at h;cases h
  |some d=>rw[hv]at h;cases h;exact Qz hv
 ·cases h;exact .il _ [] #[] rfl (by simp)
 ·cases h
theorem Tm.HY (tm:Tm) (t:Nat) (d:D) (u:Nat):(tm.set t d).get u=if u=t then d else tm.get u:=by
 induction tm with
 |nil=>
  simp only[Tm.set,Tm.get]
  by_cases h:t=u
  ·simp[h]
  ·rw[if_neg h,if_neg (fun e=>h e.symm)]
 | cons p r ih=>
  obtain⟨k,e⟩:=p
  simp only[Tm.set]
  split
  ·rename_i h
   subst h
   simp only[Tm.get]
   by_cases h:k=u
   ·simp[h]
   ·rw[if_neg h,if_neg (fun e=>h e.symm),if_neg h]
  ·rename_i h
   simp only[Tm.get,ih]
   by_cases h1:k=u
   ·subst h1;simp[h]
   ·simp[h1]
theorem nr.put {tm:Tm} {act:Act} (h:nr M s tm act.tmps) {dst:Option Nat} (hd : ∀ t,dst=some t→t<act.tmps.size) {d:D} {v:Value} (hv:RD M s d v) :
 nr M s (tm.put dst d) (act.put dst v).tmps:=by
 intro u
 cases dst with
 |none=>exact h u
 | some t=>
  simp only[Tm.put,Act.put,Tm.HY]
  have ht:=hd t rfl
  by_cases hu:u=t
  ·subst hu
   simp[ht];exact hv
  ·rw [if_neg hu]
   have:=h u
   simpa[zbK (fun e=>hu e.symm)]using this
theorem gX (P:Program) {t:TypeId} {i:TypeInfo} (h:P.info? t=some i) (w:World):(typeInfo t).run P w = .ok i w:=by
 simp[typeInfo,h]
theorem nP (b o n:Nat):Addr.add ⟨b,o,none⟩ n = ⟨b,o+n,none⟩:=Addr.add_lit b o n
theorem AP (P:Program) {t:TypeId} {i:TypeInfo} {agg:Bool} (hi:P.info? t=some i) (ha:sT P t=some agg) (b k:Nat) (us:List Value)
 (hl:us.length=if agg then i.size else 1) (h : ∀ (j:Nat) (u:Value),us[j]? = some u→w.cell? ⟨b,k+j,none⟩=some u) :
 (loadVar t ⟨b,k,none⟩).run P w = .ok (if agg then .agg us.toArray else us.getD 0 Go.undef) w:=by
 have Cq:(isAgg t).run P w = .ok agg w:=by
  unfold sT at ha
  unfold isAgg
  cases hu:P.underlying t with
  |none=>rw[hu]at ha;cases ha
  |some d=>
   rw[hu]at ha
   simp only[Sem.run_bind,run_underlying hu,Result.andThen_ok]
   cases d<;>simp_all
 cases agg with
 |true=>
  simp only[if_true]at hl ⊢
  have hc:=run_loadCells_list (P:=P) w ⟨b,k,none⟩ us (fun j v e=>by rw[nP];exact h j v e)
  simp[loadVar,Cq,sizeOf,gX P hi, ← hl,hc]
 | false=>
  simp only[zab,if_false]at hl ⊢
  match us,hl with
  | [u],_=>
   have:=h 0 u rfl
   simp only[zaS]at this
   simp[loadVar,Cq,this]
theorem sE {cs:List D} {off:Nat} {agg:Bool} {size:Nat} {d:D} (h:part cs off agg size=some d) :
 (agg=true∧off+size≤cs.length∧d = .agg ((cs.drop off).take size))∨(agg=false∧cs[off]? = some d):=by
 unfold part at h
 split at h
 ·split at h
  ·cases h;exact .inl ⟨rfl, ‹_›,rfl⟩
  ·cases h
 ·exact .inr ⟨rfl,h⟩
theorem sW {cs:List D} {off size:Nat} {agg:Bool} {d:D} (h:part cs off agg size=some d) (us:List Value) (hl:us.length=if agg then size else 1)
 (ig:agg=true→∀ u∈us,u.oneCell'=true)
 (hr : ∀ (j:Nat) (d:D) (u:Value),cs[off+j]? = some d→us[j]? = some u→RD M s d u):RD M s d (if agg then .agg us.toArray else us.getD 0 Go.undef):=by
 rcases sE h with ⟨rfl,h1,rfl⟩|⟨rfl,h1⟩
 ·simp only [if_true]at hl ⊢
  refine .agg _ _ (by simp[hl];omega) (fun v hv=>ig rfl v (by simpa using hv)) (fun i d v e1 e2=>?_)
  rw[zaY]at e1
  split at e1
  ·rw [zbq]at e1
   exact hr i d v e1 (by simpa using e2)
  ·cases e1
 ·simp only [zab,if_false]at hl ⊢
  match us,hl with
  | [u],_=>exact hr 0 d u (by simpa using h1) rfl
end
end Go.Abs
namespace Go.Abs
def dk (P:Program) (M:Map) (s:St) (w:World) (x:Sem Next) (d:D) (s':St):Prop:=
 ∃ v w' M',(x.run P w = .ok (.value v) w'∨(x.run P w = .ok .skip w'∧v=Go.undef))∧Rel M' s' w'∧RD M' s' d v∧Ext M s w M' s' w'
section
variable {P:Program} {M:Map} {s:St} {w:World}
theorem dk.pure {x:Sem Next} {d:D} {v:Value} (r:Rel M s w) (h:x.run P w = .ok (.value v) w) (hd:RD M s d v):dk P M s w x d s:=
 ⟨v,w,M, .inl h,r,hd,Ext.refl M s w⟩
theorem QA (r:Rel M s w) {t:TypeId} {z:List D} (hz:zeroOf P t=some z) :
 dk P M s w (do pure (.value (← Instr.alloc t true (.tuple #[])))) (.ptr s.aq.length 0) {s with aq:=s.aq++ [z]}:=by
 unfold zeroOf at hz
 split at hz
 ·rename_i i hi
  split at hz
  ·rename_i v hv
   split at hz
   ·rename_i dT
    obtain⟨h1,h2,h3⟩:=mA (M:=M) (s:=s) hz
    obtain⟨r',e'⟩:=r.ep z v.cells t (by rw[h1];simp) (fun u hu=>h2 u (by simpa using hu)) (fun i d u e1 e2=>h3 i d u e1 (by simpa using e2))
    refine⟨_,_,_, .inl ?_,r', .ptr _ _ (by simp) (by simp[Map.ep,Map.ob,Ob.plain]),e'⟩
    simp[Instr.alloc,zeroValue,gX P hi,hv,newVar,newRow,Map.ep,Map.mu]
   ·cases hz
  ·cases hz
 ·cases hz
theorem Og (r:Rel M s w) {t:TypeId} {z:List D} (hz:AJ P t=some (.fv::z)) :
 dk P M s w (do pure (.value (← Instr.alloc t true (.tuple #[])))) (.ptr s.aq.length 0) {s with aq:=s.aq++ [.fM t s.aq.length::z]}:=by
 unfold AJ at hz
 split at hz
 ·rename_i i hi
  split at hz
  ·rename_i v hv
   split at hz
   ·rename_i dT
    obtain⟨h1,h2,h3⟩:=Er (M:=M) (s:=s) hz
    obtain⟨r',e'⟩:=r.Lt (.fM t s.aq.length::z) v.cells t (.ty t) trivial (fun _ h=>by cases h;rfl) (by simp at h1 ⊢;omega) (fun u hu=>h2 u (by simpa using hu)) (fun i d u e1 e2=>by
     cases i with
     |zero=>
      simp at e1;subst e1
      have:=(h3 0 .fv u rfl (by simpa using e2)).uq
      exact .fM t _ u (by simp) (by simp[Map.ep,Map.ty,Ob.ty?]) (.inl this)
     |succ i=>exact(h3 (i+1) d u (by simpa using e1) (by simpa using e2)).mono (um s w.heap.size _ _))
    refine⟨_,_,_, .inl ?_,r', .ptr _ _ (by simp) (by simp[Map.ep,Map.ob,Ob.plain]),e'⟩
    simp[Instr.alloc,zeroValue,gX P hi,hv,newVar,newRow,Map.ep,Map.mu]
   ·cases hz
  ·cases hz
 ·cases hz
theorem WT (r:Rel M s w) {t:TypeId} {d:D} {v:Value} {row:List D} (hd:RD M s d v) (hr:d.row=some row) :
 dk P M s w (do pure (.value (← Instr.box t v))) (.ptr s.aq.length 0) {s with aq:=s.aq++ [row]}:=by
 obtain⟨h1,h2,h3⟩:=hd.row hr
 obtain⟨r',e'⟩:=r.ep row v.cells t h1 h2 h3
 refine⟨_,_,_, .inl ?_,r', .ptr _ _ (by simp) (by simp[Map.ep,Map.ob,Ob.plain]),e'⟩
 simp[Instr.box,newVar,newRow,Map.ep,Map.mu]
theorem TO (r:Rel M s w) {t:TypeId} {d:D} {v:Value} {row:List D} (hd:RD M s d v) (hr:d.row=some (.fv::row)) :
 dk P M s w (do pure (.value (← Instr.box t v))) (.ptr s.aq.length 0) {s with aq:=s.aq++ [.fM t s.aq.length::row]}:=by
 obtain⟨h1,h2,h3⟩:=hd.row hr
 obtain⟨r',e'⟩:=r.Lt (.fM t s.aq.length::row) v.cells t (.ty t) trivial (fun _ h=>by cases h;rfl) (by simp at h1 ⊢;omega) h2 (fun i d u e1 e2=>by
  cases i with
  |zero=>
   simp at e1;subst e1
   have:=(h3 0 .fv u rfl e2).uq
   exact .fM t _ u (by simp) (by simp[Map.ep,Map.ty,Ob.ty?]) (.inl this)
  |succ i=>exact(h3 (i+1) d u (by simpa using e1) e2).mono (um s w.heap.size _ _))
 refine⟨_,_,_, .inl ?_,r', .ptr _ _ (by simp) (by simp[Map.ep,Map.ob,Ob.plain]),e'⟩
 simp[Instr.box,newVar,newRow,Map.ep,Map.mu]
theorem Kr (r:Rel M s w) {t:TypeId} {i:TypeInfo} {agg:Bool} (hi:P.info? t=some i) (ha:sT P t=some agg) {o off:Nat} {cs:List D} {d:D}
 (ho:s.aq[o]? = some cs) (hk:(M.ob o).plain) (hp:part cs off agg i.size=some d) :
 dk P M s w (do pure (.value (← Instr.loadAt t (.pointer (some ⟨M.mu o,off,none⟩))))) d s:=by
 obtain⟨vs,T,hh,dT,⟨ig,_⟩,jG⟩:=r.obj o cs ho
 replace hh:w.heap[M.mu o]? = some (.cells vs T (0,0)):=hh.cells hk
 let n:=if agg then i.size else 1
 have iB:off+n≤vs.size:=by
  rcases sE hp with ⟨rfl,h1,_⟩|⟨rfl,h1⟩
  ·simp[n];omega
  ·have:=(zac.1 h1).1;simp[n];omega
 have hlen:((vs.toList.drop off).take n).length=n:=by simp;omega
 have hY : ∀ (j:Nat) (u:Value),((vs.toList.drop off).take n)[j]? = some u→vs[off+j]? = some u:=by
  intro j u h
  rw[zaY]at h
  split at h
  ·rw[zbq]at h;simpa using h
  ·cases h
 have dU:=AP (w:=w) P hi ha (M.mu o) off ((vs.toList.drop off).take n) hlen (fun j u h=>by rw[j8 hh];exact hY j u h)
 refine dk.pure (v:=if agg then .agg ((vs.toList.drop off).take n).toArray else((vs.toList.drop off).take n).getD 0 Go.undef) r (by simp[Instr.loadAt,Instr.sureAddr,dU]) ?_
 refine sW hp _ hlen (fun _ u hu=>ig u ?_) (fun j d u e1 e2=>jG _ d u e1 (hY j u e2))
 exact zaU.1 (zbH (za5 hu))
theorem AQ {b:Nat} : ∀ (n k:Nat),(∀ j,j<n→∃ u,M.G b (k+j)=some u)→∃ us:List Value,us.length=n∧∀ (j:Nat) (u:Value),us[j]? = some u→M.G b (k+j)=some u
 | 0,_,_=>⟨[],rfl,fun j u h=>by simp at h⟩
 |n+1,k,h=>by
  obtain⟨u0,h0⟩:=h 0 (by omega)
  obtain⟨us,h1,h2⟩:=AQ n (k+1) (fun j hj=>by obtain⟨u,hu⟩:=h (j+1) (by omega);exact⟨u,by rw[show k+1+j=k+(j+1) by omega];exact hu⟩)
  refine⟨u0::us,by simp[h1],fun j u hj=>?_⟩
  cases j with
  |zero=>simp at hj;subst hj;exact h0
  |succ j=>simp at hj;have:=h2 j u hj;rw[show k+(j+1)=k+1+j by omega];exact this
theorem Ks (r:Rel M s w) {t:TypeId} {i:TypeInfo} {agg:Bool} (hi:P.info? t=some i) (ha:sT P t=some agg) {row:List D} {off b k:Nat} {d:D}
 (h1 : ∀ (i:Nat) (d:D),row[i]? = some d→∃ u,M.G b (k+i)=some u) (h2 : ∀ (i:Nat) (d:D) (u:Value),row[i]? = some d→M.G b (k+i)=some u→RD M s d u)
 (hp:part row off agg i.size=some d) :
 dk P M s w (do pure (.value (← Instr.loadAt t (.pointer (some ⟨b,k+off,none⟩))))) d s:=by
 let n:=if agg then i.size else 1
 have iB:off+n≤row.length:=by
  rcases sE hp with ⟨rfl,h1,_⟩|⟨rfl,h1⟩
  ·simp[n];omega
  ·have:=(zac.1 h1).1;simp[n];omega
 obtain⟨us,hl,Ep⟩:=AQ (M:=M) (b:=b) n (k+off) (fun j hj=>by
  obtain⟨d,hd⟩ : ∃ d,row[off+j]? = some d:=⟨_,zah (by omega)⟩
  obtain⟨u,hu⟩:=h1 _ d hd
  exact⟨u,by rw[show k+off+j=k+(off+j) by omega];exact hu⟩)
 have dU:=AP (w:=w) P hi ha b (k+off) us hl (fun j u h=>(r.comm _ _ _ (Ep j u h)).1)
 refine dk.pure (v:=if agg then .agg us.toArray else us.getD 0 Go.undef) r (by simp[Instr.loadAt,Instr.sureAddr,dU]) ?_
 refine sW hp us hl (fun _ u hu=>?_) (fun j d u e1 e2=>h2 _ d u e1 (by rw[show k+(off+j)=k+off+j by omega];exact Ep j u e2))
 obtain⟨j,hj⟩:=List.mem_iff_getElem?.1 hu
 exact(r.comm _ _ _ (Ep j u hj)).2
theorem QB (r:Rel M s w) {t:TypeId} {i:TypeInfo} (hi:P.info? t=some i) {o off:Nat} {cs row:List D} {d:D} {v:Value} (ho:s.aq[o]? = some cs) (hk:(M.ob o).plain)
 (hd:RD M s d v) (hr:d.row=some row) (hl:row.length=i.size) (iB:off+i.size≤cs.length) :
 dk P M s w (do Instr.storeAt t (.pointer (some ⟨M.mu o,off,none⟩)) v;pure .skip) (.tuple []) {s with aq:=s.aq.set o (gV cs off row)}:=by
 obtain⟨h1,h2,h3⟩:=hd.row hr
 obtain⟨w',dU,r',e'⟩:=r.Qx P ho hk row v.cells.toList (by simpa using h1) (by rw[hl];exact iB) (fun u hu=>h2 u (by simpa using hu)) (fun i d u e1 e2=>h3 i d u e1 (by simpa using e2))
 refine⟨Go.undef,w',M, .inr ⟨?_,rfl⟩,r', .undef,e'⟩
 have dT:v.cells.size=i.size:=by omega
 simp[Instr.storeAt,Instr.sureAddr,storeVar,sizeOf,gX P hi,dT,dU]
theorem AR (r:Rel M s w) {d:D} {a:Addr} (hd:RD M s d (.pointer (some a))) :
 dk P M s w (pure (.value (.pointer (some a)))) d s:=dk.pure r rfl hd
theorem Cr {t:TypeId} {f off size:Nat} {agg:Bool} (h:nO P t f=some (off,size,agg)) (b k:Nat) :
 (Instr.fieldAt t (.pointer (some ⟨b,k,none⟩)) f).run P w = .ok (.pointer (some ⟨b,k+off,none⟩)) w:=by
 unfold nO at h
 split at h
 ·rename_i fs hu
  split at h
  ·rename_i fd hf
   split at h
   ·rename_i i a hi ha
    split at h
    ·cases h
    ·rename_i eO
     cases h
     simp[Instr.fieldAt,run_underlying hu,hf,Instr.sureAddr,fieldPlace,sizeOf,gX P hi,eO,nP]
   ·cases h
  ·cases h
 ·cases h
theorem TP {t:TypeId} {f off size:Nat} {agg:Bool} (h:nO P t f=some (off,size,agg)) (vs:Array Value) (us:List Value) (hl:us.length=if agg then size else 1)
 (hg : ∀ j,j<us.length→vs[off+j]? = us[j]?) :
 (Instr.field t (.agg vs) f).run P w = .ok (if agg then .agg us.toArray else us.getD 0 Go.undef) w:=by
 unfold nO at h
 split at h
 ·rename_i fs hu
  split at h
  ·rename_i fd hf
   split at h
   ·rename_i i a hi ha
    split at h
    ·cases h
    ·rename_i eO
     cases h
     have Cq:(isAgg fd.type).run P w = .ok agg w:=by
      unfold sT at ha
      unfold isAgg
      cases hu:P.underlying fd.type with
      |none=>rw[hu]at ha;cases ha
      |some d=>
       rw[hu]at ha
       simp only[Sem.run_bind,run_underlying hu,Result.andThen_ok]
       cases d<;>simp_all
     cases agg with
     | true=>
      simp only[if_true]at hl ⊢
      have:vs.extract fd.offset (fd.offset+i.size)=us.toArray:=by
       apply Array.ext_getElem?
       intro j
       rw[Array.getElem?_extract]
       by_cases hj:j<us.length
       ·rw [← hl,if_pos (by
         have h1:=hg j hj
         rw[zah hj]at h1
         have:=(zaT.1 h1).1
         have h2:=hg (us.length - 1) (by omega)
         rw[zah (by omega)]at h2
         have:=(zaT.1 h2).1
         omega),hg j hj]
        simp
       ·have hn:us.toArray[j]? = none:=by simp;omega
        rw[hn,if_neg (by omega)]
      simp[Instr.field,run_underlying hu,hf,asAgg,Go.part,Cq,sizeOf,gX P hi,this]
     | false=>
      simp only[zab,if_false]at hl ⊢
      match us,hl with
      | [u],_=>
       have:=hg 0 (by simp)
       simp at this
       simp[Instr.field,run_underlying hu,hf,asAgg,Go.part,Cq,this]
   ·cases h
  ·cases h
 ·cases h
end
end Go.Abs
namespace Go.Abs
section
variable {P:Program} {M:Map} {s:St} {w:World}
theorem QC {op : BinOp} {t : TypeId} {k : IntKind} {a b : Int} {d : D} (h : fW op k a b = some d) :
   ∃ v, (binOp op t (.int k a) (.int k b)).run P w = .ok v w ∧ RD M s d v := by
 cases op<;>simp only[fW]at h
 case shl|shr =>
   split at h
   · cases h
   · rename_i hb
     cases h
     refine ⟨_, ?_, .int _ _⟩
     simp only[binOp, Op.shift, if_neg hb]
     rfl
 case and|or|xor =>
   cases h
   refine ⟨_, ?_, .int _ _⟩
   simp only[binOp, Op.intBits, ne_eq, not_true_eq_false, if_false]
   rfl
 all_goals first
   |(cases h; done)
   | (split at h
      · cases h
      · cases h
        exact ⟨_, by simp[binOp, Op.intDiv, *], .int _ _⟩)
   |(cases h; exact ⟨_, by simp[binOp, Op.intArith], .int _ _⟩)
   |(cases h; exact ⟨_, by simp[binOp, Op.intCmp], .bool _⟩)
theorem QD {op:BinOp} {t:TypeId} {a b:List UInt8} {d:D} (h:pN op a b=some d) :
 ∃ v,(binOp op t (.string ⟨⟨a⟩⟩) (.string ⟨⟨b⟩⟩)).run P w = .ok v w∧RD M s d v:=by
 have sz : ∀ l:List UInt8,(⟨⟨l⟩⟩:ByteArray).size=l.length:=fun _=>rfl
 cases op<;>simp only[pN]at h<;>first
  |(cases h;done)
  |skip
 case add=>
  split at h
  ·rename_i hl
   cases h
   refine⟨.string ⟨⟨a++b⟩⟩, ?_, .str _⟩
   have h1 : ¬ ((((⟨⟨a⟩⟩:ByteArray).size+(⟨⟨b⟩⟩:ByteArray).size:Nat):Int) > IntKind.i64.max):=by
    rw[sz,sz,IntKind.max_i64];simp only[aV]at hl;omega
   simp only[binOp,Op.stringOp,h1,if_false]
   simp only[Sem.run_pure]
   congr 2
  ·cases h
 case eql=>cases h;exact⟨_,by simp[binOp,Op.stringOp], .bool _⟩
 case neq=>cases h;exact⟨_,by simp[binOp,Op.stringOp], .bool _⟩
 case lss=>cases h;exact⟨_,by simp[binOp,Op.stringOp,bytesLess], .bool _⟩
theorem kM {op:BinOp} {t:TypeId} {x y:Operand} {a b:Value} (h:(∀ vs,a≠ .agg vs)∧a≠ .nilIface):(eqGuard op t x y a b).run P w = .ok () w:=by
 obtain⟨h1,h2⟩:=h
 cases a<;>first
  |exact(h2 rfl).elim
  |exact(h1 _ rfl).elim
  |(cases op<;>simp[eqGuard])
theorem WU (r:Rel M s w) {op:BinOp} {t:TypeId} {x y:Operand} {dx dy d:D} {a b:Value} (ha:RD M s dx a) (hb:RD M s dy b) (h:yF op dx dy=some d) :
 dk P M s w (do pure (.value (← (do eqGuard op t x y a b;binOp op t a b)))) d s:=by
 unfold yF at h
 split at h
 ·rename_i k n k' m
  split at h
  ·rename_i hk;subst hk
   rw[ha.iV,hb.iV]
   obtain⟨v,hv,hd⟩:=QC (P:=P) (M:=M) (s:=s) (w:=w) (t:=t) h
   exact dk.pure r (by simp[kM (P:=P) (w:=w) (op:=op) (t:=t) (x:=x) (y:=y) (a:= .int k n) (b:= .int k m) ⟨by simp,by simp⟩,hv]) hd
  ·cases h
 ·rename_i l m
  rw[ha.mz,hb.mz]
  obtain⟨v,hv,hd⟩:=QD (P:=P) (M:=M) (s:=s) (w:=w) (t:=t) h
  exact dk.pure r (by simp[kM (P:=P) (w:=w) (op:=op) (t:=t) (x:=x) (y:=y) (a:= .string ⟨⟨l⟩⟩) (b:= .string ⟨⟨m⟩⟩) ⟨by simp,by simp⟩,hv]) hd
 ·cases h
theorem RD.mI {v u:Value} (h:RD M s (.val v) u):u=v:=by cases h;rfl
theorem QE {k:FloatKind} {x y d:D} (h:sk (.ofInt k) x y=some d) : ∃ j n,x = .int j n∧d = .val (.float k (k.nearest n)):=by
 cases x<;>first|(cases h;done)|(cases h;exact⟨_,_,rfl,rfl⟩)
theorem QF {k:IntKind} {x y d:D} (h:sk (.toInt k) x y=some d) : ∃ s b n,x = .val (.float s b)∧(s.decode b).toInt .zero=some n∧(k.min≤n∧n≤k.max)∧d = .int k n:=by
 cases x with
 | val v=>
  cases v with
  | float s b=>
   simp only[sk]at h
   split at h
   ·rename_i n hn
    split at h
    ·rename_i hr;cases h;exact⟨_,_,_,rfl,hn,hr,rfl⟩
    ·cases h
   ·cases h
  |_=>cases h
 |_=>cases h
theorem TQ {x y d:D} (h:sk .Qo x y=some d) : ∃ k a b,x = .val (.float k a)∧y = .val (.float k b)∧d = .val (.complex k a b):=by
 unfold sk at h
 split at h<;>first|(cases h;done)|skip
 all_goals (first|(rename_i heq;cases heq;done)|skip)
 all_goals
  split at h
  ·rename_i hk;subst hk;cases h;first|exact⟨_,_,_,rfl,rfl,rfl⟩|(rename_i heq _ _;cases heq)
  ·cases h
theorem TR {x y d:D} (h:sk .real x y=some d) : ∃ k a b,x = .val (.complex k a b)∧d = .val (.float k a):=by
 cases x with
 |val v=>cases v<;>first|(cases h;done)|(cases h;exact⟨_,_,_,rfl,rfl⟩)
 |_=>cases h
theorem TS {x y d:D} (h:sk .imag x y=some d) : ∃ k a b,x = .val (.complex k a b)∧d = .val (.float k b):=by
 cases x with
 |val v=>cases v<;>first|(cases h;done)|(cases h;exact⟨_,_,_,rfl,rfl⟩)
 |_=>cases h
theorem TT (r:Rel M s w) {op:BinOp} {o:FO} (ho:(o = .eq∧op = .eql)∨(o = .Ll∧op = .add)∨(o = .TG∧op = .eql)) {t:TypeId} {x y:Operand} {dx dy d:D} {a b:Value} (ha:RD M s dx a) (hb:RD M s dy b) (h:sk o dx dy=some d) :
 dk P M s w (do pure (.value (← (do eqGuard op t x y a b;binOp op t a b)))) d s:=by
 unfold sk at h
 split at h<;>(try simp only[reduceCtorEq,false_and,true_and,false_or,or_false]at ho)
 ·rename_i k p k' q
  split at h<;>cases h
  rename_i hk;subst hk;subst ho
  cases ha.mI;cases hb.mI
  exact dk.pure r (by simp[kM (P:=P) (w:=w) (op:= .eql) (t:=t) (x:=x) (y:=y) (a:= .float k p) (b:= .float k q) ⟨by simp,by simp⟩,binOp,Op.floatCmp]) (.bool _)
 ·rename_i k p p' k' q q'
  split at h
  ·rename_i hk;subst hk;subst ho
   cases ha.mI;cases hb.mI
   split at h
   ·rename_i e f h1 h2
    cases h
    simp only[WR]at h1 h2
    exact dk.pure r (by simp[kM (P:=P) (w:=w) (op:= .add) (t:=t) (x:=x) (y:=y) (a:= .complex k p p') (b:= .complex k q q') ⟨by simp,by simp⟩,binOp,Op.complexOp,Op.Complex.arith,Op.floatArith,h1,h2]) (.val _ rfl)
   ·cases h
  ·cases h
 ·rename_i k p p' k' q q'
  split at h<;>cases h
  rename_i hk;subst hk;subst ho
  cases ha.mI;cases hb.mI
  exact dk.pure r (by simp[kM (P:=P) (w:=w) (op:= .eql) (t:=t) (x:=x) (y:=y) (a:= .complex k p p') (b:= .complex k q q') ⟨by simp,by simp⟩,binOp,Op.complexOp,Op.Complex.cmp,Op.floatCmp,asBool]) (.bool _)
 ·cases h
theorem WV (r:Rel M s w) {neg:Bool} {t:TypeId} {x y:Operand} {p q:Bool} (ht:P.underlying t=some .bool) :
 dk P M s w (do pure (.value (← (do eqGuard (if neg then .neq else .eql) t x y (.bool p) (.bool q);binOp (if neg then .neq else .eql) t (.bool p) (.bool q))))) (.bool (if neg then !(p==q)else p==q)) s:=by
 refine dk.pure (v:= .bool (if neg then !(p==q)else p==q)) r ?_ (.bool _)
 have hg:=kM (P:=P) (w:=w) (op:=if neg then .neq else .eql) (t:=t) (x:=x) (y:=y) (a:= .bool p) (b:= .bool q) ⟨by simp,by simp⟩
 have he:(Op.equal t (.bool p) (.bool q)).run P w = .ok (p==q) w:=by
  exact run_equalIn_bool w 9999 t p q ht
 cases neg
 ·simp only [zab,if_false]at hg ⊢
  simp[hg,binOp,he]
 ·simp only [if_true]at hg ⊢
  simp[hg,binOp,he]
theorem Oh (n:Nat) {t e:TypeId} {a:Option Addr} (ht:P.underlying t=some (.pointer e)):(Op.equalIn (n+1) t (.pointer a) (.pointer none)).run P w = .ok a.isNone w:=by
 cases a<;>simp[Op.equalIn,run_underlying ht]
theorem E4 (r:Rel M s w) {neg:Bool} {t e:TypeId} {x y:Operand} {a:Option Addr} (ht:P.underlying t=some (.pointer e)) :
 dk P M s w (do pure (.value (← (do eqGuard (if neg then .neq else .eql) t x y (.pointer a) (.pointer none);binOp (if neg then .neq else .eql) t (.pointer a) (.pointer none))))) (.bool (if neg then !a.isNone else a.isNone)) s:=by
 refine dk.pure (v:= .bool (if neg then !a.isNone else a.isNone)) r ?_ (.bool _)
 have hg:=kM (P:=P) (w:=w) (op:=if neg then .neq else .eql) (t:=t) (x:=x) (y:=y) (a:= .pointer a) (b:= .pointer none) ⟨by simp,by simp⟩
 have he:(Op.equal t (.pointer a) (.pointer none)).run P w = .ok a.isNone w:=by
  exact Oh 9999 ht
 cases neg
 ·simp only [zab,if_false]at hg ⊢
  simp[hg,binOp,he]
 ·simp only [if_true]at hg ⊢
  simp[hg,binOp,he]
theorem QG (n:Nat) {t:TypeId} {k:Nat} (hk:kx P t=some k) {x y:D} {v u:Value} (rv:RD M s x v) (ru:RD M s y u) {b:Bool} (h:oB k x y=some b) :
 (Op.equalIn (n+1) t v u).run P w = .ok b w:=by
 unfold kx at hk
 split at hk<;>first|(cases hk;done)|skip
 ·rename_i kk hu
  cases hk
  cases x<;>cases y<;>simp[oB]at h
  obtain⟨rfl,rfl⟩:=h
  rw[rv.iV,ru.iV]
  exact run_equalIn_int w n t _ _ _ _ hu
 ·rename_i hu
  cases hk
  cases x<;>cases y<;>simp[oB]at h
  subst h
  rw[rv.pj,ru.pj]
  exact run_equalIn_bool w n t _ _ hu
 ·rename_i hu
  cases hk
  cases x<;>cases y<;>simp[oB]at h
  subst h
  rw[rv.mz,ru.mz]
  rw[run_equalIn_string w n t _ _ hu]
  simp
theorem Cs (n:Nat) : ∀ (fs:List Field) (off:Nat) (ks:List Nat) (xs ys:List D) (vs us:Array Value) (e:Bool),
 DI P off fs=some ks→(∀ (i:Nat) (d:D) (v:Value),xs[i]? = some d→vs[off+i]? = some v→RD M s d v)→(∀ i,i<xs.length→(vs[off+i]?).isSome)→
 (∀ (i:Nat) (d:D) (v:Value),ys[i]? = some d→us[off+i]? = some v→RD M s d v)→(∀ i,i<ys.length→(us[off+i]?).isSome)→
 mw ks xs ys=some e→(Op.eqFields (n+1) vs us fs).run P w = .ok e w
 | [],off,ks,xs,ys,vs,us,e,hk,_,_,_,_,h=>by
  cases hk
  cases xs<;>cases ys<;>simp[mw]at h
  subst h;rfl
 | f::fs,off,ks,xs,ys,vs,us,e,hk,h1,h2,h3,h4,h=>by
  unfold DI at hk
  split at hk
  ·rename_i hf
   obtain⟨ho,QH⟩:=hf
   split at hk
   ·rename_i k ks' xO aZ
    cases hk
    match xs,ys with
    | [],[]=>cases h
    | [],_::_=>cases h
    |_::_,[]=>cases h
    | x::xs,y::ys=>
     obtain⟨v,hv⟩:=Option.isSome_iff_exists.1 (h2 0 (by simp))
     obtain⟨u,hu⟩:=Option.isSome_iff_exists.1 (h4 0 (by simp))
     simp only[zaS]at hv hu
     have rv:=h1 0 x v rfl hv
     have ru:=h3 0 y u rfl hu
     have Cq:(isAgg f.type).run P w = .ok false w:=by
      unfold isAgg
      unfold kx at xO
      cases hu:P.underlying f.type with
      |none=>rw[hu]at xO;simp at xO
      |some d=>simp only[Sem.run_bind,run_underlying hu,Result.andThen_ok];rw[hu]at xO;cases d<;>simp_all
     have pv:(Go.part f.type vs f.offset).run P w = .ok v w:=by simp[Go.part,Cq,ho,hv]
     have pu:(Go.part f.type us f.offset).run P w = .ok u w:=by simp[Go.part,Cq,ho,hu]
     cases hc:oB k x y with
     |none=>simp[mw,hc]at h
     | some b=>
      have hb:=QG (w:=w) n xO rv ru hc
      simp only[mw,hc]at h
      simp only[Op.eqFields,if_pos QH,Sem.run_bind,pv,pu,hb,Result.andThen_ok,Sem.run_ite,Sem.run_pure]
      cases b with
      |false=>cases h;rfl
      | true=>
       have:=Cs n fs (off+1) ks' xs ys vs us e aZ
        (fun i d v e1 e2=>h1 (i+1) d v (by simpa using e1) (by rw[show off+(i+1)=off+1+i by omega];exact e2))
        (fun i hi=>by have:=h2 (i+1) (by simpa using hi);rwa [show off+(i+1)=off+1+i by omega]at this)
        (fun i d v e1 e2=>h3 (i+1) d v (by simpa using e1) (by rw[show off+(i+1)=off+1+i by omega];exact e2))
        (fun i hi=>by have:=h4 (i+1) (by simpa using hi);rwa [show off+(i+1)=off+1+i by omega]at this) h
       simp[this]
   ·cases hk
  ·cases hk
theorem WW (r:Rel M s w) {neg:Bool} {t:TypeId} {x y:Operand} {ks:List Nat} {xs ys:List D} {a b:Value} {e:Bool} (ht:rO P t=some ks) (ha:RD M s (.agg xs) a) (hb:RD M s (.agg ys) b) (he:mw ks xs ys=some e) :
 dk P M s w (do pure (.value (← (do eqGuard (if neg then .neq else .eql) t x y a b;binOp (if neg then .neq else .eql) t a b)))) (.bool (if neg then !e else e)) s:=by
 obtain⟨vs,rfl,hl,_,h1⟩:=ha.HW
 obtain⟨us,rfl,pO,_,h2⟩:=hb.HW
 unfold rO at ht
 split at ht
 ·rename_i fs hu
  split at ht
  ·rename_i hg
   obtain⟨ve,Es⟩:=hg
   have hf:P.fieldsOf t=fs:=by simp[Program.fieldsOf,hu]
   have dU:(Op.equalIn 10000 t (.agg vs) (.agg us)).run P w = .ok e w:=by
    rw[run_equalIn_struct w 9999 t vs us (by rw[hf];exact hu) Es,hf]
    exact Cs 9998 fs.toList 0 ks xs ys vs us e ht (fun i d v e1 e2=>h1 i d v e1 (by simpa using e2)) (fun i hi=>by simp;omega)
     (fun i d v e1 e2=>h2 i d v e1 (by simpa using e2)) (fun i hi=>by simp;omega) he
   have Jk:=run_eqGuard_agg (P:=P) w (if neg then .neq else .eql) t x y vs us ve
   refine dk.pure (v:= .bool (if neg then !e else e)) r ?_ (.bool _)
   cases neg
   ·simp only [zab,if_false]at Jk ⊢
    simp only[Sem.run_bind,Jk,Result.andThen_ok,run_eql_struct,dU,Sem.run_pure]
   ·simp only [if_true]at Jk ⊢
    simp only[Sem.run_bind,Jk,Result.andThen_ok,run_neq_struct,dU,Sem.run_pure]
  ·cases ht
 ·cases ht
end
end Go.Abs
namespace Go.Abs
section
variable {P:Program} {M:Map} {s:St} {w:World}
theorem DJ (l:List UInt8):(⟨⟨l⟩⟩:ByteArray).size=l.length:=rfl
theorem extract_mk (l:List UInt8) (a b:Nat):(⟨⟨l⟩⟩:ByteArray).extract a b = ⟨⟨(l.take b).drop a⟩⟩:=by
 apply ByteArray.ext
 rw[ByteArray.data_extract]
 apply Array.ext'
 simp[List.drop_take]
theorem getElem?_mk (l:List UInt8) (n:Nat):(⟨⟨l⟩⟩:ByteArray)[n]? = l[n]? :=by
 by_cases h:n<l.length
 ·rw[getElem?_pos (⟨⟨l⟩⟩:ByteArray) n h,zah h];rfl
 ·rw [zbC (by omega)]
  rw[getElem?_neg (c:=(⟨⟨l⟩⟩:ByteArray)) (i:=n)]
  show ¬ n<(⟨⟨l⟩⟩:ByteArray).size
  rw[DJ];omega
theorem TV (r:Rel M s w) {t:TypeId} {l:List UInt8} {k:IntKind} {n:Int} {c:UInt8} (ht:P.underlying t=some .string) (h0:0≤n) (hc:l[n.toNat]? = some c) :
 dk P M s w (do pure (.value (← Instr.index t (.string ⟨⟨l⟩⟩) (.int k n)))) (.int .u8 c.toNat) s:=by
 refine dk.pure (v:= .int .u8 c.toNat) r ?_ (.int _ _)
 simp[Instr.index,asIntOf,run_underlying ht,h0,getElem?_mk,hc]
theorem Lv (r:Rel M s w) {t ty:TypeId} {l:List UInt8} (ht:P.underlying t=some .string) :
 dk P M s w (do pure (.value (← Builtin.len_ #[t] ty #[.string ⟨⟨l⟩⟩]))) (.int .i64 l.length) s:=by
 refine dk.pure (v:= .int .i64 l.length) r ?_ (.int _ _)
 simp[Builtin.len_,run_underlying ht,goInt,DJ]
theorem oE (r:Rel M s w) {t ty e:TypeId} {a:Option Addr} {n c:Nat} (ht:P.underlying t=some (.slice e)) :
 dk P M s w (do pure (.value (← Builtin.len_ #[t] ty #[.slice a n c]))) (.int .i64 n) s:=by
 refine dk.pure (v:= .int .i64 n) r ?_ (.int _ _)
 simp[Builtin.len_,run_underlying ht,goInt]
theorem QI (r:Rel M s w) {t e:TypeId} {i:TypeInfo} {g:Tag} {rows:List (List D)} {row:List D} {v:Value} {k:IntKind} {n:Int} (ht:P.underlying t=some (.slice e)) (hi:P.info? e=some i)
 (hd:RD M s (.slice g i.size rows) v) (h0:0≤n) (hr:rows[n.toNat]? = some row) :
 dk P M s w (do pure (.value (← Instr.indexAt t v (.int k n)))) (.dO row 0) s:=by
 have hD:=(zac.1 hr).1
 rcases hd.j9 with ⟨rfl,_,_⟩|⟨rfl,_,_⟩|⟨b,q,cap,rfl,hl,hs,h1,h2,_⟩
 ·simp at hr
 ·simp at hr
 ·refine dk.pure (v:= .pointer (some ⟨b,q+n.toNat*i.size+0,none⟩)) r ?_ ?_
  ·have:n<(rows.length:Int):=by omega
   simp[Instr.indexAt,asIntOf,run_underlying ht,h0,this,sizeOf,gX P hi,nP]
  ·refine .dO row 0 b (q+n.toNat*i.size) (fun j d hj=> ?_) (fun j d u hj hu=> ?_)
   ·obtain⟨u,hu⟩:=h1 n.toNat row j d hr hj
    exact⟨u,by rw[Nat.add_assoc];exact hu⟩
   ·exact h2 n.toNat row j d u hr hj (by rw[← Nat.add_assoc];exact hu)
def TW (lv:Option Value) (l:Int):Prop:=(lv=none∧l=0)∨∃ k,lv=some (.int k l)
def TX (hv:Option Value) (len:Nat) (h:Int):Prop:=(hv=none∧h=len)∨∃ k,hv=some (.int k h)
theorem q5 {isSlice:Bool} {lv hv:Option Value} {len cap:Nat} {l h:Int} (h1:TW lv l) (h2:TX hv len h) (a:0≤l) (b:l≤h) (c:h≤len) (d:len≤cap) :
 (Instr.sliceBounds isSlice len cap lv hv none).run P w = .ok (l.toNat,h.toNat,cap) w:=by
 have h0:0≤h:=by omega
 have hc:h≤cap:=by omega
 rcases h1 with ⟨rfl,rfl⟩|⟨k,rfl⟩<;>rcases h2 with ⟨rfl,rfl⟩|⟨k',rfl⟩
 ·simp[Instr.sliceBounds]
 ·simp[Instr.sliceBounds,run_sliceBound w _ _ _ _ h0 hc]
 ·simp[Instr.sliceBounds,run_sliceBound w _ _ _ _ a b]
 ·have e:(h.toNat:Int)=h:=Int.toNat_of_nonneg h0
  simp[Instr.sliceBounds,run_sliceBound w _ _ _ _ h0 hc,run_sliceBound w _ _ _ _ a (show l≤(h.toNat:Int) by omega)]
theorem TY (r:Rel M s w) {t:TypeId} {lv hv:Option Value} {x:List UInt8} {l h:Int} (ht:P.underlying t=some .string) (h1:TW lv l) (h2:TX hv x.length h) (a:0≤l) (b:l≤h) (c:h≤x.length) :
 dk P M s w (do pure (.value (← Instr.sliceAt t (.string ⟨⟨x⟩⟩) lv hv none))) (.str ((x.take h.toNat).drop l.toNat)) s:=by
 have hb:=q5 (P:=P) (w:=w) (isSlice:=false) (cap:=x.length) h1 h2 a b c (zal _)
 refine dk.pure (v:= .string ⟨⟨(x.take h.toNat).drop l.toNat⟩⟩) r ?_ (.str _)
 simp[Instr.sliceAt,run_underlying ht,Instr.slice,DJ,hb,extract_mk]
theorem jO.cut {g:Tag} {z len WX cap:Nat} {base:Option (Nat×Nat)} (h:jO M s g z len base cap) (hl:WX≤len) (whole:Bool) (hw:whole=true→WX=len):jO M s (g.cut whole) z WX base cap:=by
 cases g with
 |full=>
  cases whole with
  |true=>rw[hw rfl];exact h
  |false=>trivial
 |shared=>trivial
 |tok t y=>
  obtain⟨x1,x2⟩:=h
  refine⟨x1,fun n hn=>⟨zaW hl (x2 n hn).1,fun e=>?_⟩⟩
  have:len=n:=by have:=(x2 n hn).1;omega
  exact(x2 n hn).2 this
theorem WY (r:Rel M s w) {t e:TypeId} {i:TypeInfo} {g:Tag} {z:Nat} {lv hv:Option Value} {rows:List (List D)} {v:Value} {l h:Int} (ht:P.underlying t=some (.slice e)) (Gd:P.info? e=some i) (hz:rows = []∨z=i.size)
 (hd:RD M s (.slice g z rows) v) (h1:TW lv l) (h2:TX hv rows.length h) (a:0≤l) (b:l≤h) (c:h≤rows.length) :
 dk P M s w (do pure (.value (← Instr.sliceAt t v lv hv none))) (.slice (if l=0 then g.cut (h=rows.length)else .shared) z ((rows.take h.toNat).drop l.toNat)) s:=by
 have hlen:((rows.take h.toNat).drop l.toNat).length=h.toNat - l.toNat:=by simp;omega
 have tag : ∀ base cap,jO M s g z rows.length base cap→jO M s (if l=0 then g.cut (h=rows.length)else .shared) z ((rows.take h.toNat).drop l.toNat).length base cap:=by
  intro base cap qb
  split
  ·exact qb.cut (by omega) _ (fun hh=>by simp at hh;omega)
  ·trivial
 rcases hd.j9 with ⟨rfl,rfl,qb⟩|⟨rfl,rfl,a',cap,rfl⟩|⟨b',q,cap,rfl,hl,hs,g1,g2,qb⟩
 ·have hb:=q5 (P:=P) (w:=w) (isSlice:=true) (cap:=0) h1 h2 a b c (zal _)
  have vZ:l=0:=by simp at c;omega
  have hh0:h=0:=by simp at c;omega
  subst vZ;subst hh0
  refine dk.pure (v:= .slice none 0 0) r ?_ ?_
  ·simp at hb
   simp[Instr.sliceAt,run_underlying ht,Instr.slice,hb,sizeOf,gX P Gd]
  ·have:=tag _ _ qb
   simp only[Int.toNat_zero,List.take_nil,List.drop_nil,zaD]at this ⊢
   exact .jz _ _ 0 rfl this
 ·have hb:=q5 (P:=P) (w:=w) (isSlice:=true) (cap:=cap) h1 h2 a b c (zaz _)
  have vZ:l=0:=by simp at c;omega
  have hh0:h=0:=by simp at c;omega
  subst vZ;subst hh0
  simp only[zaD]at hb
  have dU : ∃ a2:Addr,(Instr.sliceAt t (.slice (some a') 0 cap) lv hv none).run P w = .ok (.slice (some a2) 0 cap) w:=by
   refine⟨if cap=(0:Int).toNat then a' else a'.add ((0:Int).toNat*i.size), ?_⟩
   simp only[Instr.sliceAt,Sem.run_bind,run_underlying ht,Result.andThen_ok,Instr.slice,hb,sizeOf,gX P Gd,Sem.run_pure]
   split<;>simp
  obtain⟨a2,dU⟩:=dU
  refine dk.pure (v:= .slice (some a2) 0 cap) r (by simp[dU]) ?_
  simp only[↓reduceIte,Int.toNat_zero,List.take_nil,List.drop_nil]
  have:Tag.cut .shared (decide ((0:Int)=(([] : List (List D)).length:Int))) = .shared:=rfl
  rw[this]
  exact .mF _ a2 cap
 ·have hb:=q5 (P:=P) (w:=w) (isSlice:=true) (cap:=cap) h1 h2 a b c hl
  have dU:(Instr.sliceAt t (.slice (some ⟨b',q,none⟩) rows.length cap) lv hv none).run P w = .ok (.slice (some (if cap=l.toNat then⟨b',q,none⟩else⟨b',q+l.toNat*i.size,none⟩)) (h.toNat - l.toNat) (cap - l.toNat)) w:=by
   simp only[Instr.sliceAt,Sem.run_bind,run_underlying ht,Result.andThen_ok,Instr.slice,hb,sizeOf,gX P Gd,Sem.run_pure]
   split<;>simp[nP]
  by_cases vZ:l=0
  ·subst vZ
   have e:(if cap=(0:Int).toNat then(⟨b',q,none⟩:Addr)else⟨b',q+(0:Int).toNat*i.size,none⟩) = ⟨b',q,none⟩:=by simp
   rw[e]at dU
   refine dk.pure (v:= .slice (some ⟨b',q,none⟩) ((rows.take h.toNat).drop (0:Int).toNat).length cap) r (by simp[dU];omega) ?_
   refine .slice _ z _ b' q cap (by omega) (fun row hr=>hs row ?_) (fun i row j d e1 e2=>?_) (fun i row j d u e1 e2 eu=>?_) (tag _ _ qb)
   ·simp at hr;exact za5 hr
   ·simp[zaY]at e1;exact g1 i row j d e1.2 e2
   ·simp[zaY]at e1;exact g2 i row j d u e1.2 e2 eu
  ·rw [if_neg vZ]
   by_cases vK:cap=l.toNat
   ·have:(rows.take h.toNat).drop l.toNat = []:=zbk (by omega)
    rw[this]
    rw[if_pos vK]at dU
    refine dk.pure (v:= .slice (some ⟨b',q,none⟩) ([] : List (List D)).length (cap - l.toNat)) r (by simp[dU];omega) ?_
    exact .slice _ z [] b' q _ (by simp) (by simp) (by simp) (by simp) trivial
   ·rw [if_neg vK]at dU
    refine dk.pure (v:= .slice (some ⟨b',q+l.toNat*i.size,none⟩) ((rows.take h.toNat).drop l.toNat).length (cap - l.toNat)) r (by simp[dU];omega) ?_
    have dX : ∀ (k:Nat) (row:List D),((rows.take h.toNat).drop l.toNat)[k]? = some row→rows[l.toNat+k]? = some row:=by
     intro k row e
     rw[zbq,zaY]at e
     split at e
     ·exact e
     ·cases e
    have hzz : ∀ (k:Nat) (row:List D),((rows.take h.toNat).drop l.toNat)[k]? = some row→z=i.size:=by
     intro k row e
     rcases hz with rfl|hz
     ·simp at e
     ·exact hz
    refine .slice _ z _ b' _ _ (by omega) (fun row hr=>hs row (za5 (zbH hr))) (fun k row j d e1 e2=>?_) (fun k row j d u e1 e2 eu=>?_) trivial
    ·obtain⟨u,hu⟩:=g1 _ row j d (dX k row e1) e2
     refine⟨u, ?_⟩
     rw[← hu, ← hzz k row e1]
     congr 1
     rw[zbm];omega
    ·refine g2 _ row j d u (dX k row e1) e2 ?_
     rw[← eu, ← hzz k row e1]
     congr 1
     rw[zbm];omega
theorem xP (off:Nat) : ∀ (l:List Value) (k:Nat) (cells:Array Value) (i:Nat),
 ((l.zipIdx k).foldl (fun cs p=>cs.setIfInBounds (off+p.2) p.1) cells).size=cells.size∧
 (off+k+l.length≤cells.size→((l.zipIdx k).foldl (fun cs p=>cs.setIfInBounds (off+p.2) p.1) cells)[i]? = if off+k≤i∧i<off+k+l.length then l[i - (off+k)]? else cells[i]?)
 | [],k,cells,i=>by simp;intro _ h1 h2;omega
 | v::l,k,cells,i=>by
  obtain⟨h1,h2⟩:=xP off l (k+1) (cells.setIfInBounds (off+k) v) i
  simp only[List.zipIdx_cons,List.foldl_cons]
  refine⟨by rw[h1];simp,fun iB=>?_⟩
  simp only[zat]at iB
  rw[h2 (by simp;omega)]
  rw[Array.getElem?_setIfInBounds]
  by_cases hi:off+k=i
  ·subst hi
   rw[if_neg (by omega),if_pos rfl,if_pos (by omega),if_pos (by simp)]
   simp
  ·rw [if_neg hi]
   by_cases hr:off+(k+1)≤i∧i<off+(k+1)+l.length
   ·rw [if_pos hr,if_pos (by simp;omega)]
    rw[show i - (off+k)=(i - (off+(k+1)))+1 by omega]
    simp
   ·rw[if_neg hr,if_neg (by simp;omega)]
def vf (M:Map) (s:St) (ds:List D) (vs:Array Value):Prop:=vs.size=ds.length∧(∀ v∈vs,v.oneCell'=true)∧∀ (i:Nat) (d:D) (v:Value),ds[i]? = some d→vs[i]? = some v→RD M s d v
theorem vf.gV {ds:List D} {vs:Array Value} (h:vf M s ds vs) {d:D} {v:Value} {row:List D} (hd:RD M s d v) (hr:d.row=some row) {off:Nat} (iB:off+row.length≤ds.length) :
 vf M s (gV ds off row) (v.cells.zipIdx.foldl (fun cs (p:Value×Nat)=>cs.setIfInBounds (off+p.2) p.1) vs):=by
 obtain⟨h1,h2,h3⟩:=hd.row hr
 obtain⟨g1,g2,g3⟩:=h
 have e:v.cells.zipIdx.foldl (fun cs (p:Value×Nat)=>cs.setIfInBounds (off+p.2) p.1) vs=(v.cells.toList.zipIdx 0).foldl (fun cs p=>cs.setIfInBounds (off+p.2) p.1) vs:=by
  rw[← Array.foldl_toList];simp
 rw[e]
 have hl:v.cells.toList.length=row.length:=by simpa using h1
 have fs:=fun i=>xP off v.cells.toList 0 vs i
 have get : ∀ i,((v.cells.toList.zipIdx 0).foldl (fun cs p=>cs.setIfInBounds (off+p.2) p.1) vs)[i]? = if off≤i∧i<off+row.length then v.cells.toList[i - off]? else vs[i]? :=by
  intro i
  have:=(fs i).2 (by omega)
  rw[hl]at this
  simpa using this
 refine⟨by rw[(fs 0).1,g1,vI ds off row iB],fun u hu=>?_,fun i d' u e1 e2=>?_⟩
 ·obtain⟨i,hi⟩:=Array.mem_iff_getElem?.1 hu
  rw[get]at hi
  split at hi
  ·exact h2 u (zaU.1 (zad hi))
  ·exact g2 u (zbJ hi)
 ·rw [sU ds off row iB]at e1
  rw[get]at e2
  by_cases h5:off≤i
  ·by_cases h6:i<off+row.length
   ·rw [if_pos ⟨h5,h6⟩]at e2
    rw[if_neg (by omega),if_pos h6]at e1
    exact h3 _ d' u e1 (by simpa using e2)
   ·rw [if_neg (fun h=>h6 h.2)]at e2
    rw[if_neg (by omega),if_neg h6]at e1
    exact g3 i d' u e1 e2
  ·rw [if_neg (fun h=>h5 h.1)]at e2
   rw[if_pos (by omega)]at e1
   exact g3 i d' u e1 e2
theorem Lw {place:Nat→Option (Nat×Nat)} : ∀ (vp:List (Nat×Value)) (dp:List (Nat×Nat×D)) (ds:List D) (vs:Array Value) (o6:List D),vf M s ds vs→
 dp.length=vp.length→(∀ (j:Nat) (i:Nat) (v:Value) (off size:Nat) (d:D),vp[j]? = some (i,v)→dp[j]? = some (off,size,d)→place i=some (off,size)∧RD M s d v)→
 sS ds dp=some o6→∃ fP,Instr.fill place vs vp=some fP∧vf M s o6 fP
 | [],[],ds,vs,o6,h,_,_,e=>by cases e;exact⟨vs,rfl,h⟩
 | [],_::_,_,_,_,_,hl,_,_=>by simp at hl
 |_::_,[],_,_,_,_,hl,_,_=>by simp at hl
 | (i,v)::vp,(off,size,d)::dp,ds,vs,o6,h,hl,hp,e=>by
  obtain⟨h1,h2⟩:=hp 0 i v off size d rfl rfl
  unfold sS at e
  split at e
  ·cases e
  ·rename_i row hr
   split at e
   ·rename_i hc
    obtain⟨c1,c2⟩:=hc
    have dT:=(h2.row hr).1
    obtain⟨fP,f1,f2⟩:=Lw vp dp (gV ds off row) _ o6 (h.gV h2 hr (by omega)) (by simpa using hl)
     (fun j i v off size d e1 e2=>hp (j+1) i v off size d (by simpa using e1) (by simpa using e2)) e
    refine⟨fP, ?_,f2⟩
    unfold Instr.fill
    simp only[h1]
    rw[if_neg]
    ·exact f1
    ·simp;exact⟨by omega,by have:=h.1;omega⟩
   ·cases e
end
end Go.Abs
namespace Go.Abs
section
variable {P:Program} {M:Map} {s:St} {w:World}
def nu (M:Map) (s:St) (size:Nat) (rows:List (List D)) (vs:Array Value):Prop:=
 rows.length*size≤vs.size∧(∀ row∈rows,row.length=size)∧(∀ v∈vs,v.oneCell'=true)∧
 ∀ (i:Nat) (row:List D) (j:Nat) (d:D) (v:Value),rows[i]? = some row→row[j]? = some d→vs[i*size+j]? = some v→RD M s d v
theorem Ct {size:Nat} {rows:List (List D)} (hs : ∀ row∈rows,row.length=size) {i:Nat} {row:List D} {j:Nat} {d:D} (h1:rows[i]? = some row) (h2:row[j]? = some d):i*size+j<rows.length*size:=by
 have hi:=(zac.1 h1).1
 have hj:=(zac.1 h2).1
 have:=hs row (zad h1)
 have:i*size+size≤rows.length*size:=by rw[← Nat.succ_mul];exact zaO _ hi
 omega
theorem nu.fixed {size:Nat} {rows:List (List D)} {vs:Array Value} (h:nu M s size rows vs) {M':Map} {s':St} (le:Le M s M' s') {b:Nat}
 (hG : ∀ o,o<rows.length*size→M'.G b o=vs[o]?) :
 (∀ (i:Nat) (row:List D) (j:Nat) (d:D),rows[i]? = some row→row[j]? = some d→∃ u,M'.G b (0+(i*size+j))=some u)∧
 (∀ (i:Nat) (row:List D) (j:Nat) (d:D) (u:Value),rows[i]? = some row→row[j]? = some d→M'.G b (0+(i*size+j))=some u→RD M' s' d u):=by
 obtain⟨h1,h2,h3,h4⟩:=h
 refine⟨fun i row j d e1 e2=>?_,fun i row j d u e1 e2 eu=>?_⟩
 ·have hD:=Ct h2 e1 e2
  rw[zaZ,hG _ hD]
  exact⟨_,zbl (by omega)⟩
 ·have hD:=Ct h2 e1 e2
  rw[zaZ,hG _ hD]at eu
  exact(h4 i row j d u e1 e2 eu).mono le
theorem nw (z:List D) : ∀ n,(gj z n).length=n
 | 0=>rfl
 |n+1=>by simp[gj,nw z n]
theorem qy (z:List D) : ∀ n,∀ row∈gj z n,row=z
 | 0,_,h=>by cases h
 |n+1,row,h=>by
  rcases zap.1 h with rfl|h
  ·rfl
  ·exact qy z n row h
theorem nu.zero {z:List D} {zs:Array Value} (h:vf M s z zs) (hp:0<z.length) (n:Nat):nu M s z.length (gj z n) ((Array.range (n*z.length)).map (zs[· % zs.size]!)):=by
 obtain⟨h1,h2,h3⟩:=h
 have get : ∀ q,q<n*z.length→((Array.range (n*z.length)).map (zs[· % zs.size]!))[q]? = zs[q % z.length]? :=by
  intro q hq
  have:q % z.length<zs.size:=by rw[h1];exact zbW _ hp
  simp only[Array.getElem?_map,Array.getElem?_range,hq,if_true,za3]
  rw[h1,getElem!_pos zs (q % z.length) this,zbl this]
 refine⟨by simp[nw],fun row hr=>by rw[qy z n row hr],fun v hv=>?_,fun i row j d v e1 e2 e3=>?_⟩
 ·obtain⟨q,hq⟩:=Array.mem_iff_getElem?.1 hv
  have hD:q<n*z.length:=by have:=(zaT.1 hq).1;simpa using this
  rw[get q hD]at hq
  exact h2 v (zbJ hq)
 ·have dX:=qy z n row (zad e1)
  subst dX
  have hD:=Ct (size:=row.length) (fun r hr=>by rw[qy row n r hr]) e1 e2
  rw[nw]at hD
  rw[get _ hD]at e3
  have hj:=(zac.1 e2).1
  rw[Nat.mul_comm,Nat.mul_add_mod,Nat.mod_eq_of_lt hj]at e3
  exact h3 j d v e2 e3
theorem nu.set {size:Nat} {rows:List (List D)} {vs:Array Value} (h:nu M s size rows vs) {d:D} {v:Value} {row:List D} (hd:RD M s d v) (hr:d.row=some row) (hl:row.length=size) {i:Nat} (hi:i<rows.length) :
 nu M s size (rows.set i row) (v.cells.zipIdx.foldl (fun cs (p:Value×Nat)=>cs.setIfInBounds (i*size+p.2) p.1) vs):=by
 obtain⟨h1,h2,h3⟩:=hd.row hr
 obtain⟨g1,g2,g3,g4⟩:=h
 have e:v.cells.zipIdx.foldl (fun cs (p:Value×Nat)=>cs.setIfInBounds (i*size+p.2) p.1) vs=(v.cells.toList.zipIdx 0).foldl (fun cs p=>cs.setIfInBounds (i*size+p.2) p.1) vs:=by
  rw[← Array.foldl_toList];simp
 rw[e]
 have jI:v.cells.toList.length=size:=by simp[h1,hl]
 have iB:i*size+size≤vs.size:=by
  have:(i+1)*size≤rows.length*size:=zaO _ hi
  rw[Nat.succ_mul]at this;omega
 have fs:=fun q=>xP (i*size) v.cells.toList 0 vs q
 have get : ∀ q,((v.cells.toList.zipIdx 0).foldl (fun cs p=>cs.setIfInBounds (i*size+p.2) p.1) vs)[q]? = if i*size≤q∧q<i*size+size then v.cells.toList[q - i*size]? else vs[q]? :=by
  intro q
  have:=(fs q).2 (by omega)
  rw[jI]at this
  simpa using this
 refine⟨by rw[(fs 0).1];simpa using g1,fun r Jl=>?_,fun u hu=>?_,fun i' lh j d' u e1 e2 e3=>?_⟩
 ·rcases List.mem_or_eq_of_mem_set Jl with h | rfl
  ·exact g2 r h
  ·exact hl
 ·obtain⟨q,hq⟩:=Array.mem_iff_getElem?.1 hu
  rw[get]at hq
  split at hq
  ·exact h2 u (zaU.1 (zad hq))
  ·exact g3 u (zbJ hq)
 ·rw [zaL]at e1
  rw[get]at e3
  split at e1
  ·rename_i heq;subst heq
   simp at e1
   obtain⟨_,rfl⟩:=e1
   have hj:=(zac.1 e2).1
   rw[if_pos (by omega)]at e3
   rw[show i*size+j - i*size=j by omega]at e3
   exact h3 j d' u e2 (by simpa using e3)
  ·rename_i eO
   have hj:=(zac.1 e2).1
   have vg:=g2 lh (zad e1)
   rw[if_neg]at e3
   ·exact g4 i' lh j d' u e1 e2 e3
   ·rintro⟨a,b⟩
    rcases Nat.lt_or_gt_of_ne eO with h|h
    ·have:(i+1)*size≤i'*size:=zaO _ h
     rw[Nat.succ_mul]at this;omega
    ·have:(i'+1)*size≤i*size:=zaO _ h
     rw[Nat.succ_mul]at this;omega
theorem Cu {size:Nat} : ∀ (vp:List (Nat×Value)) (dp:List (Nat×D)) (rows:List (List D)) (vs:Array Value) (qh:List (List D)),nu M s size rows vs→
 dp.length=vp.length→(∀ (j:Nat) (i:Nat) (v:Value) (i':Nat) (d:D),vp[j]? = some (i,v)→dp[j]? = some (i',d)→i'=i∧RD M s d v)→
 kV size rows dp=some qh→∃ fP,Instr.fill (fun i=>some (i*size,size)) vs vp=some fP∧nu M s size qh fP∧qh.length=rows.length∧fP.size=vs.size
 | [],[],rows,vs,qh,h,_,_,e=>by cases e;exact⟨vs,rfl,h,rfl,rfl⟩
 | [],_::_,_,_,_,_,hl,_,_=>by simp at hl
 |_::_,[],_,_,_,_,hl,_,_=>by simp at hl
 | (i,v)::vp,(i',d)::dp,rows,vs,qh,h,hl,hp,e=>by
  obtain⟨h1,h2⟩:=hp 0 i v i' d rfl rfl
  subst h1
  unfold kV at e
  split at e
  ·cases e
  ·rename_i row hr
   split at e
   ·rename_i hc
    obtain⟨c1,c2⟩:=hc
    have dT:=(h2.row hr).1
    have DK:=h.set h2 hr c1 c2
    obtain⟨fP,f1,f2,f3,f4⟩:=Cu vp dp (rows.set i' row) _ qh DK (by simpa using hl)
     (fun j i v i' d e1 e2=>hp (j+1) i v i' d (by simpa using e1) (by simpa using e2)) e
    have iB:i'*size+size≤vs.size:=by
     have:(i'+1)*size≤rows.length*size:=zaO _ c2
     have:=h.1
     rw[Nat.succ_mul]at *;omega
    refine⟨fP, ?_,f2,by rw[f3];simp, ?_⟩
    ·unfold Instr.fill
     simp only
     rw[if_neg]
     ·exact f1
     ·simp;exact⟨by omega,by omega⟩
    ·rw [f4]
     have:=(xP (i'*size) v.cells.toList 0 vs 0).1
     rw[← this, ← Array.foldl_toList];simp
   ·cases e
theorem QJ (r:Rel M s w) {size:Nat} {rows:List (List D)} {vs:Array Value} (T:TypeId) (h:nu M s size rows vs) :
 RD (M.gD w.heap.size vs.size vs) s (.slice .full size rows) (.slice (some ⟨w.heap.size,0,none⟩) rows.length rows.length)∧
 Rel (M.gD w.heap.size vs.size vs) s (w.alloc (.cells vs T))∧Ext M s w (M.gD w.heap.size vs.size vs) s (w.alloc (.cells vs T)):=by
 obtain⟨r',e'⟩:=r.gD vs.size vs T (0,0) h.2.2.1
 obtain⟨g1,g2⟩:=h.fixed e'.le (b:=w.heap.size) (fun o ho=>by
  have:o<vs.size:=zaX ho h.1
  simp[Map.gD,this])
 exact⟨.slice .full size rows w.heap.size 0 rows.length (zal _) h.2.1 g1 g2 rfl,r',e'⟩
theorem mJ {t u ty e:TypeId} {i:TypeInfo} (ht:P.underlying t=some (.slice e)) (hi:P.info? e=some i) {base:Option Addr} {len cap:Nat} {y:Value} (hs:Src P i.size u y 0 [] w) (hc:len≤cap) :
 (Builtin.append_ #[t,u] ty #[.slice base len cap,y]).run P w = .ok (.slice base len cap) w:=by
 have ny:=hs.cells
 rcases hs.kind with ⟨e',hk⟩|hk<;>cases base<;>simp[Builtin.append_,run_underlying ht,run_underlying hk,sizeOf,typeInfo,hi,hs.len,hc,ny,storeCells]
theorem Jm (r:Rel M s w) {u e':TypeId} (hu:P.underlying u=some (.slice e')) {g:Tag} {size:Nat} {rows:List (List D)} {y:Value} (hy:RD M s (.slice g size rows) y) :
 ∃ news:List Value,Src P size u y rows.length news w∧
  (∀ (i:Nat) (row:List D) (j:Nat) (d:D) (v:Value),rows[i]? = some row→row[j]? = some d→news[i*size+j]? = some v→RD M s d v)∧
  ∀ (b q n c:Nat),y = .slice (some ⟨b,q,none⟩) n c→∀ o,o<rows.length*size→M.G b (q+o)=news[o]? :=by
 rcases hy.j9 with ⟨rfl,rfl,_⟩|⟨rfl,_,a,cap,rfl⟩|⟨b,q,cap,rfl,hl,hs,g1,g2,_⟩
 ·exact⟨[],Src.ofNil w hu 0,by simp,by simp⟩
 ·exact⟨[],Src.ofSlice w hu a 0 cap [] (by simp) (by simp) (by simp),by simp,by simp⟩
 ·obtain⟨us,hlen,Ep⟩:=AQ (M:=M) (b:=b) (rows.length*size) q (fun k hk=>by
   have hz:0<size:=by
    rcases Nat.eq_zero_or_pos size with h|h
    ·subst h;simp at hk
    ·exact h
   have hi:k / size<rows.length:=by rw[Nat.div_lt_iff_lt_mul hz];exact hk
   obtain⟨row,dX⟩ : ∃ row,rows[k / size]? = some row:=⟨_,zah hi⟩
   have vg:=hs row (zad dX)
   have hj:k % size<row.length:=by rw[vg];exact zbW _ hz
   obtain⟨u,hu⟩:=g1 _ row _ _ dX (zah hj)
   refine⟨u, ?_⟩
   rw[← hu,Nat.mul_comm (k / size) size,Nat.div_add_mod])
  refine⟨us,Src.ofSlice w hu ⟨b,q,none⟩ rows.length cap us hlen (fun j u h=>by rw[nP];exact(r.comm _ _ _ (Ep j u h)).1) (fun u hu=>?_),fun i row j d v e1 e2 e3=>g2 i row j d v e1 e2 (Ep _ v e3),
   fun b' q' n c heq o ho=>by
    cases heq
    rw[Ep o _ (zah (by omega)),zah (by omega)]⟩
  obtain⟨j,hj⟩:=List.mem_iff_getElem?.1 hu
  exact(r.comm _ _ _ (Ep j u hj)).2
theorem Ge {size:Nat} {rows new:List (List D)} {rE news:List Value} (nz : ∀ row∈rows,row.length=size) (rR : ∀ row∈new,row.length=size)
 (l1:rE.length=rows.length*size) (l2:news.length=new.length*size) (o1 : ∀ u∈rE,u.oneCell'=true) (o2 : ∀ u∈news,u.oneCell'=true)
 (h1 : ∀ (i:Nat) (row:List D) (j:Nat) (d:D) (v:Value),rows[i]? = some row→row[j]? = some d→rE[i*size+j]? = some v→RD M s d v)
 (h2 : ∀ (i:Nat) (row:List D) (j:Nat) (d:D) (v:Value),new[i]? = some row→row[j]? = some d→news[i*size+j]? = some v→RD M s d v)
 (z:Array Value) (hz : ∀ v∈z,v.oneCell'=true):nu M s size (rows++new) ((rE++news).toArray++z):=by
 have hs : ∀ row∈rows++new,row.length=size:=fun row h=>(zaq.1 h).elim (nz row) (rR row)
 refine⟨by simp[l1,l2,zbm],hs,fun v hv=>?_,fun i row j d v e1 e2 e3=>?_⟩
 ·simp at hv
  rcases hv with (h|h)|h
  ·exact o1 v h
  ·exact o2 v h
  ·exact hz v h
 ·have hD:=Ct hs e1 e2
  rw[zaj,zbm]at hD
  rw[zbc (by simp[l1,l2];omega),zbB]at e3
  by_cases hi:i<rows.length
  ·rw [zak hi]at e1
   have:=Ct nz e1 e2
   rw[zak (by omega)]at e3
   exact h1 i row j d v e1 e2 e3
  ·rw [zas (by omega)]at e1
   have o7:rows.length*size≤i*size:=zaO _ (by omega)
   rw[zas (by omega),l1]at e3
   refine h2 (i - rows.length) row j d v e1 e2 ?_
   rw[← e3]
   congr 1
   rw[Nat.sub_mul];omega
theorem vL {z:Array Value} (h : ∀ v∈z,v.oneCell'=true) (n:Nat) : ∀ v∈Builtin.zeroCells z n,v.oneCell'=true:=by
 intro v hv
 unfold Builtin.zeroCells at hv
 obtain⟨q,hq,rfl⟩:=Array.mem_map.1 hv
 have hD:q<n*z.size:=by simpa using hq
 have hz:0<z.size:=by
  rcases Nat.eq_zero_or_pos z.size with h|h
  ·rw[h]at hD;simp at hD
  ·exact h
 have:=zbW q hz
 rw[getElem!_pos z (q % z.size) this]
 exact h _ (Array.getElem_mem this)
def HZ (eb:Bool) (size bytes:Nat) (x y:D) (s:St):Option (D×St):=
 match x,y with
 | .slice g z rows, .slice _ z' new=>
  if(rows = []∨z=size)∧(new = []∨z'=size)∧(rows.length+new.length)*(bytes+1)≤aV then
   match new with
   | []=>some (.slice g z rows,s)
   |_::_=>
    match g with
    | .full=>some (.slice (.tok s.ay.length eb) size (rows++new),{s with ay:=s.ay++ [some (rows.length+new.length)]})
    | .shared=>none
    | .tok t y=>if(y=true→eb=true)∧z=size∧s.ay[t]? = some (some rows.length)then some (.slice (.tok t y) size (rows++new),{s with ay:=s.ay.set t (some (rows.length+new.length))})else none
  else none
 |_,_=>none
theorem adU {size bytes:Nat} {x y d:D} {s s':St} (h:fH size bytes x y s=some (d,s')):HZ false size bytes x y s=some (d,s'):=by
 unfold fH at h
 unfold HZ
 split at h
 ·split at h
  ·rename_i hc
   simp only[hc,and_self,if_true]
   split at h
   ·exact h
   ·split at h
    ·exact h
    ·exact h
    ·cases h
    ·split at h
     ·rename_i hq
      simp only[hq,and_self,zab,false_imp_iff,if_true]
      exact h
     ·cases h
  ·cases h
 ·cases h
theorem T4 {x y d:D} {s s':St} (h:Ck x y s=some (d,s')):HZ true 1 1 x y s=some (d,s'):=by
 unfold Ck at h
 unfold HZ
 split at h
 ·split at h
  ·rename_i hc
   simp only[hc,and_self,if_true]
   split at h
   ·exact h
   ·split at h
    ·exact h
    ·exact h
    ·split at h
     ·rename_i hq
      simp only[hq,and_self,imp_true_iff,if_true]
      exact h
     ·cases h
  ·cases h
 ·cases h
theorem Z8 {b:Bool} {n:Nat} (h:b=true→n=1) (hn:0<n):zs (bz b n)=n:=by
 cases b
 ·show(if n=0 then 1 else n)=n
  rw[if_neg (by omega)]
 ·simp[zs,bz,h rfl]
theorem E6 (eb:Bool) (r:Rel M s w) {t u ty e:TypeId} {i:TypeInfo} {z:Value} (ht:P.underlying t=some (.slice e)) (hi:P.info? e=some i) (hz:i.zero=some z)
 (zw:z.cells.size=i.size) (Et : ∀ v∈z.cells,v.oneCell'=true) {dx dy d:D} {x y:Value} {s':St} (hx:RD M s dx x) (Z9:eb=true→e=qZ∧i.size=1) (uu:0<i.size) (he:HZ eb i.size i.bytes dx dy s=some (d,s'))
 (src : ∀ (g:Tag) (size:Nat) (rows:List (List D)),dy = .slice g size rows→(rows = []→Src P i.size u y 0 [] w)∧(rows≠ []→size=i.size→(∀ row∈rows,row.length=i.size)∧∃ news:List Value,Src P i.size u y rows.length news w∧
  (∀ (k:Nat) (row:List D) (j:Nat) (d:D) (v:Value),rows[k]? = some row→row[j]? = some d→news[k*i.size+j]? = some v→RD M s d v))) :
 ∃ v w' M',(Builtin.append_ #[t,u] ty #[x,y]).run P w = .ok v w'∧Rel M' s' w'∧RD M' s' d v∧Ext M s w M' s' w':=by
 unfold HZ at he
 split at he
 case h_2=>cases he
 rename_i g zx rows g' zy new
 split at he
 case isFalse=>cases he
 rename_i hc
 obtain⟨rm,Lz,vh⟩:=hc
 cases new with
 | nil=>
  simp only at he
  cases he
  have v7:Src P i.size u y 0 [] w:=(src _ _ _ rfl).1 rfl
  rcases hx.j9 with ⟨_,hv,_⟩|⟨_,_,a,cap,hv⟩|⟨b,q,cap,hv,hl,_⟩
  ·refine⟨x,w,M, ?_,r,hx,Ext.refl M s w⟩
   rw[hv]
   exact mJ ht hi v7 (zal _)
  ·refine⟨x,w,M, ?_,r,hx,Ext.refl M s w⟩
   rw[hv]
   exact mJ ht hi v7 (zaz _)
  ·refine⟨x,w,M, ?_,r,hx,Ext.refl M s w⟩
   rw[hv]
   exact mJ ht hi v7 hl
 | cons n0 new=>
  have eO:(n0::new)≠ []:=by simp
  generalize du:n0::new=eH at *
  have T5:zy=i.size:=Lz.resolve_left eO
  subst T5
  obtain⟨Jn,news,hs,DL⟩:=(src _ _ _ rfl).2 eO rfl
  have hm:0<eH.length:=List.length_pos_iff.2 eO
  have vi:(rows.length+eH.length)*i.bytes≤140737488355328:=by rw[Nat.mul_succ]at vh;simp only[aV]at vh;omega
  have T6:rows.length+eH.length≤1099511627776:=by rw[Nat.mul_succ]at vh;simp only[aV]at vh;omega
  -- what the first argument reads as
  obtain⟨base,cap,rE,hxv,hle,kn,hod,aac,adW,hsx,hoG,qb⟩ : ∃ (base:Option Addr) (cap:Nat) (rE:List Value),x = .slice base rows.length cap∧rows.length≤cap∧rE.length=rows.length*i.size∧
   (Builtin.firstCells i.size rows.length (.slice base rows.length cap)).run P w.drew = .ok rE.toArray w.drew∧(∀ u∈rE,u.oneCell'=true)∧
   (∀ (k:Nat) (row:List D) (j:Nat) (d:D) (v:Value),rows[k]? = some row→row[j]? = some d→rE[k*i.size+j]? = some v→RD M s d v)∧(∀ row∈rows,row.length=i.size)∧
   (∀ b q,base=some ⟨b,q,none⟩→∀ o,o<rows.length*i.size→M.G b (q+o)=rE[o]?)∧
   ((base=none∧rows = []∧jO M s g zx 0 none cap)∨∃ b q,base=some ⟨b,q,none⟩∧jO M s g zx rows.length (some (b,q)) cap):=by
   rcases rm with h0|h0
   ·subst h0
    rcases hx.j9 with ⟨_,hv,qb⟩|⟨_,rfl,_⟩|⟨b,q,cap,hv,hl,_,_,_,qb⟩
    ·exact⟨none,0,[],hv,zal _,by simp,by simp[Builtin.firstCells],by simp,by simp,by simp,by simp, .inl ⟨rfl,rfl,qb⟩⟩
    ·exfalso;simp only[← du]at he;cases he
    ·exact⟨some ⟨b,q,none⟩,cap,[],hv,hl,by simp,by simp[Builtin.firstCells,loadCells,loadCellsFrom],by simp,by simp,by simp,by simp, .inr ⟨b,q,rfl,qb⟩⟩
   ·subst h0
    obtain⟨rE,Cv,ho2,ho3⟩:=Jm r ht hx
    rcases hx.j9 with ⟨h0,hv,qb⟩|⟨_,rfl,_⟩|⟨b,q,cap,hv,hl,qz,_,_,qb⟩
    ·subst h0
     refine⟨none,0,rE,hv,zal _,Cv.newsLen, ?_,Cv.one,ho2,by simp,by simp, .inl ⟨rfl,rfl,qb⟩⟩
     have:=Cv.cellsD;rw[hv]at this;exact this
    ·exfalso;simp only[← du]at he;cases he
    ·refine⟨some ⟨b,q,none⟩,cap,rE,hv,hl,Cv.newsLen, ?_,Cv.one,ho2,qz,fun b' q' heq o ho=> ?_, .inr ⟨b,q,rfl,qb⟩⟩
     ·have:=Cv.cellsD;rw[hv]at this;exact this
     ·cases heq;exact ho3 b q _ cap hv o ho
  subst hxv
  -- the way that makes a new row
  have grow : ∀ (hg:cap<rows.length+eH.length),∃ (w':World) (M1:Map) (vs:Array Value) (qA:Nat),
   (Builtin.append_ #[t,u] ty #[.slice base rows.length cap,y]).run P w = .ok (.slice (some ⟨w.heap.size,0,none⟩) (rows.length+eH.length) qA) w'∧
   w'.heap[w.heap.size]? = some (.cells vs e (0,0))∧vs.size=qA*i.size∧rows.length+eH.length≤qA∧M1=M.gD w.heap.size ((rows.length+eH.length)*i.size) vs∧
   nu M s i.size (rows++eH) vs∧Rel M1 s w'∧Ext M s w M1 s w':=by
   intro hg
   have o7:=grownCap_ge w (rows.length+eH.length) cap e
   have dU:=run_append_grow_src (P:=P) w t u ty e i z ht hi hz base rows.length cap rE hod y eH.length news hs hg (by omega) (growslice_fits hg vi)
   have dX:=Ge (M:=M) (s:=s) hsx Jn kn hs.newsLen aac hs.one adW DL (Builtin.zeroCells z.cells (grownCap w (rows.length+eH.length) cap e - (rows.length+eH.length))) (vL Et _)
   obtain⟨r1,e1⟩:=(r.of_heap (w':=w.drew) rfl).gD ((rows.length+eH.length)*i.size) _ e (0,0) dX.2.2.1
   refine⟨_,_,_,_,dU,heap_alloc_new w.drew _, ?_,o7,rfl,dX,r1,(Ext.of_heap (M:=M) (s:=s) (w:=w) (w':=w.drew) rfl rfl rfl rfl).trans e1⟩
   simp only[Array.size_append,List.size_toArray,zaj,size_zeroCells,zw,kn,hs.newsLen, ← zbm]
   congr 1;omega
  have hlen:(rows++eH).length=rows.length+eH.length:=by simp
  cases g with
  |shared=>simp only[← du]at he;cases he
  | full=>
   have vK:cap=rows.length:=by
    rcases qb with ⟨_,h0,h1⟩|⟨_,_,_,h1⟩
    ·subst h0;exact h1
    ·exact h1
   obtain⟨w',M1,vs,qA,dU,hh,dT,hn,Gf,dX,r1,e1⟩:=grow (by omega)
   simp only[← du]at he
   simp only[du]at he
   cases he
   have LA:zs (bz eb i.size)=i.size:=Z8 (fun h=>(Z9 h).2) uu
   have hyb:bz eb i.size=0→e=qZ:=fun h0=>by
    cases eb with
    |true=>exact(Z9 rfl).1
    |false=>simp[bz]at h0;omega
   obtain⟨r2,l2⟩:=r1.Z6 (rows.length+eH.length) w.heap.size qA (bz eb i.size) vs e hh (by rw[LA];exact dT) hn hyb
    (fun off ho=>by rw[LA]at ho;rw[Gf];simp[Map.gD];omega)
    (fun o ho=>by have:=r.sc ho;rw [Gf];show M.mu o≠_;omega) (fun q c z' hl heq=>by
     have:M.be q=some (w.heap.size,c,z'):=by rw[Gf]at heq;exact heq
     have:=r.uP hl this;omega)
   refine⟨_,w',_,dU,r2, ?_, ?_⟩
   ·obtain⟨f1,f2⟩:=dX.fixed (e1.le.trans l2) (b:=w.heap.size) (fun o ho=>by
     rw[Gf,hlen]at *
     simp[Map.fa,Map.gD,ho])
    have key:=RD.slice (M:=M1.fa s.ay.length (some (w.heap.size,qA,bz eb i.size))) (s:= {s with ay:=s.ay++ [some (rows.length+eH.length)]}) (.tok s.ay.length eb) i.size (rows++eH) w.heap.size 0 qA (by rw[hlen];exact hn) dX.2.1 f1 f2
     ⟨by simp,fun n s5=>by
      simp at s5
      subst s5
      exact⟨by rw[hlen];exact zal _,fun _=> .inr ⟨_,rfl,by simp[Map.fa]⟩⟩⟩
    rw[hlen]at key
    exact key
   ·refine⟨e1.le.trans l2,e1.kept,e1.vH,fun q b c z' hl heq=> ?_,e1.ui,e1.size,e1.os,e1.tape,e1.output⟩
    obtain⟨k,hk⟩:=hl
    rcases zaE q s.ay.length with h|h
    ·have LB:M1.be q=some (b,c,z'):=by
      have:(M1.fa s.ay.length (some (w.heap.size,qA,bz eb i.size))).be q=M1.be q:=by simp[Map.fa];omega
      rw[this]at heq;exact heq
     simp only[zak h]at hk
     exact e1.sj q b c z' ⟨k,hk⟩ LB
    ·have:=(zac.1 hk).1
     simp at this
     have:q=s.ay.length:=by omega
     subst this
     have:(M1.fa s.ay.length (some (w.heap.size,qA,bz eb i.size))).be s.ay.length=some (w.heap.size,qA,bz eb i.size):=by simp[Map.fa]
     rw[this]at heq;cases heq
     exact .inr (zal _)
  | tok q yb=>
   simp only[← du]at he
   simp only[du]at he
   split at he
   case isFalse=>cases he
   rename_i hq
   obtain⟨hyb,hzx,hq⟩:=hq
   cases he
   have LA:zs (bz yb i.size)=i.size:=Z8 (fun h=>(Z9 (hyb h)).2) uu
   have alO:bz yb i.size=0→e=qZ:=fun h0=>by
    cases yb with
    |true=>exact(Z9 (hyb rfl)).1
    |false=>simp[bz]at h0;omega
   have QK : ∀ (hg:cap<rows.length+eH.length),∃ v w' M',(Builtin.append_ #[t,u] ty #[.slice base rows.length cap,y]).run P w = .ok v w'∧Rel M' {s with ay:=s.ay.set q (some (rows.length+eH.length))} w'∧
    RD M' {s with ay:=s.ay.set q (some (rows.length+eH.length))} (.slice (.tok q yb) i.size (rows++eH)) v∧Ext M s w M' {s with ay:=s.ay.set q (some (rows.length+eH.length))} w':=by
    intro hg
    obtain⟨w',M1,vs,qA,dU,hh,dT,hn,Gf,dX,r1,e1⟩:=grow hg
    have Eu:q<s.ay.length:=(zac.1 hq).1
    obtain⟨r2,l2⟩:=r1.ah8 q rows.length (rows.length+eH.length) w.heap.size qA (bz yb i.size) vs e hq (by omega) hh (by rw[LA];exact dT) hn alO
     (fun off ho=>by rw[LA]at ho;rw[Gf];simp[Map.gD];omega)
     (fun o ho=>by have:=r.sc ho;rw [Gf];show M.mu o≠_;omega) (fun q c z' hl heq=>by
      have:M.be q=some (w.heap.size,c,z'):=by rw[Gf]at heq;exact heq
      have:=r.uP hl this;omega)
    refine⟨_,w',_,dU,r2, ?_, ?_⟩
    ·obtain⟨f1,f2⟩:=dX.fixed (e1.le.trans l2) (b:=w.heap.size) (fun o ho=>by
      rw[Gf,hlen]at *
      simp[Map.fa,Map.gD,ho])
     have key:=RD.slice (M:=M1.fa q (some (w.heap.size,qA,bz yb i.size))) (s:= {s with ay:=s.ay.set q (some (rows.length+eH.length))}) (.tok q yb) i.size (rows++eH) w.heap.size 0 qA (by rw[hlen];exact hn) dX.2.1 f1 f2
      ⟨by simp [Eu],fun n s5=>by
       simp[Eu]at s5
       subst s5
       exact⟨by rw[hlen];exact zal _,fun _=> .inr ⟨_,rfl,by simp[Map.fa]⟩⟩⟩
     rw[hlen]at key
     exact key
    ·refine⟨e1.le.trans l2,e1.kept,e1.vH,fun q' b c z' hl heq=> ?_,e1.ui,e1.size,e1.os,e1.tape,e1.output⟩
     obtain⟨k,hk⟩:=hl
     by_cases h:q'=q
     ·subst h
      have:(M1.fa q' (some (w.heap.size,qA,bz yb i.size))).be q'=some (w.heap.size,qA,bz yb i.size):=by simp[Map.fa]
      rw[this]at heq;cases heq
      exact .inr (zal _)
     ·have LB:M1.be q'=some (b,c,z'):=by
       have:(M1.fa q (some (w.heap.size,qA,bz yb i.size))).be q'=M1.be q':=by simp[Map.fa,h]
       rw[this]at heq;exact heq
      simp only[zam (Ne.symm h)]at hk
      exact e1.sj q' b c z' ⟨k,hk⟩ LB
   rcases qb with ⟨rfl,rfl,h1⟩|⟨b,k,rfl,h1⟩
   ·obtain⟨_,h2⟩:=h1
    obtain⟨_,h3⟩:=h2 _ hq
    rcases h3 rfl with ⟨_,h4⟩|⟨b,h4,_⟩
    ·exact QK (by simp;omega)
    ·cases h4
   ·obtain⟨_,h2⟩:=h1
    obtain⟨_,h3⟩:=h2 _ hq
    rcases h3 rfl with ⟨_,h4⟩|⟨b2,h4,lM⟩
    ·exact QK (by omega)
    cases h4
    subst hzx
    by_cases iF:rows.length+eH.length≤cap
    ·rcases r.tok q rows.length hq with ⟨h4,_⟩ | ⟨b',sn,AL,vs,T,h4,h5,h6,h7,h8⟩
     ·rw[lM]at h4;cases h4
     ·rw [lM]at h4;cases h4
      rw[LA]at h6
      obtain⟨r2,e2⟩:=r.ah9 q rows.length eH.length b cap (bz yb i.size) i.size news LA hq lM hs.newsLen iF hm hs.one vs T h5 h6 h8.2
      have iB:rows.length*i.size+news.length≤vs.size:=by rw[hs.newsLen,h6, ← zbm];exact zaO _ iF
      have gd:=run_storeCells_at P b (rows.length*i.size) T news 0 vs w h5 (by simpa using iB) hs.one
      simp only[zaS]at gd
      have dU:(Builtin.append_ #[t,u] ty #[.slice (some ⟨b,0,none⟩) rows.length cap,y]).run P w = .ok (.slice (some ⟨b,0,none⟩) (rows.length+eH.length) cap) (w.setRow b (vs.toList.take (rows.length*i.size)++news++vs.toList.drop (rows.length*i.size+news.length)).toArray):=by
       rcases hs.kind with ⟨Pb,hk⟩|hk<;>simp[Builtin.append_,run_underlying ht,run_underlying hk,sizeOf,typeInfo,hi,hs.len,iF,hs.cells,Addr.add_lit,gd]
      refine⟨_,_,_,dU,r2, ?_,e2⟩
      have hG : ∀ o,o<(rows++eH).length*i.size→(M.fix b (rows.length*i.size) news).G b o=(rE++news).toArray[o]? :=by
       intro o ho
       rw[hlen,zbm]at ho
       rw[zbB]
       by_cases h9:o<rows.length*i.size
       ·rw [zak (by omega)]
        have:(M.fix b (rows.length*i.size) news).G b o=M.G b o:=by simp[Map.fix];omega
        rw[this]
        have:=hoG b 0 rfl o h9
        rwa [zaZ]at this
       ·rw [zas (by omega),kn]
        have:(M.fix b (rows.length*i.size) news).G b o=news[o - rows.length*i.size]? :=by
         simp only[Map.fix];rw[if_pos ⟨trivial,by omega,by rw[hs.newsLen];omega⟩]
        rw[this]
      have dX:=Ge (M:=M) (s:=s) hsx Jn kn hs.newsLen aac hs.one adW DL #[] (by simp)
      rw[Array.append_empty]at dX
      obtain⟨f1,f2⟩:=dX.fixed e2.le (b:=b) hG
      have Eu:q<s.ay.length:=(zac.1 hq).1
      have key:=RD.slice (M:=M.fix b (rows.length*i.size) news) (s:= {s with ay:=s.ay.set q (some (rows.length+eH.length))}) (.tok q yb) i.size (rows++eH) b 0 cap (by rw[hlen];exact iF) dX.2.1 f1 f2
       ⟨by simp [Eu],fun n s5=>by
        simp[Eu]at s5
        subst s5
        exact⟨by rw[hlen];exact zal _,fun _=> .inr ⟨_,rfl,lM⟩⟩⟩
      rw[hlen]at key
      exact key
    ·exact QK (by omega)
theorem H0 (r:Rel M s w) {u e':TypeId} {i:TypeInfo} (hu:P.underlying u=some (.slice e')) {y:Value} {dy:D} (hy:RD M s dy y) (g:Tag) (size:Nat) (rows:List (List D)) (hdy:dy = .slice g size rows) :
 (rows = []→Src P i.size u y 0 [] w)∧(rows≠ []→size=i.size→(∀ row∈rows,row.length=i.size)∧∃ news:List Value,Src P i.size u y rows.length news w∧
  (∀ (k:Nat) (row:List D) (j:Nat) (d:D) (v:Value),rows[k]? = some row→row[j]? = some d→news[k*i.size+j]? = some v→RD M s d v)):=by
 subst hdy
 refine⟨fun h0=>?_,fun eO dT=>?_⟩
 ·subst h0
  rcases hy.j9 with ⟨_,rfl,_⟩|⟨_,_,a,cap,rfl⟩|⟨b,q,cap,rfl,_⟩
  ·exact Src.ofNil w hu 0
  ·exact Src.ofSlice w hu a 0 cap [] (by simp) (by simp) (by simp)
  ·exact Src.ofSlice w hu ⟨b,q,none⟩ 0 cap [] (by simp) (by simp) (by simp)
 ·subst dT
  obtain⟨news,h1,h2,_⟩:=Jm r hu hy
  refine⟨?_,news,h1,h2⟩
  rcases hy.j9 with ⟨h0,_⟩|⟨h0,_⟩|⟨_,_,_,_,_,h,_⟩
  ·exact(eO h0).elim
  ·exact(eO h0).elim
  ·exact h
theorem T7 (r:Rel M s w) {t u ty e e':TypeId} {i:TypeInfo} {z:Value} (ht:P.underlying t=some (.slice e)) (hu:P.underlying u=some (.slice e')) (hi:P.info? e=some i) (hz:i.zero=some z)
 (zw:z.cells.size=i.size) (Et : ∀ v∈z.cells,v.oneCell'=true) {dx dy d:D} {x y:Value} {s':St} (hx:RD M s dx x) (hy:RD M s dy y) (uu:0<i.size) (he:fH i.size i.bytes dx dy s=some (d,s')) :
 ∃ v w' M',(Builtin.append_ #[t,u] ty #[x,y]).run P w = .ok v w'∧Rel M' s' w'∧RD M' s' d v∧Ext M s w M' s' w':=
 E6 false r ht hi hz zw Et hx (fun h=>by cases h) uu (adU he) (H0 r hu hy)
theorem QL (r:Rel M s w) {t u ty e':TypeId} {i:TypeInfo} {z:Value} (ht:P.underlying t=some (.slice qZ)) (hu:P.underlying u=some (.slice e')) (hi:P.info? qZ=some i) (hz:i.zero=some z) (h1:i.size=1) (h2:i.bytes=1)
 (zw:z.cells.size=i.size) (Et : ∀ v∈z.cells,v.oneCell'=true) {dx dy d:D} {x y:Value} {s':St} (hx:RD M s dx x) (hy:RD M s dy y) (he:Ck dx dy s=some (d,s')) :
 ∃ v w' M',(Builtin.append_ #[t,u] ty #[x,y]).run P w = .ok v w'∧Rel M' s' w'∧RD M' s' d v∧Ext M s w M' s' w':=
 E6 true r ht hi hz zw Et hx (fun _=>⟨rfl,h1⟩) (by omega) (by rw[h1,h2];exact T4 he) (H0 r hu hy)
theorem QM (r:Rel M s w) {t u ty:TypeId} {i:TypeInfo} {z:Value} (ht:P.underlying t=some (.slice qZ)) (hu:P.underlying u=some .string) (hi:P.info? qZ=some i) (hz:i.zero=some z) (h1:i.size=1) (h2:i.bytes=1)
 (zw:z.cells.size=i.size) (Et : ∀ v∈z.cells,v.oneCell'=true) {dx d:D} {x:Value} {l:List UInt8} {s':St} (hx:RD M s dx x) (he:Ck dx (.slice .shared 1 (l.map fun c=> [.int .u8 c.toNat])) s=some (d,s')) :
 ∃ v w' M',(Builtin.append_ #[t,u] ty #[x, .string ⟨⟨l⟩⟩]).run P w = .ok v w'∧Rel M' s' w'∧RD M' s' d v∧Ext M s w M' s' w':=by
 have hs:Src P i.size u (.string ⟨⟨l⟩⟩) l.length (l.map fun c=> .int .u8 c.toNat) w:=by
  rw[h1]
  exact Src.ofString w hu ⟨⟨l⟩⟩
 refine E6 true r ht hi hz zw Et hx (fun _=>⟨rfl,h1⟩) (by omega) (by rw[h1,h2];exact T4 he) fun g size rows hdy=>?_
 cases hdy
 refine⟨fun h0=>?_,fun eO dT=>?_⟩
 ·have:l = []:=by simpa using h0
  subst this
  exact hs
 ·refine⟨fun row hr=> ?_,_,by simpa using hs,fun k row j d v e1 e2 e3=> ?_⟩
  ·obtain⟨c,_,rfl⟩:=zaF.1 hr
   rw[h1];rfl
  ·rw [zao,zav]at e1
   obtain⟨c,e1,rfl⟩:=e1
   cases j with
   |zero=>
    simp at e2
    subst e2
    simp[h1,e1]at e3
    subst e3
    exact .int _ _
   |succ j=>simp at e2
end
end Go.Abs
namespace Go.Abs
section
variable {P:Program} {M:Map} {s:St} {w:World}
theorem map_some {α β:Type} {f:α→β} {x:Option α} {y:β} (h:x.map f=some y) : ∃ a,x=some a∧y=f a:=by
 cases x with
 |none=>cases h
 |some a=>cases h;exact⟨a,rfl,rfl⟩
theorem uQ {t:TypeId} {z:List D} (h:zeroOf P t=some z) : ∃ i v,P.info? t=some i∧i.zero=some v∧v.cells.size=i.size∧ph v.cells.toList=some z:=by
 unfold zeroOf at h
 split at h
 ·rename_i i hi
  split at h
  ·rename_i v hv
   split at h
   ·exact⟨i,v,hi,hv, ‹_›,h⟩
   ·cases h
  ·cases h
 ·cases h
theorem s6 {z:List D} {v:Value} (h:ph v.cells.toList=some z):vf M s z v.cells:=by
 obtain⟨h1,h2,h3⟩:=mA (M:=M) (s:=s) h
 exact⟨by simpa using h1.symm,fun u hu=>h2 u (by simpa using hu),fun i d u e1 e2=>h3 i d u e1 (by simpa using e2)⟩
theorem QN {t:TypeId} {z:List D} (h:AJ P t=some z) : ∃ i v,P.info? t=some i∧i.zero=some v∧v.cells.size=i.size∧vf M s z v.cells:=by
 unfold AJ at h
 split at h
 ·rename_i i hi
  split at h
  ·rename_i v hv
   split at h
   ·refine⟨i,v,hi,hv, ‹_›, ?_⟩
    obtain⟨h1,h2,h3⟩:=Er (M:=M) (s:=s) h
    exact⟨by simpa using h1.symm,fun u hu=>h2 u (by simpa using hu),fun i d u e1 e2=>h3 i d u e1 (by simpa using e2)⟩
   ·cases h
  ·cases h
 ·cases h
theorem Cw {t:TypeId} {tm:Tm} {act:Act} (hr:nr M s tm act.tmps) : ∀ {l:List (Nat×Operand)} {ps:List (Nat×Nat×X)},Cm P t l=some ps→
 (ps.map fun p=>(p.1,p.2.1,p.2.2.ev tm)).length=(l.map fun p=>(p.1,act.eval p.2)).length∧
 ∀ (j:Nat) (i:Nat) (v:Value) (off size:Nat) (d:D),(l.map fun p=>(p.1,act.eval p.2))[j]? = some (i,v)→(ps.map fun p=>(p.1,p.2.1,p.2.2.ev tm))[j]? = some (off,size,d)→
  (∃ a,nO P t i=some (off,size,a))∧RD M s d v
 | [],ps,h=>by cases h;exact⟨rfl,by simp⟩
 | (i0,x)::l,ps,h=>by
  unfold Cm at h
  split at h
  ·rename_i off size a x' r' h1 h2 h3
   cases h
   obtain⟨g1,g2⟩:=Cw hr h3
   refine⟨by simpa using g1,fun j i v yH AL d e1 e2=>?_⟩
   cases j with
   |zero=>
    simp at e1 e2
    obtain⟨rfl,rfl⟩:=e1
    obtain⟨rfl,rfl,rfl⟩:=e2
    exact⟨⟨a,h1⟩,cu h2 hr⟩
   |succ j=>exact g2 j i v yH AL d (by simpa using e1) (by simpa using e2)
  ·cases h
theorem Gg {tm:Tm} {act:Act} (hr:nr M s tm act.tmps) : ∀ {l:List (Nat×Operand)} {ps:List (Nat×X)},Lr l=some ps→
 (ps.map fun p=>(p.1,p.2.ev tm)).length=(l.map fun p=>(p.1,act.eval p.2)).length∧
 ∀ (j:Nat) (i:Nat) (v:Value) (i':Nat) (d:D),(l.map fun p=>(p.1,act.eval p.2))[j]? = some (i,v)→(ps.map fun p=>(p.1,p.2.ev tm))[j]? = some (i',d)→i'=i∧RD M s d v
 | [],ps,h=>by cases h;exact⟨rfl,by simp⟩
 | (i0,x)::l,ps,h=>by
  unfold Lr at h
  split at h
  ·rename_i x' r' h1 h2
   cases h
   obtain⟨g1,g2⟩:=Gg hr h2
   refine⟨by simpa using g1,fun j i v i' d e1 e2=>?_⟩
   cases j with
   |zero=>
    simp at e1 e2
    obtain⟨rfl,rfl⟩:=e1
    obtain⟨rfl,rfl⟩:=e2
    exact⟨rfl,cu h1 hr⟩
   |succ j=>exact g2 j i v i' d (by simpa using e1) (by simpa using e2)
  ·cases h
theorem Gh : ∀ (l:List Field),(∀ f∈l,(P.info? f.type).isSome)→
 ∃ ps:List (Nat×Nat),(l.mapM fun f=>do pure (f.offset, ← sizeOf f.type):Sem (List (Nat×Nat))).run P w = .ok ps w∧
  ∀ (j:Nat) (f:Field) (i:TypeInfo),l[j]? = some f→P.info? f.type=some i→ps[j]? = some (f.offset,i.size)
 | [],_=>⟨[],rfl,by simp⟩
 | f::l,h=>by
  obtain⟨i,hi⟩:=Option.isSome_iff_exists.1 (h f (by simp))
  obtain⟨ps,h1,h2⟩:=Gh l (fun g hg=>h g (by simp[hg]))
  refine⟨(f.offset,i.size)::ps, ?_,fun j g i' e1 e2=>?_⟩
  ·rw [List.mapM_cons]
   simp only[Sem.run_bind,sizeOf,gX P hi,Result.andThen_ok,Sem.run_pure]at h1 ⊢
   simp only[h1,Result.andThen_ok]
  ·cases j with
   |zero=>simp at e1;subst e1;rw[hi]at e2;cases e2;rfl
   |succ j=>exact h2 j g i' (by simpa using e1) e2
theorem QO (r:Rel M s w) {t:TypeId} {fs:Array Field} {z:List D} {l:List (Nat×Operand)} {ps:List (Nat×Nat×X)} {tm:Tm} {act:Act} {cs:List D} (hr:nr M s tm act.tmps)
 (ht:P.underlying t=some (.struct fs)) (rn:(fs.toList.all fun f=>(P.info? f.type).isSome)=true) (hz:AJ P t=some z) (hp:Cm P t l=some ps) (hf:sS z (ps.map fun p=>(p.1,p.2.1,p.2.2.ev tm))=some cs) :
 dk P M s w (do pure (.value (← Instr.build t (l.toArray.map fun(i,x)=>(i,act.eval x))))) (.agg cs) s:=by
 obtain⟨i,v,h1,h2,h3,hc⟩:=QN (M:=M) (s:=s) hz
 obtain⟨g1,g2⟩:=Cw hr hp
 obtain⟨pl,p1,p2⟩:=Gh (P:=P) (w:=w) fs.toList (fun f hf'=>by simpa using za0.1 rn f hf')
 have abw:(fs.mapM fun f=>do pure (f.offset, ← sizeOf f.type):Sem (Array (Nat×Nat))).run P w = .ok pl.toArray w:=by
  rw[Array.mapM_eq_mapM_toList,Sem.run_map,p1];rfl
 obtain⟨vs,f1,f2⟩:=Lw (place:=(pl.toArray[·]?)) (l.map fun p=>(p.1,act.eval p.2)) _ z v.cells cs hc g1 (fun j i v off size d e1 e2=>by
  obtain⟨⟨a,ha⟩,hd⟩:=g2 j i v off size d e1 e2
  refine⟨?_,hd⟩
  unfold nO at ha
  rw[ht]at ha
  simp only at ha
  split at ha
  ·rename_i fd v8
   split at ha
   ·rename_i i' a' jf _
    split at ha
    ·cases ha
    ·cases ha
     simpa using p2 i fd i' (by simpa using v8) jf
   ·cases ha
  ·cases ha) hf
 refine dk.pure (v:= .agg vs) r ?_ (.agg _ _ f2.1.symm f2.2.1 f2.2.2)
 have nB:(l.toArray.map fun(i,x)=>(i,act.eval x)).toList=l.map fun p=>(p.1,act.eval p.2):=by simp
 unfold Instr.build
 simp only[Sem.run_bind,zeroValue,gX P h1,h2,Result.andThen_ok,Sem.run_pure,run_underlying ht,abw,nB,f1]
theorem Ev (r:Rel M s w) {t e:TypeId} {i:TypeInfo} {z:List D} {n:Nat} {l:List (Nat×Operand)} {ps:List (Nat×X)} {tm:Tm} {act:Act} {rows:List (List D)} (hr:nr M s tm act.tmps)
 (ht:P.underlying t=some (.slice e)) (hi:P.info? e=some i) (hz:zeroOf P e=some z) (uu:0<i.size) (hn:n*i.size≤65536) (hp:Lr l=some ps)
 (hf:kV i.size (gj z n) (ps.map fun p=>(p.1,p.2.ev tm))=some rows) :
 ∃ (vs:Array Value) (T:TypeId),nu M s i.size rows vs∧rows.length=n∧vs.size=n*i.size∧
  (Instr.buildSlice t n (l.toArray.map fun(i,x)=>(i,act.eval x))).run P w = .ok (.slice (some ⟨w.heap.size,0,none⟩) n n) (w.alloc (.cells vs T)):=by
 obtain⟨i',v,h1,h2,h3,h4⟩:=uQ hz
 rw[hi]at h1;cases h1
 have hc:=s6 (M:=M) (s:=s) h4
 have hzl:z.length=i.size:=by rw[← hc.1,h3]
 have Ew:=nu.zero hc (by omega) n
 rw[hzl]at Ew
 obtain⟨g1,g2⟩:=Gg hr hp
 obtain⟨vs,f1,f2,f3,f4⟩:=Cu (l.map fun p=>(p.1,act.eval p.2)) _ _ _ rows Ew g1 g2 hf
 have hzr:=nw z n
 refine⟨vs,e,f2,by rw[f3,hzr],by rw[f4];simp, ?_⟩
 have vi : ¬ (n*i.size > 2 ^ 24):=by omega
 have nB:(l.toArray.map fun(i,x)=>(i,act.eval x)).toList=l.map fun p=>(p.1,act.eval p.2):=by simp
 by_cases h0:n*i.size=0
 ·have ny:(Array.range (n*i.size)).map ((#[] : Array Value)[· % (#[] : Array Value).size]!)=(Array.range (n*i.size)).map (v.cells[· % v.cells.size]!):=by rw [h0];simp
  unfold Instr.buildSlice
  simp only[Sem.run_bind,run_underlying ht,Result.andThen_ok,sizeOf,gX P hi,Sem.run_pure,if_neg vi,if_pos h0,ny,nB,f1,newRow,run_newObj]
  rfl
 ·unfold Instr.buildSlice
  simp only[Sem.run_bind,run_underlying ht,Result.andThen_ok,sizeOf,gX P hi,Sem.run_pure,if_neg vi,if_neg h0,zeroValue,h2,nB,f1,newRow,run_newObj]
  rfl
end
end Go.Abs
namespace Go.Abs
section
variable {P:Program} {M:Map} {s:St} {w:World}
theorem foldl_push (ns:List Int) : ∀ r:ByteArray,ns.foldl (fun r n=>r.push (UInt8.ofNat n.toNat)) r = ⟨r.data++(ns.map fun n=>UInt8.ofNat n.toNat).toArray⟩:=by
 induction ns with
 |nil=>intro r;simp
 |cons n ns ih=>intro r;simp only[List.foldl_cons];rw[ih];simp[ByteArray.push]
theorem wV : ∀ {rows:List (List D)} {l:List UInt8},pZ rows=some l→∃ ns:List Int,rows=ns.map (fun n=> [.int .u8 n])∧l=ns.map fun n=>UInt8.ofNat n.toNat
 | [],l,h=>by cases h;exact⟨[],rfl,rfl⟩
 | r::rs,l,h=>by
  unfold pZ at h
  split at h
  ·rename_i b bs h1 h2
   cases h
   obtain⟨ns,g1,g2⟩:=wV h2
   unfold Ji at h1
   split at h1
   ·rename_i n
    cases h1
    exact⟨n::ns,by rw[g1];rfl,by rw[g2];rfl⟩
   ·cases h1
  ·cases h
theorem QP (r:Rel M s w) {src dst e:TypeId} {g:Tag} {z:Nat} {rows:List (List D)} {v:Value} {l:List UInt8} (hs:P.underlying src=some (.slice e)) (he:P.underlying e=some (.int .u8)) (hd:P.underlying dst=some .string)
 (hv:RD M s (.slice g z rows) v) (hb:pZ rows=some l):dk P M s w (do pure (.value (← convert src dst v))) (.str l) s:=by
 obtain⟨ns,rfl,rfl⟩:=wV hb
 refine dk.pure (v:= .string ⟨⟨ns.map fun n=>UInt8.ofNat n.toNat⟩⟩) r ?_ (.str _)
 rcases hv.j9 with ⟨h0,rfl,_⟩|⟨h0,_,a,cap,rfl⟩|⟨b,q,cap,rfl,hl,dT,g1,g2,_⟩
 ·have:ns = []:=by simpa using h0
  subst this
  have:=run_convert_bytes_string w src dst e none 0 0 hs he hd
  simp only[Sem.run_bind,this,Conv.bytesToString,Sem.run_pure,Result.andThen_ok]
  rfl
 ·have:ns = []:=by simpa using h0
  subst this
  have h2:=run_convert_bytes_string w src dst e (some a) 0 cap hs he hd
  simp only[Sem.run_bind,h2,Conv.bytesToString,Sem.run_pure,Result.andThen_ok]
  rfl
 ·have ny:=run_loadCells_list (P:=P) w ⟨b,q,none⟩ (ns.map (Value.int .u8)) (fun j v hj=>by
   rw[nP]
   simp only[zao,zav]at hj
   obtain⟨n,hn,rfl⟩:=hj
   have dX:(ns.map (fun n=> [D.int .u8 n]))[j]? = some [.int .u8 n]:=by simp[hn]
   have hz:z=1:=by have:=dT [.int .u8 n] (zad dX);simpa using this.symm
   subst hz
   obtain⟨u,hu⟩:=g1 j _ 0 _ dX rfl
   have:=g2 j _ 0 _ u dX rfl hu
   rw[this.iV]at hu
   have:=(r.comm _ _ _ hu).1
   simpa using this)
  simp only[zaw]at ny ⊢
  have h1:=run_bytesToString (P:=P) w ⟨b,q,none⟩ ns.length cap ns ny
  have h2:=run_convert_bytes_string w src dst e (some ⟨b,q,none⟩) ns.length cap hs he hd
  simp only[Sem.run_bind,h2,h1,Sem.run_pure,Result.andThen_ok,foldl_push]
  congr 3
  simp[ByteArray.empty,ByteArray.emptyWithCapacity]
  rfl
theorem LC (r:Rel M s w) {src dst e:TypeId} {l:List UInt8} (hs:P.underlying src=some .string) (hd:P.underlying dst=some (.slice e)) (he:P.underlying e=some (.int .u8)) :
 dk P M s w (do pure (.value (← convert src dst (.string ⟨⟨l⟩⟩)))) (.slice .shared 1 (l.map fun c=> [.int .u8 c.toNat])) s:=by
 have dU:=run_bytes_of_string (P:=P) w src dst e ⟨⟨l⟩⟩ hs hd he
 generalize vK:grownCap w (ByteArray.size ⟨⟨l⟩⟩) 0 e=cap at dU
 have o7:l.length≤cap:=by rw[← vK];exact grownCap_ge w l.length 0 e
 have dX : ∀ j,j<l.length→(bytesRow ⟨⟨l⟩⟩ cap)[j]? = some (.int .u8 ((l[j]?.getD 0).toNat:Int)):=by
  intro j hj
  unfold bytesRow
  rw[zbc (by simpa using hj)]
  simp[hj]
 have dT:(bytesRow ⟨⟨l⟩⟩ cap).size=cap:=by simp[bytesRow,DJ];omega
 have ig : ∀ v∈bytesRow ⟨⟨l⟩⟩ cap,v.oneCell'=true:=by
  intro v hv
  unfold bytesRow at hv
  simp at hv
  rcases hv with ⟨a,_,rfl⟩|⟨_,rfl⟩<;>rfl
 have hR:nu M s 1 (l.map fun c=> [D.int .u8 c.toNat]) (bytesRow ⟨⟨l⟩⟩ cap):=by
  refine⟨by simp[dT];omega,by simp,ig,fun i row j d v e1 e2 e3=>?_⟩
  simp only[zao,zav]at e1
  obtain⟨c,hc,rfl⟩:=e1
  cases j with
  |zero=>
   simp at e2;subst e2
   have hi:=(zac.1 hc).1
   rw[show i*1+0=i by omega,dX i hi,hc]at e3
   cases e3
   exact .int _ _
  |succ j=>simp at e2
 obtain⟨r1,e1⟩:=(r.of_heap (w':=w.drew) rfl).gD l.length (bytesRow ⟨⟨l⟩⟩ cap) e ((bytesRow ⟨⟨l⟩⟩ cap).size,(bytesRow ⟨⟨l⟩⟩ cap).size+1) ig
 obtain⟨f1,f2⟩:=hR.fixed e1.le (b:=w.heap.size) (fun o ho=>by simp at ho;simp[Map.gD,ho])
 refine⟨.slice (some ⟨w.heap.size,0,none⟩) l.length cap,_,_, .inl (by simp only[Sem.run_bind,dU,Result.andThen_ok,Sem.run_pure];rfl),r1, ?_,(Ext.of_heap (M:=M) (s:=s) (w:=w) (w':=w.drew) rfl rfl rfl rfl).trans e1⟩
 have key:=RD.slice (M:=M.gD w.heap.size l.length (bytesRow ⟨⟨l⟩⟩ cap)) (s:=s) .shared 1 (l.map fun c=> [D.int .u8 c.toNat]) w.heap.size 0 cap (by simpa using o7) hR.2.1 f1 f2 trivial
 simp only[zaw]at key
 exact key
theorem WZ (r:Rel M s w) {t e:TypeId} {q z:Nat} {yb:Bool} {rows:List (List D)} {v:Value} (ht:P.underlying t=some (.slice e)) (he:P.underlying e=some (.int .u8)) (hv:RD M s (.slice (.tok q yb) z rows) v) (eO:rows≠ []) (hq:s.ay[q]? = some (some rows.length)) :
 dk P M s w (do pure (.value (← convert t t v))) (.slice .shared z rows) {s with ay:=s.ay.set q none}:=by
 rcases hv.j9 with ⟨h0,_,_⟩|⟨h0,_,_⟩|⟨b,k,cap,rfl,hl,dT,g1,g2,qb⟩
 ·exact(eO h0).elim
 ·exact(eO h0).elim
 ·obtain⟨_,h2⟩:=qb
  obtain⟨_,h3⟩:=h2 _ hq
  rcases h3 rfl with ⟨_,h4,_⟩|⟨b2,h4,lM⟩
  ·subst h4
   exact(eO (zbk (Nat.le_zero.1 hl))).elim
  cases h4
  obtain⟨r1,l1⟩:=r.aia q
  rcases r.tok q rows.length hq with ⟨h4,_⟩|⟨b',sn,AL,vs,T,h4,h5,h6,h7,h8⟩
  ·rw[lM]at h4;cases h4
  ·rw [lM]at h4;cases h4
   have jH : ∀ p,St.live {s with ay:=s.ay.set q none} p→p≠q∧s.live p:=by
    rintro p ⟨n,hn⟩
    rw[zaL]at hn
    split at hn
    ·simp at hn
    ·rename_i eO;exact⟨fun h=>eO h.symm,n,hn⟩
   obtain⟨r2,hh,qz,ho,ug,E8⟩:=r1.freeze (b:=b) vs.size 1 (fun o ho=>r.fw q b cap _ o ⟨_,hq⟩ lM ho)
    (fun p c y hp heq=>(jH p hp).1 (r.gP p q b c y cap _ (jH p hp).2 ⟨_,hq⟩ heq lM))
   have adY:w.shape? b=some (T,vs.size):=by simp[World.shape?,h5]
   refine⟨.slice (some ⟨b,0,none⟩) rows.length cap,_,M, .inl ?_,r2, ?_, ?_⟩
   ·simp[convert,run_underlying ht,run_underlying he,markStringish,adY]
   ·have h9:=(RD.slice (M:=M) (s:=s) .shared z rows b 0 cap hl dT g1 g2 trivial).mono l1
    exact h9
   ·refine⟨l1,fun p _ _ h4=>hh p (fun e=>h4 q cap (bz yb z) ⟨_,hq⟩ (by rw [lM,e])),fun o h3 h4=> ?_,fun p b' c y hp heq=> .inl ⟨(jH p hp).2,c,y,heq⟩,fun _ _ h=>(h rfl).elim,by rw [qz];exact zal _,ho,ug,E8⟩
    simp at h4;omega
theorem T8 (r:Rel M s w) {size:Nat} {rows:List (List D)} {vs:Array Value} (T:TypeId) (h:nu M s size rows vs) (dT:vs.size=rows.length*size) (uu:0<size) :
 ∃ M',RD M' {s with ay:=s.ay++ [some rows.length]} (.slice (.tok s.ay.length) size rows) (.slice (some ⟨w.heap.size,0,none⟩) rows.length rows.length)∧
 Rel M' {s with ay:=s.ay++ [some rows.length]} (w.alloc (.cells vs T))∧Ext M s w M' {s with ay:=s.ay++ [some rows.length]} (w.alloc (.cells vs T)):=by
 obtain⟨r1,e1⟩:=r.gD vs.size vs T (0,0) h.2.2.1
 have zw:zs size=size:=by show(if size=0 then 1 else size)=size;rw[if_neg (by omega)]
 obtain⟨r2,l2⟩:=r1.Z6 rows.length w.heap.size rows.length size vs T (heap_alloc_new w _) (by rw[zw];exact dT) (zal _) (fun h=>by omega)
  (fun off ho=>by rw[zw]at ho;simp[Map.gD];omega) (fun o ho=>by have:=r.sc ho;show M.mu o≠_;omega)
  (fun q c z' hl heq=>by have:=r.uP hl (show M.be q=some (w.heap.size,c,z')from heq);omega)
 obtain⟨f1,f2⟩:=h.fixed (e1.le.trans l2) (b:=w.heap.size) (fun o ho=>by
  have:o<vs.size:=zaX ho h.1
  simp[Map.fa,Map.gD,this])
 refine⟨_, ?_,r2, ?_⟩
 ·exact .slice _ size rows w.heap.size 0 rows.length (zal _) h.2.1 f1 f2 ⟨by simp,fun n hn=>by
   simp at hn;subst hn
   exact⟨zal _,fun _=> .inr ⟨_,rfl,by simp[Map.fa,bz]⟩⟩⟩
 ·refine⟨e1.le.trans l2,e1.kept,e1.vH,fun q b c z' hl heq=> ?_,e1.ui,e1.size,e1.os,e1.tape,e1.output⟩
  obtain⟨k,hk⟩:=hl
  rcases zaE q s.ay.length with h'|h'
  ·have LB:M.be q=some (b,c,z'):=by
    have:((M.gD w.heap.size vs.size vs).fa s.ay.length (some (w.heap.size,rows.length,size))).be q=M.be q:=by simp[Map.fa,Map.gD];omega
    rw[this]at heq;exact heq
   simp only[zak h']at hk
   exact .inl ⟨⟨k,hk⟩,c,z',LB⟩
  ·have:=(zac.1 hk).1
   simp at this
   have:q=s.ay.length:=by omega
   subst this
   have:((M.gD w.heap.size vs.size vs).fa s.ay.length (some (w.heap.size,rows.length,size))).be s.ay.length=some (w.heap.size,rows.length,size):=by simp[Map.fa]
   rw[this]at heq;cases heq
   exact .inr (zal _)
end
end Go.Abs
namespace Go.Abs
open Go.MapKept
section
variable {P:Program} {M:Map} {s:St} {w:World}
theorem xQ : ∀ (a b:List MapEntry),iL (a++b)=iL a++iL b
 | [],b=>rfl
 |e::a,b=>by simp only[zaR,iL,xQ a b]
theorem Jo : ∀ (a:List MapEntry) (j:Nat) (e:MapEntry) (k v:Value),a[j]? = some e→e.key=k→iL (a.set j {e with key:=k,val:=v})=(iL a).set (2*j+1) v
 | [],j,e,k,v,h,_=>by simp at h
 |x::a,0,e,k,v,h,hk=>by
  simp at h;subst h;subst hk
  simp[iL]
 |x::a,j+1,e,k,v,h,hk=>by
  have:=Jo a j e k v (by simpa using h) hk
  simp only[zbu,iL,this]
  rw[show 2*(j+1)=(2*j+1)+1 by omega,zbu]
theorem W0 (a b:List UInt8):((⟨⟨a⟩⟩:ByteArray) == ⟨⟨b⟩⟩)=(a==b):=by
 show((⟨a⟩:Array UInt8) == ⟨b⟩)=(a==b)
 simp
theorem find_spec {key:List UInt8} : ∀ (es:List MapEntry) (cs:List D) (i:Nat),(iL es).length=cs.length→(∀ (i:Nat) (d:D) (v:Value),cs[i]? = some d→(iL es)[i]? = some v→RD M s d v)→
 (∀ z d,AE key z cs=some d→(Instr.findNow .string (.string ⟨⟨key⟩⟩) es i=some none∧d=z)∨∃ (j:Nat) (e:MapEntry),Instr.findNow .string (.string ⟨⟨key⟩⟩) es i=some (some (i+j,e.val))∧RD M s d e.val)∧
 (∀ d kL,yG key d cs=some kL→(Instr.findNow .string (.string ⟨⟨key⟩⟩) es i=some none∧kL=cs++ [.str key,d])∨
  ∃ (j:Nat) (e:MapEntry),Instr.findNow .string (.string ⟨⟨key⟩⟩) es i=some (some (i+j,e.val))∧es[j]? = some e∧e.key = .string ⟨⟨key⟩⟩∧kL=cs.set (2*j+1) d)
 | [],cs,i,hl,hr=>by
  have:cs = []:=by cases cs<;>simp[iL]at hl;rfl
  subst this
  refine⟨fun z d h=> .inl ⟨rfl,by simp[AE]at h;exact h.symm⟩,fun d kL h=> .inl ⟨rfl,by simp[yG]at h;simp[← h]⟩⟩
 | x::es,cs,i,hl,hr=>by
  match cs,hl with
  | [],hl=>simp[iL]at hl
  | [_],hl=>simp[iL]at hl
  | c0::c1::r,hl=>
   simp only[iL,zat]at hl hr
   have h0:=hr 0 c0 x.key rfl rfl
   have h1:=hr 1 c1 x.val rfl rfl
   obtain⟨ih1,ih2⟩:=find_spec es r (i+1) (by omega) (fun j d v e1 e2=>hr (j+2) d v (by simpa using e1) (by simpa using e2))
   have hky : ∀ k,c0 = .str k→x.key = .string ⟨⟨k⟩⟩∧Instr.findNow .string (.string ⟨⟨key⟩⟩) (x::es) i=if key==k then some (some (i,x.val))else Instr.findNow .string (.string ⟨⟨key⟩⟩) es (i+1):=by
    intro k hk
    subst hk
    have hx:=h0.mz
    refine⟨hx, ?_⟩
    simp only[Instr.findNow,hx,Instr.sameNow,W0]
    cases hb:key==k<;>simp
   refine⟨fun z d h=>?_,fun d kL h=>?_⟩
   ·cases c0 <;> simp only [AE]at h <;> try (cases h;done)
    rename_i k
    obtain⟨k1,k2⟩:=hky k rfl
    rw[k2]
    by_cases BL:k=key
    ·subst BL
     simp at h
     subst h
     exact .inr ⟨0,x,by simp,h1⟩
    ·have e1:(k==key)=false:=by simpa using BL
     have e2:(key==k)=false:=by simpa using fun e:key=k=>BL (Eq.symm e)
     rw[e1]at h
     rw[e2]
     simp only[zab,↓reduceIte]at h ⊢
     rcases ih1 z d h with h2|⟨j,e,h2,h3⟩
     ·exact .inl h2
     ·exact .inr ⟨j+1,e,by rw[h2];congr 3;omega,h3⟩
   ·cases c0 <;> simp only [yG]at h <;> try (cases h;done)
    rename_i k
    obtain⟨k1,k2⟩:=hky k rfl
    rw[k2]
    by_cases BL:k=key
    ·subst BL
     simp at h
     subst h
     exact .inr ⟨0,x,by simp,rfl,k1,by simp⟩
    ·have e1:(k==key)=false:=by simpa using BL
     have e2:(key==k)=false:=by simpa using fun e:key=k=>BL (Eq.symm e)
     rw[e1]at h
     rw[e2]
     simp only[zab,↓reduceIte]at h ⊢
     split at h
     ·rename_i r' Jl
      cases h
      rcases ih2 d r' Jl with ⟨h2,h3⟩|⟨j,e,h2,h3,h4,h5⟩
      ·exact .inl ⟨h2,by rw[h3];rfl⟩
      ·refine .inr ⟨j+1,e,by rw [h2];congr 3;omega,by simpa using h3,h4, ?_⟩
       rw[h5,show 2*(j+1)+1=(2*j+1)+1+1 by omega]
       simp only[zbu]
     ·cases h
theorem Rel.lT (r:Rel M s w) {o:Nat} {cs kL:List D} (he:s.aq[o]? = some cs) (hk:M.ob o = .map) (Cx:Array MapEntry) (ck:Nat) (hl:(iL Cx.toList).length=kL.length)
 (h1 : ∀ v∈iL Cx.toList,v.oneCell'=true) (h2 : ∀ (i:Nat) (d:D) (v:Value),kL[i]? = some d→(iL Cx.toList)[i]? = some v→RD M s d v) :
 Rel M {s with aq:=s.aq.set o kL} {w with heap:=w.heap.setIfInBounds (M.mu o) (.map Cx ck)}∧Ext M s w M {s with aq:=s.aq.set o kL} {w with heap:=w.heap.setIfInBounds (M.mu o) (.map Cx ck)}:=by
 obtain⟨vs,T,hh,hs,⟨ig,Z5⟩,jG⟩:=r.obj o cs he
 obtain⟨es,ck0,(hh:w.heap[M.mu o]? = _),mX⟩:=hh.Qn hk
 have ho:o<s.aq.length:=(zac.1 he).1
 obtain⟨mU,np⟩:=heap_set (w:=w) (o':= .map Cx ck) hh
 have le:Le M s M {s with aq:=s.aq.set o kL}:=
  ⟨fun _ _ _ h=>h,by simp,fun _ _=> .refl _,zal _,fun t n _ h=>⟨n,h,zal _,fun _=>rfl⟩⟩
 refine⟨⟨fun b q v e=>?_,fun o' ds e=>?_,fun q hq yH=>r.kv q (by simpa using hq) yH,fun q q' hq nq e=>r.inj q q' (by simpa using hq) (by simpa using nq) e,fun t n e=>?_,
  fun t b c z q hl e hq=>r.fw t b c z q hl e (by simpa using hq),fun t t' b c z c' z' h h' e e'=>r.gP t t' b c z c' z' h h' e e'⟩, ?_⟩
 ·obtain⟨h3,h4⟩:=r.comm b q v e
  refine⟨?_,h4⟩
  have hb:b≠M.mu o:=fun eq=>by subst eq;rw[r.kv o ho q]at e;cases e
  rw[← h3]
  simp[World.cell?,np b hb]
 ·rw [zaL]at e
  split at e
  ·rename_i heq
   subst heq
   simp at e
   obtain⟨_,rfl⟩:=e
   refine⟨⟨iL Cx.toList⟩,0, ?_,by simpa using hl,⟨fun v hv=>h1 v (by simpa using hv),fun T' h=>?_⟩,fun i d v e1 e2=>(h2 i d v e1 (by simpa using e2)).mono le⟩
   ·exact jF.ofMap hk ⟨Cx,ck,mU,rfl⟩
   ·have:M.ty o=none:=by
     have:(M.loc o).2 = .map:=hk
     simp[Map.ty,this,Ob.ty?]
    rw[this]at h;cases h
  ·rename_i eO
   obtain⟨fP,T',h3,h4,h5,h6⟩:=r.obj o' ds e
   have n9:o'<s.aq.length:=(zac.1 e).1
   refine⟨fP,T', ?_,h4,h5,fun i d v e1 e2=>(h6 i d v e1 e2).mono le⟩
   exact h3.keep (np _ (fun eq=>eO (r.inj o o' ho n9 eq.symm)))
 ·rcases r.tok t n e with h3 | ⟨b,cap,size,fP,T',h3,h4,h5⟩
  ·exact .inl h3
  ·refine .inr ⟨b,cap,size,fP,T',h3, ?_,h5⟩
   show(w.heap.setIfInBounds (M.mu o) (.map Cx ck))[b]? = _
   rw[np b (fun eq=>r.fw t b cap size o ⟨n,e⟩ h3 ho eq.symm)];exact h4
 ·refine⟨le,fun b hb h3 _=>np b (fun eq=>h3 o ho eq.symm),fun q h3 h4=> ?_,fun t b c z h e=> .inl ⟨h,c,z,e⟩,fun _ _ h=>(h rfl).elim,by simp,rfl,rfl,rfl⟩
  simp at h4;rcases h3 with h3|h3;omega;exact(h3 rfl).elim
theorem vk (l:List UInt8):IsKey .string (.string ⟨⟨l⟩⟩):=by simp[IsKey]
theorem QQ (r:Rel M s w) {t kt e:TypeId} (ht:P.underlying t=some (.map kt e)):dk P M s w (do pure (.value (← Instr.makeMap t none))) (.gU s.aq.length) {s with aq:=s.aq++ [[]]}:=by
 obtain⟨r',e'⟩:=r.Ls [] (.map #[] 0) #[] 0 .map (fun hp e=>⟨#[],0,e,rfl⟩) (fun _ h=>by cases h) rfl (by simp) (by simp)
 have hm:(M.ep s.aq.length w.heap.size .map).mu s.aq.length=w.heap.size:=by simp[Map.ep,Map.mu]
 have hv:=RD.gU (M:=M.ep s.aq.length w.heap.size .map) (s:= {s with aq:=s.aq++ [[]]}) s.aq.length (by simp) (by simp[Map.ep,Map.ob])
 rw[hm]at hv
 refine⟨_,_,_, .inl ?_,r',hv,e'⟩
 simp only[Instr.makeMap,newObj,Sem.run_bind,Sem.run_pure,Sem.run,Result.andThen_ok]
 rfl
theorem QR (r:Rel M s w) {t kt e:TypeId} {i:TypeInfo} {z:Value} {zd:D} (ht:P.underlying t=some (.map kt e)) (hk:P.underlying kt=some .string) (hi:P.info? e=some i) (hz:i.zero=some z) (hzd:uk z=some zd)
 {o:Nat} {key:List UInt8} {cs:List D} {d:D} (zo:M.ob o = .map) (ho:s.aq[o]? = some cs) (hg:AE key zd cs=some d) :
 dk P M s w (do pure (.value (← Instr.lookup t (.map (some (M.mu o))) (.string ⟨⟨key⟩⟩) false))) d s:=by
 obtain⟨vs,T,hh,hs,⟨ig,Z5⟩,jG⟩:=r.obj o cs ho
 obtain⟨es,ck,(hh:w.heap[M.mu o]? = _),mX⟩:=hh.Qn zo
 have E9 : ∀ (i:Nat) (d:D) (v:Value),cs[i]? = some d→(iL es.toList)[i]? = some v→RD M s d v:=fun i d v e1 e2=>jG i d v e1 (by rw[← mX]at e2;simpa using e2)
 have hzv:(zeroValue e).run P w = .ok z w:=by simp[zeroValue,gX P hi,hz]
 rcases(find_spec es.toList cs 0 (by rw[← mX];simpa using hs) E9).1 zd d hg with ⟨h1,rfl⟩|⟨j,en,h1,h2⟩
 ·refine dk.pure (v:=z) r ?_ (se hzd).1
  simp[Instr.lookup,run_underlying ht,MapKept.run_getObj_map hh,run_checkKey hk (vk key),run_findKey hk h1,hzv]
 ·refine dk.pure (v:=en.val) r ?_ h2
  simp[Instr.lookup,run_underlying ht,MapKept.run_getObj_map hh,run_checkKey hk (vk key),run_findKey hk h1]
theorem T9 (r:Rel M s w) {t kt e:TypeId} (ht:P.underlying t=some (.map kt e)) (hk:P.underlying kt=some .string)
 {o:Nat} {key:List UInt8} {cs kL:List D} {d:D} {v:Value} (zo:M.ob o = .map) (ho:s.aq[o]? = some cs) (hv:RD M s d v) (zC:v.oneCell'=true) (hg:yG key d cs=some kL) :
 dk P M s w (do Instr.mapUpdate t (.map (some (M.mu o))) (.string ⟨⟨key⟩⟩) v;pure .skip) (.tuple []) {s with aq:=s.aq.set o kL}:=by
 obtain⟨vs,T,hh,hs,⟨ig,Z5⟩,jG⟩:=r.obj o cs ho
 obtain⟨es,ck,(hh:w.heap[M.mu o]? = _),mX⟩:=hh.Qn zo
 have E9 : ∀ (i:Nat) (d:D) (v:Value),cs[i]? = some d→(iL es.toList)[i]? = some v→RD M s d v:=fun i d v e1 e2=>jG i d v e1 (by rw[← mX]at e2;simpa using e2)
 have hl:(iL es.toList).length=cs.length:=by rw[← mX];simpa using hs
 have aaf : ∀ v∈iL es.toList,v.oneCell'=true:=fun v hv=>ig v (by rw[← mX]at hv;simpa using hv)
 rcases(find_spec es.toList cs 0 hl E9).2 d kL hg with ⟨h1,rfl⟩|⟨j,en,h1,h2,h3,rfl⟩
 ·obtain⟨r',e'⟩:=r.lT (kL:=cs++ [.str key,d]) ho zo (es.push {key:= .string ⟨⟨key⟩⟩,val:=v,born:=ck}) (ck+1) (by simp [xQ,iL,hl]) (fun u hu=>by
   simp only[Array.toList_push,xQ,iL,zaq,zap,List.not_mem_nil,or_false]at hu
   rcases hu with hu|rfl|rfl
   ·exact aaf u hu
   ·rfl
   ·exact zC) (fun i d' u e1 e2=>by
   simp only[Array.toList_push,xQ,iL]at e2
   rcases zaE i cs.length with hi|hi
   ·rw [zak hi]at e1
    rw[zak (by omega)]at e2
    exact E9 i d' u e1 e2
   ·rw [zas hi]at e1
    rw[zas (by omega),hl]at e2
    match i - cs.length,e1,e2 with
    | 0,e1,e2=>simp at e1 e2;subst e1 e2;exact .str _
    | 1,e1,e2=>simp at e1 e2;subst e1 e2;exact hv
    |k+2,e1,e2=>simp at e1)
  refine⟨Go.undef,_,M, .inr ⟨?_,rfl⟩,r', .undef,e'⟩
  simp[Instr.mapUpdate,run_underlying ht,MapKept.run_getObj_map hh,run_checkKey hk (vk key),run_findKey hk h1,MapKept.run_setObj_map _ hh]
 ·simp only [zaZ]at h1
  have hj:es[j]? = some en:=by simpa using h2
  have W1:(es.modify j fun e=> {e with key:= .string ⟨⟨key⟩⟩,val:=v}).toList=es.toList.set j {en with key:= .string ⟨⟨key⟩⟩,val:=v}:=by
   apply zbV
   intro i
   rw[Array.getElem?_toList,zbT,zaL]
   by_cases hij:j=i
   ·subst hij
    have:j<es.size:=by have:=(zac.1 h2).1;simpa using this
    simp[hj,this]
    have:=(zaT.1 hj).2
    rw[this]
   ·simp[hij]
  have fx:=Jo es.toList j en (.string ⟨⟨key⟩⟩) v h2 h3
  obtain⟨r',e'⟩:=r.lT (kL:=cs.set (2*j+1) d) ho zo (es.modify j fun e=> {e with key:= .string ⟨⟨key⟩⟩,val:=v}) ck (by rw[W1,fx];simp[hl]) (fun u hu=>by
   rw[W1,fx]at hu
   rcases List.mem_or_eq_of_mem_set hu with hu|rfl
   ·exact aaf u hu
   ·exact zC) (fun i d' u e1 e2=>by
   rw[W1,fx,zaL]at e2
   rw[zaL]at e1
   by_cases hi:2*j+1=i
   ·rw [if_pos hi]at e1 e2
    split at e1
    ·split at e2
     ·cases e1;cases e2;exact hv
     ·cases e2
    ·cases e1
   ·rw [if_neg hi]at e1 e2
    exact E9 i d' u e1 e2)
  refine⟨Go.undef,_,M, .inr ⟨?_,rfl⟩,r', .undef,e'⟩
  simp[Instr.mapUpdate,run_underlying ht,MapKept.run_getObj_map hh,run_checkKey hk (vk key),run_findKey hk h1,hj,h3,run_keyThatStays (vk key),MapKept.run_setObj_map _ hh]
end
end Go.Abs
namespace Go.Abs
section
variable {M:Map} {s:St} {w:World}
theorem Gj {o g:Nat} {cells:List D} (h:pg s o g=some cells):s.aq[o]? = some (.int .i64 g::cells):=by
 unfold pg at h
 split at h
 ·rename_i n cs e
  split at h
  ·rename_i hn;cases h;rw[e,hn]
  ·cases h
 ·cases h
theorem Rel.LD (r:Rel M s w) {o z g:Nat} {A:Nat→Option (Nat×Nat)} {cells:List D} (hm:M.ob o = .arr z A) (ha:pg s o g=some cells) :
 ∃ (us:Array Value) (T:TypeId) (cap:Nat),w.heap[M.mu o]? = some (.cells us T (0,0))∧A g=some (M.mu o,cap)∧(∀ g',g<g'→A g'=none)∧us.size=cap*z∧cells.length≤us.size∧
  (∀ u∈us,u.oneCell'=true)∧∀ (i:Nat) (d:D) (u:Value),cells[i]? = some d→us[i]? = some u→RD M s d u:=by
 obtain⟨vs,T,hh,hs,_,jG⟩:=r.obj o _ (Gj ha)
 obtain⟨us,g0,n,cap,h1,h2,h3,h4,h5,h6,h7⟩ : ∃ (us:Array Value) (g n cap:Nat),w.heap[(M.loc o).1]? = some (.cells us T (0,0))∧A g=some ((M.loc o).1,cap)∧(∀ g',g<g'→A g'=none)∧us.size=cap*z∧n≤us.size∧
  vs.toList = .int .i64 g::us.toList.take n∧∀ u∈us,u.oneCell'=true:=by
  unfold jF at hh
  rw[show(M.loc o).2 = .arr z A from hm]at hh
  exact hh
 have hY : ∀ i,vs[i]? = (Value.int .i64 g0::us.toList.take n)[i]? :=fun i=>by rw[← h6,Array.getElem?_toList]
 have hg:g0=g:=by
  have:=(jG 0 (.int .i64 g) (.int .i64 g0) rfl (by rw[hY];rfl))
  cases this
  rfl
 subst hg
 have hn:n=cells.length:=by
  have:vs.toList.length=(Value.int .i64 g0::us.toList.take n).length:=by rw[h6]
  simp at this hs
  omega
 subst hn
 refine⟨us,T,cap,h1,h2,h3,h4,h5,h7,fun i d u e1 e2=>jG (i+1) d u (by simpa using e1) ?_⟩
 rw[hY,za2,zaY,if_pos (zac.1 e1).1]
 simpa using e2
def Map.qB (M:Map) (o:Nat) (l:Nat×Ob):Map:= {M with loc:=fun q=>if q=o then l else M.loc q}
theorem Rel.W2 (r:Rel M s w) {o z g:Nat} {A:Nat→Option (Nat×Nat)} {cells:List D} (hm:M.ob o = .arr z A) (ha:pg s o g=some cells) (b' g' sn:Nat) (A':Nat→Option (Nat×Nat))
 (hA : ∀ g x,A g=some x→A' g=some x) (ve:A' g'=some (b',sn)) (Es : ∀ Pf,g'<Pf→A' Pf=none) (w':World) (us:Array Value) (T:TypeId) (hh:w'.heap[b']? = some (.cells us T (0,0))) (dT:us.size=sn*z)
 (wW:List D) (hl:wW.length≤us.size) (ig : ∀ u∈us,u.oneCell'=true) (jG : ∀ (i:Nat) (d:D) (u:Value),wW[i]? = some d→us[i]? = some u→RD M s d u)
 (hb:b'=M.mu o∨w.heap.size≤b') (KZ : ∀ b,b<w.heap.size→b≠M.mu o→w'.heap[b]? = w.heap[b]?) (uR:w.heap.size≤w'.heap.size) (h1:w'.os=w.os) (h2:w'.tape=w.tape) (h3:w'.output=w.output) :
 Rel (M.qB o (b', .arr z A')) {s with aq:=s.aq.set o (.int .i64 g'::wW)} w'∧Ext M s w (M.qB o (b', .arr z A')) {s with aq:=s.aq.set o (.int .i64 g'::wW)} w':=by
 have ho:o<s.aq.length:=(zac.1 (Gj ha)).1
 have BK:(M.loc o).2 = .arr z A:=hm
 have mU:(M.qB o (b', .arr z A')).loc o=(b', .arr z A'):=by simp[Map.qB]
 have QS : ∀ q,q≠o→(M.qB o (b', .arr z A')).loc q=M.loc q:=fun q hq=>by simp[Map.qB,hq]
 have oD:(M.qB o (b', .arr z A')).mu o=b':=congrArg Prod.fst mU
 have Fa : ∀ q,q≠o→(M.qB o (b', .arr z A')).mu q=M.mu q:=fun q hq=>congrArg Prod.fst (QS q hq)
 have le:Le M s (M.qB o (b', .arr z A')) {s with aq:=s.aq.set o (.int .i64 g'::wW)}:=by
  refine⟨fun _ _ _ h=>h,by simp,fun q _=>?_,zal _,fun t n _ h=>⟨n,h,zal _,fun _=>rfl⟩⟩
  by_cases hq:q=o
  ·subst hq
   rw[mU,show M.loc q=((M.loc q).1, .arr z A) by rw[← BK]]
   exact .arr _ _ z A A' hA
  ·rw[QS q hq];exact .refl _
 have eO : ∀ q,q<s.aq.length→q≠o→M.mu q≠b':=fun q hq wX e=>by
  rcases hb with hb|hb
  ·exact wX (r.inj q o hq ho (e.trans hb))
  ·have:=r.sc hq;omega
 have hG : ∀ off,M.G b' off=none:=fun off=>by
  rcases hb with hb|hb
  ·rw[hb];exact r.kv o ho off
  ·exact r.Qw hb off
 refine⟨⟨fun b q v e=>?_,fun q ds e=>?_,fun q hq off=>?_,fun q q' hq nq e=>?_,fun t n e=>?_,fun t b c z' q hl e hq=>?_,fun t t' b c z c' z' h h' e e'=>r.gP t t' b c z c' z' h h' e e'⟩, ?_⟩
 ·obtain⟨h4,h5⟩:=r.comm b q v e
  refine⟨?_,h5⟩
  have hbo:b≠M.mu o:=fun eq=>by subst eq;have e0:M.G (M.mu o) q=some v:=e;rw[r.kv o ho q]at e0;cases e0
  rw[← h4]
  simp[World.cell?,KZ b (r.Co e) hbo]
 ·simp only [zaL]at e
  split at e
  ·rename_i hq
   subst hq
   cases e
   refine⟨⟨.int .i64 g'::us.toList.take wW.length⟩,T, ?_,by simp;omega,⟨fun v hv=>?_,fun T' hT=>?_⟩,fun i d v e1 e2=>?_⟩
   ·unfold jF
    rw[mU]
    exact⟨us,g',wW.length,sn,hh,ve,Es,dT,hl,rfl,ig⟩
   ·simp at hv
    rcases hv with rfl|hv
    ·rfl
    ·exact ig v (zaU.1 (za5 hv))
   ·have:(M.qB o (b', .arr z A')).ty o=none:=by unfold Map.ty;rw [mU];rfl
    rw[this]at hT;cases hT
   ·cases i with
    |zero=>simp at e1 e2;subst e1 e2;exact .int _ _
    |succ i=>
     simp at e1 e2
     rw[zaY]at e2
     split at e2
     ·exact(jG i d v e1 (by simpa using e2)).mono le
     ·cases e2
  ·rename_i hq
   have hq:q≠o:=fun e=>hq e.symm
   obtain⟨fP,T',h4,h5,h6,h7⟩:=r.obj q ds e
   have Eu:q<s.aq.length:=(zac.1 e).1
   refine⟨fP,T', ?_,h5,⟨h6.1,by unfold Map.ty;rw[QS q hq];exact h6.2⟩,fun i d v e1 e2=>(h7 i d v e1 e2).mono le⟩
   rw[QS q hq]
   exact h4.keep (KZ _ h4.lt fun e=>hq (r.inj q o Eu ho e))
 ·simp at hq
  by_cases wX:q=o
  ·subst wX;rw[oD];exact hG off
  ·rw[Fa q wX];exact r.kv q hq off
 ·simp at hq nq
  by_cases h4:q=o<;>by_cases h5:q'=o
  ·omega
  ·subst h4;rw[oD,Fa q' h5]at e;exact(eO q' nq h5 e.symm).elim
  ·subst h5;rw[oD,Fa q h4]at e;exact(eO q hq h4 e).elim
  ·rw[Fa q h4,Fa q' h5]at e;exact r.inj q q' hq nq e
 ·rcases r.tok t n e with h4 | ⟨b,cap,size,fP,T',h4,h5,h6⟩
  ·exact .inl h4
  ·refine .inr ⟨b,cap,size,fP,T',h4, ?_,h6⟩
   rw[KZ b (k7 h5) (fun eq=>r.fw t b cap size o ⟨n,e⟩ h4 ho eq.symm)];exact h5
 ·simp at hq
  by_cases wX:q=o
  ·subst wX;rw [oD]
   rcases hb with hb|hb
   ·rw[hb];exact r.fw t b c z' q hl e hq
   ·have:=r.uP hl e;omega
  ·rw[Fa q wX];exact r.fw t b c z' q hl e hq
 ·refine⟨le,fun b qC h4 _=>KZ b qC (fun e=>h4 o ho e.symm),fun q h4 h5=> ?_,fun t b c z h e=> .inl ⟨h,c,z,e⟩,fun _ _ h=>(h rfl).elim,uR,h1,h2,h3⟩
  simp at h5
  by_cases wX:q=o
  ·subst wX
   rw[oD]at h4 ⊢
   rcases hb with hb|hb
   ·rcases h4 with h4 | h4
    ·omega
    ·exact(h4 hb).elim
   ·exact hb
  ·rw [Fa q wX]at h4
   rcases h4 with h4|h4
   ·omega
   ·exact(h4 rfl).elim
theorem Rel.ad0 (r:Rel M s w) (z cap:Nat) (us:Array Value) (T:TypeId) (dT:us.size=cap*z) (cells:List D) (hl:cells.length≤us.size) (ig : ∀ u∈us,u.oneCell'=true)
 (jG : ∀ (i:Nat) (d:D) (u:Value),cells[i]? = some d→us[i]? = some u→RD M s d u) :
 ∃ M',Rel M' {s with aq:=s.aq++ [.int .i64 ((0:Nat):Int)::cells]} (w.alloc (.cells us T))∧Ext M s w M' {s with aq:=s.aq++ [.int .i64 ((0:Nat):Int)::cells]} (w.alloc (.cells us T))∧
  ∀ len,len≤cap→RD M' {s with aq:=s.aq++ [.int .i64 ((0:Nat):Int)::cells]} (.dM z s.aq.length 0 len) (.slice (some ⟨w.heap.size,0,none⟩) len cap):=by
 obtain⟨r',e'⟩:=r.Ls (.int .i64 ((0:Nat):Int)::cells) (.cells us T) ⟨.int .i64 ((0:Nat):Int)::us.toList.take cells.length⟩ T (.arr z fun g=>if g=0 then some (w.heap.size,cap)else none)
  (fun hp e=>⟨us,0,cells.length,cap,e,rfl,fun g' h=>if_neg (by omega),dT,hl,rfl,ig⟩) (fun _ h=>by cases h) (by simp;omega) (fun v hv=>by
   simp at hv
   rcases hv with rfl|hv
   ·rfl
   ·exact ig v (zaU.1 (za5 hv))) (fun i d v e1 e2=>by
   cases i with
   |zero=>simp at e1 e2;subst e1 e2;exact .int _ _
   |succ i=>
    simp at e1 e2
    rw[zaY]at e2
    split at e2
    ·exact(jG i d v e1 (by simpa using e2)).mono (um s w.heap.size _ _)
    ·cases e2)
 exact⟨_,r',e',fun len h=> .dM z _ 0 len w.heap.size cap _ (by simp) (by simp[Map.ep,Map.ob];rfl) (if_pos rfl) h⟩
end
end Go.Abs
namespace Go.Abs
section
variable {P:Program} {M:Map} {s:St} {w:World}
theorem Ph (r:Rel M s w) {o g off:Nat} {v:Value} {cells:List D} (hx:RD M s (.fC o g off) v) (ha:pg s o g=some cells) :
 ∃ z A,M.ob o = .arr z A∧v = .pointer (some ⟨M.mu o,off,none⟩):=by
 obtain⟨z,b,cap,A,hv,ho,hm,hg⟩:=hx.E2
 obtain⟨us,T,sn,h1,h2,_⟩:=r.LD hm ha
 rw[hg]at h2;cases h2
 exact⟨z,A,hm,hv⟩
theorem Oi (r:Rel M s w) {t:TypeId} {i:TypeInfo} {agg:Bool} (hi:P.info? t=some i) (hag:sT P t=some agg) {x d:D} {v:Value} {s':St} (hx:RD M s x v) (h:AG x agg i.size s=some (d,s')) :
 dk P M s w (do pure (.value (← Instr.loadAt t v))) d s':=by
 unfold AG at h
 split at h
 case h_2=>cases h
 rename_i o g off
 split at h
 case h_2=>cases h
 rename_i cells ha
 split at h
 case h_2=>cases h
 rename_i d' hp
 cases h
 obtain⟨z,A,hm,rfl⟩:=Ph r hx ha
 obtain⟨us,T,cap,hh,_,_,_,hl,ig,jG⟩:=r.LD hm ha
 let n:=if agg then i.size else 1
 have iB:off+n≤us.size:=by
  rcases sE hp with ⟨rfl,h1,_⟩|⟨rfl,h1⟩
  ·simp[n];omega
  ·have:=(zac.1 h1).1;simp[n];omega
 have hlen:((us.toList.drop off).take n).length=n:=by simp;omega
 have hY : ∀ (j:Nat) (u:Value),((us.toList.drop off).take n)[j]? = some u→us[off+j]? = some u:=by
  intro j u h
  rw[zaY]at h
  split at h
  ·rw[zbq]at h;simpa using h
  ·cases h
 have dU:=AP (w:=w) P hi hag (M.mu o) off ((us.toList.drop off).take n) hlen (fun j u h=>by rw[j8 hh];exact hY j u h)
 refine dk.pure (v:=if agg then .agg ((us.toList.drop off).take n).toArray else((us.toList.drop off).take n).getD 0 Go.undef) r (by simp[Instr.loadAt,Instr.sureAddr,dU]) ?_
 refine sW hp _ hlen (fun _ u hu=>ig u ?_) (fun j d u e1 e2=>jG _ d u e1 (hY j u e2))
 exact zaU.1 (zbH (za5 hu))
theorem zD {vs:Array Value} {off:Nat} {us:List Value} {n:Nat} (hu:us.length=n) (h:off+n≤vs.size) (i:Nat) :
 (vs.toList.take off++us++vs.toList.drop (off+us.length)).toArray[i]? = if i<off then vs[i]? else if i<off+n then us[i - off]? else vs[i]? :=by
 subst hu
 simp only[zbB]
 have hl:(vs.toList.take off).length=off:=by simp;omega
 split
 ·rename_i h3
  rw[zaB,zak (by omega),zbn h3];simp
 ·rename_i h3
  rw[zaB,zas (by omega),hl]
  split
  ·rename_i h4
   rw[zak (by omega)]
  ·rename_i h4
   rw[zas (by omega),zbq]
   rw[show off+us.length+(i - off - us.length)=i by omega];simp
theorem zE {vs:Array Value} {off k:Nat} {us:List Value} (h1 : ∀ v∈vs,v.oneCell'=true) (h2 : ∀ u∈us,u.oneCell'=true) : ∀ v∈(vs.toList.take off++us++vs.toList.drop k).toArray,v.oneCell'=true:=by
 intro v hv
 simp at hv
 rcases hv with hv|hv|hv
 ·exact h1 v (zaU.1 (za5 hv))
 ·exact h2 v hv
 ·exact h1 v (zaU.1 (zbH hv))
theorem LF (r:Rel M s w) {t:TypeId} {i:TypeInfo} (hi:P.info? t=some i) {x y d:D} {v u:Value} {s':St} (hx:RD M s x v) (hy:RD M s y u) (h:Cl x y.row i.size s=some (d,s')) :
 dk P M s w (do Instr.storeAt t v u;pure .skip) d s':=by
 unfold Cl at h
 split at h
 case h_2=>cases h
 rename_i o g off row hr
 split at h
 case h_2=>cases h
 rename_i cells ha
 split at h
 case isFalse=>cases h
 rename_i hc
 obtain⟨hl,iB⟩:=hc
 cases h
 obtain⟨z,A,hm,rfl⟩:=Ph r hx ha
 obtain⟨us,T,cap,hh,ve,Es,dT,hle,ig,jG⟩:=r.LD hm ha
 obtain⟨h1,h2,h3⟩:=hy.row hr
 have hu:u.cells.toList.length=row.length:=by simpa using h1
 have gd:=run_storeCells_at P (M.mu o) off T u.cells.toList 0 us w hh (by omega) (fun u hu=>h2 u (by simpa using hu))
 simp only[zaS]at gd
 generalize du:(us.toList.take off++u.cells.toList++us.toList.drop (off+u.cells.toList.length)).toArray=jR at gd
 have sV:jR.size=us.size:=by rw[← du];simp;omega
 have hY : ∀ i,jR[i]? = if i<off then us[i]? else if i<off+row.length then u.cells.toList[i - off]? else us[i]? :=fun i=>by rw[← du];exact zD hu (by omega) i
 have hlc:(gV cells off row).length=cells.length:=vI cells off row (by omega)
 obtain⟨r',e'⟩:=r.W2 hm ha (M.mu o) g cap A (fun _ _ h=>h) ve Es (w.setRow (M.mu o) jR) jR T (setRow_heap w (M.mu o) us jR T (0,0) hh) (by rw[sV,dT]) (gV cells off row) (by omega)
  (by rw [← du];exact zE ig (fun u hu=>h2 u (by simpa using hu))) (fun i d v e1 e2=>by
   rw[sU cells off row (by omega)]at e1
   rw[hY]at e2
   split at e1
   ·rename_i h4;simp only[h4,if_true]at e2;exact jG i d v e1 e2
   ·rename_i h4
    simp only[h4,if_false]at e2
    split at e1
    ·rename_i h5;simp only[h5,if_true]at e2;exact h3 _ d v e1 (by simpa using e2)
    ·rename_i h5;simp only[h5,if_false]at e2;exact jG i d v e1 e2) (.inl rfl) (fun b _ hb=>setRow_other w (M.mu o) b _ hb) (by simp) rfl rfl rfl
 refine⟨Go.undef,_,_, .inr ⟨?_,rfl⟩,r', .undef,e'⟩
 have alP:u.cells.size=i.size:=by omega
 simp[Instr.storeAt,Instr.sureAddr,storeVar,sizeOf,gX P hi,alP,gd]
theorem LG (r:Rel M s w) {t e:TypeId} {i:TypeInfo} (ht:P.underlying t=some (.slice e)) (hi:P.info? e=some i) {x y d:D} {v u:Value} (hx:RD M s x v) (hy:RD M s y u) (h:zm x y i.size=some d) :
 dk P M s w (do pure (.value (← Instr.indexAt t v u))) d s:=by
 unfold zm at h
 split at h
 case h_2=>cases h
 rename_i z o g len k n
 split at h
 case isFalse=>cases h
 rename_i hc
 obtain⟨h0,h1,rfl⟩:=hc
 cases h
 obtain⟨b,cap,A,rfl,ho,hm,hg,hl⟩:=hx.zt
 rw[hy.iV]
 refine dk.pure (v:= .pointer (some ⟨b,n.toNat*i.size,none⟩)) r ?_ (.fC _ _ _ _ b cap A ho hm hg)
 simp[Instr.indexAt,asIntOf,run_underlying ht,h0,h1,sizeOf,gX P hi,nP]
theorem QT (r:Rel M s w) {t e:TypeId} {i:TypeInfo} {lv hv:Option Value} {lo hi:Option D} (ht:P.underlying t=some (.slice e)) (Gd:P.info? e=some i) {x d:D} {v:Value} (hx:RD M s x v)
 (h1 : ∀ l,ud lo=some l→TW lv l) (h2 : ∀ len l,uf hi len=some l→TX hv len l) (h:uj x lo hi=some d) :
 dk P M s w (do pure (.value (← Instr.sliceAt t v lv hv none))) d s:=by
 unfold uj at h
 split at h
 ·rename_i z o g len
  split at h
  case h_2=>cases h
  rename_i l hh el eh
  split at h
  case isFalse=>cases h
  rename_i hc
  obtain⟨rfl,h0,hle⟩:=hc
  cases h
  obtain⟨b,cap,A,rfl,ho,hm,hg,hl⟩:=hx.zt
  have hb:=q5 (P:=P) (w:=w) (isSlice:=true) (cap:=cap) (h1 _ el) (h2 _ _ eh) (za8 0) h0 hle hl
  refine dk.pure (v:= .slice (some ⟨b,0,none⟩) hh.toNat cap) r ?_ (.dM z o g _ b cap A ho hm hg (by omega))
  simp[Instr.sliceAt,run_underlying ht,Instr.slice,hb,sizeOf,gX P Gd,nP]
 ·rename_i z
  split at h
  case h_2=>cases h
  rename_i l hh el eh
  split at h
  case isFalse=>cases h
  rename_i hc
  obtain⟨rfl,rfl⟩:=hc
  cases h
  obtain⟨a,rfl⟩:=hx.E3
  have hb:=q5 (P:=P) (w:=w) (isSlice:=true) (len:=0) (cap:=0) (h1 _ el) (h2 _ _ eh) (za8 0) (za8 0) (za8 0) (zal 0)
  refine dk.pure (v:= .slice a 0 0) r ?_ (.ek z a)
  cases a<;>simp[Instr.sliceAt,run_underlying ht,Instr.slice,hb,sizeOf,gX P Gd,nP]
 ·cases h
theorem QU (r:Rel M s w) {t ty e:TypeId} (ht:P.underlying t=some (.slice e)) {x d:D} {v:Value} (hx:RD M s x v) (h:HS x=some d) :
 dk P M s w (do pure (.value (← Builtin.len_ #[t] ty #[v]))) d s:=by
 unfold HS at h
 split at h
 ·cases h
  obtain⟨b,cap,A,rfl,_⟩:=hx.zt
  exact oE r ht
 ·cases h
  obtain⟨a,rfl⟩:=hx.E3
  exact oE r ht
 ·cases h
theorem AU {size:Nat} : ∀ {rows:List (List D)},(∀ row∈rows,row.length=size)→rows.flatten.length=rows.length*size∧
 ∀ (k:Nat) (d:D),rows.flatten[k]? = some d→∃ (i:Nat) (row:List D) (j:Nat),rows[i]? = some row∧row[j]? = some d∧k=i*size+j
 | [],_=>by simp
 | row::rows,h=>by
  have hr:=h row (zaA ..)
  obtain⟨h1,h2⟩:=AU fun q hq=>h q (zan _ hq)
  refine⟨by simp only[zbi,zaj,h1,hr,zat,zbm];omega,fun k d e=>?_⟩
  rw[zbi]at e
  rcases zaE k row.length with hk|hk
  ·rw [zak hk]at e
   exact⟨0,row,k,rfl,e,by omega⟩
  ·rw [zas hk]at e
   obtain⟨i,lh,j,g1,g2,g3⟩:=h2 _ d e
   exact⟨i+1,lh,j,by simpa using g1,g2,by rw[zbm];omega⟩
theorem QV (r:Rel M s w) {t u ty e e':TypeId} {i:TypeInfo} {z:Value} (ht:P.underlying t=some (.slice e)) (hu:P.underlying u=some (.slice e')) (hi:P.info? e=some i) (hz:i.zero=some z)
 (zw:z.cells.size=i.size) (Et : ∀ v∈z.cells,v.oneCell'=true) {dx dy d:D} {x y:Value} {s':St} (hx:RD M s dx x) (hy:RD M s dy y) (uu:0<i.size) (he:AH i.size i.bytes dx dy s=some (d,s')) :
 ∃ v w' M',(Builtin.append_ #[t,u] ty #[x,y]).run P w = .ok v w'∧Rel M' s' w'∧RD M' s' d v∧Ext M s w M' s' w':=by
 have src:=H0 (i:=i) r hu hy
 unfold AH at he
 split at he
 ·-- behind an array
  rename_i z0 o g len g' zy new
  split at he
  case isFalse=>cases he
  rename_i hc
  obtain⟨rfl,Lz,vh⟩:=hc
  obtain⟨b,cap,A,rfl,ho,hm,hg,hlc⟩:=hx.zt
  cases new with
  |nil=>
   simp only at he
   cases he
   exact⟨_,w,M,mJ ht hi ((src _ _ _ rfl).1 rfl) hlc,r,hx,Ext.refl M s w⟩
  |cons n0 new=>
  have eO:(n0::new)≠ []:=by simp
  generalize du:n0::new=eH at *
  have T5:zy=i.size:=Lz.resolve_left eO
  subst T5
  obtain⟨Jn,news,hs,DL⟩:=(src _ _ _ rfl).2 eO rfl
  have BK:0<eH.length:=List.length_pos_iff.2 eO
  simp only[← du]at he
  simp only[du]at he
  split at he
  case h_2=>cases he
  rename_i cells ha
  split at he
  case isFalse=>cases he
  rename_i ko
  cases he
  obtain⟨us,T,sn,hh,ve,Es,dT,hle,ig,jG⟩:=r.LD hm ha
  rw[hg]at ve
  simp only[Option.some.injEq,Prod.mk.injEq]at ve
  obtain⟨rfl,rfl⟩:=ve
  obtain⟨fx,Ua⟩:=AU Jn
  have pP:(cells.take (len*i.size)).length=len*i.size:=by simp;omega
  have hA : ∀ (b' c':Nat) (g0:Nat) (x:Nat×Nat),A g0=some x→(if g0=g+1 then some (b',c')else A g0)=some x:=fun b' c' g0 x h=>by
   rw[if_neg]
   ·exact h
   ·rintro rfl
    rw[Es (g+1) (by omega)]at h;cases h
  have vi:(len+eH.length)*i.bytes≤140737488355328:=by rw[Nat.mul_succ]at vh;simp only[aV]at vh;omega
  have T6:len+eH.length≤1099511627776:=by rw[Nat.mul_succ]at vh;simp only[aV]at vh;omega
  have Jp:=hs.newsLen
  -- what is laid there
  have aai : ∀ (vs:Array Value),(∀ k,k<len*i.size→vs[k]? = us[k]?)→(∀ k,k<news.length→vs[len*i.size+k]? = news[k]?)→∀ (k:Nat) (d:D) (v:Value),
   (cells.take (len*i.size)++eH.flatten)[k]? = some d→vs[k]? = some v→RD M s d v:=fun vs g1 g2 k d v e1 e2=>by
   rcases zaE k (len*i.size)with hk|hk
   ·rw [zak (by omega),zbn hk]at e1
    rw[g1 k hk]at e2
    exact jG k d v e1 e2
   ·rw [zas (by omega),pP]at e1
    have aZ:=(zac.1 e1).1
    have:=g2 (k - len*i.size) (by omega)
    rw[show len*i.size+(k - len*i.size)=k by omega]at this
    rw[this]at e2
    obtain⟨a,row,j,f1,f2,f3⟩:=Ua _ d e1
    rw[f3]at e2
    exact DL a row j d v f1 f2 e2
  by_cases iF:len+eH.length≤cap
  ·have iB:len*i.size+news.length≤us.size:=by rw [Jp,dT, ← zbm];exact zaO _ iF
   have gd:=run_storeCells_at P (M.mu o) (len*i.size) T news 0 us w hh (by simpa using iB) hs.one
   simp only[zaS]at gd
   have dU:(Builtin.append_ #[t,u] ty #[.slice (some ⟨M.mu o,0,none⟩) len cap,y]).run P w = .ok (.slice (some ⟨M.mu o,0,none⟩) (len+eH.length) cap) (w.setRow (M.mu o) (us.toList.take (len*i.size)++news++us.toList.drop (len*i.size+news.length)).toArray):=by
    rcases hs.kind with ⟨Pb,hk⟩|hk<;>simp[Builtin.append_,run_underlying ht,run_underlying hk,sizeOf,typeInfo,hi,hs.len,iF,hs.cells,Addr.add_lit,gd]
   have hY:=zD (vs:=us) (off:=len*i.size) (us:=news) rfl iB
   generalize s7:(us.toList.take (len*i.size)++news++us.toList.drop (len*i.size+news.length)).toArray=jR at dU hY
   have sV:jR.size=us.size:=by rw[← s7];simp;omega
   obtain⟨r',e'⟩:=r.W2 hm ha (M.mu o) (g+1) cap (fun g0=>if g0=g+1 then some (M.mu o,cap)else A g0) (hA _ _) (if_pos rfl) (fun Pf h=>by rw[if_neg (by omega)];exact Es Pf (by omega))
    (w.setRow (M.mu o) jR) jR T (setRow_heap w (M.mu o) us jR T (0,0) hh) (by rw[sV,dT]) (cells.take (len*i.size)++eH.flatten) (by rw[zaj,pP,fx,sV];omega)
    (by rw[← s7];exact zE ig hs.one) (aai jR (fun k hk=>by rw[hY,if_pos hk]) (fun k hk=>by rw[hY,if_neg (by omega),if_pos (by omega)];congr 1;omega)) (.inl rfl) (fun b _ hb=>setRow_other w (M.mu o) b _ hb) (by simp) rfl rfl rfl
   refine⟨_,_,_,dU,r', ?_,e'⟩
   exact .dM i.size o (g+1) _ (M.mu o) cap _ (by simpa using ho) (by simp[Map.ob,Map.qB];rfl) (if_pos rfl) iF
  ·have Ey:cap<len+eH.length:=by omega
   have o7:=grownCap_ge w (len+eH.length) cap e
   have Pj:(Builtin.firstCells i.size len (.slice (some ⟨M.mu o,0,none⟩) len cap)).run P w.drew = .ok (us.toList.take (len*i.size)).toArray w.drew:=
    (Src.ofSlice w ht ⟨M.mu o,0,none⟩ len cap (us.toList.take (len*i.size)) (by simp;omega) (fun j v hj=>by
     rw[nP,zaZ,j8 hh]
     rw[zaY]at hj
     split at hj
     ·simpa using hj
     ·cases hj) (fun v hv=>ig v (zaU.1 (za5 hv)))).cellsD
   have dU:=run_append_grow_src (P:=P) w t u ty e i z ht hi hz (some ⟨M.mu o,0,none⟩) len cap (us.toList.take (len*i.size)) Pj y eH.length news hs Ey (by omega) (growslice_fits Ey vi)
   generalize s7:(us.toList.take (len*i.size)++news).toArray++Builtin.zeroCells z.cells (grownCap w (len+eH.length) cap e - (len+eH.length))=jR at dU
   have zp:(us.toList.take (len*i.size)).length=len*i.size:=by simp;omega
   have sV:jR.size=grownCap w (len+eH.length) cap e*i.size:=by
    rw[← s7]
    simp only[Array.size_append,List.size_toArray,zaj,size_zeroCells,zw,zp,Jp, ← zbm]
    congr 1;omega
   have AV : ∀ v∈jR,v.oneCell'=true:=fun v hv=>by
    rw[← s7,Array.mem_append]at hv
    rcases hv with hv|hv
    ·simp at hv
     rcases hv with hv|hv
     ·exact ig v (zaU.1 (za5 hv))
     ·exact hs.one v hv
    ·exact vL Et _ v hv
   have aic : ∀ k,k<len*i.size→jR[k]? = us[k]? :=fun k hk=>by
    rw[← s7,zbc (by simp;omega),zbB,zak (by omega),zbn hk];simp
   have mV : ∀ k,k<news.length→jR[len*i.size+k]? = news[k]? :=fun k hk=>by
    rw[← s7,zbc (by simp;omega),zbB,zas (by omega),zp]
    congr 1;omega
   have H2:(len+eH.length)*i.size≤jR.size:=by rw[sV];exact zaO _ o7
   have W3:w.heap.size≤(w.drew.alloc (.cells jR e)).heap.size:=by
    have e1:w.drew.heap.size=w.heap.size:=rfl
    have e2:(w.drew.alloc (.cells jR e)).heap.size=w.drew.heap.size+1:=by simp
    omega
   obtain⟨r',e'⟩:=r.W2 hm ha w.heap.size (g+1) (grownCap w (len+eH.length) cap e) (fun g0=>if g0=g+1 then some (w.heap.size,grownCap w (len+eH.length) cap e)else A g0) (hA _ _) (if_pos rfl) (fun Pf h=>by rw[if_neg (by omega)];exact Es Pf (by omega))
    (w.drew.alloc (.cells jR e)) jR e (heap_alloc_new w.drew _) sV (cells.take (len*i.size)++eH.flatten) (by rw[zaj,pP,fx];rw[zbm]at H2;omega)
    AV (aai jR aic mV) (.inr (zal _)) (fun b hb _=>heap_alloc_old w.drew _ b hb) W3 rfl rfl rfl
   refine⟨_,_,_,dU,r', ?_,e'⟩
   exact .dM i.size o (g+1) _ w.heap.size _ _ (by simpa using ho) (by simp[Map.ob,Map.qB];rfl) (if_pos rfl) o7
 ·-- the first array
  rename_i z0 g' zy new
  split at he
  case isFalse=>cases he
  rename_i hc
  obtain⟨rfl,Lz,vh⟩:=hc
  obtain⟨a,rfl⟩:=hx.E3
  cases new with
  |nil=>
   simp only at he
   cases he
   exact⟨_,w,M,mJ ht hi ((src _ _ _ rfl).1 rfl) (zal 0),r,hx,Ext.refl M s w⟩
  |cons n0 new=>
  have eO:(n0::new)≠ []:=by simp
  generalize du:n0::new=eH at *
  have T5:zy=i.size:=Lz.resolve_left eO
  subst T5
  obtain⟨Jn,news,hs,DL⟩:=(src _ _ _ rfl).2 eO rfl
  have BK:0<eH.length:=List.length_pos_iff.2 eO
  simp only[← du]at he
  simp only[du]at he
  cases he
  obtain⟨fx,Ua⟩:=AU Jn
  have Jp:=hs.newsLen
  have vi:(0+eH.length)*i.bytes≤140737488355328:=by rw[Nat.mul_succ]at vh;simp only[aV]at vh;rw[zaZ];omega
  have T6:eH.length≤1099511627776:=by rw[Nat.mul_succ]at vh;simp only[aV]at vh;omega
  have Ey:0<0+eH.length:=by omega
  have o7:=grownCap_ge w (0+eH.length) 0 e
  have Pj:(Builtin.firstCells i.size 0 (.slice a 0 0)).run P w.drew = .ok ([] : List Value).toArray w.drew:=by
   cases a with
   |none=>simp[Builtin.firstCells]
   |some a=>simp[Builtin.firstCells,loadCells,loadCellsFrom]
  have dU:=run_append_grow_src (P:=P) w t u ty e i z ht hi hz a 0 0 [] Pj y eH.length news hs Ey (by omega) (growslice_fits Ey vi)
  generalize s7:(([] : List Value)++news).toArray++Builtin.zeroCells z.cells (grownCap w (0+eH.length) 0 e - (0+eH.length))=jR at dU
  have sV:jR.size=grownCap w (0+eH.length) 0 e*i.size:=by
   rw[← s7]
   simp only[Array.size_append,List.size_toArray,zaV,size_zeroCells,zw,Jp, ← zbm]
   congr 1;omega
  have AV : ∀ v∈jR,v.oneCell'=true:=fun v hv=>by
   rw[← s7,Array.mem_append]at hv
   rcases hv with hv|hv
   ·exact hs.one v (by simpa using hv)
   ·exact vL Et _ v hv
  have mV : ∀ k,k<news.length→jR[k]? = news[k]? :=fun k hk=>by
   rw[← s7,zbc (by simpa using hk)];simp
  have H2:eH.length*i.size≤jR.size:=by rw[sV];exact zaO _ (by omega)
  have rd:Rel M s w.drew:=r.of_heap rfl
  obtain⟨M',r',e',f'⟩:=rd.ad0 i.size (grownCap w (0+eH.length) 0 e) jR e sV eH.flatten (by omega) AV (fun k d v e1 e2=>by
   have hk:=(zac.1 e1).1
   rw[mV k (by omega)]at e2
   obtain⟨a,row,j,f1,f2,f3⟩:=Ua _ d e1
   rw[f3]at e2
   exact DL a row j d v f1 f2 e2)
  refine⟨_,_,M',dU,r', ?_,(Ext.of_heap (M:=M) (s:=s) (w:=w) (w':=w.drew) rfl rfl rfl rfl).trans e'⟩
  have:=f' eH.length (by omega)
  simpa using this
 ·cases he
theorem QW (r:Rel M s w) {t e:TypeId} {i:TypeInfo} {z:List D} (ht:P.underlying t=some (.slice e)) (hi:P.info? e=some i) (hz:zeroOf P e=some z) (uu:0<i.size) {n:Int} (h0:0≤n) (h1:n*((i.bytes:Int)+1)≤aV) :
 dk P M s w (do pure (.value (← Instr.makeSlice t (.int .i64 n) (.int .i64 n)))) (.dM i.size s.aq.length 0 n.toNat) {s with aq:=s.aq++ [.int .i64 ((0:Nat):Int)::(gj z n.toNat).flatten]}:=by
 obtain⟨i',v,g1,g2,g3,g4⟩:=uQ hz
 rw[hi]at g1;cases g1
 have Jq:=s6 (M:=M) (s:=s) g4
 have hmul:n*((i.bytes:Int)+1)=(i.bytes:Int)*n+n:=by rw[Int.mul_add,Int.mul_one,Int.mul_comm]
 have hnb:0≤(i.bytes:Int)*n:=Int.mul_nonneg (by omega) h0
 have hmx:(aV:Int)=1099511627776:=rfl
 have dU:=run_make (P:=P) w t e i v ht hi g2 .i64 .i64 n n h0 (za8 _) (by omega) (by omega)
 have hzl:z.length=i.size:=by have:=Jq.1;omega
 obtain⟨q1,q2,q3,q4⟩:=nu.zero Jq (by omega) n.toNat
 obtain⟨fx,Ua⟩:=AU (rows:=gj z n.toNat) (size:=z.length) (fun row hr=>by rw[qy z _ row hr])
 rw[nw]at fx
 have BM:madeCells v.cells (n.toNat*i.size)=(Array.range (n.toNat*z.length)).map (v.cells[· % v.cells.size]!):=by rw[hzl];rfl
 obtain⟨M',r',e',f'⟩:=r.ad0 i.size n.toNat (madeCells v.cells (n.toNat*i.size)) e (by rw[BM];simp[hzl]) (gj z n.toNat).flatten (by rw[fx,BM];simp) (by rw[BM];exact q3) (fun k d u e1 e2=>by
  obtain⟨a,row,j,f1,f2,f3⟩:=Ua k d e1
  rw[BM,f3]at e2
  exact q4 a row j d u f1 f2 e2)
 refine⟨_,_,M', .inl ?_,r',f' n.toNat (zal _),e'⟩
 simp only[Sem.run_bind,dU,Result.andThen_ok,Sem.run_pure]
end
end Go.Abs
namespace Go.Abs
section
variable {P:Program} {M:Map} {s:St} {w:World}
theorem Pk {tm:Tm} {act:Act} (hr:nr M s tm act.tmps) : ∀ {l:List Operand} {xs:List X},zn l=some xs→
 xs.length=l.length∧∀ (i:Nat) (d:D) (v:Value),(xs.map (·.ev tm))[i]? = some d→(l.map act.eval)[i]? = some v→RD M s d v
 | [],xs,h=>by cases h;exact⟨rfl,by simp⟩
 | x::l,xs,h=>by
  unfold zn at h
  split at h
  ·rename_i x' r' h1 h2
   cases h
   obtain⟨g1,g2⟩:=Pk hr h2
   refine⟨by simp[g1],fun i d v e1 e2=>?_⟩
   cases i with
   |zero=>simp at e1 e2;subst e1;subst e2;exact cu h1 hr
   |succ i=>exact g2 i d v (by simpa using e1) (by simpa using e2)
  ·cases h
theorem LH {lo:Option Operand} {Jr:Option X} {tm:Tm} {act:Act} (hr:nr M s tm act.tmps) (h:Z3 lo=some Jr) {l:Int} (hl:ud (Jr.map (·.ev tm))=some l):TW (lo.map act.eval) l:=by
 cases lo with
 |none=>cases h;simp only[zbU,ud,Option.some.injEq]at hl;exact .inl ⟨rfl,hl.symm⟩
 |some x=>
  obtain⟨y,hy,rfl⟩:=map_some (f:=some) h
  have:=cu hy hr
  simp only[za3]at hl ⊢
  cases hd:y.ev tm<;>rw[hd]at hl this<;>simp only[ud]at hl<;>try (cases hl;done)
  cases hl
  rw[this.iV]
  exact .inr ⟨_,rfl⟩
theorem LI {hi:Option Operand} {jf:Option X} {tm:Tm} {act:Act} (hr:nr M s tm act.tmps) (h:Z3 hi=some jf) {len:Nat} {l:Int} (hl:uf (jf.map (·.ev tm)) len=some l):TX (hi.map act.eval) len l:=by
 cases hi with
 |none=>cases h;simp only[zbU,uf,Option.some.injEq]at hl;exact .inl ⟨rfl,hl.symm⟩
 |some x=>
  obtain⟨y,hy,rfl⟩:=map_some (f:=some) h
  have:=cu hy hr
  simp only[za3]at hl ⊢
  cases hd:y.ev tm<;>rw[hd]at hl this<;>simp only[uf]at hl<;>try (cases hl;done)
  cases hl
  rw[this.iV]
  exact .inr ⟨_,rfl⟩
theorem QX {t:TypeId} {f off size:Nat} {agg:Bool} (h:nO P t f=some (off,size,agg)) {cs:List D} {vs:Array Value} (hl:cs.length=vs.size) (h1 : ∀ v∈vs,v.oneCell'=true)
 (h2 : ∀ (i:Nat) (d:D) (v:Value),cs[i]? = some d→vs[i]? = some v→RD M s d v) {d:D} (hp:part cs off agg size=some d) (r:Rel M s w) :
 dk P M s w (do pure (.value (← Instr.field t (.agg vs) f))) d s:=by
 let n:=if agg then size else 1
 have iB:off+n≤vs.size:=by
  rcases sE hp with ⟨rfl,h1,_⟩|⟨rfl,h1⟩
  ·simp[n];omega
  ·have:=(zac.1 h1).1;simp[n];omega
 have hlen:((vs.toList.drop off).take n).length=n:=by simp;omega
 have hY : ∀ (j:Nat),j<((vs.toList.drop off).take n).length→vs[off+j]? = ((vs.toList.drop off).take n)[j]? :=by
  intro j h
  rw[hlen]at h
  rw[zaY,if_pos h,zbq];simp
 refine dk.pure (v:=if agg then .agg ((vs.toList.drop off).take n).toArray else((vs.toList.drop off).take n).getD 0 Go.undef) r (by simp only[Sem.run_bind,TP h vs _ hlen hY,Result.andThen_ok,Sem.run_pure]) ?_
 refine sW hp _ hlen (fun _ u hu=>h1 u (zaU.1 (zbH (za5 hu)))) (fun j d u e1 e2=>h2 _ d u e1 ?_)
 rw[hY j (zac.1 e2).1];exact e2
theorem uS {o:Oper} {ao:AO} {tm:Tm} {act:Act} {d:D} {s':St} (hc:Gb P o=some ao) (r:Rel M s w) (hr:nr M s tm act.tmps) (he:aS ao tm s=some (d,s')) :
 dk P M s w (execOp act.eval o) d s':=by
 obtain⟨dst,op,type,pos,after,guard⟩:=o
 unfold Gb at hc
 simp only at hc
 cases op with
 |move x=>
  obtain⟨y,hy,rfl⟩:=map_some hc
  cases he
  exact dk.pure r rfl (cu hy hr)
 |assign x=>
  obtain⟨y,hy,rfl⟩:=map_some hc
  cases he
  exact dk.pure r rfl (cu hy hr)
 | pick c a b=>
  simp only at hc
  split at hc
  ·rename_i c' a' b' h1 h2 h3
   cases hc
   simp only[aS]at he
   split at he
   ·rename_i t ht
    cases he
    have hcb:=cu h1 hr
    rw[ht]at hcb
    have:=hcb.pj
    refine dk.pure (v:=if t then act.eval a else act.eval b) r ?_ ?_
    ·simp only [execOp,this,asBool]
     simp
    ·cases t
     ·exact cu h3 hr
     ·exact cu h2 hr
   ·cases he
  ·cases hc
 | alloc t=>
  simp only at hc
  split at hc
  ·obtain⟨z,hz,rfl⟩:=map_some hc
   simp only[aS]at he
   split at he
   ·cases he;exact Og r hz
   ·cases he
  ·obtain⟨z,hz,rfl⟩:=map_some hc
   cases he
   exact QA r hz
 | box t x=>
  simp only at hc
  split at hc
  ·obtain⟨y,hy,rfl⟩:=map_some hc
   simp only[aS]at he
   split at he
   ·rename_i row dX
    cases he
    exact TO r (cu hy hr) dX
   ·cases he
  ·obtain⟨y,hy,rfl⟩:=map_some hc
   simp only[aS]at he
   split at he
   ·rename_i row dX
    cases he
    exact WT r (cu hy hr) dX
   ·cases he
 | build t parts=>
  simp only at hc
  split at hc
  ·rename_i fs z ps h1 h2 h3
   split at hc
   ·rename_i rn
    cases hc
    simp only[aS]at he
    split at he
    ·rename_i cs kz
     cases he
     have:=QO r hr h1 rn h2 h3 kz
     simpa[execOp]using this
    ·cases he
   ·cases hc
  ·cases hc
 | buildSlice t n parts=>
  simp only at hc
  split at hc
  ·rename_i e hu
   split at hc
   ·rename_i i z ps h1 h2 h3
    split at hc
    ·rename_i mK
     cases hc
     simp only[aS]at he
     split at he
     ·rename_i rows k8
      cases he
      obtain⟨vs,T,g1,g2,g3,g4⟩:=Ev r hr hu h1 h2 mK.1 mK.2 h3 k8
      obtain⟨f1,f2,f3⟩:=QJ r T g1
      refine⟨_,_,_, .inl ?_,f2,f1,f3⟩
      simp only[za6]at g4
      simp only[execOp,Sem.run_bind,g4,Result.andThen_ok,Sem.run_pure]
      rw[g2]
     ·cases he
    ·cases hc
   ·cases hc
  ·cases hc
 | load t x=>
  simp only at hc
  split at hc
  ·rename_i y a i h1 h2 h3
   cases hc
   have hx:=cu h1 hr
   simp only[aS]at he
   split at he
   ·rename_i o off ho
    rw[ho]at hx
    have LJ:=hx.Cp
    obtain⟨hv,_⟩:=hx.ur
    split at he
    ·rename_i cs kz
     split at he
     ·rename_i d' lN
      cases he
      have:=Kr r h3 h2 kz LJ lN
      simp only[execOp,hv]
      exact this
     ·cases he
    ·cases he
   ·rename_i row off ho
    rw[ho]at hx
    obtain⟨b,k,hv,g1,g2⟩:=hx.AN
    split at he
    ·rename_i d' lN
     cases he
     have:=Ks r h3 h2 g1 g2 lN
     simp only[execOp,hv]
     exact this
    ·cases he
   ·exact Oi r h3 h2 hx he
  ·cases hc
 | store t a x=>
  simp only at hc
  split at hc
  ·rename_i a' x' i h1 h2 h3
   cases hc
   have ha:=cu h1 hr
   have hx:=cu h2 hr
   simp only[aS]at he
   split at he
   ·rename_i o off row ho dX
    rw[ho]at ha
    have LJ:=ha.Cp
    obtain⟨hv,_⟩:=ha.ur
    split at he
    ·rename_i cs kz
     split at he
     ·rename_i iB
      cases he
      have:=QB r h3 kz LJ hx dX iB.1 iB.2
      simp only[execOp,hv]
      exact this
     ·cases he
    ·cases he
   ·exact LF r h3 ha hx he
  ·cases hc
 | nilCheck x=>
  obtain⟨y,hy,rfl⟩:=map_some hc
  have hx:=cu hy hr
  simp only[aS]at he
  split at he
  ·rename_i o off ho
   cases he
   rw[ho]at hx
   have hv:=hx.ur.1
   rw[hv]at hx
   simp only[execOp,hv]
   exact AR r hx
  ·rename_i row off ho
   cases he
   rw[ho]at hx
   obtain⟨b,k,hv,_⟩:=hx.AN
   rw[hv]at hx
   simp only[execOp,hv]
   exact AR r hx
  ·split at he
   case h_2=>cases he
   rename_i d' vm
   cases he
   unfold Qr at vm
   split at vm
   ·rename_i o g off hq
    cases vm
    rw[hq]at hx
    obtain⟨z,b,cap,A,hv,_⟩:=hx.E2
    rw[hv]at hx
    simp only[execOp,hv]
    exact AR r hx
   ·cases vm
 | binOp op t x y yt=>
  simp only at hc
  split at hc
  ·rename_i x' y' h1 h2
   have hx:=cu h1 hr
   have hy:=cu h2 hr
   have fin : ∀ d',yF op (x'.ev tm) (y'.ev tm)=some d'→(d',s)=(d,s')→dk P M s w (execOp act.eval ⟨dst, .binOp op t x y yt,type,pos,after,guard⟩) d s':=by
    intro d' lN heq
    cases heq
    exact WU r hx hy lN
   have ad1:(match yF op (x'.ev tm) (y'.ev tm)with|some d=>some (d,s)|none=>none)=some (d,s')→dk P M s w (execOp act.eval ⟨dst, .binOp op t x y yt,type,pos,after,guard⟩) d s':=by
    intro h
    split at h
    ·rename_i d' lN
     exact fin d' lN (by cases h;rfl)
    ·cases h
   have W4 : ∀ o:FO,((o = .eq∧op = .eql)∨(o = .Ll∧op = .add)∨(o = .TG∧op = .eql))→aS (.xL o x' y') tm s=some (d,s')→dk P M s w (execOp act.eval ⟨dst, .binOp op t x y yt,type,pos,after,guard⟩) d s':=by
    intro o ho h
    simp only[aS]at h
    split at h
    ·rename_i d' lN
     cases h
     exact TT r ho hx hy lN
    ·cases h
   have ad2 : ∀ neg,op=(if neg then .neq else .eql)→P.underlying t=some .bool→aS (.Lm neg x' y') tm s=some (d,s')→dk P M s w (execOp act.eval ⟨dst, .binOp op t x y yt,type,pos,after,guard⟩) d s':=by
    intro neg oa ht h
    simp only[aS]at h
    split at h
    ·rename_i p q hp hq
     cases h
     rw[hp]at hx;rw[hq]at hy
     simp only[execOp,hx.pj,hy.pj,oa]
     exact WV r ht
    ·cases h
   have ad3 : ∀ neg e,op=(if neg then .neq else .eql)→P.underlying t=some (.pointer e)→aS (.Ln neg x' y') tm s=some (d,s')→dk P M s w (execOp act.eval ⟨dst, .binOp op t x y yt,type,pos,after,guard⟩) d s':=by
    intro neg e oa ht h
    simp only[aS]at h
    split at h
    ·rename_i hp hq
     cases h
     rw[hp]at hx;rw[hq]at hy
     simp only[execOp,hx.uq,hy.uq,oa]
     have:=E4 r (neg:=neg) (x:=x) (y:=y) (a:=none) ht
     cases neg<;>simpa using this
    ·rename_i o off hp hq
     cases h
     rw[hp]at hx;rw[hq]at hy
     simp only[execOp,hx.ur.1,hy.uq,oa]
     have:=E4 r (neg:=neg) (x:=x) (y:=y) (a:=some ⟨M.mu o,off,none⟩) ht
     cases neg<;>simpa using this
    ·rename_i row off hp hq
     cases h
     rw[hp]at hx;rw[hq]at hy
     obtain⟨b,k,hv,_⟩:=hx.AN
     simp only[execOp,hv,hy.uq,oa]
     have:=E4 r (neg:=neg) (x:=x) (y:=y) (a:=some ⟨b,k+off,none⟩) ht
     cases neg<;>simpa using this
    ·cases h
   have ad4 : ∀ neg ks,op=(if neg then .neq else .eql)→rO P t=some ks→aS (.eqs neg ks x' y') tm s=some (d,s')→dk P M s w (execOp act.eval ⟨dst, .binOp op t x y yt,type,pos,after,guard⟩) d s':=by
    intro neg ks oa ht h
    simp only[aS]at h
    split at h
    ·rename_i p q hp hq
     split at h
     ·rename_i e' vm
      cases h
      rw[hp]at hx;rw[hq]at hy
      simp only[execOp,oa]
      exact WW r ht hx hy vm
     ·cases h
    ·cases h
   split at hc
   ·cases hc;exact ad1 he
   ·cases hc;exact ad1 he
   ·rename_i hu;cases hc;exact ad2 false rfl hu he
   ·rename_i hu;cases hc;exact ad2 true rfl hu he
   ·rename_i hu;cases hc;exact ad3 false _ rfl hu he
   ·rename_i hu;cases hc;exact ad3 true _ rfl hu he
   ·obtain⟨ks,hk,rfl⟩:=map_some hc;exact ad4 false ks rfl hk he
   ·obtain⟨ks,hk,rfl⟩:=map_some hc;exact ad4 true ks rfl hk he
   ·cases hc;exact W4 .eq (.inl ⟨rfl,rfl⟩) he
   ·cases hc;exact W4 .Ll (.inr (.inl ⟨rfl,rfl⟩)) he
   ·cases hc;exact W4 .TG (.inr (.inr ⟨rfl,rfl⟩)) he
   ·cases hc
  ·cases hc
 | unOp op t x=>
  obtain⟨y,hy,rfl⟩:=map_some hc
  have hx:=cu hy hr
  simp only[aS]at he
  split at he
  ·rename_i d' lN
   cases he
   unfold Jh at lN
   split at lN
   ·rename_i k n hk
    cases lN
    rw[hk]at hx
    exact dk.pure (v:= .int k (k.wrap (0 - n))) r (by simp[execOp,hx.iV,Op.unary,Op.intArith]) (.int _ _)
   ·rename_i b hb
    cases lN
    rw[hb]at hx
    exact dk.pure (v:= .bool (!b)) r (by simp[execOp,hx.pj,Op.unary]) (.bool _)
   ·rename_i k n hk
    cases lN
    rw[hk]at hx
    exact dk.pure (v:= .int k (AB k (if k.signed then -1 else k.max) n)) r (by simp only[execOp,hx.iV,Op.unary,Op.intBits];rfl) (.int _ _)
   ·cases lN
  ·cases he
 | convert src aqS x=>
  simp only at hc
  split at hc
  ·rename_i y k1 k h1 h2 h3
   cases hc
   have hx:=cu h1 hr
   simp only[aS]at he
   split at he
   ·rename_i k2 n hn
    cases he
    rw[hn]at hx
    refine dk.pure (v:= .int k (k.wrap n)) r ?_ (.int _ _)
    simp[execOp,hx.iV,convert,run_underlying h2,run_underlying h3,Conv.intToInt]
   ·cases he
  ·rename_i y e h1 h2 h3
   split at hc
   ·rename_i h4
    cases hc
    have hx:=cu h1 hr
    simp only[aS]at he
    split at he
    ·rename_i g z rows k8
     split at he
     ·rename_i b hb
      cases he
      rw[k8]at hx
      exact QP r h2 h4 h3 hx hb
     ·cases he
    ·cases he
   ·cases hc
  ·rename_i y e e2 h1 h2 h3
   split at hc
   ·rename_i h4
    split at hc
    ·rename_i qi
     cases hc
     subst qi
     have hx:=cu h1 hr
     simp only[aS]at he
     split at he
     ·rename_i t z rows k8
      split at he
      ·rename_i mK
       cases he
       rw[k8]at hx
       exact WZ r h2 h4 hx mK.1 mK.2
      ·cases he
     ·cases he
    ·cases hc
   ·cases hc
  ·rename_i y e h1 h2 h3
   split at hc
   ·rename_i i h4 h5
    split at hc
    ·cases hc
     have hx:=cu h1 hr
     simp only[aS]at he
     split at he
     ·rename_i l hl
      cases he
      rw[hl]at hx
      simp only[execOp,hx.mz]
      exact LC r h2 h3 h4
     ·cases he
    ·cases hc
   ·cases hc
  ·rename_i y k0 k h1 h2 h3
   cases hc
   have hx:=cu h1 hr
   simp only[aS]at he
   split at he
   ·rename_i d' lN
    cases he
    obtain⟨j,n,hn,rfl⟩:=QE lN
    rw[hn]at hx
    refine dk.pure (v:= .float k (k.nearest n)) r ?_ (.val _ rfl)
    simp[execOp,hx.iV,convert,run_underlying h2,run_underlying h3,Conv.intToFloat]
   ·cases he
  ·rename_i y k0 k h1 h2 h3
   cases hc
   have hx:=cu h1 hr
   simp only[aS]at he
   split at he
   ·rename_i d' lN
    cases he
    obtain⟨f,b,n,hn,h4,h5,rfl⟩:=QF lN
    rw[hn]at hx
    refine dk.pure (v:= .int k n) r ?_ (.int _ _)
    simp[execOp,hx.mI,convert,run_underlying h2,run_underlying h3,Conv.floatToInt,h4,h5]
   ·cases he
  ·cases hc
 | slice t x lo hi mx=>
  cases mx with
  |some m=>cases hc
  | none=>
   simp only at hc
   split at hc
   ·rename_i y Jr jf h1 h2 h3 h4
    cases hc
    have hx:=cu h1 hr
    simp only[aS]at he
    split at he
    ·rename_i u hu
     rw[hu]at hx
     split at he
     ·rename_i l h hl hh
      split at he
      ·rename_i mK
       cases he
       have:=TY r h4 (LH hr h2 hl) (LI hr h3 hh) mK.1 mK.2.1 mK.2.2
       simp only[execOp,hx.mz,zbU]
       exact this
      ·cases he
     ·cases he
    ·cases he
   ·rename_i y Jr jf e h1 h2 h3 h4
    split at hc
    ·rename_i i Gd
     cases hc
     have hx:=cu h1 hr
     simp only[aS]at he
     split at he
     ·rename_i g z rows k8
      rw[k8]at hx
      split at he
      ·rename_i l h hl hh
       split at he
       ·rename_i mK
        cases he
        have:=WY r h4 Gd mK.1 hx (LH hr h2 hl) (LI hr h3 hh) mK.2.1 mK.2.2.1 mK.2.2.2
        simp only[execOp,zbU]
        exact this
       ·cases he
      ·cases he
     ·split at he
      case h_2=>cases he
      rename_i d' vm
      cases he
      have:=QT r h4 Gd hx (fun l e=>LH hr h2 e) (fun len l e=>LI hr h3 e) vm
      simp only[execOp,zbU]
      exact this
    ·cases hc
   ·cases hc
 | fieldAddr t x f=>
  simp only at hc
  split at hc
  ·rename_i y off size a h1 h2
   cases hc
   have hx:=cu h1 hr
   simp only[aS]at he
   split at he
   ·rename_i o k ho
    cases he
    rw[ho]at hx
    have LJ:=hx.Cp
    obtain⟨hv,hD⟩:=hx.ur
    refine dk.pure (v:= .pointer (some ⟨M.mu o,k+off,none⟩)) r ?_ (.ptr _ _ hD LJ)
    simp only[execOp,hv,Sem.run_bind,Cr h2,Result.andThen_ok,Sem.run_pure]
   ·rename_i row k ho
    cases he
    rw[ho]at hx
    obtain⟨b,q,hv,g1,g2⟩:=hx.AN
    refine dk.pure (v:= .pointer (some ⟨b,q+(k+off),none⟩)) r ?_ (.dO _ _ _ _ g1 g2)
    simp only[execOp,hv,Sem.run_bind,Cr h2,Result.andThen_ok,Sem.run_pure,Nat.add_assoc]
   ·split at he
    case h_2=>cases he
    rename_i d' vm
    cases he
    unfold Ga at vm
    split at vm
    ·rename_i o g k hq
     cases vm
     rw[hq]at hx
     obtain⟨z,b,cap,A,hv,ho,hm,hg⟩:=hx.E2
     refine dk.pure (v:= .pointer (some ⟨b,k+off,none⟩)) r ?_ (.fC _ _ _ _ b cap A ho hm hg)
     simp only[execOp,hv,Sem.run_bind,Cr h2,Result.andThen_ok,Sem.run_pure]
    ·cases vm
  ·cases hc
 | field t x f=>
  simp only at hc
  split at hc
  ·rename_i y off size a h1 h2
   cases hc
   have hx:=cu h1 hr
   simp only[aS]at he
   split at he
   ·rename_i cs kz
    split at he
    ·rename_i d' lN
     cases he
     rw[kz]at hx
     obtain⟨vs,hv,g1,g2,g3⟩:=hx.HW
     simp only[execOp,hv]
     exact QX h2 g1 g2 g3 lN r
    ·cases he
   ·cases he
  ·cases hc
 | indexAddr t x i=>
  simp only at hc
  split at hc
  ·rename_i y j e h1 h2 h3
   split at hc
   ·rename_i inf QZ
    split at hc
    ·cases hc
     have hx:=cu h1 hr
     have hj:=cu h2 hr
     simp only[aS]at he
     split at he
     ·rename_i g z rows k n k8 hn
      split at he
      ·rename_i mK
       obtain⟨Ez,hz⟩:=mK
       subst hz
       split at he
       ·rename_i row dX
        cases he
        rw[k8]at hx;rw[hn]at hj
        simp only[execOp,hj.iV]
        exact QI r h3 QZ hx Ez dX
       ·cases he
      ·cases he
     ·split at he
      case h_2=>cases he
      rename_i d' vm
      cases he
      exact LG r h3 QZ hx hj vm
    ·cases hc
   ·cases hc
  ·cases hc
 | index t x i=>
  simp only at hc
  split at hc
  ·rename_i y j h1 h2 h3
   cases hc
   have hx:=cu h1 hr
   have hj:=cu h2 hr
   simp only[aS]at he
   split at he
   ·rename_i l k n hl hn
    split at he
    ·rename_i Ez
     split at he
     ·rename_i c hcc
      cases he
      rw[hl]at hx;rw[hn]at hj
      simp only[execOp,hj.iV,hx.mz]
      exact TV r h3 Ez hcc
     ·cases he
    ·cases he
   ·cases he
  ·cases hc
 | extract x i=>
  obtain⟨y,hy,rfl⟩:=map_some hc
  have hx:=cu hy hr
  simp only[aS]at he
  split at he
  ·rename_i ds zF
   split at he
   ·rename_i d' lN
    cases he
    rw[zF]at hx
    obtain⟨vs,hv,g1,g2⟩:=hx.Jj
    have hD:=(zac.1 lN).1
    have LK:vs[i]? = some vs[i]:=zbl (by omega)
    refine dk.pure (v:=vs[i]) r ?_ (g2 i _ _ lN LK)
    simp[execOp,hv,Instr.extract,LK]
   ·cases he
  ·cases he
 | call c=>
  obtain⟨callee,args,oc⟩:=c
  cases callee with
  |value f=>cases hc
  |invoke f m=>cases hc
  | builtin bi=>
   have two : ∀ {x y:Operand} {x' y':X} {isMax:Bool},cX x=some x'→cX y=some y'→bi=(if isMax then .max else .min)→args.toList = [x,y]→aS (.mm isMax x' y') tm s=some (d,s')→
    dk P M s w (execOp act.eval ⟨dst, .call ⟨.builtin bi,args,oc⟩,type,pos,after,guard⟩) d s':=by
    intro x y x' y' isMax h1 h2 hb ha h
    have jg:args = #[x,y]:=by rw[← za6 (xs:=args),ha]
    subst jg
    have hx:=cu h1 hr
    have hy:=cu h2 hr
    simp only[aS]at h
    split at h
    ·rename_i k a k' b Ub LJ
     split at h
     ·rename_i BL
      subst BL
      cases h
      rw[Ub]at hx;rw[LJ]at hy
      refine dk.pure (v:= .int k (if isMax then(if b > a then b else a)else(if b<a then b else a))) r ?_ (.int _ _)
      subst hb
      cases isMax
      ·simp[execOp,resolve,invoke,builtin,Builtin.min_,Builtin.min2,hx.iV,hy.iV]
      ·simp[execOp,resolve,invoke,builtin,Builtin.max_,Builtin.max2,hx.iV,hy.iV]
     ·cases h
    ·cases h
   cases bi<;>simp only at hc<;>try (cases hc;done)
   case append=>
    split at hc
    ·rename_i x y t u ha gE
     split at hc
     ·rename_i e e' x' y' h1 h2 h3 h4
      split at hc
      ·rename_i i z hi hz
       split at hc
       ·rename_i uu
        cases hc
        have jg:args = #[x,y]:=by rw[← za6 (xs:=args),ha]
        have LL:oc = #[t,u]:=by rw[← za6 (xs:=oc),gE]
        subst jg;subst LL
        obtain⟨i',v,g1,g2,g3,g4⟩:=uQ hz
        rw[hi]at g1;cases g1
        have Jq:=s6 (M:=M) (s:=s) g4
        split at he
        ·rename_i hb
         obtain⟨rfl,Gk,Js⟩:=hb
         obtain⟨v',w',M',f1,f2,f3,f4⟩:=QL (ty:=type) r h1 h2 hi g2 Gk Js g3 Jq.2.1 (cu h3 hr) (cu h4 hr) he
         refine⟨v',w',M', .inl ?_,f2,f3,f4⟩
         simp[execOp,resolve,invoke,builtin,f1]
        ·have hxx:=cu h3 hr
         simp only[aS]at he
         split at he
         ·rename_i gq zq rq hq
          rw[hq]at hxx
          obtain⟨v',w',M',f1,f2,f3,f4⟩:=T7 (ty:=type) r h1 h2 hi g2 g3 Jq.2.1 hxx (cu h4 hr) uu he
          refine⟨v',w',M', .inl ?_,f2,f3,f4⟩
          simp[execOp,resolve,invoke,builtin,f1]
         ·obtain⟨v',w',M',f1,f2,f3,f4⟩:=QV (ty:=type) r h1 h2 hi g2 g3 Jq.2.1 hxx (cu h4 hr) uu he
          refine⟨v',w',M', .inl ?_,f2,f3,f4⟩
          simp[execOp,resolve,invoke,builtin,f1]
       ·cases hc
      ·cases hc
     ·rename_i e x' y' h1 h2 h3 h4
      split at hc
      ·rename_i i z hi hz
       split at hc
       ·rename_i hb
        cases hc
        obtain⟨rfl,Gk,Js⟩:=hb
        have jg:args = #[x,y]:=by rw[← za6 (xs:=args),ha]
        have LL:oc = #[t,u]:=by rw[← za6 (xs:=oc),gE]
        subst jg;subst LL
        obtain⟨i',v,g1,g2,g3,g4⟩:=uQ hz
        rw[hi]at g1;cases g1
        have Jq:=s6 (M:=M) (s:=s) g4
        have hy:=cu h4 hr
        simp only[aS]at he
        split at he
        ·rename_i l hl
         rw[hl]at hy
         obtain⟨v',w',M',f1,f2,f3,f4⟩:=QM (ty:=type) r h1 h2 hi g2 Gk Js g3 Jq.2.1 (cu h3 hr) he
         refine⟨v',w',M', .inl ?_,f2,f3,f4⟩
         simp[execOp,resolve,invoke,builtin,hy.mz,f1]
        ·cases he
       ·cases hc
      ·cases hc
     ·cases hc
    ·cases hc
   case len=>
    split at hc
    ·rename_i x t ha gE
     have jg:args = #[x]:=by rw[← za6 (xs:=args),ha]
     have LL:oc = #[t]:=by rw[← za6 (xs:=oc),gE]
     subst jg;subst LL
     have hex:execOp act.eval ⟨dst, .call ⟨.builtin .len, #[x], #[t]⟩,type,pos,after,guard⟩=(do pure (.value (← Builtin.len_ #[t] type #[act.eval x]))):=by
      simp[execOp,resolve,invoke,builtin]
     rw[hex]
     split at hc
     ·rename_i ht
      obtain⟨y,hy,rfl⟩:=map_some hc
      have hx:=cu hy hr
      simp only[aS]at he
      split at he
      ·rename_i l hl
       cases he
       rw[hl]at hx
       rw[hx.mz]
       exact Lv r ht
      ·cases he
     ·rename_i e ht
      obtain⟨y,hy,rfl⟩:=map_some hc
      have hx:=cu hy hr
      simp only[aS]at he
      split at he
      ·rename_i g z rows k8
       cases he
       rw[k8]at hx
       rcases hx.j9 with ⟨h0,hv,_⟩|⟨h0,_,a,cap,hv⟩|⟨b,q,cap,hv,_⟩
       ·rw[hv,h0];exact oE r ht
       ·rw[hv,h0];exact oE r ht
       ·rw[hv];exact oE r ht
      ·split at he
       case h_2=>cases he
       rename_i d' vm
       cases he
       exact QU r ht hx vm
     ·cases hc
    ·cases hc
   case max=>
    split at hc
    ·rename_i x y ha
     split at hc
     ·rename_i x' y' h1 h2
      cases hc
      exact two (isMax:=true) h1 h2 rfl ha he
     ·cases hc
    ·cases hc
   case min=>
    split at hc
    ·rename_i x y ha
     split at hc
     ·rename_i x' y' h1 h2
      cases hc
      exact two (isMax:=false) h1 h2 rfl ha he
     ·cases hc
    ·cases hc
   case complex=>
    split at hc
    ·rename_i x y ha
     split at hc
     ·rename_i x' y' h1 h2
      cases hc
      have jg:args = #[x,y]:=by rw[← za6 (xs:=args),ha]
      subst jg
      have hx:=cu h1 hr
      have hy:=cu h2 hr
      simp only[aS]at he
      split at he
      ·rename_i d' lN
       cases he
       obtain⟨k,a,b,zG,qC,rfl⟩:=TQ lN
       rw[zG]at hx;rw[qC]at hy
       refine dk.pure (v:= .complex k a b) r ?_ (.val _ rfl)
       have hb:Builtin.complex_ oc type #[.float k a, .float k b] = pure (.complex k a b):=if_pos rfl
       simp[execOp,resolve,invoke,builtin,hb,hx.mI,hy.mI]
      ·cases he
     ·cases hc
    ·cases hc
   case real=>
    split at hc
    ·rename_i x ha
     obtain⟨x',h1,rfl⟩:=map_some hc
     have jg:args = #[x]:=by rw[← za6 (xs:=args),ha]
     subst jg
     have hx:=cu h1 hr
     simp only[aS]at he
     split at he
     ·rename_i d' lN
      cases he
      obtain⟨k,a,b,zG,rfl⟩:=TR lN
      rw[zG]at hx
      refine dk.pure (v:= .float k a) r ?_ (.val _ rfl)
      have hb:Builtin.real_ oc type #[.complex k a b] = pure (.float k a):=rfl
      simp[execOp,resolve,invoke,builtin,hb,hx.mI]
     ·cases he
    ·cases hc
   case imag=>
    split at hc
    ·rename_i x ha
     obtain⟨x',h1,rfl⟩:=map_some hc
     have jg:args = #[x]:=by rw[← za6 (xs:=args),ha]
     subst jg
     have hx:=cu h1 hr
     simp only[aS]at he
     split at he
     ·rename_i d' lN
      cases he
      obtain⟨k,a,b,zG,rfl⟩:=TS lN
      rw[zG]at hx
      refine dk.pure (v:= .float k b) r ?_ (.val _ rfl)
      have hb:Builtin.imag_ oc type #[.complex k a b] = pure (.float k b):=rfl
      simp[execOp,resolve,invoke,builtin,hb,hx.mI]
     ·cases he
    ·cases hc
 | makeFunc fn first captured=>
  cases fn<;>simp only at hc<;>try (cases hc;done)
  split at hc
  ·rename_i f h0
   obtain⟨xs,qj,rfl⟩:=map_some hc
   simp only[aS,Option.some.injEq,Prod.mk.injEq]at he
   obtain⟨rfl,rfl⟩:=he
   obtain⟨c1,c2⟩:=Pk hr qj
   have hf:first = #[]:=Array.eq_empty_of_size_eq_zero h0
   subst hf
   refine dk.pure (v:= .func (.func f) #[] (captured.map act.eval)) r ?_ (.il _ _ _ (by simp[c1]) (fun i d v e1 e2=>c2 i d v e1 (by simpa using e2)))
   simp[execOp,Instr.makeFunc]
  ·cases hc
 | makeMap t rv=>
  cases rv with
  | none=>
   simp only at hc
   split at hc
   ·rename_i ht
    cases hc
    simp only[aS,Option.some.injEq,Prod.mk.injEq]at he
    obtain⟨rfl,rfl⟩:=he
    simp only[execOp,zbU]
    exact QQ r ht
   ·cases hc
  |some x=>cases hc
 | makeSlice t l c=>
  simp only at hc
  split at hc
  ·rename_i l' c' e h1 h2 ht
   split at hc
   ·rename_i i z hi hz
    split at hc
    ·rename_i uu
     cases hc
     have hl:=cu h1 hr
     have hcx:=cu h2 hr
     simp only[aS]at he
     split at he
     ·rename_i n m hn hm
      split at he
      ·rename_i mK
       obtain⟨rfl,h0,hmx⟩:=mK
       cases he
       rw[hn]at hl;rw[hm]at hcx
       simp only[execOp,hl.iV,hcx.iV]
       exact QW r ht hi hz uu h0 hmx
      ·cases he
     ·cases he
    ·cases hc
   ·cases hc
  ·cases hc
 | mapUpdate t m k v=>
  simp only at hc
  split at hc
  ·rename_i kt et m' k' v' ht h1 h2 h3
   split at hc
   ·rename_i hkt
    cases hc
    have hm:=cu h1 hr
    have hk:=cu h2 hr
    have hv:=cu h3 hr
    simp only[aS]at he
    split at he
    ·rename_i o key g z rows ho W5 k8
     rw[ho]at hm;rw[W5]at hk;rw[k8]at hv
     obtain⟨hmv,hD,zo⟩:=hm.Lu
     split at he
     ·rename_i cs kz
      split at he
      ·rename_i kL alT
       cases he
       have zC:(act.eval v).oneCell'=true:=by
        rcases hv.j9 with ⟨_,h,_⟩|⟨_,_,a,cap,h⟩|⟨b,q,cap,h,_⟩<;>rw[h]<;>rfl
       simp only[execOp,hmv,hk.mz]
       exact T9 r ht hkt zo kz hv zC alT
      ·cases he
     ·cases he
    ·cases he
   ·cases hc
  ·cases hc
 | lookup t m k ok=>
  cases ok<;>simp only at hc<;>try (cases hc;done)
  split at hc
  ·rename_i kt et m' k' ht h1 h2
   split at hc
   ·rename_i i hkt hi
    split at hc
    ·rename_i z hz
     obtain⟨zd,hzd,rfl⟩:=map_some hc
     have hm:=cu h1 hr
     have hk:=cu h2 hr
     simp only[aS]at he
     split at he
     ·rename_i o key ho W5
      rw[ho]at hm;rw[W5]at hk
      obtain⟨hmv,hD,zo⟩:=hm.Lu
      split at he
      ·rename_i cs kz
       split at he
       ·rename_i d' lN
        cases he
        simp only[execOp,hmv,hk.mz]
        exact QR r ht hkt hi hz hzd zo kz lN
       ·cases he
      ·cases he
     ·cases he
    ·cases hc
   ·cases hc
  ·cases hc
 |_=>cases hc
theorem AW {o:Oper} {z:List D} {k n:Nat} {ps:List (Nat×X)} {tm:Tm} {act:Act} {d:D} {s':St} (hc:Gb P o=some (.qw z k n ps)) (r:Rel M s w) (hr:nr M s tm act.tmps) (he:aS (.wR z k n ps) tm s=some (d,s')) :
 dk P M s w (execOp act.eval o) d s':=by
 obtain⟨dst,op,type,pos,after,guard⟩:=o
 unfold Gb at hc
 simp only at hc
 cases op with
 | buildSlice t n' parts=>
  simp only at hc
  split at hc
  ·rename_i e hu
   split at hc
   ·rename_i i z ps h1 h2 h3
    split at hc
    ·rename_i mK
     cases hc
     simp only[aS]at he
     split at he
     ·rename_i rows k8
      cases he
      obtain⟨vs,T,g1,g2,g3,g4⟩:=Ev r hr hu h1 h2 mK.1 mK.2 h3 k8
      obtain⟨M',f1,f2,f3⟩:=T8 r T g1 (by rw[g3,g2]) mK.1
      refine⟨_,_,_, .inl ?_,f2,f1,f3⟩
      simp only[za6]at g4
      simp only[execOp,Sem.run_bind,g4,Result.andThen_ok,Sem.run_pure]
      rw[g2]
     ·cases he
    ·cases hc
   ·cases hc
  ·cases hc
 |_=>
  exfalso
  revert hc
  try simp only
  repeat' split
  all_goals (first|(intro h;cases h;done)|(intro h;obtain⟨_,_,h⟩:=map_some h;cases h;done)|contradiction|(simp;done)|(intro h;simp_all;done))
end
end Go.Abs
namespace Go.Abs
structure gY where
 M:Map
 s:St
 w:World
 laid:Laid M s w
 EA : ∀ b o v,M.G b o=some v→b<w.heap.size
def Holds (B:gY) (nt:Nat) (tm:Tm) (s:St) (act:Act) (w:World):Prop:=
 ∃ M,Ext B.M B.s B.w M s w∧Rel M s w∧nr M s tm act.tmps∧act.tmps.size=nt∧act.defers = []
def rF (B:gY) (nt:Nat) (Q:Exit→Tm→St→Prop):Exit→Act→World→Prop:=fun e act w=>∃ tm s,Q e tm s∧Holds B nt tm s act w
def bp (P:Program) (f:FuncId) (args:List D) (s:St) (Q:D→St→Prop):Prop:=
 ∀ (M:Map) (w:World) (fN:Array Value),Rel M s w→Laid M s w→fN.size=args.length→(∀ (i:Nat) (d:D) (v:Value),args[i]? = some d→fN[i]? = some v→RD M s d v)→
  Calls P f fN w fun e w'=>∃ M' d v s',e = .returned v∧Q d s'∧Ext M s w M' s' w'∧Rel M' s' w'∧RD M' s' d v
theorem bp.mono {P:Program} {f:FuncId} {args:List D} {s:St} {Q Q':D→St→Prop} (h:bp P f args s Q) (hq : ∀ d s',Q d s'→Q' d s'):bp P f args s Q':=
 fun M w fN r hd hl ha=>(h M w fN r hd hl ha).mono fun _ _ ⟨M',d,v,s',h1,h2,h3⟩=>⟨M',d,v,s',h1,hq _ _ h2,h3⟩
def guarded (g:Option (Nat×Bool)) (tm:Tm) (A B:Prop):Prop:=
 match g with
 |none=>A
 |some (t,want)=>
  match tm.get t with
  | .bool b=>(b=want→A)∧(b=(!want)→B)
  | .tuple _=>B
  |_=>False
def jS (P:Program):List AI→(Tm→St→Prop)→Tm→St→Prop
 | [],K,tm,s=>K tm s
 | .op dst g o::r,K,tm,s=>
  guarded g tm (match aS o tm s with|some (d,s')=>jS P r K (tm.put dst d) s'|none=>False) (jS P r K (tm.put dst (.tuple [])) s)
 | .call dst g f xs::r,K,tm,s=>
  guarded g tm (bp P f (xs.map (·.ev tm)) s fun d s'=>jS P r K (tm.put dst d) s') (jS P r K (tm.put dst (.tuple [])) s)
 | .nil dst g neg x::r,K,tm,s=>
  guarded g tm (match x.ev tm with
   | .slice _ _ rows=>∀ b:Bool,(rows≠ []→b=false)→jS P r K (tm.put dst (.bool (if neg then !b else b))) s
   |_=>False) (jS P r K (tm.put dst (.tuple [])) s)
 | .k6 dst g t xs::r,K,tm,s=>
  guarded g tm (match tm.get t with
   | .il f pf=>enters P f=true∧bp P f (xs.map (·.ev tm)++pf) s fun d s'=>jS P r K (tm.put dst d) s'
   |_=>False) (jS P r K (tm.put dst (.tuple [])) s)
section
variable {P:Program}
theorem Cz {f:FuncId} (h:enters P f=true) (args:Array Value) (w:World):(callFunc f args).run P w = .ok (.enter f args) w:=by
 unfold enters at h
 split at h
 ·rename_i fn hf
  simp only[zar,zaH]at h
  obtain⟨h1,h2⟩:=h
  have h3:fn.body.isNone=false:=by cases hb:fn.body<;>simp_all
  simp only[callFunc,Sem.run_bind,run_program,Result.andThen_ok,hf,h2,h3]
  simp
 ·cases h
theorem yJ (ρ:Operand→Value) (dst:Option Tmp) (f:FuncId) (args:Array Operand) (oc:Array TypeId) (ty:TypeId) (pos:String) (after:Array Edge) (g:Option (Nat×Bool))
 (hρ:ρ (.func f) = .func (.func f) #[] #[]) (h:enters P f=true) (w:World) :
 (execOp ρ ⟨dst, .call ⟨.value (.func f),args,oc⟩,ty,pos,after,g⟩).run P w = .ok (.enter f (args.map ρ)) w:=by
 simp[execOp,resolve,hρ,Deferred.ofValue,invoke,Cz h]
theorem CA (ρ:Operand→Value) (dst:Option Tmp) (x:Operand) (f:FuncId) (pf:Array Value) (args:Array Operand) (oc:Array TypeId) (ty:TypeId) (pos:String) (after:Array Edge) (g:Option (Nat×Bool))
 (hρ:ρ x = .func (.func f) #[] pf) (h:enters P f=true) (w:World) :
 (execOp ρ ⟨dst, .call ⟨.value x,args,oc⟩,ty,pos,after,g⟩).run P w = .ok (.enter f (args.map ρ++pf)) w:=by
 simp[execOp,resolve,hρ,Deferred.ofValue,invoke,Cz h]
theorem xR {M:Map} {s:St} {tm:Tm} {act:Act} (hr:nr M s tm act.tmps) : ∀ {l:List Operand} {xs:List X},zn l=some xs→
 xs.length=l.length∧∀ (i:Nat) (d:D) (v:Value),(xs.map (·.ev tm))[i]? = some d→(l.map act.eval)[i]? = some v→RD M s d v
 | [],xs,h=>by cases h;exact⟨rfl,by simp⟩
 | x::l,xs,h=>by
  unfold zn at h
  split at h
  ·rename_i x' r' h1 h2
   cases h
   obtain⟨g1,g2⟩:=xR hr h2
   refine⟨by simp[g1],fun i d v e1 e2=>?_⟩
   cases i with
   |zero=>simp at e1 e2;subst e1;subst e2;exact cu h1 hr
   |succ i=>exact g2 i d v (by simpa using e1) (by simpa using e2)
  ·cases h
theorem Jt {M:Map} {s:St} {tm:Tm} {act:Act} {args:Array Operand} {xs:List X} {pf:List D} {vs:Array Value} (qj:zn args.toList=some xs) (ht:nr M s tm act.tmps) (hlen:pf.length=vs.size)
 (Gl : ∀ (i:Nat) (d:D) (v:Value),pf[i]? = some d→vs[i]? = some v→RD M s d v) :
 (args.map act.eval++vs).size=(xs.map (·.ev tm)++pf).length∧∀ (i:Nat) (d:D) (v:Value),(xs.map (·.ev tm)++pf)[i]? = some d→(args.map act.eval++vs)[i]? = some v→RD M s d v:=by
 obtain⟨c1,c2⟩:=xR ht qj
 refine⟨by simp[c1,hlen],fun i d v e1 e2=>?_⟩
 rcases zaE i args.size with lj|lj
 ·rw [zak (by simp [c1];exact lj)]at e1
  rw[zbc (by simp;exact lj)]at e2
  exact c2 i d v e1 (by simpa using e2)
 ·rw [zas (by simp [c1];exact lj)]at e1
  rw[Array.getElem?_append_right (by simp;exact lj)]at e2
  simp only[zaw,c1,Array.size_map,Array.length_toList]at e1 e2
  exact Gl _ d v e1 e2
theorem BN {M:Map} {s:St} {w:World} {o:Oper} {neg:Bool} {x:X} {tm:Tm} {act:Act} (hc:HU P o=some (neg,x)) (hr:nr M s tm act.tmps) {g:Tag} {z:Nat} {rows:List (List D)} (hx:x.ev tm = .slice g z rows) :
 ∃ b:Bool,(rows≠ []→b=false)∧(execOp act.eval o).run P w = .ok (.value (.bool (if neg then !b else b))) w:=by
 obtain⟨dst,op,type,pos,after,guard⟩:=o
 unfold HU at hc
 split at hc
 ·rename_i op t y yt heq
  simp only at heq
  subst heq
  have fin : ∀ e,P.underlying t=some (.slice e)→cX y=some x→op=(if neg then .neq else .eql)→∃ b:Bool,(rows≠ []→b=false)∧
   (execOp act.eval ⟨dst, .binOp op t y (.const (.slice none 0 0)) yt,type,pos,after,guard⟩).run P w = .ok (.value (.bool (if neg then !b else b))) w:=by
   intro e ht hy oa
   have hv:=cu hy hr
   rw[hx]at hv
   have key : ∀ (a:Option Addr) (n c:Nat),act.eval y = .slice a n c→(execOp act.eval ⟨dst, .binOp op t y (.const (.slice none 0 0)) yt,type,pos,after,guard⟩).run P w = .ok (.value (.bool (if neg then !a.isNone else a.isNone))) w:=by
    intro a n c qD
    have hg:=kM (P:=P) (w:=w) (op:=op) (t:=t) (x:=y) (y:= .const (.slice none 0 0)) (a:= .slice a n c) (b:= .slice none 0 0) ⟨by simp,by simp⟩
    have he:(Op.equal t (.slice a n c) (.slice none 0 0)).run P w = .ok a.isNone w:=by
     have : ∀ d,(Op.equalIn (d+1) t (.slice a n c) (.slice none 0 0)).run P w = .ok a.isNone w:=by
      intro d
      cases a<;>simp[Op.equalIn,run_underlying ht]
     exact this 9999
    have alV:act.eval (.const (.slice none 0 0)) = .slice none 0 0:=rfl
    simp only[execOp,qD,alV]
    rw[oa]at hg ⊢
    cases neg
    ·simp only [zab,if_false]at hg ⊢
     simp[hg,binOp,he]
    ·simp only [if_true]at hg ⊢
     simp[hg,binOp,he]
   rcases hv.j9 with ⟨h0,qD,_⟩|⟨_,_,a,cap,qD⟩|⟨b,q,cap,qD,_⟩
   ·exact⟨true,fun h=>(h h0).elim,key none 0 0 qD⟩
   ·exact⟨false,fun _=>rfl,key _ _ _ qD⟩
   ·exact⟨false,fun _=>rfl,key _ _ _ qD⟩
  split at hc
  ·cases hc
   exact fin _ ‹_› ‹_› rfl
  ·cases hc
   exact fin _ ‹_› ‹_› rfl
  ·cases hc
 ·cases hc
variable {B:gY} {nt:Nat}
theorem Holds.put {tm:Tm} {s:St} {act:Act} {w:World} {M':Map} {s':St} {w':World} {M:Map} (e:Ext B.M B.s B.w M s w) (ht:nr M s tm act.tmps) (hn:act.tmps.size=nt) (hd:act.defers = [])
 {dst:Option Nat} (sr : ∀ t,dst=some t→t<nt) {d:D} {v:Value} (e':Ext M s w M' s' w') (r':Rel M' s' w') (hv:RD M' s' d v):Holds B nt (tm.put dst d) s' (act.put dst v) w':=by
 refine⟨M',e.trans e',r',(ht.mono e'.le).put (fun t h=>by rw[hn];exact sr t h) hv, ?_, ?_⟩
 ·cases dst<;>simp[Act.put,hn]
 ·cases dst<;>simp[Act.put,hd]
theorem zH {ops:Array Oper} {o:Oper} {ai:AI} (h:cI P nt ops o=some ai) : ∀ t,o.dst=some t→t<nt:=by
 intro t ht
 unfold cI at h
 split at h
 ·cases h
 ·split at h
  ·rename_i hD;rw[ht]at hD;simpa[Z4]using hD
  ·cases h
theorem la {ops:Array Oper} {o:Oper} {g:Option (Nat×Bool)} (hg:wT ops o.guard=some g) {M:Map} {s:St} {tm:Tm} {act:Act} (hr:nr M s tm act.tmps) {A C:Prop} (h:guarded g tm A C) :
 (Region.wanted o (yielded ops act.tmps)=true∧A)∨(Region.wanted o (yielded ops act.tmps)=false∧C):=by
 unfold wT at hg
 split at hg
 ·rename_i hn
  cases hg
  exact .inl ⟨by simp[Region.wanted,hn],h⟩
 ·rename_i j want hn
  split at hg
  ·rename_i t ht
   cases hg
   have hrt:=hr t
   unfold guarded at h
   simp only at h
   split at h
   ·rename_i b hb
    rw[hb]at hrt
    have hv:=hrt.pj
    have aie:act.tmps[t]? = some (.bool b):=by
     cases hc:act.tmps[t]? with
     |none=>simp[zbv,hc,Go.undef]at hv
     |some v=>simp[zbv,hc]at hv;rw[hv]
    have hy:yielded ops act.tmps j=some b:=by simp[yielded,ht,aie]
    have hw:Region.wanted o (yielded ops act.tmps)=(some b==some want):=by simp[Region.wanted,hn,hy]
    by_cases hbw:b=want
    ·exact .inl ⟨by rw[hw,hbw];simp,h.1 hbw⟩
    ·refine .inr ⟨by rw [hw];simp [hbw],h.2 ?_⟩
     cases b<;>cases want<;>simp_all
   ·rename_i ds zF
    rw[zF]at hrt
    obtain⟨vs,hv,_⟩:=hrt.Jj
    refine .inr ⟨?_,h⟩
    have hy:yielded ops act.tmps j=none:=by
     unfold yielded
     rw[ht]
     cases hc:act.tmps[t]? with
     |none=>simp[hc]
     |some v=>simp[zbv,hc]at hv;simp[hc,hv]
    simp[Region.wanted,hn,hy]
   ·exact h.elim
  ·cases hg
theorem CC {ops:Array Oper} {Q:Exit→Tm→St→Prop} : ∀ (l:List Nat) (ol:List Oper) (is:List AI),l.map (ops[·]?)=ol.map some→rP P nt ops ol=some is→
 ∀ (tm:Tm) (s:St) (act:Act) (w:World),jS P is (Q .normal) tm s→Holds B nt tm s act w→wpOps P ops (rF B nt Q) l act w
 | [],[],is,_,hc,tm,s,act,w,h,hh=>by cases hc;exact⟨tm,s,h,hh⟩
 | [],_::_,_,hl,_,_,_,_,_,_,_=>by simp at hl
 |_::_,[],_,hl,_,_,_,_,_,_,_=>by simp at hl
 | i::l,o::ol,is,hl,hc,tm,s,act,w,h,hh=>by
  simp only[zaf,List.cons.injEq]at hl
  obtain⟨hi,hl⟩:=hl
  unfold rP at hc
  split at hc
  ·rename_i ai Ud h1 h2
   cases hc
   obtain⟨M,e,r,ht,hn,hd⟩:=hh
   have sr:=zH h1
   have ih:=fun tm s act w=>CC (Q:=Q) l ol Ud hl h2 tm s act w
   have skip : ∀ (x:Prop),jS P Ud (Q .normal) (tm.put o.dst (.tuple [])) s→wpOps P ops (rF B nt Q) l (act.put o.dst Go.undef) w:=fun _ hk=>
    ih _ _ _ _ hk (Holds.put e ht hn hd sr (Ext.refl M s w) r .undef)
   simp only[wpOps,hi]
   unfold cI at h1
   split at h1
   ·cases h1
   ·rename_i g hg
    split at h1
    ·unfold uO at h1
     split at h1
     ·-- a call
      rename_i f args oc oa
      split at h1
      ·rename_i nQ
       obtain⟨xs,qj,rfl⟩:=map_some h1
       unfold jS at h
       rcases la hg ht h with ⟨hw,hA⟩|⟨hw,hB⟩
       ·simp only [hw,if_true]
        left
        have hex:(execOp act.eval o).run P w = .ok (.enter f (args.map act.eval)) w:=by
         obtain⟨dst,op,type,pos,after,guard⟩:=o
         simp only at oa
         subst oa
         exact yJ act.eval dst f args oc type pos after guard rfl nQ w
        obtain⟨c1,c2⟩:=xR ht qj
        unfold Oper.wp
        rw[hex,Oper.upon_enter]
        refine(hA M w (args.map act.eval) r (B.laid.ext e) (by simp[c1]) (fun i d v e1 e2=>c2 i d v e1 (by simpa using e2))).mono ?_
        rintro en w' ⟨M',d,v,s',rfl,hk,e',r',hv⟩
        exact ih _ _ _ _ hk (Holds.put e ht hn hd sr e' r' hv)
       ·simp only [hw]
        exact skip True hB
      ·cases h1
     ·-- what a slot holds is called
      rename_i t args oc oa
      obtain⟨xs,qj,rfl⟩:=map_some h1
      unfold jS at h
      rcases la hg ht h with ⟨hw,hA⟩|⟨hw,hB⟩
      ·simp only [hw,if_true]
       left
       split at hA
       ·rename_i f pf ko
        obtain⟨nQ,hA⟩:=hA
        have Ue:=ht t
        rw[ko]at Ue
        obtain⟨vs,mX,hlen,Gl⟩:=Ue.Pe
        have hex:(execOp act.eval o).run P w = .ok (.enter f (args.map act.eval++vs)) w:=by
         obtain⟨dst,op,type,pos,after,guard⟩:=o
         simp only at oa
         subst oa
         exact CA act.eval dst (.tmp t) f vs args oc type pos after guard mX nQ w
        unfold Oper.wp
        rw[hex,Oper.upon_enter]
        have cc:=Jt qj ht hlen Gl
        refine(hA M w (args.map act.eval++vs) r (B.laid.ext e) cc.1 cc.2).mono ?_
        rintro en w' ⟨M',d,v,s',rfl,hk,e',r',hv⟩
        exact ih _ _ _ _ hk (Holds.put e ht hn hd sr e' r' hv)
       ·exact hA.elim
      ·simp only [hw]
       exact skip True hB
     ·split at h1
      ·-- a slice held against nil
       rename_i neg x yK
       cases h1
       unfold jS at h
       rcases la hg ht h with ⟨hw,hA⟩|⟨hw,hB⟩
       ·simp only [hw,if_true]
        left
        split at hA
        ·rename_i g' z rows hx
         obtain⟨b,hb,hex⟩:=BN (w:=w) yK ht hx
         unfold Oper.wp
         rw[hex,Oper.upon_value]
         exact ih _ _ _ _ (hA b hb) (Holds.put e ht hn hd sr (Ext.refl M s w) r (.bool _))
        ·exact hA.elim
       ·simp only [hw]
        exact skip True hB
      ·-- any other operation
       have fin : ∀ ao,ai = .op o.dst g ao→(∀ d s',aS ao tm s=some (d,s')→dk P M s w (execOp act.eval o) d s')→
        (if Region.wanted o (yielded ops act.tmps)=true then o.wp P act w (wpOps P ops (rF B nt Q) l) (rF B nt Q)∨(o.asks P act w∧LetsOut (rF B nt Q))else wpOps P ops (rF B nt Q) l (act.put o.dst Go.undef) w):=by
        intro ao xS LM
        subst xS
        unfold jS at h
        rcases la hg ht h with ⟨hw,hA⟩|⟨hw,hB⟩
        ·simp only [hw,if_true]
         left
         split at hA
         ·rename_i d s' sF
          obtain⟨v,w',M',dU,r',hv,e'⟩:=LM d s' sF
          unfold Oper.wp
          rcases dU with dU|⟨dU,rfl⟩
          ·rw [dU,Oper.upon_value]
           exact ih _ _ _ _ hA (Holds.put e ht hn hd sr e' r' hv)
          ·rw [dU,Oper.upon_skip]
           exact ih _ _ _ _ hA (Holds.put e ht hn hd sr e' r' hv)
         ·exact hA.elim
        ·simp only [hw]
         exact skip True hB
       split at h1
       ·rename_i z k n ps pQ
        cases h1
        refine fin _ rfl (fun d s' sF=>?_)
        split at sF
        ·exact AW pQ r ht sF
        ·exact uS pQ r ht sF
       ·rename_i ao pQ
        cases h1
        exact fin _ rfl (fun d s' sF=>uS pQ r ht sF)
       ·cases h1
    ·cases h1
  ·cases hc
end
end Go.Abs
namespace Go.Abs
def Turned (P:Program) (nt:Nat):AC→Code→Prop
 | .skip,c=>c = .skip
 | .run is,c=>∃ id ops,c = .region id ops false∧rP P nt ops ops.toList=some is
 | .par is mZ,c=>∃ id ops,c = .region id ops true∧rP P nt ops ops.toList=some is∧P.follows .mixedOrders=true∧∃ pt,F8 is (ops.toList.map mr) pt mZ=true
 | .seq a b,c=>∃ x y,c = .seq x y∧cC P nt x=some a∧cC P nt y=some b
 | .cond x a b,c=>∃ o p q,c = .cond o p q∧cX o=some x∧cC P nt p=some a∧cC P nt q=some b
 | .block id a,c=>∃ x,c = .block id x∧cC P nt x=some a
 | .loop a,c=>∃ x,c = .loop x∧cC P nt x=some a
 | .exit id,c=>c = .exit id
 | .scope a,c=>∃ x,c = .scope x∧cC P nt x=some a
 | .label l,c=>c = .label l
 | .goto l,c=>c = .goto l
 | .ret,c=>c = .ret
theorem mL {P:Program} {nt:Nat} {c:Code} {ac:AC} (h:cC P nt c=some ac):Turned P nt ac c:=by
 cases c with
 |skip=>cases h;rfl
 | region id ops draw=>
  cases draw
  ·obtain⟨is,h1,rfl⟩:=map_some (x:=rP P nt ops ops.toList) (f:=AC.run) (by simpa [cC]using h)
   exact⟨id,ops,rfl,h1⟩
  ·simp only [cC]at h
   split at h
   ·rename_i hm
    obtain⟨is,h1,h2⟩:=Option.bind_eq_some_iff.1 h
    unfold Qv at h2
    split at h2
    ·rename_i hp
     cases h2
     exact⟨id,ops,rfl,h1,hm,_,hp⟩
    ·cases h2
   ·cases h
 |seq a b=>
  simp only[cC]at h
  split at h
  ·rename_i a' b' h1 h2;cases h;exact⟨a,b,rfl,h1,h2⟩
  ·cases h
 |cond x a b=>
  simp only[cC]at h
  split at h
  ·rename_i x' a' b' h1 h2 h3;cases h;exact⟨x,a,b,rfl,h1,h2,h3⟩
  ·cases h
 |block id a=>
  obtain⟨a',h1,rfl⟩:=map_some (x:=cC P nt a) (f:=AC.block id) (by simpa[cC]using h)
  exact⟨a,rfl,h1⟩
 |loop a=>
  obtain⟨a',h1,rfl⟩:=map_some (x:=cC P nt a) (f:=AC.loop) (by simpa[cC]using h)
  exact⟨a,rfl,h1⟩
 |rangeFunc f p a b=>simp[cC]at h
 |exit id=>cases h;rfl
 |scope a=>
  obtain⟨a',h1,rfl⟩:=map_some (x:=cC P nt a) (f:=AC.scope) (by simpa[cC]using h)
  exact⟨a,rfl,h1⟩
 |label l=>cases h;rfl
 |goto l=>cases h;rfl
 |ret=>cases h;rfl
 |refuse w=>simp[cC]at h
def Sem (P:Program) (B:gY) (nt:Nat) (ac:AC) (Q:Exit→Tm→St→Prop) (tm:Tm) (s:St):Prop:=
 ∀ c,cC P nt c=some ac→∀ act w,Holds B nt tm s act w→c.wp P (rF B nt Q) act w
def kA (next:Tm→St→Prop) (Q:Exit→Tm→St→Prop):Exit→Tm→St→Prop
 | .normal,tm,s=>next tm s
 |e,tm,s=>Q e tm s
def fX (id:Nat) (Q:Exit→Tm→St→Prop):Exit→Tm→St→Prop
 | .exit i,tm,s=>if i=id then Q .normal tm s else Q (.exit i) tm s
 |e,tm,s=>Q e tm s
section
variable {P:Program} {B:gY} {nt:Nat} {Q:Exit→Tm→St→Prop} {tm:Tm} {s:St}
theorem Sem.mono {ac:AC} {Q':Exit→Tm→St→Prop} (h:Sem P B nt ac Q tm s) (hq : ∀ e tm s,Q e tm s→Q' e tm s):Sem P B nt ac Q' tm s:=
 fun c hc act w hh=>wp_mono (h c hc act w hh) fun _ _ _ ⟨tm,s,h1,h2⟩=>⟨tm,s,hq _ _ _ h1,h2⟩
theorem Sem.skip (h:Q .normal tm s):Sem P B nt .skip Q tm s:=by
 intro c hc act w hh
 cases mL hc
 exact wp_skip ⟨tm,s,h,hh⟩
theorem Sem.label {l:Nat} (h:Q .normal tm s):Sem P B nt (.label l) Q tm s:=by
 intro c hc act w hh
 cases mL hc
 exact wp_label ⟨tm,s,h,hh⟩
theorem Sem.exit {id:Nat} (h:Q (.exit id) tm s):Sem P B nt (.exit id) Q tm s:=by
 intro c hc act w hh
 cases mL hc
 exact wp_exit ⟨tm,s,h,hh⟩
theorem Sem.goto {l:Nat} (h:Q (.goto l) tm s):Sem P B nt (.goto l) Q tm s:=by
 intro c hc act w hh
 cases mL hc
 exact wp_goto ⟨tm,s,h,hh⟩
theorem Sem.ret (h:Q .ret tm s):Sem P B nt .ret Q tm s:=by
 intro c hc act w hh
 cases mL hc
 exact wp_ret ⟨tm,s,h,hh⟩
theorem CD (ops:Array Oper):(List.range ops.size).map (ops[·]?)=ops.toList.map some:=by
 apply zbV
 intro i
 by_cases h:i<ops.size
 ·simp[h]
 ·simp[h]
theorem Sem.run {is:List AI} (h:jS P is (Q .normal) tm s):Sem P B nt (.run is) Q tm s:=by
 intro c hc act w hh
 obtain⟨id,ops,rfl,hi⟩:=mL hc
 exact wp_region (CC (Q:=Q) (List.range ops.size) ops.toList is (CD ops) hi tm s act w h hh)
theorem Sem.seq {a b:AC} (h:Sem P B nt a (kA (Sem P B nt b Q) Q) tm s):Sem P B nt (.seq a b) Q tm s:=by
 intro c hc act w hh
 obtain⟨x,y,rfl,h1,h2⟩:=mL hc
 refine wp_seq (wp_mono (h x h1 act w hh) fun e act w hp=>?_)
 obtain⟨bQ,s',hq,kZ⟩:=hp
 cases e with
 |normal=>exact hq y h2 act w kZ
 |exit id=>exact⟨bQ,s',hq,kZ⟩
 |goto l=>exact⟨bQ,s',hq,kZ⟩
 |ret=>exact⟨bQ,s',hq,kZ⟩
 |panic ch=>exact⟨bQ,s',hq,kZ⟩
 |outgrown=>exact⟨bQ,s',hq,kZ⟩
theorem Sem.cond {x:X} {a b:AC} {t:Bool} (hx:x.ev tm = .bool t) (h1:t=true→Sem P B nt a Q tm s) (h2:t=false→Sem P B nt b Q tm s):Sem P B nt (.cond x a b) Q tm s:=by
 intro c hc act w hh
 obtain⟨o,p,q,rfl,g1,g2,g3⟩:=mL hc
 have kZ:=hh
 obtain⟨M,e,r,ht,hn,hd⟩:=hh
 have hv:=cu g1 ht
 rw[hx]at hv
 exact wp_cond_split hv.pj (fun h=>h1 h p g2 act w kZ) (fun h=>h2 h q g3 act w kZ)
theorem Sem.block {id:Nat} {a:AC} (h:Sem P B nt a (fX id Q) tm s):Sem P B nt (.block id a) Q tm s:=by
 intro c hc act w hh
 obtain⟨x,rfl,h1⟩:=mL hc
 refine wp_block (wp_mono (h x h1 act w hh) fun e act w hp=>?_)
 obtain⟨bQ,s',hq,kZ⟩:=hp
 cases e with
 |exit i=>
  simp only[fX]at hq
  simp only[Exit.inBlock]
  split at hq
  ·rename_i h;rw[if_pos h];exact⟨bQ,s',hq,kZ⟩
  ·rename_i h;rw[if_neg h];exact⟨bQ,s',hq,kZ⟩
 |normal=>exact⟨bQ,s',hq,kZ⟩
 |goto l=>exact⟨bQ,s',hq,kZ⟩
 |ret=>exact⟨bQ,s',hq,kZ⟩
 |panic ch=>exact⟨bQ,s',hq,kZ⟩
 |outgrown=>exact⟨bQ,s',hq,kZ⟩
def AX (P:Program) (c:Code) (Q:Exit→Act→World→Prop) (a:Act) (w:World):Prop:=
 ∀ (b:Frame) (k:List Item) (cs:List Frame),∃ e a' w',Q e a' w'∧Arrives P (lone (b.at a (.code c:: .inLoop c::k)) cs w) b k cs e a' w'
theorem AX.wp {c:Code} {Q:Exit→Act→World→Prop} {a:Act} {w:World} (h:AX P c Q a w):(Code.loop c).wp P Q a w:=fun b k cs=>
 let ⟨e,a',w',hq,jg⟩:=h b k cs
 ⟨e,a',w',hq, .of_steps (.one step_loop) jg⟩
theorem AX.once {c:Code} {Q:Exit→Act→World→Prop} {a:Act} {w:World} (h:c.wp P (Exit.then (AX P c Q) Q) a w):AX P c Q a w:=by
 intro b k cs
 obtain⟨e,a₁,w₁,hq,jg⟩:=h b (.inLoop c::k) cs
 cases e with
 |normal=>
  obtain⟨e₂,a₂,w₂,hq₂,Q3⟩:=hq b k cs
  exact⟨e₂,a₂,w₂,hq₂, .of_steps (Steps.trans jg (.one step_inLoop)) Q3⟩
 |exit id=>exact⟨_,a₁,w₁,hq, .pass (x:= .inLoop c) rfl (fun _ _=> .inl (by simp)) jg⟩
 |goto l=>exact⟨_,a₁,w₁,hq, .pass (x:= .inLoop c) rfl (fun _ _=> .inl (by simp)) jg⟩
 |ret=>exact⟨_,a₁,w₁,hq, .pass (x:= .inLoop c) rfl (fun _ _=> .inl (by simp)) jg⟩
 |panic ch=>exact⟨_,a₁,w₁,hq, .pass (x:= .inLoop c) rfl (fun _ _=> .inl (by simp)) jg⟩
 |outgrown=>exact⟨_,a₁,w₁,hq, .pass (x:= .inLoop c) rfl (fun _ _=> .inl (by simp)) jg⟩
def aN (P:Program) (B:gY) (nt:Nat) (ac:AC) (Q:Exit→Tm→St→Prop) (tm:Tm) (s:St):Prop:=
 ∀ c,cC P nt c=some ac→∀ act w,Holds B nt tm s act w→AX P c (rF B nt Q) act w
theorem Sem.loop {a:AC} (h:aN P B nt a Q tm s):Sem P B nt (.loop a) Q tm s:=by
 intro c hc act w hh
 obtain⟨x,rfl,h1⟩:=mL hc
 exact(h x h1 act w hh).wp
theorem aN.once {a:AC} (h:Sem P B nt a (kA (aN P B nt a Q) Q) tm s):aN P B nt a Q tm s:=by
 intro c hc act w hh
 refine AX.once (wp_mono (h c hc act w hh) fun e act w hp=>?_)
 obtain⟨bQ,s',hq,kZ⟩:=hp
 cases e with
 |normal=>exact hq c hc act w kZ
 |exit id=>exact⟨bQ,s',hq,kZ⟩
 |goto l=>exact⟨bQ,s',hq,kZ⟩
 |ret=>exact⟨bQ,s',hq,kZ⟩
 |panic ch=>exact⟨bQ,s',hq,kZ⟩
 |outgrown=>exact⟨bQ,s',hq,kZ⟩
def wY (P:Program) (c r:Code) (Q:Exit→Act→World→Prop) (a:Act) (w:World):Prop:=
 ∀ (b:Frame) (k:List Item) (cs:List Frame),∃ e a' w',Q e a' w'∧Arrives P (lone (b.at a (.code r:: .inScope c::k)) cs w) b k cs e a' w'
def aif (P:Program) (c:Code) (Q:Exit→Act→World→Prop):Exit→Act→World→Prop
 | .goto l,a,w=>∃ rest,findLabel c l=some rest∧wY P c rest Q a w
 |e,a,w=>Q e a w
theorem wY.wp {c:Code} {Q:Exit→Act→World→Prop} {a:Act} {w:World} (h:wY P c c Q a w):(Code.scope c).wp P Q a w:=fun b k cs=>
 let ⟨e,a',w',hq,jg⟩:=h b k cs
 ⟨e,a',w',hq, .of_steps (.one step_scope) jg⟩
theorem wY.once {c r:Code} {Q:Exit→Act→World→Prop} {a:Act} {w:World} (h:r.wp P (aif P c Q) a w):wY P c r Q a w:=by
 intro b k cs
 obtain⟨e,a₁,w₁,hq,jg⟩:=h b (.inScope c::k) cs
 cases e with
 |normal=>exact⟨.normal,a₁,w₁,hq,Steps.trans jg (.one step_inScope)⟩
 |exit id=>exact⟨.exit id,a₁,w₁,hq,fun k' hk=>jg k' (by simp[exitTo,hk])⟩
 |goto l=>
  obtain⟨rest,hf,hs⟩:=hq
  obtain⟨e₂,a₂,w₂,hq₂,Q3⟩:=hs b k cs
  exact⟨e₂,a₂,w₂,hq₂, .of_steps (jg _ (by simp[gotoIn,hf])) Q3⟩
 |ret=>exact⟨_,a₁,w₁,hq,jg⟩
 |panic ch=>exact⟨_,a₁,w₁,hq,jg⟩
 |outgrown=>exact⟨_,a₁,w₁,hq,jg⟩
def wv:AC→Nat→Option AC
 | .seq a b,l=>
  match wv a l with
  |some r=>some (.seq r b)
  |none=>wv b l
 | .label l',l=>if l'==l then some .skip else none
 |_,_=>none
theorem Oj : ∀ {c:Code} {ac:AC},cC P nt c=some ac→∀ l,(wv ac l=none→findLabel c l=none)∧∀ r,wv ac l=some r→∃ rest,findLabel c l=some rest∧cC P nt rest=some r:=by
 intro c
 induction c with
 | seq a b Ug Uh=>
  intro ac h l
  simp only[cC]at h
  split at h
  ·rename_i a' b' h1 h2
   cases h
   obtain⟨n1,s1⟩:=Ug h1 l
   obtain⟨n2,s2⟩:=Uh h2 l
   simp only[wv,findLabel]
   cases hf:wv a' l with
   |none=>
    rw[n1 hf]
    exact⟨n2,s2⟩
   |some r=>
    obtain⟨rest,g1,g2⟩:=s1 r hf
    rw[g1]
    refine⟨(by intro h;cases h),fun r' h=>?_⟩
    cases h
    exact⟨_,rfl,by simp[cC,g2,h2]⟩
  ·cases h
 |label l'=>
  intro ac h l
  cases h
  simp only[wv,findLabel]
  split
  ·exact⟨(by intro h;cases h),(by intro r h;cases h;exact⟨_,rfl,rfl⟩)⟩
  ·exact⟨fun _=>rfl,(by intro r h;cases h)⟩
 | _=>
  intro ac h l
  have:=mL h
  cases ac<;>simp only[Turned]at this<;>first
   |(exfalso;obtain⟨_,_,this⟩:=this;cases this.1;done)
   |exact⟨fun _=>rfl,(by intro r h;cases h)⟩
   |(exfalso;cases this;done)
   |(exfalso;obtain⟨_,this⟩:=this;cases this.1;done)
   |(exfalso;obtain⟨_,_,_,_,this⟩:=this;cases this.1;done)
def mM (P:Program) (B:gY) (nt:Nat) (ac r:AC) (Q:Exit→Tm→St→Prop) (tm:Tm) (s:St):Prop:=
 ∀ c rest,cC P nt c=some ac→cC P nt rest=some r→∀ act w,Holds B nt tm s act w→wY P c rest (rF B nt Q) act w
def AY (P:Program) (B:gY) (nt:Nat) (ac:AC) (Q:Exit→Tm→St→Prop):Exit→Tm→St→Prop
 | .goto l,tm,s=>∃ r,wv ac l=some r∧mM P B nt ac r Q tm s
 |e,tm,s=>Q e tm s
theorem Sem.scope {a:AC} (h:mM P B nt a a Q tm s):Sem P B nt (.scope a) Q tm s:=by
 intro c hc act w hh
 obtain⟨x,rfl,h1⟩:=mL hc
 exact(h x x h1 h1 act w hh).wp
theorem mM.once {a r:AC} (h:Sem P B nt r (AY P B nt a Q) tm s):mM P B nt a r Q tm s:=by
 intro c rest hc K0 act w hh
 refine wY.once (wp_mono (h rest K0 act w hh) fun e act w hp=>?_)
 obtain⟨bQ,s',hq,kZ⟩:=hp
 cases e with
 |normal=>exact⟨bQ,s',hq,kZ⟩
 |exit id=>exact⟨bQ,s',hq,kZ⟩
 |goto l=>
  obtain⟨r',hf,hs⟩:=hq
  obtain⟨po,g1,g2⟩:=(Oj hc l).2 r' hf
  exact⟨po,g1,hs c po hc g2 act w kZ⟩
 |ret=>exact⟨bQ,s',hq,kZ⟩
 |panic ch=>exact⟨bQ,s',hq,kZ⟩
 |outgrown=>exact⟨bQ,s',hq,kZ⟩
def Tag.fg (m:Nat):Tag→Tag
 | .tok t y=>if t<m then .tok t y else .shared
 |g=>g
mutual
def D.fg (n m:Nat):D→D
 | .ptr o off=>if o<n then .ptr o off else .junk
 | .dO row off=> .dO (D.iz n m row) off
 | .slice g z rows=> .slice (g.fg m) z (D.lB n m rows)
 | .agg cs=> .agg (D.iz n m cs)
 | .tuple ds=> .tuple (D.iz n m ds)
 | .junk=> .junk
 | .int k x=> .int k x
 | .bool b=> .bool b
 | .str l=> .str l
 | .fv=> .fv
 | .val v=> .val v
 | .fM T o=>if o<n then .fM T o else .junk
 | .il f cs=> .il f (D.iz n m cs)
 | .gU o=>if o<n then .gU o else .junk
 | .dM z o g len=>if o<n then .dM z o g len else .junk
 | .fC o g off=>if o<n then .fC o g off else .junk
 | .ek z=> .ek z
def D.iz (n m:Nat):List D→List D
 | []=> []
 |d::r=>D.fg n m d::D.iz n m r
def D.lB (n m:Nat):List (List D)→List (List D)
 | []=> []
 |d::r=>D.iz n m d::D.lB n m r
end
theorem oH (n m:Nat) : ∀ l,D.iz n m l=l.map (D.fg n m)
 | []=>by simp[D.iz]
 |d::r=>by simp[D.iz,oH n m r]
theorem Ui (n m:Nat) : ∀ l,D.lB n m l=l.map (D.iz n m)
 | []=>by simp[D.lB]
 |d::r=>by simp[D.lB,Ui n m r]
def St.cut (s:St) (n m:Nat):St:=⟨(s.aq.take n).map (D.iz n m),s.ay.take m⟩
def Tm.fg (n m:Nat) (tm:Tm):Tm:=tm.map fun p=>(p.1,p.2.fg n m)
def Tm.keep (ks:List Nat) (tm:Tm):Tm:=tm.filter fun p=>ks.contains p.1
theorem pw (s:St) (n m:Nat):(s.cut n m).aq.length=min n s.aq.length:=by simp[St.cut]
theorem jO.fg {M:Map} {g:Tag} {z len cap:Nat} {base:Option (Nat×Nat)} (n m:Nat) (h:jO M s g z len base cap):jO M (s.cut n m) (g.fg m) z len base cap:=by
 cases g with
 |full=>exact h
 |shared=>exact h
 | tok t y=>
  simp only[Tag.fg]
  split
  ·rename_i ht
   obtain⟨h1,h2⟩:=h
   refine⟨by simp[St.cut];omega,fun k hk=>h2 k ?_⟩
   simpa[St.cut,zbn ht]using hk
  ·trivial
theorem RD.fg {M:Map} {d:D} {v:Value} (n m:Nat) (h:RD M s d v):RD M (s.cut n m) (d.fg n m) v:=by
 induction h with
 |junk v=>simp only[D.fg];exact .junk v
 |int k x=>simp only[D.fg];exact .int k x
 |bool b=>simp only[D.fg];exact .bool b
 |str l=>simp only[D.fg];exact .str l
 |fv=>simp only[D.fg];exact .fv
 |val v hv=>simp only[D.fg];exact .val v hv
 |fM T o v h ht hv=>
  simp only[D.fg]
  split
  ·exact .fM T o v (by rw[pw];omega) ht hv
  ·exact .junk _
 |gU o h hm=>
  simp only[D.fg]
  split
  ·exact .gU o (by rw[pw];omega) hm
  ·exact .junk _
 |ek z a=>simp only[D.fg];exact .ek z a
 |dM z o g len b cap A h hm ha hl=>
  simp only[D.fg]
  split
  ·exact .dM z o g len b cap A (by rw[pw];omega) hm ha hl
  ·exact .junk _
 |fC z o g off b cap A h hm ha=>
  simp only[D.fg]
  split
  ·exact .fC z o g off b cap A (by rw[pw];omega) hm ha
  ·exact .junk _
 |il f ds vs hl _ ih=>
  simp only[D.fg,oH]
  refine .il f _ vs (by simpa using hl) (fun i d v e1 e2=>?_)
  simp only[zao,zav]at e1
  obtain⟨d',e1,rfl⟩:=e1
  exact ih i d' v e1 e2
 |ptr o off h hm=>
  simp only[D.fg]
  split
  ·exact .ptr o off (by rw[pw];omega) hm
  ·exact .junk _
 | dO row off b k h1 h2 ih=>
  simp only[D.fg,oH]
  refine .dO _ off b k (fun i d e=>?_) (fun i d u e eu=>?_)
  ·simp only [zao,zav]at e
   obtain⟨d',e,rfl⟩:=e
   exact h1 i d' e
  ·simp only [zao,zav]at e
   obtain⟨d',e,rfl⟩:=e
   exact ih i d' u e eu
 |jz g z cap hc ht=>simp only[D.fg,D.lB];exact .jz _ z cap hc (ht.fg n m)
 |mF z a cap=>simp only[D.fg,D.lB,Tag.fg];exact .mF z a cap
 | slice g z rows b k cap hl hs h1 h2 ht ih=>
  simp only[D.fg,Ui]
  have hlen:(rows.map (D.iz n m)).length=rows.length:=by simp
  have key:=RD.slice (M:=M) (s:=s.cut n m) (g.fg m) z (rows.map (D.iz n m)) b k cap (by rw[hlen];exact hl) (fun row hr=>by
   obtain⟨lh,h',rfl⟩:=zaF.1 hr
   rw[oH,zaw];exact hs lh h')
   (fun i row j d e1 e2=>by
    simp only[zao,zav]at e1
    obtain⟨lh,e1,rfl⟩:=e1
    rw[oH]at e2
    simp only[zao,zav]at e2
    obtain⟨d',e2,rfl⟩:=e2
    exact h1 i lh j d' e1 e2)
   (fun i row j d u e1 e2 eu=>by
    simp only[zao,zav]at e1
    obtain⟨lh,e1,rfl⟩:=e1
    rw[oH]at e2
    simp only[zao,zav]at e2
    obtain⟨d',e2,rfl⟩:=e2
    exact ih i lh j d' u e1 e2 eu)
   (by rw[hlen];exact ht.fg n m)
  rw[hlen]at key
  exact key
 |agg cells vs hl h1 _ ih=>
  simp only[D.fg,oH]
  refine .agg _ vs (by simpa using hl) h1 (fun i d v e1 e2=>?_)
  simp only[zao,zav]at e1
  obtain⟨d',e1,rfl⟩:=e1
  exact ih i d' v e1 e2
 |tuple ds vs hl _ ih=>
  simp only[D.fg,oH]
  refine .tuple _ vs (by simpa using hl) (fun i d v e1 e2=>?_)
  simp only[zao,zav]at e1
  obtain⟨d',e1,rfl⟩:=e1
  exact ih i d' v e1 e2
theorem H3 {t k n m:Nat} (h:(s.cut n m).ay[t]? = some (some k)):s.ay[t]? = some (some k):=by
 simp only[St.cut,zaY]at h
 split at h
 ·exact h
 ·cases h
theorem wZ {t n m:Nat} (h:(s.cut n m).live t):s.live t:=by
 obtain⟨k,hk⟩:=h
 exact⟨k,H3 hk⟩
theorem Rel.cut {M:Map} {w:World} (n m:Nat) (r:Rel M s w):Rel M (s.cut n m) w:=by
 have hD : ∀ o,o<(s.cut n m).aq.length→o<s.aq.length:=fun o h=>by rw[pw]at h;omega
 refine⟨r.comm,fun o ds e=>?_,fun o ho=>r.kv o (hD o ho),fun o o' h h'=>r.inj o o' (hD o h) (hD o' h'),fun t k e=>r.tok t k (H3 e),
  fun t b c z o hl e ho=>r.fw t b c z o (wZ hl) e (hD o ho),fun t t' b c z c' z' h h' e e'=>r.gP t t' b c z c' z' (wZ h) (wZ h') e e'⟩
 simp only[St.cut,zao,zav,zaY]at e
 obtain⟨o6,e,rfl⟩:=e
 split at e
 ·obtain⟨vs,T,h1,h2,h3,h4⟩:=r.obj o o6 e
  refine⟨vs,T,h1,by rw[oH];simpa using h2,h3,fun i d v e1 e2=>?_⟩
  rw[oH]at e1
  simp only[zao,zav]at e1
  obtain⟨d',e1,rfl⟩:=e1
  exact(h4 i d' v e1 e2).fg n m
 ·cases e
theorem Ext.cut {M0 M:Map} {s0:St} {w0 w:World} {n m:Nat} (e:Ext M0 s0 w0 M s w) (hn:s0.aq.length≤n) (hm:s0.ay.length≤m):Ext M0 s0 w0 M (s.cut n m) w:=by
 have hD : ∀ o,o<(s.cut n m).aq.length→o<s.aq.length:=fun o h=>by rw[pw]at h;omega
 refine⟨⟨e.le.G,by rw[pw];have:=e.le.n;omega,e.le.loc,by simp[St.cut];have:=e.le.t;omega,fun t k h1 h2=>e.le.tk t k h1 (H3 h2)⟩,e.kept,fun o h1 h2=>e.vH o h1 (hD o h2),fun t b c z h=>e.sj t b c z (wZ h),e.ui,e.size,e.os,e.tape,e.output⟩
end
end Go.Abs
namespace Go.Abs
def ov:Nat→List D→Tm
 |_,[]=> []
 |n,d::r=>(n,d)::ov (n+1) r
def bF:List (Nat×Option (Bool×Nat))→Tm→St→Option (List D)
 | [],_,_=>some []
 |(t,none)::r,tm,s=>match bF r tm s with|some l=>some (tm.get t::l)|none=>none
 | (t,some (agg,size))::r,tm,s=>
  match tm.get t with
  | .ptr o off=>
   match s.aq[o]? with
   |some cs=>match part cs off agg size,bF r tm s with|some d,some l=>some (d::l)|_,_=>none
   |none=>none
  |_=>none
def bG:List D→D
 | [d]=>d
 |l=> .tuple l
def alZ (B:gY) (res:List (Nat×Option (Bool×Nat))) (Q:D→St→Prop):Exit→Tm→St→Prop
 | .normal,tm,s| .ret,tm,s=>∃ l,bF res tm s=some l∧∃ n m,B.s.aq.length≤n∧B.s.ay.length≤m∧Q ((bG l).fg n m) (s.cut n m)
 |_,_,_=>False
section
variable {P:Program} {M:Map} {s:St} {w:World}
theorem Ju : ∀ (l:List D) (n t:Nat),(ov n l).get t=if n≤t then(l[t - n]?).getD .junk else .junk
 | [],n,t=>by simp[ov,Tm.get]
 | d::r,n,t=>by
  simp only[ov,Tm.get,Ju r (n+1) t]
  by_cases h:n=t
  ·subst h;simp
  ·rw [if_neg h]
   by_cases h2:n+1≤t
   ·rw[if_pos h2,if_pos (by omega),show t - n=(t - (n+1))+1 by omega];simp
   ·rw[if_neg h2,if_neg (by omega)]
def CF (tmps:Array Value):ResultVar→Go.Sem Value
 | .tmp t=>pure (tmps.getD t Go.undef)
 | .cell a t=>do loadVar t (← asAddr (tmps.getD a Go.undef))
theorem Fb (r:Rel M s w) {tm:Tm} {tmps:Array Value} (ht:nr M s tm tmps) : ∀ {rs:List ResultVar} {res:List (Nat×Option (Bool×Nat))} {l:List D},Cn P rs=some res→bF res tm s=some l→
 ∃ vs:List Value,(rs.mapM (CF tmps)).run P w = .ok vs w∧vs.length=l.length∧
  ∀ (i:Nat) (d:D) (v:Value),l[i]? = some d→vs[i]? = some v→RD M s d v
 | [],res,l,hc,hl=>by cases hc;cases hl;exact⟨[],rfl,rfl,by simp⟩
 | .tmp t::rs,res,l,hc,hl=>by
  obtain⟨al0,h1,rfl⟩:=map_some (by simpa[Cn]using hc)
  simp only[bF]at hl
  split at hl
  ·rename_i l' pO
   cases hl
   obtain⟨vs,g1,g2,g3⟩:=Fb r ht h1 pO
   refine⟨tmps.getD t Go.undef::vs, ?_,by simp[g2],fun i d v e1 e2=>?_⟩
   ·rw [List.mapM_cons]
    simp only[CF,Go.Sem.run_bind,Go.Sem.run_pure,Result.andThen_ok,g1]
   ·cases i with
    |zero=>simp only[zbe,Option.some.injEq]at e1 e2;subst e1;subst e2;exact ht t
    |succ i=>exact g3 i d v (by simpa using e1) (by simpa using e2)
  ·cases hl
 | .cell a t::rs,res,l,hc,hl=>by
  simp only[Cn]at hc
  split at hc
  ·rename_i g i al0 h1 h2 h3
   cases hc
   simp only[bF]at hl
   split at hl
   ·rename_i o off ho
    split at hl
    ·rename_i cs kz
     split at hl
     ·rename_i d l' hd pO
      cases hl
      obtain⟨vs,g1,g2,g3⟩:=Fb r ht h3 pO
      have hv:=ht a
      rw[ho]at hv
      have hk:=hv.Cp
      obtain⟨hv,_⟩:=hv.ur
      have aih : ∃ v,(loadVar t ⟨M.mu o,off,none⟩).run P w = .ok v w∧RD M s d v:=by
       obtain⟨fP,T,hh,dT,⟨ig,_⟩,E9⟩:=r.obj o cs kz
       replace hh:w.heap[M.mu o]? = some (.cells fP T (0,0)):=hh.cells hk
       let n:=if g then i.size else 1
       have iB:off+n≤fP.size:=by
        rcases sE hd with ⟨rfl,hq,_⟩|⟨rfl,hq⟩
        ·simp[n];omega
        ·have:=(zac.1 hq).1;simp[n];omega
       have hlen:((fP.toList.drop off).take n).length=n:=by simp;omega
       have hY : ∀ (j:Nat) (u:Value),((fP.toList.drop off).take n)[j]? = some u→fP[off+j]? = some u:=by
        intro j u h
        rw[zaY]at h
        split at h
        ·rw[zbq]at h;simpa using h
        ·cases h
       refine⟨_,AP (w:=w) P h2 h1 (M.mu o) off ((fP.toList.drop off).take n) hlen (fun j u h=>by rw[j8 hh];exact hY j u h), ?_⟩
       exact sW hd _ hlen (fun _ u hu=>ig u (zaU.1 (zbH (za5 hu)))) (fun j d u e1 e2=>E9 _ d u e1 (hY j u e2))
      obtain⟨v,hlv,hvd⟩:=aih
      refine⟨v::vs, ?_,by simp[g2],fun i d' v' e1 e2=>?_⟩
      ·rw [List.mapM_cons]
       have ig:(CF tmps (.cell a t)).run P w = .ok v w:=by
        simp only[CF,Go.Sem.run_bind,hv,asAddr,Go.Sem.run_pure,Result.andThen_ok,hlv]
       simp only[Go.Sem.run_bind,ig,Result.andThen_ok,g1,Go.Sem.run_pure]
      ·cases i with
       |zero=>simp only[zbe,Option.some.injEq]at e1 e2;subst e1;subst e2;exact hvd
       |succ i=>exact g3 i d' v' (by simpa using e1) (by simpa using e2)
     ·cases hl
    ·cases hl
   ·cases hl
  ·cases hc
theorem Kt (r:Rel M s w) {tm:Tm} {tmps:Array Value} (ht:nr M s tm tmps) {fn:Func} {res:List (Nat×Option (Bool×Nat))} {l:List D} (hc:Cn P fn.results.toList=some res) (hl:bF res tm s=some l) :
 ∃ v,(results fn tmps).run P w = .ok v w∧RD M s (bG l) v:=by
 obtain⟨vs,g1,g2,g3⟩:=Fb (P:=P) r ht hc hl
 have dU:(results fn tmps).run P w = .ok (if h:vs.toArray.size=1 then vs.toArray[0]else .tuple vs.toArray) w:=by
  have e:results fn tmps=(do let vs ← fn.results.mapM (CF tmps);pure (if h:vs.size=1 then vs[0]else .tuple vs)):=by
   unfold results
   rfl
  rw[e,Array.mapM_eq_mapM_toList]
  simp only[Go.Sem.run_bind,Go.Sem.run_map,g1,Result.andThen_ok,Go.Sem.run_pure]
 refine⟨_,dU, ?_⟩
 clear dU g1 hl
 match l,vs,g2,g3 with
 | [],[],_,_=>exact .tuple [] #[] rfl (by simp)
 | [d],[v],_,g3=>exact g3 0 d v rfl rfl
 |d::d'::l,v::v'::vs,h,g3=>
  have : ¬ ((v::v'::vs).toArray.size=1):=by simp
  rw[dif_neg this]
  exact .tuple _ _ (by simpa using h.symm) (fun i d v e1 e2=>g3 i d v e1 (by simpa using e2))
def W6 (res:List (Nat×Option (Bool×Nat))) (Q:D→St→Prop):Exit→Tm→St→Prop
 | .normal,tm,s| .ret,tm,s=>∃ l,bF res tm s=some l∧Q (bG l) s
 |_,_,_=>False
theorem bp.Uj {f:FuncId} {fn:Func} {af:AF} {args:List D} {Q:D→St→Prop} (hf:P.funcs[f]? = some fn) (hc:cF P fn=some af) (hl:args.length≤af.ntmps)
 (h : ∀ B:gY,B.s=s→Sem P B af.ntmps af.body (W6 af.results Q) (ov 0 args) s):bp P f args s Q:=by
 intro M w fN r lC dT ha
 unfold cF at hc
 split at hc
 ·rename_i c DM
  split at hc
  ·rename_i b res h1 h2
   cases hc
   simp only at h hl
   refine calls_of_wp hf DM ?_
   have hs:=h ⟨M,s,w,lC,fun b o v e=>r.Co e⟩ rfl c h1 {tmps:=fN++Array.replicate (fn.ntmps - fN.size) Go.undef,defers:= []} w
    ⟨M,Ext.refl M s w,r,fun t=>by
     rw[Ju]
     simp only[zaz,if_true,Nat.sub_zero]
     cases hd:args[t]? with
     |none=>exact .junk _
     | some d=>
      have hD:=(zac.1 hd).1
      have hv:fN[t]? = some fN[t]:=zbl (by omega)
      have:(fN++Array.replicate (fn.ntmps - fN.size) Go.undef).getD t Go.undef=fN[t]:=by
       rw[zbv,zbc (by omega),hv];rfl
      rw[this]
      exact ha t d _ hd hv,by simp;omega,rfl⟩
   refine wp_mono hs fun e act w' hp=>?_
   obtain⟨tm,s',hq,M',al1,r',ht,_,hdf⟩:=hp
   have fin:(∃ l,bF res tm s'=some l∧Q (bG l) s')→act.defers = []∧∃ v,(results fn act.tmps).run P w' = .ok v w'∧
    ∃ M' d v' s',Ending.returned v = .returned v'∧Q d s'∧Ext M s w M' s' w'∧Rel M' s' w'∧RD M' s' d v':=by
    rintro⟨l,hl,hQ⟩
    obtain⟨v,dU,jG⟩:=Kt (P:=P) r' ht h2 hl
    exact⟨hdf,v,dU,M',_,v,_,rfl,hQ,al1,r',jG⟩
   cases e with
   |normal=>exact fin hq
   |ret=>exact fin hq
   |exit id=>exact hq.elim
   |goto l=>exact hq.elim
   |panic ch=>exact hq.elim
   |outgrown=>exact hq.elim
  ·cases hc
 ·cases hc
theorem bp.intro {f:FuncId} {fn:Func} {af:AF} {args:List D} {Q:D→St→Prop} (hf:P.funcs[f]? = some fn) (hc:cF P fn=some af) (hl:args.length≤af.ntmps)
 (h : ∀ B:gY,B.s=s→Sem P B af.ntmps af.body (alZ B af.results Q) (ov 0 args) s):bp P f args s Q:=by
 intro M w fN r lC dT ha
 refine(bp.Uj (Q:=fun d s'=>∃ n m,s.aq.length≤n∧s.ay.length≤m∧Q (d.fg n m) (s'.cut n m)) hf hc hl (fun B hB=>(h B hB).mono fun e tm s' hq=>?_) M w fN r lC dT ha).mono ?_
 ·subst hB
  cases e<;>exact hq
 ·rintro e w' ⟨M',d,v,s',h1,⟨n,m,hn,hm,hQ⟩,h3,h4,h5⟩
  exact⟨M',_,v,_,h1,hQ,h3.cut hn hm,h4.cut n m,h5.fg n m⟩
end
end Go.Abs
